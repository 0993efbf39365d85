/- quernlaw04.BitsAll returns true at every block and number. Each byte is below 256. -/
import Derived.Test.YtcheogbijioadaaL6
namespace Go.Proofs.Ytcheogbijioadaa
open Go.RowKit Go.Shelf
attribute [local go_sem] Oper.semAt_some
attribute [local go_sem ↓] loadAt23 storeAt23
attribute [local go_sem] run_big23 run_bigst23 isFree_alloc rowOf_alloc freeObj_cells objRow_cells isFree_drew rowOf_drew isFree_set rowOf_set okRow_blk nn1 nn1' nn2 nn2'

theorem sets_add_no {b : Nat → Nat} {k m : Nat} (h : ∀ j, k ≤ j → j < k + m → bv b j = false) : sets b (k + m) = sets b k := by
  induction m with
  | zero => rfl
  | succ m ih =>
    rw [← Nat.add_assoc, sets_no (h (k + m) (by omega) (by omega))]
    exact ih fun j h1 h2 => h j h1 (by omega)
/-- Stopped at what is not the next set bit: that can't be. -/
theorem all_bad {b : Nat → Nat} {k m x : Nat} {p : List Nat} (hk : k ≤ 2048) (hm : m ≤ 2048) (he : p ++ [x] = sets b k) (hp : p = sets b m) (hd : m = 2048 ∨ bv b m = true) (hx : x ≠ m ∨ m = 2048) : False := by
  by_cases hkm : k ≤ m
  · obtain ⟨r, h, _⟩ := sets_mono b k m hkm
    have h1 : p.length = (sets b k).length + r.length := by rw [hp, h]; simp
    rw [← he] at h1
    simp at h1
    omega
  · have hmb : bv b m = true := by rcases hd with h | h; omega; exact h
    obtain ⟨r, h, _⟩ := sets_mono b (m + 1) k (by omega)
    rw [sets_yes hmb, ← hp, ← he, List.append_assoc] at h
    have h2 := List.append_cancel_left h
    simp at h2
    rcases hx with h3 | h3
    · exact h3 h2.1
    · omega

/-- What stands while the bits are told: at s the block, s + 1 stop, s + 2 the answer; at g + 1 the bits' slice, g + 2 next, g + 3 how many; the bits at B. -/
structure AI (b : Nat → Nat) (stop : Int) (w : World) (gl B : Nat) (next all : Nat) (W : World) : Prop where
  blk : HoldsB W w.heap.size b
  stp : OwnCell W (w.heap.size + 1) (.int .i64 stop)
  ans : OwnCell W (w.heap.size + 1 + 1) (.bool false)
  lst : OwnCell W gl (.slice (some ⟨B, 0, none⟩) 2048 2048)
  bits : W.heap[B]? = some (.cells (bools (bv b)) 4 (0, 0))
  nxt : OwnCell W (gl + 1) (.int .i64 (next : Nat))
  all : OwnCell W (gl + 1 + 1) (.int .i64 (all : Nat))
  bel : Below w.heap.size w W
  lt1 : w.heap.size + 1 + 1 < B
  lt2 : B < gl
theorem heap_kept {W W' : World} {row : Option Nat} {g t : Nat} {cs : Array Value} (h : W.heap[g]? = some (.cells cs t (0, 0))) (hg : W.grownBy W' row) (hr : ∀ r, row = some r → ∃ o : Obj, W.heap[r]? = some o ∧ o.isCells = false) : W'.heap[g]? = some (.cells cs t (0, 0)) :=
  (grownBy_keeps_cells hg hr h rfl).trans h
theorem AI.grown {b : Nat → Nat} {stop : Int} {w : World} {gl B next all : Nat} {A A' : World} {row : Option Nat} (hs : AI b stop w gl B next all A) (hg : A.grownBy A' row) (hr : ∀ r, row = some r → w.heap.size ≤ r ∧ ∃ o : Obj, A.heap[r]? = some o ∧ o.isCells = false) : AI b stop w gl B next all A' := by
  have hr' : ∀ r, row = some r → ∃ o : Obj, A.heap[r]? = some o ∧ o.isCells = false := fun r e => (hr r e).2
  exact ⟨hs.blk.kept hg hr', hs.stp.kept hg hr', hs.ans.kept hg hr', hs.lst.kept hg hr', heap_kept hs.bits hg hr', hs.nxt.kept hg hr', hs.all.kept hg hr', hs.bel.grown hg hs.bel.size (fun k e => (hr k e).1), hs.lt1, hs.lt2⟩
theorem AI.setn {b : Nat → Nat} {stop : Int} {w : World} {gl B next all : Nat} {W : World} (h : AI b stop w gl B next all W) (k : Nat) : AI b stop w gl B k all (W.setCell ⟨gl + 1, 0, none⟩ (.int .i64 (k : Nat))) := by
  have h1 := h.lt1
  have h2 := h.lt2
  exact ⟨h.blk.setCell_other (show w.heap.size ≠ gl + 1 by omega) _, h.stp.set_other (by omega) _, h.ans.set_other (by omega) _, h.lst.set_other (by omega) _, (heap_setCell_other _ _ _ _ (show B ≠ gl + 1 by omega)).trans h.bits, h.nxt.set _, h.all.set_other (by omega) _, h.bel.setCell (show w.heap.size ≤ gl + 1 by omega) _, h1, h2⟩
theorem AI.seta {b : Nat → Nat} {stop : Int} {w : World} {gl B next all : Nat} {W : World} (h : AI b stop w gl B next all W) (k : Nat) : AI b stop w gl B next k (W.setCell ⟨gl + 1 + 1, 0, none⟩ (.int .i64 (k : Nat))) := by
  have h1 := h.lt1
  have h2 := h.lt2
  exact ⟨h.blk.setCell_other (show w.heap.size ≠ gl + 1 + 1 by omega) _, h.stp.set_other (by omega) _, h.ans.set_other (by omega) _, h.lst.set_other (by omega) _, (heap_setCell_other _ _ _ _ (show B ≠ gl + 1 + 1 by omega)).trans h.bits, h.nxt.set_other (by omega) _, h.all.set _, h.bel.setCell (show w.heap.size ≤ gl + 1 + 1 by omega) _, h1, h2⟩
theorem AI.later {b : Nat → Nat} {stop : Int} {w : World} {gl B next all : Nat} {W W' : World} (h : AI b stop w gl B next all W) (hb : Below W.heap.size W W') : AI b stop w gl B next all W' :=
  ⟨h.blk.later hb h.blk.lt, h.stp.later hb h.stp.lt, h.ans.later hb h.ans.lt, h.lst.later hb h.lst.lt, heap_below hb (lt_of_heap h.bits) h.bits, h.nxt.later hb h.nxt.lt, h.all.later hb h.all.lt, h.bel.trans (hb.mono h.bel.size), h.lt1, h.lt2⟩
theorem all_start {b : Nat → Nat} {stop : Int} {w w2 : World} {B : Nat}
    (hw : Below ((((w.alloc (.cells (blk b) 23)).alloc (.cells #[.int .i64 stop] 3)).alloc (.cells #[.bool false] 4)).alloc (.cells (blk b) 23)).heap.size ((((w.alloc (.cells (blk b) 23)).alloc (.cells #[.int .i64 stop] 3)).alloc (.cells #[.bool false] 4)).alloc (.cells (blk b) 23)) w2)
    (hB : ((((w.alloc (.cells (blk b) 23)).alloc (.cells #[.int .i64 stop] 3)).alloc (.cells #[.bool false] 4)).alloc (.cells (blk b) 23)).heap.size ≤ B) (hc : w2.heap[B]? = some (.cells (bools (bv b)) 4 (0, 0))) :
    AI b stop w w2.heap.size B 0 0 (((w2.alloc (.cells #[.slice (some ⟨B, 0, none⟩) 2048 2048] 27)).alloc (.cells #[.int .i64 0] 3)).alloc (.cells #[.int .i64 0] 3)) ∧
    (((w2.alloc (.cells #[.slice (some ⟨B, 0, none⟩) 2048 2048] 27)).alloc (.cells #[.int .i64 0] 3)).alloc (.cells #[.int .i64 0] 3)).heap[w.heap.size + 1 + 1 + 1]? = some (.cells (blk b) 23 (0, 0)) := by
  have hsz := hw.size
  simp at hsz hB
  have hBl := lt_of_heap hc
  have g0 : HoldsB w2 w.heap.size b := (((HoldsB.new w b 23).alloc _).alloc _ |>.alloc _).later hw (by simp; omega)
  have g1 : OwnCell w2 (w.heap.size + 1) (.int .i64 stop) := by
    have := ((OwnCell.new (w.alloc (.cells (blk b) 23)) (.int .i64 stop) 3).alloc (.cells #[.bool false] 4)).alloc (.cells (blk b) 23)
    rw [World.size_alloc] at this
    exact this.later hw (by simp)
  have g2 : OwnCell w2 (w.heap.size + 1 + 1) (.bool false) := by
    have := (OwnCell.new ((w.alloc (.cells (blk b) 23)).alloc (.cells #[.int .i64 stop] 3)) (.bool false) 4).alloc (.cells (blk b) 23)
    rw [World.size_alloc, World.size_alloc] at this
    exact this.later hw (by simp)
  have g3 : w2.heap[w.heap.size + 1 + 1 + 1]? = some (.cells (blk b) 23 (0, 0)) := heap_below hw (by simp) (heap_at_alloc _ _ _ (by simp))
  have gb : Below w.heap.size w w2 := (((((Below.refl _ w).alloc (Nat.le_refl _) _).alloc (by simp) _).alloc (by simp; omega) _).alloc (by simp; omega) _).trans (hw.mono (by simp; omega))
  have h1 := OwnCell.new w2 (.slice (some ⟨B, 0, none⟩) 2048 2048) 27
  have h2 := OwnCell.new (w2.alloc (.cells #[.slice (some ⟨B, 0, none⟩) 2048 2048] 27)) (.int .i64 0) 3
  have h3 := OwnCell.new ((w2.alloc (.cells #[.slice (some ⟨B, 0, none⟩) 2048 2048] 27)).alloc (.cells #[.int .i64 0] 3)) (.int .i64 0) 3
  rw [World.size_alloc] at h2
  rw [World.size_alloc, World.size_alloc] at h3
  exact ⟨⟨((g0.alloc _).alloc _).alloc _, ((g1.alloc _).alloc _).alloc _, ((g2.alloc _).alloc _).alloc _, (h1.alloc _).alloc _, heap_past_alloc (heap_past_alloc (heap_past_alloc hc)), h2.alloc _, h3,
    ((gb.alloc (by omega) _).alloc (by simp; omega) _).alloc (by simp; omega) _, by omega, by omega⟩, heap_past_alloc (heap_past_alloc (heap_past_alloc g3))⟩

def ARel (b : Nat → Nat) (stop : Int) (w : World) (gl B nx all : Nat) (W V : World) : Prop := ∃ m, nx ≤ m ∧ m ≤ 2048 ∧ (∀ j, nx ≤ j → j < m → bv b j = false) ∧ AI b stop w gl B m all V ∧ KBlk (w.heap.size + 1 + 1 + 1) W V ∧ KeepsOthers W V
theorem ARel.sets {b : Nat → Nat} {nx m : Nat} (h1 : nx ≤ m) (h3 : ∀ j, nx ≤ j → j < m → bv b j = false) : sets b m = sets b nx := by
  obtain ⟨d, rfl⟩ := Nat.exists_eq_add_of_le h1
  exact sets_add_no h3
def nxtOf (W : World) (g : Nat) : Nat := match W.cell? ⟨g, 0, none⟩ with | some (.int _ n) => (2048 - n).toNat | _ => 0
set_option maxRecDepth 100000 in
set_option maxHeartbeats 2000000 in
theorem all_walk (b : Nat → Nat) (hb : ∀ i, b i < 256) (stop : Int) (w : World) :
    Calls Try.prog 3 #[.agg (blk b), .int .i64 stop] w fun e w' => e = .returned (.bool true) ∧ Below w.heap.size w w' := by
  have hbH := Lib.hid hb
  clear hb
  have hfn := fnil
  refine calls_marks Try.func3 rfl ?_
  simp only [Try.ntmps3, List.size_toArray, List.length_cons, List.length_nil, Nat.reduceAdd, Nat.reduceSub, Array.replicate_succ, Array.replicate_zero, List.push_toArray, List.append_toArray, List.nil_append, List.cons_append]
  go_wp2_with (first | (go_at_call 11; refine (all_any b _).mono ?_; rintro e w2 ⟨rfl, rfl⟩) | (go_at_call 12; refine (of_any b hbH.out _).mono ?_; rintro e w2 ⟨B, rfl, hB, hc, hw⟩; have A := Lib.hid (all_start hw hB hc); clear hw hB hc))
  have hsz : w.heap.size + 1 + 1 < w2.heap.size := by have h1 := A.out.1.lt1; have h2 := A.out.1.lt2; omega
  have hl2 : w.heap.size + 1 + 1 + 1 < w2.heap.size := by have h1 := A.out.1.lt1; have h2 := A.out.1.lt2; omega
  refine wp_rangeFunc (gf := 23) (lb := #[.pointer (some ⟨w.heap.size + 1 + 1 + 1, 0, none⟩)]) rfl (enters_of Try.func23 (by kernel_rfl) rfl)
    (all_stops 8 (by omega) b hbH.out (w.heap.size + 1 + 1 + 1) _ A.out.2) KBlk.trans (kblk_b (by simp; omega)) (Below.refl _ _) (fun _ => rfl)
    (fun pre W => ∃ nx, nx ≤ 2048 ∧ pre = sets b nx ∧ AI b stop w w2.heap.size B nx pre.length W)
    (fun c pre W => c = .ret ∧ ((OwnCell W (w.heap.size + 1 + 1) (.bool true) ∧ Below w.heap.size w W) ∨ ∃ (p : List Nat) (x m : Nat), m ≤ 2048 ∧ pre = p ++ [x] ∧ p = sets b m ∧ (m = 2048 ∨ bv b m = true) ∧ (x ≠ m ∨ m = 2048)))
    (fun pre A A' row hs hg hr => by
      obtain ⟨nx, h1, h2, h3⟩ := hs
      exact ⟨nx, h1, h2, h3.grown hg (fun r e => ⟨by have := (hr r e).1; simp at this; omega, (hr r e).2⟩)⟩)
    (fun c pre A A' row hs hg hr => by
      obtain ⟨h1, h2 | h2⟩ := hs
      · exact ⟨h1, .inl ⟨h2.1.kept hg (fun r e => (hr r e).2), h2.2.grown hg h2.2.size (fun k e => by have := (hr k e).1; simp at this; omega)⟩⟩
      · exact ⟨h1, .inr h2⟩)
    ⟨0, by omega, rfl, A.out.1⟩
    (fun x => { tmps := #[.agg (blk b), .int .i64 stop, .pointer (some ⟨w.heap.size, 0, none⟩), .pointer (some ⟨w.heap.size + 1, 0, none⟩), .pointer (some ⟨w.heap.size + 1 + 1, 0, none⟩), .func (.func 23) #[] #[.pointer (some ⟨w.heap.size + 1 + 1 + 1, 0, none⟩)], .pointer (some ⟨w2.heap.size, 0, none⟩), .pointer (some ⟨w2.heap.size + 1, 0, none⟩), .pointer (some ⟨w2.heap.size + 1 + 1, 0, none⟩), .int .i64 x, .agg (blk b), .func (.func 23) #[] #[.pointer (some ⟨w.heap.size + 1 + 1 + 1, 0, none⟩)], .func (.func 23) #[] #[.pointer (some ⟨w.heap.size + 1 + 1 + 1, 0, none⟩)], .bool false, .agg (blk b), .slice (some ⟨B, 0, none⟩) 2048 2048, .func (.func 23) #[] #[.pointer (some ⟨w.heap.size + 1 + 1 + 1, 0, none⟩)], .int .i64 x, undef, undef, undef, undef, undef, undef, undef, undef, undef, undef, undef, undef, undef, undef, undef, undef, undef, undef, undef, undef, undef, undef, undef, undef, undef, undef, undef, undef, undef], defers := [] }) ?assign ?body ?done ?stop
  case assign =>
    intro l x W K hK
    gi_wp2
    exact hK
  case body =>
    rintro l pre x W ⟨nx, hnx, hpre, hI⟩ hlen
    have hIH := Lib.hid hI
    have hPH := Lib.hid hpre
    clear hI hpre
    gi_wp2_with fail
    gi_loopw [18] (fun _ V => ARel b stop w w2.heap.size B nx pre.length W V) (fun _ V => nxtOf V (w2.heap.size + 1))
    case atStart => exact ⟨nx, Nat.le_refl _, hnx, fun j h1 h2 => by omega, hIH.out, KBlk.refl _ _, KeepsOthers.refl _⟩
    case round =>
      obtain ⟨m, h1, h2, h3, h4, h5, h6⟩ := hrel
      have H3 := Lib.hid h3
      have H4 := Lib.hid h4
      have H5 := Lib.hid h5
      have H6 := Lib.hid h6
      have HS := Lib.hid (ARel.sets h1 h3)
      obtain ⟨j1, j2⟩ := h4.nxt
      obtain ⟨j3, j4⟩ := h4.lst
      obtain ⟨j5, j6⟩ := h4.ans
      obtain ⟨j7, j8⟩ := h4.all
      obtain ⟨j9, j10⟩ := h4.stp
      have n1 : ¬ w.heap.size + 1 + 1 = w2.heap.size + 1 := by omega
      have n2 : ¬ w.heap.size + 1 + 1 = w2.heap.size + 1 + 1 := by omega
      have n3 : ¬ w.heap.size + 1 = w2.heap.size + 1 := by omega
      have n4 : ¬ w.heap.size + 1 = w2.heap.size + 1 + 1 := by omega
      have hmz : Hid (nxtOf wr (w2.heap.size + 1) = 2048 - m) := by unfold Hid nxtOf; rw [j1]; simp
      clear h3 h4 h5 h6
      by_cases hm : m < 2048
      · have d1 : decide ((m : Int) < 2048) = true := by simp; omega
        have hcell : wr.cell? ⟨B, m, none⟩ = some (.bool (bv b m)) := by rw [cell_of_row _ _ _ _ _ _ H4.out.bits, bools_get _ _ hm]
        by_cases hbit : bv b m = true
        · by_cases hx : x = m
          · subst hx
            have d2 : ((x : Int) == 2048) = false := by simp; omega
            have hset := Lib.hid (sets_yes hbit)
            by_cases hst : (pre.length : Int) + 1 = stop
            · have d3 : ((pre.length : Int) + 1 == stop) = true := by simpa using hst
              have hstH := Lib.hid hst
              clear hst
              gi_wp2
              refine ⟨((H6.out.trans (KeepsOthers.setCell _ _ _)).trans (KeepsOthers.setCell _ _ _)).trans (KeepsOthers.setCell _ _ _), rfl, .inl ⟨?_, ?_⟩⟩
              · exact OwnCell.set (((H4.out.setn (x + 1)).seta (pre.length + 1)).ans) _
              · exact ((H4.out.setn (x + 1)).seta (pre.length + 1)).bel.setCell (show w.heap.size ≤ w.heap.size + 1 + 1 by omega) _
            · have d3 : ((pre.length : Int) + 1 == stop) = false := by simpa using hst
              have hstH := Lib.hid hst
              clear hst
              gi_wp2
              refine ⟨(H6.out.trans (KeepsOthers.setCell _ _ _)).trans (KeepsOthers.setCell _ _ _), ?_, x + 1, by omega, ?_, ?_⟩
              · exact (H5.out.trans (KBlk.setCell _ (show w2.heap.size + 1 ≠ w.heap.size + 1 + 1 + 1 by omega) _)).trans (KBlk.setCell _ (show w2.heap.size + 1 + 1 ≠ w.heap.size + 1 + 1 + 1 by omega) _)
              · rw [hset.out, HS.out, hPH.out]
              · have := ((H4.out.setn (x + 1)).seta (pre.length + 1))
                simpa using this
          · have d2 : ((x : Int) != (m : Int)) = true := by simp; omega
            have d3 : (x != m) = true := by simpa using hx
            gi_wp2_with (refine ⟨trivial, ?_⟩)
            exact ⟨H6.out.trans (KeepsOthers.setCell _ _ _), rfl, .inr ⟨pre, x, m, h2, rfl, by rw [HS.out, hPH.out], .inr hbit, .inl hx⟩⟩
        · have hbit' : bv b m = false := by simpa using hbit
          gi_wp2
          refine ⟨⟨m + 1, by omega, by omega, fun j a c => ?_, H4.out.setn (m + 1), H5.out.trans (KBlk.setCell _ (show w2.heap.size + 1 ≠ w.heap.size + 1 + 1 + 1 by omega) _), H6.out.trans (KeepsOthers.setCell _ _ _)⟩, ?_⟩
          · by_cases e : j = m
            · subst e; exact hbit'
            · exact H3.out j a (by omega)
          · have hz : nxtOf (wr.setCell ⟨w2.heap.size + 1, 0, none⟩ (.int .i64 ((m : Int) + 1))) (w2.heap.size + 1) = 2048 - (m + 1) := by
              unfold nxtOf
              rw [(OwnCell.set H4.out.nxt (.int .i64 ((m : Int) + 1))).1]
              simp
              omega
            rw [hmz.out]
            refine Nat.lt_of_le_of_lt (Nat.le_of_eq hz) (by omega)
      · obtain rfl : m = 2048 := by omega
        by_cases hx : x = 2048
        · subst hx
          gi_wp2_with (refine ⟨trivial, ?_⟩)
          exact ⟨H6.out.trans (KeepsOthers.setCell _ _ _), rfl, .inr ⟨pre, 2048, 2048, h2, rfl, by rw [HS.out, hPH.out], .inl rfl, .inr rfl⟩⟩
        · have d2 : ((x : Int) != 2048) = true := by simp; omega
          gi_wp2_with (refine ⟨trivial, ?_⟩)
          exact ⟨H6.out.trans (KeepsOthers.setCell _ _ _), rfl, .inr ⟨pre, x, 2048, h2, rfl, by rw [HS.out, hPH.out], .inl rfl, .inr rfl⟩⟩
  case done =>
    rintro D ys W hD rfl ⟨nx, hnx, hys, hI⟩ hK
    have hIH := Lib.hid hI
    have hx3 : cnt b 2048 2048 = (sets b 2048).length := cnt_slen b 2048 (by omega)
    have a1 := hI.blk.arr
    have a2 := hI.blk.row
    have hKH := Lib.hid hK
    clear hI hK hys
    go_wp2_with (first | fail)
    have p1 : ∀ p : Later W, isFree p.x w.heap.size = true := fun p => (hIH.out.later p.h).blk.arr
    have p2 : ∀ p : Later W, rowOf p.x w.heap.size = blk b := fun p => (hIH.out.later p.h).blk.row
    have p4 : ∀ p : Later W, p.x.cell? ⟨w2.heap.size + 1 + 1, 0, none⟩ = some (.int .i64 ((sets b 2048).length : Nat)) := fun p => (hIH.out.later p.h).all.1
    refine wp_region_head 4 (by kernel_rfl) (by kernel_rfl) ?_
    simp only [List.take_succ_cons, List.take_zero, List.drop_succ_cons, List.drop_zero]
    repeat (first | go_big_quiet_step ((go_at_call 13; exact Calls.later (refCount_any b hbH.out _ _))) | quiet_step ((go_at_call 13; exact Calls.later (refCount_any b hbH.out _ _))))
    refine wpQuiet_nil ?_
    rintro ⟨w3, hw3⟩
    dsimp only
    have J := Lib.hid (hIH.out.later hw3)
    obtain ⟨i3, i4⟩ := J.out.ans
    have hk2' := Lib.hid (heap_below hw3 (lt_of_heap hKH.out) hKH.out)
    clear p1 p2 p4
    go_wp2
    have hne : w.heap.size + 1 + 1 ≠ D := by simp at hD; omega
    have hs := (OwnCell.set J.out.ans (.bool true)).1
    refine bodyPostM_ret (w0 := w) rfl ((heap_setCell_other _ _ _ _ (fun e => hne e.symm)).trans hk2'.out) (results_cell_bool rfl _ _ (w.heap.size + 1 + 1) true rfl ((World.cell?_of_block (World.putObj_heap_other hne)).trans hs)) (J.out.bel.setCell (show w.heap.size ≤ w.heap.size + 1 + 1 by omega) _) (by simp at hD; omega) fun w' hw' => ⟨rfl, hw'⟩
  case stop =>
    rintro D c pre W hD ⟨k', hk', rfl⟩ ⟨rfl, hc⟩ hK
    rcases hc with ⟨h1, h2⟩ | ⟨p, x, m, hm, he, hp, hd, hx⟩
    · have hKH := Lib.hid hK
      have h1H := Lib.hid h1
      have h2H := Lib.hid h2
      clear hK h1 h2
      go_wp2
      have hne : w.heap.size + 1 + 1 ≠ D := by simp at hD; omega
      refine bodyPostM_ret (w0 := w) rfl hKH.out (results_cell_bool rfl _ _ (w.heap.size + 1 + 1) true rfl ((World.cell?_of_block (World.putObj_heap_other hne)).trans h1H.out.1)) h2H.out (by simp at hD; omega) fun w' hw' => ⟨rfl, hw'⟩
    · exact (all_bad hk' hm he.symm hp hd hx).elim
end Go.Proofs.Ytcheogbijioadaa
