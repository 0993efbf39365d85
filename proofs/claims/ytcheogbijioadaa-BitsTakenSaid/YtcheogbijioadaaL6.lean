/- quernlaw04.BitsSum returns true at every block and two numbers. Each byte is below 256. -/
import Derived.Test.YtcheogbijioadaaL5
namespace Go.Proofs.Ytcheogbijioadaa
open Go.RowKit Go.Shelf
attribute [local go_sem] Oper.semAt_some
attribute [local go_sem ↓] loadAt23 storeAt23
attribute [local go_sem] run_big23 run_bigst23 isFree_alloc rowOf_alloc freeObj_cells objRow_cells isFree_drew rowOf_drew isFree_set rowOf_set okRow_blk nn1 nn1' nn2 nn2'

def slen (b : Nat → Nat) (k : Nat) : Nat := (sets b k).length
theorem slen_yes {b : Nat → Nat} {k : Nat} (h : bv b k = true) : slen b (k + 1) = slen b k + 1 := by unfold slen; rw [sets_yes h]; simp
theorem slen_no {b : Nat → Nat} {k : Nat} (h : bv b k = false) : slen b (k + 1) = slen b k := by unfold slen; rw [sets_no h]
theorem slen_le (b : Nat → Nat) (k : Nat) : slen b k ≤ k := sets_len b k
theorem slen_mono (b : Nat → Nat) (k m : Nat) : slen b k ≤ slen b (k + m) := by
  obtain ⟨r, h, _⟩ := sets_add b k m
  unfold slen; rw [h]; simp
theorem cnt_slen (b : Nat → Nat) (k : Nat) (hk : k ≤ 2048) : cnt b (k : Nat) 2048 = slen b k := by
  rw [cnt_eq]
  unfold lenBelow slen
  obtain ⟨r, h, hr⟩ := sets_mono b k 2048 hk
  rw [h, List.filter_append]
  have h1 : r.filter (fun y : Nat => decide ((y : Int) < (k : Int))) = [] := by
    rw [List.filter_eq_nil_iff]
    intro y hy
    have := hr y hy
    simp
    omega
  rw [h1, List.append_nil]
  exact all_below_len fun y hy => by have := (sets_lt hy).1; omega

def lastI (pre : List Nat) : Int := match pre.getLast? with | some y => (y : Int) | none => -1
theorem lastI_snoc (pre : List Nat) (x : Nat) : lastI (pre ++ [x]) = x := by unfold lastI; simp
theorem lastI_lo (pre : List Nat) : -1 ≤ lastI pre := by unfold lastI; split <;> omega
theorem sets_sorted (b : Nat → Nat) (k : Nat) : (sets b k).Pairwise (· < ·) := by
  unfold sets
  exact List.Pairwise.filter _ List.pairwise_lt_range
theorem lastI_lt {b : Nat → Nat} {k x : Nat} {p : List Nat} (h : p ++ [x] = sets b k) : lastI p < (x : Int) := by
  have hs := sets_sorted b k
  rw [← h, List.pairwise_append] at hs
  unfold lastI
  split
  · rename_i y hy
    have := hs.2.2 y (List.mem_of_getLast? hy) x (by simp)
    omega
  · omega

theorem bodyPostM_ret0 {P : Program} {fn : Func} {R : Ending → World → Prop} {a : Act} {w : World} {v : Value} (hd : a.defers = [])
    (hr : (results fn a.tmps).run P w = .ok v w) (hR : R (.returned v) w) : bodyPostM Fence.wide 9 P fn R .ret a w := by
  show LeavesInM Fence.wide 9 P fn a.tmps R a.defers .returning w
  rw [hd]
  exact ⟨v, hr, hR⟩

/-- What stands in the first loop: at s the block, s + 1 the answer. -/
def SB (b : Nat → Nat) (w W : World) : Prop := HoldsB W w.heap.size b ∧ OwnCell W (w.heap.size + 1) (.bool false) ∧ Below w.heap.size w W
theorem SB.later {b : Nat → Nat} {w W W' : World} (h : SB b w W) (hb : Below W.heap.size W W') : SB b w W' := ⟨h.1.later hb h.1.lt, h.2.1.later hb h.2.1.lt, h.2.2.trans (hb.mono h.2.2.size)⟩
theorem SB.start {b : Nat → Nat} {w w1 : World} (hw1 : Below ((w.alloc (.cells (blk b) 23)).alloc (.cells #[.bool false] 4)).heap.size ((w.alloc (.cells (blk b) 23)).alloc (.cells #[.bool false] 4)) w1) : SB b w w1 := by
  have h0 : SB b w ((w.alloc (.cells (blk b) 23)).alloc (.cells #[.bool false] 4)) := by
    refine ⟨(HoldsB.new w b 23).alloc _, ?_, ((Below.refl _ _).alloc (Nat.le_refl _) _).alloc (by simp) _⟩
    have := OwnCell.new (w.alloc (.cells (blk b) 23)) (.bool false) 4
    rwa [World.size_alloc] at this
  exact h0.later hw1
def SRel (b : Nat → Nat) (lo hi : Nat) (w : World) (n i : Value) (W : World) : Prop := ∃ k : Nat, i = .int .i64 k ∧ lo ≤ k ∧ k ≤ hi ∧ n = .int .i64 ((slen b k : Int) - slen b lo) ∧ SB b w W
theorem SRel.next {b : Nat → Nat} {lo hi k : Nat} {w W : World} {n : Int} (h1 : lo ≤ k) (h2 : k < hi) (hn : n = (slen b (k + 1) : Int) - slen b lo) (hS : SB b w W) : SRel b lo hi w (.int .i64 n) (.int .i64 ((k : Int) + 1)) W :=
  ⟨k + 1, by go_num, by omega, by omega, by rw [hn], hS⟩

/-- What stands while the bits are told. -/
structure SI (b : Nat → Nat) (w : World) (g : Nat) (last : Int) (all : Nat) (W : World) : Prop where
  base : SB b w W
  last : OwnCell W (g + 1) (.int .i64 last)
  all : OwnCell W (g + 1 + 1) (.int .i64 (all : Nat))
theorem SI.own {b : Nat → Nat} {w : World} {g : Nat} {B : Nat} (hw : w.heap.size ≤ B) : OwnFrom B (fun (pre : List Nat) W => SI b w g (lastI pre) pre.length W) := by
  intro s A A' row hs hg hr
  have hr' : ∀ r, row = some r → ∃ o : Obj, A.heap[r]? = some o ∧ o.isCells = false := fun r e => (hr r e).2
  exact ⟨⟨hs.base.1.kept hg hr', hs.base.2.1.kept hg hr', hs.base.2.2.grown hg hs.base.2.2.size (fun k e => Nat.le_trans hw (hr k e).1)⟩, hs.last.kept hg hr', hs.all.kept hg hr'⟩
theorem SI.later {b : Nat → Nat} {w : World} {g all : Nat} {last : Int} {W W' : World} (h : SI b w g last all W) (hb : Below W.heap.size W W') : SI b w g last all W' :=
  ⟨h.base.later hb, h.last.later hb h.last.lt, h.all.later hb h.all.lt⟩
theorem SI.set {b : Nat → Nat} {w : World} {g all : Nat} {last : Int} {W : World} (h : SI b w g last all W) (hg : w.heap.size + 1 < g + 1) (x : Int) (k : Nat) :
    SI b w g x k ((W.setCell ⟨g + 1, 0, none⟩ (.int .i64 x)).setCell ⟨g + 1 + 1, 0, none⟩ (.int .i64 (k : Nat))) :=
  ⟨⟨(h.base.1.setCell_other (show w.heap.size ≠ g + 1 by omega) _).setCell_other (show w.heap.size ≠ g + 1 + 1 by omega) _, (h.base.2.1.set_other (by omega) _).set_other (by omega) _, (h.base.2.2.setCell (show w.heap.size ≤ g + 1 by omega) _).setCell (show w.heap.size ≤ g + 1 + 1 by omega) _⟩,
    (h.last.set _).set_other (by omega) _, (h.all.set_other (by omega) _).set _⟩
theorem count_k (b : Nat → Nat) (hb : ∀ i, b i < 256) (n : Int) (k : Nat) (hk : Hid (n = (k : Int) ∧ k ≤ 2048)) (w : World) : Calls Try.prog 21 #[.agg (blk b), .int .i64 n] w fun e w' => e = .returned (.int .i64 (slen b k : Nat)) ∧ Below w.heap.size w w' := by
  obtain ⟨rfl, h2⟩ := hk.out
  exact bcount_c b hb k _ (cnt_slen b k h2) w

set_option maxRecDepth 100000 in
set_option maxHeartbeats 2000000 in
theorem sum_in (b : Nat → Nat) (hb : ∀ i, b i < 256) (lo hi : Nat) (h1 : lo ≤ hi) (h2 : hi ≤ 2048) (w : World) :
    Calls Try.prog 8 #[.agg (blk b), .int .i64 lo, .int .i64 hi] w fun e w' => e = .returned (.bool true) ∧ Below w.heap.size w w' := by
  have hbH := Lib.hid hb
  clear hb
  have hfn := fnil
  have d1 : decide ((lo : Int) < 0) = false := by simp
  have d2 : decide ((hi : Int) < (lo : Int)) = false := by simp; omega
  have d3 : decide (2048 < (hi : Int)) = false := by simp; omega
  have d4 : decide (hi < lo) = false := by simp; omega
  have d5 : decide (2048 < hi) = false := by simp; omega
  refine calls_marks Try.func8 rfl ?_
  simp only [Try.ntmps8, List.size_toArray, List.length_cons, List.length_nil, Nat.reduceAdd, Nat.reduceSub, Array.replicate_succ, Array.replicate_zero, List.push_toArray, List.append_toArray, List.nil_append, List.cons_append]
  go_wp2_with (first | (go_at_call 22; refine (awake_any _).mono ?_; rintro e w1 ⟨rfl, hw1⟩; have T := Lib.hid (SB.start hw1); clear hw1))
  go_loopw [7, 8] (fun n i W => SRel b lo hi w n i W) (fun _ i _ => hi - (intOf i).toNat)
  case atStart => exact ⟨lo, rfl, Nat.le_refl _, h1, by simp, T.out⟩
  case round =>
    obtain ⟨k, rfl, hk1, hk2, rfl, hS⟩ := hrel
    have a1 := hS.1.arr
    have a2 := hS.1.row
    have l1 := slen_le b k
    have l2 := slen_le b lo
    have SH := Lib.hid hS
    by_cases hlt : k < hi
    · have hv := Lib.hid (hasB_nat b k (by omega))
      clear hS
      go_wp2_with (go_at_call 17; refine (has_b b hbH.out _ _).mono ?_; rintro e w3 ⟨rfl, hw3⟩; have J := Lib.hid (SH.out.later hw3); clear hw3)
      · have hx : bv b k = true := by rw [← hv.out]; assumption
        exact ⟨SRel.next hk1 hlt (by rw [slen_yes hx]; push_cast; omega) J.out, by simp [intOf]; omega⟩
      · have hx : bv b k = false := by rw [← hv.out]; assumption
        exact ⟨SRel.next hk1 hlt (by rw [slen_no hx]) J.out, by simp [intOf]; omega⟩
    · obtain rfl : k = hi := by omega
      have l3 := slen_mono b lo (k - lo)
      rw [show lo + (k - lo) = k by omega] at l3
      obtain ⟨wo, rfl⟩ : ∃ wo : World, wo = wr := ⟨_, rfl⟩
      clear hS
      go_wp2_with (go_at_call 11; refine (all_any b _).mono ?_; rintro e w2 ⟨rfl, rfl⟩)
      have c0 : SI b w wo.heap.size (-1) 0 (((wo.alloc (.cells (blk b) 23)).alloc (.cells #[.int .i64 (-1)] 3)).alloc (.cells #[.int .i64 0] 3)) := by
        have h3 := OwnCell.new (wo.alloc (.cells (blk b) 23)) (.int .i64 (-1)) 3
        have h4 := OwnCell.new ((wo.alloc (.cells (blk b) 23)).alloc (.cells #[.int .i64 (-1)] 3)) (.int .i64 0) 3
        rw [World.size_alloc] at h3
        rw [World.size_alloc, World.size_alloc] at h4
        have h5 := SH.out
        have h6 := h5.2.2.size
        exact ⟨⟨((h5.1.alloc _).alloc _).alloc _, ((h5.2.1.alloc _).alloc _).alloc _, ((h5.2.2.alloc h6 _).alloc (by simp; omega) _).alloc (by simp; omega) _⟩, h3.alloc _, h4⟩
      have hcb := heap_past_alloc (o := .cells #[.int .i64 0] 3) (heap_past_alloc (o := .cells #[.int .i64 (-1)] 3) (heap_at_alloc wo (.cells (blk b) 23) wo.heap.size rfl))
      have hsz : w.heap.size + 1 < wo.heap.size := SH.out.2.1.lt
      refine wp_rangeFunc (gf := 23) (lb := #[.pointer (some ⟨wo.heap.size, 0, none⟩)]) rfl (enters_of Try.func23 (by kernel_rfl) rfl)
        (all_stops 8 (by omega) b hbH.out wo.heap.size _ hcb) KBlk.trans (kblk_b (by simp; omega)) (Below.refl _ _) (fun _ => rfl)
        (fun pre W => SI b w wo.heap.size (lastI pre) pre.length W)
        (fun c pre W => c = .ret ∧ ∃ (p : List Nat) (x : Nat), pre = p ++ [x] ∧ ((x : Int) ≤ lastI p ∨ hasB b (x : Nat) = false))
        (SI.own (by simp; omega)) (fun c => fun _ _ _ _ h _ _ => h)
        c0
        (fun x => { tmps := #[.agg (blk b), .int .i64 lo, .int .i64 k, .pointer (some ⟨w.heap.size, 0, none⟩), undef, undef, .pointer (some ⟨w.heap.size + 1, 0, none⟩), .int .i64 ((slen b k : Int) - slen b lo), .int .i64 k, .func (.func 23) #[] #[.pointer (some ⟨wo.heap.size, 0, none⟩)], .pointer (some ⟨wo.heap.size + 1, 0, none⟩), .pointer (some ⟨wo.heap.size + 1 + 1, 0, none⟩), .int .i64 x, .bool true, .bool false, .int .i64 lo, .bool false, .bool false, .int .i64 k, .int .i64 lo, .bool false, .bool false, .bool false, .int .i64 k, .bool false, .bool false, .int .i64 lo, .int .i64 k, .int .i64 k, .bool false, u30, u31, u32, u33, u34, u35, u36, .agg (blk b), .func (.func 23) #[] #[.pointer (some ⟨wo.heap.size, 0, none⟩)], .func (.func 23) #[] #[.pointer (some ⟨wo.heap.size, 0, none⟩)], .bool false, .func (.func 23) #[] #[.pointer (some ⟨wo.heap.size, 0, none⟩)], .int .i64 x, undef, undef, undef, undef, undef, undef, undef, undef, undef, undef, undef, undef, undef, undef, undef, undef, undef, undef, undef, undef, undef, undef, undef, undef, undef, undef, undef], defers := [] }) ?assign ?body ?done ?stop
      case assign =>
        intro l x W K hK
        gi_wp2
        exact hK
      case body =>
        rintro l pre x W hI hlen
        have hIH := Lib.hid hI
        have a1 := hI.base.1.arr
        have a2 := hI.base.1.row
        obtain ⟨j1, j2⟩ := hI.last
        have hlo := lastI_lo pre
        clear hI
        by_cases hx : (x : Int) ≤ lastI pre
        · have e1 : decide ((x : Int) ≤ lastI pre) = true := by simpa using hx
          obtain ⟨j3, j4⟩ := hIH.out.base.2.1
          gi_wp2
          refine ⟨trivial, ?_⟩
          gi_wp2
          exact ⟨KeepsOthers.setCell _ _ _, rfl, pre, x, rfl, .inl hx⟩
        · have e1 : decide ((x : Int) ≤ lastI pre) = false := by simpa using hx
          gi_wp2_with (refine ⟨trivial, ?_⟩; gi_at_call 17; refine (CallsIn.inRound l (callsIn_wide.2 (has_b b hbH.out _ _))).mono ?_; rintro e w3 ⟨rfl, hw3⟩; have J := Lib.hid (hIH.out.later hw3); have hwH := Lib.hid hw3; obtain ⟨j3, j4⟩ := J.out.base.2.1; obtain ⟨j5, j6⟩ := J.out.last; obtain ⟨j7, j8⟩ := J.out.all; clear hw3)
          · have hv : hasB b (x : Nat) = false := by simpa using ‹(!hasB b (x : Nat)) = true›
            exact ⟨(cellOthers hwH.out).trans (KeepsOthers.setCell _ _ _), rfl, pre, x, rfl, .inr hv⟩
          · have hl := hIH.out.all.lt
            refine ⟨((cellOthers hwH.out).trans (KeepsOthers.setCell _ _ _)).trans (KeepsOthers.setCell _ _ _), ((KBlk.of_below hwH.out (by omega)).trans (KBlk.setCell _ (by simp) _)).trans (KBlk.setCell _ (by simp; omega) _), ?_⟩
            show SI b w wo.heap.size (lastI (pre ++ [x])) (pre ++ [x]).length _
            rw [lastI_snoc, List.length_append]
            exact J.out.set (by omega) _ _
      case done =>
        rintro D ys W hD rfl hI hK
        have hIH := Lib.hid hI
        have hx1 : cnt b (k : Nat) 2048 = slen b k := cnt_slen b k h2
        have hx2 : cnt b (lo : Nat) 2048 = slen b lo := cnt_slen b lo (by omega)
        have hx3 : cnt b 2048 2048 = (sets b 2048).length := cnt_slen b 2048 (by omega)
        have hl3 : (sets b 2048).length ≤ 2048 := sets_len b 2048
        have a1 := hI.base.1.arr
        have a2 := hI.base.1.row
        have hKH := Lib.hid hK
        clear hI hK
        go_wp2_with (first | fail)
        have p1 : ∀ p : Later W, isFree p.x w.heap.size = true := fun p => (hIH.out.later p.h).base.1.arr
        have p2 : ∀ p : Later W, rowOf p.x w.heap.size = blk b := fun p => (hIH.out.later p.h).base.1.row
        have p4 : ∀ p : Later W, p.x.cell? ⟨wo.heap.size + 1 + 1, 0, none⟩ = some (.int .i64 ((sets b 2048).length : Nat)) := fun p => (hIH.out.later p.h).all.1
        refine wp_region_head 15 (by kernel_rfl) (by kernel_rfl) ?_
        simp only [List.take_succ_cons, List.take_zero, List.drop_succ_cons, List.drop_zero]
        repeat (first | go_big_quiet_step ((go_at_call 21; exact Calls.later (count_any b hbH.out _ _))) | quiet_step ((go_at_call 21; exact Calls.later (count_any b hbH.out _ _))))
        refine wpQuiet_nil ?_
        rintro ⟨w2, hw2⟩
        dsimp only
        have J := Lib.hid (hIH.out.later hw2)
        obtain ⟨i3, i4⟩ := J.out.base.2.1
        have hk2' := Lib.hid (heap_below hw2 (lt_of_heap hKH.out) hKH.out)
        clear p1 p2 p4
        go_wp2
        have hne : w.heap.size + 1 ≠ D := by simp at hD; omega
        have hs := (OwnCell.set J.out.base.2.1 (.bool true)).1
        refine bodyPostM_ret (w0 := w) rfl ((heap_setCell_other _ _ _ _ (fun e => hne e.symm)).trans hk2'.out) (results_cell_bool rfl _ _ (w.heap.size + 1) true rfl ((World.cell?_of_block (World.putObj_heap_other hne)).trans hs)) (J.out.base.2.2.setCell (show w.heap.size ≤ w.heap.size + 1 by omega) _) (by simp at hD; omega) fun w' hw' => ⟨rfl, hw'⟩
      case stop =>
        rintro D c pre W hD ⟨k', hk', rfl⟩ ⟨rfl, p, x, he, hv⟩
        rcases hv with hv | hv
        · have := lastI_lt he.symm
          omega
        · have := sets_lt (b := b) (k := k') (y := x) (by rw [he]; simp)
          rw [hasB_nat _ _ (by omega), this.2] at hv
          cases hv
set_option maxRecDepth 100000 in
set_option maxHeartbeats 2000000 in
theorem sum_out (b : Nat → Nat) (lo hi : Int) (t1 t2 t3 : Bool) (d1 : decide (lo < 0) = t1) (d2 : decide (hi < lo) = t2) (d3 : decide (2048 < hi) = t3) (h : (t1 || t2 || t3) = true) (w : World) :
    Calls Try.prog 8 #[.agg (blk b), .int .i64 lo, .int .i64 hi] w fun e w' => e = .returned (.bool true) ∧ Below w.heap.size w w' := by
  have hH := Lib.hid h
  clear h
  cases t1 <;> cases t2 <;> cases t3
  all_goals
    first
    | (exfalso; have := hH.out; simp at this; done)
    | (refine calls_marks Try.func8 rfl ?_
       simp only [Try.ntmps8, List.size_toArray, List.length_cons, List.length_nil, Nat.reduceAdd, Nat.reduceSub, Array.replicate_succ, Array.replicate_zero, List.push_toArray, List.append_toArray, List.nil_append, List.cons_append]
       go_wp2_with (first | (go_at_call 22; refine (awake_any _).mono ?_; rintro e w1 ⟨rfl, hw1⟩; have T := Lib.hid (SB.start (b := b) hw1); obtain ⟨i1, i2⟩ := T.out.2.1; clear hw1))
       exact bodyPostM_ret0 rfl (results_cell_bool rfl _ _ (w.heap.size + 1) true rfl (OwnCell.set T.out.2.1 (.bool true)).1) ⟨rfl, T.out.2.2.setCell (show w.heap.size ≤ w.heap.size + 1 by omega) _⟩)
theorem sum_walk (b : Nat → Nat) (hb : ∀ i, b i < 256) (lo hi : Int) (w : World) :
    Calls Try.prog 8 #[.agg (blk b), .int .i64 lo, .int .i64 hi] w fun e w' => e = .returned (.bool true) ∧ Below w.heap.size w w' := by
  by_cases h : lo < 0 ∨ hi < lo ∨ 2048 < hi
  · refine sum_out b lo hi _ _ _ rfl rfl rfl ?_ w
    simp only [Bool.or_eq_true, decide_eq_true_eq]
    omega
  · obtain ⟨l, rfl⟩ := Int.eq_ofNat_of_zero_le (show 0 ≤ lo by omega)
    obtain ⟨m, rfl⟩ := Int.eq_ofNat_of_zero_le (show 0 ≤ hi by omega)
    exact sum_in b hb l m (by omega) (by omega) w
end Go.Proofs.Ytcheogbijioadaa
