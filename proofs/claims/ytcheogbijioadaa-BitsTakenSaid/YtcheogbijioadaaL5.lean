/- quernlaw04.BitsCount returns true at every block and number. Each byte is below 256. -/
import Derived.Test.YtcheogbijioadaaR
import Derived.Test.YtcheogbijioadaaHT
namespace Go.Proofs.Ytcheogbijioadaa
open Go.RowKit Go.Shelf
attribute [local go_sem] Oper.semAt_some
attribute [local go_sem ↓] loadAt23 storeAt23
attribute [local go_sem] run_big23 run_bigst23 isFree_alloc rowOf_alloc freeObj_cells objRow_cells isFree_drew rowOf_drew isFree_set rowOf_set okRow_blk nn1 nn1' nn2 nn2'

theorem results_cell_bool {fn : Func} {p : Tmp} (h : fn.results = #[.cell p 4]) (tmps : Array Value) (w : World) (g : Nat) (v : Bool)
    (hp : tmps.getD p undef = .pointer (some ⟨g, 0, none⟩)) (hc : w.cell? ⟨g, 0, none⟩ = some (.bool v)) : (results fn tmps).run Try.prog w = .ok (.bool v) w := by
  have hp' : tmps[p]?.getD undef = .pointer (some ⟨g, 0, none⟩) := by simpa using hp
  have ha : (isAgg 4).run Try.prog w = .ok false w := by unfold isAgg; rw [Sem.run_bind, run_underlying Try.underlying4 w]; rfl
  simp [results, h, hp', asAddr, loadVar, Sem.run_bind, ha, hc, go_sem]

theorem OwnCell.lt {W : World} {B : Nat} {v : Value} (h : OwnCell W B v) : B < W.heap.size := block_lt_of_cell h.1
theorem OwnCell.later {w w' : World} {g B : Nat} {v : Value} (h : OwnCell w g v) (hb : Below B w w') (hg : g < B) : OwnCell w' g v :=
  ⟨(hb.cell (p := ⟨g, 0, none⟩) hg).trans h.1, (hb.frozen (p := ⟨g, 0, none⟩) hg).trans h.2⟩
theorem HoldsB.kept {W W' : World} {row : Option Nat} {g : Nat} {b : Nat → Nat} (h : HoldsB W g b) (hg : W.grownBy W' row) (hr : ∀ r, row = some r → ∃ o : Obj, W.heap[r]? = some o ∧ o.isCells = false) : HoldsB W' g b := by
  obtain ⟨t, h1⟩ := h.heap
  have := grownBy_keeps_cells hg hr h1 rfl
  exact HoldsB.of (this.trans h1)
theorem HoldsB.setCell_other {W : World} {g : Nat} {b : Nat → Nat} (h : HoldsB W g b) {p : Addr} (hne : g ≠ p.block) (v : Value) : HoldsB (W.setCell p v) g b := by
  obtain ⟨t, h1⟩ := h.heap
  exact HoldsB.of ((heap_setCell_other W p g v hne).trans h1)
theorem OwnCell.heapOf {W : World} {B : Nat} {v : Value} {t : TypeId} (h : W.heap[B]? = some (.cells #[v] t (0, 0))) : OwnCell W B v :=
  ⟨by rw [cell_of_row _ _ _ _ _ _ h]; rfl, frozen_of_row _ _ _ _ _ h⟩

/-- What stands while the bits are told: at s the block, s + 1 the number, s + 2 the answer, g + 1 the sum. -/
structure CI (b : Nat → Nat) (n : Int) (w : World) (g : Nat) (sum : Nat) (W : World) : Prop where
  blk : HoldsB W w.heap.size b
  num : OwnCell W (w.heap.size + 1) (.int .i64 n)
  ans : OwnCell W (w.heap.size + 1 + 1) (.bool false)
  sum : OwnCell W (g + 1) (.int .i64 (sum : Nat))
  bel : Below w.heap.size w W
def below (n : Int) (pre : List Nat) : Nat := (pre.filter fun y : Nat => decide ((y : Int) < n)).length
theorem below_snoc_yes {n : Int} {pre : List Nat} {x : Nat} (h : (x : Int) < n) : below n (pre ++ [x]) = below n pre + 1 := by
  unfold below; rw [List.filter_append]; simp [h]
theorem below_snoc_no {n : Int} {pre : List Nat} {x : Nat} (h : ¬ (x : Int) < n) : below n (pre ++ [x]) = below n pre := by
  unfold below; rw [List.filter_append]; simp [h]
theorem below_le (n : Int) (pre : List Nat) : below n pre ≤ pre.length := List.length_filter_le _ _
theorem CI.own {b : Nat → Nat} {n : Int} {w : World} {g : Nat} {f : List Nat → Nat} {B : Nat} (hw : w.heap.size ≤ B) : OwnFrom B (fun (pre : List Nat) W => CI b n w g (f pre) W) := by
  intro s A A' row hs hg hr
  have hr' : ∀ r, row = some r → ∃ o : Obj, A.heap[r]? = some o ∧ o.isCells = false := fun r e => (hr r e).2
  exact ⟨hs.blk.kept hg hr', hs.num.kept hg hr', hs.ans.kept hg hr', hs.sum.kept hg hr', hs.bel.grown hg hs.bel.size (fun k e => Nat.le_trans hw (hr k e).1)⟩
theorem CI.later {b : Nat → Nat} {n : Int} {w : World} {g s : Nat} {W W' : World} (h : CI b n w g s W) (hb : Below W.heap.size W W') : CI b n w g s W' :=
  ⟨h.blk.later hb h.blk.lt, h.num.later hb h.num.lt, h.ans.later hb h.ans.lt, h.sum.later hb h.sum.lt, h.bel.trans (hb.mono h.bel.size)⟩
theorem CI.drawn {b : Nat → Nat} {n : Int} {w : World} {g s : Nat} {W W' : World} (h : CI b n w g s W) (hb : Below W.drew.heap.size W.drew W') : CI b n w g s W' :=
  h.later ⟨hb.os, hb.tape, hb.output, hb.size, hb.block⟩
theorem CI.set {b : Nat → Nat} {n : Int} {w : World} {g s : Nat} {W : World} (h : CI b n w g s W) (hg : w.heap.size + 1 + 1 < g + 1) (k : Nat) : CI b n w g k (W.setCell ⟨g + 1, 0, none⟩ (.int .i64 (k : Nat))) :=
  ⟨h.blk.setCell_other (show w.heap.size ≠ g + 1 by omega) _, h.num.set_other (by omega) _, h.ans.set_other (by omega) _, h.sum.set _, h.bel.setCell (show w.heap.size ≤ g + 1 by omega) _⟩
theorem cellOthers {W W' : World} (hb : Below W.heap.size W W') : KeepsOthers W W' := ⟨hb.size, fun _ _ hk _ => heap_below hb (lt_of_heap hk) hk⟩

theorem count_start {b : Nat → Nat} {n : Int} {w w1 : World} (hw1 : Below (((w.alloc (.cells (blk b) 23)).alloc (.cells #[.int .i64 n] 3)).alloc (.cells #[.bool false] 4)).heap.size (((w.alloc (.cells (blk b) 23)).alloc (.cells #[.int .i64 n] 3)).alloc (.cells #[.bool false] 4)) w1) :
    HoldsB w1 w.heap.size b ∧ OwnCell w1 (w.heap.size + 1) (.int .i64 n) ∧ OwnCell w1 (w.heap.size + 1 + 1) (.bool false) ∧ Below w.heap.size w w1 ∧ w.heap.size + 1 + 1 < w1.heap.size := by
  refine ⟨((HoldsB.new w b 23).alloc _ |>.alloc _).later hw1 (by simp; omega), ?_, ?_, ((((Below.refl _ _).alloc (Nat.le_refl _) _).alloc (by simp) _).alloc (by simp; omega) _).trans (hw1.mono (by simp; omega)), by have := hw1.size; simp at this; omega⟩
  · have := (OwnCell.new (w.alloc (.cells (blk b) 23)) (.int .i64 n) 3).alloc (.cells #[.bool false] 4)
    rw [World.size_alloc] at this
    exact this.later hw1 (by simp)
  · have := OwnCell.new ((w.alloc (.cells (blk b) 23)).alloc (.cells #[.int .i64 n] 3)) (.bool false) 4
    rw [World.size_alloc, World.size_alloc] at this
    exact this.later hw1 (by simp)

theorem bcount_c (b : Nat → Nat) (hb : ∀ i, b i < 256) (n : Int) (k : Nat) (hk : cnt b n 2048 = k) (w : World) : Calls Try.prog 21 #[.agg (blk b), .int .i64 n] w fun e w' => e = .returned (.int .i64 (k : Nat)) ∧ Below w.heap.size w w' := by
  subst hk
  exact count_any b hb n w
theorem fnil (g : Nat) : ∀ w, (binOp .eql 25 (.func (.func 23) #[] #[.pointer (some ⟨g, 0, none⟩)]) .nilFunc).run Try.prog w = .ok (.bool false) w := fun w => by kernel_rfl
set_option maxRecDepth 100000 in
set_option maxHeartbeats 2000000 in
theorem bcount_walk (b : Nat → Nat) (hb : ∀ i, b i < 256) (n : Int) (w : World) :
    Calls Try.prog 6 #[.agg (blk b), .int .i64 n] w fun e w' => e = .returned (.bool true) ∧ Below w.heap.size w w' := by
  have hbH := Lib.hid hb
  clear hb
  have hfn := fnil
  refine calls_marks Try.func6 rfl ?_
  simp only [Try.ntmps6, List.size_toArray, List.length_cons, List.length_nil, Nat.reduceAdd, Nat.reduceSub, Array.replicate_succ, Array.replicate_zero, List.push_toArray, List.append_toArray, List.nil_append, List.cons_append]
  go_wp2_with (first | (go_at_call 22; refine (awake_any _).mono ?_; rintro e w1 ⟨rfl, hw1⟩; have T := Lib.hid (count_start hw1); have s1 := T.out.1.arr; have s2 := T.out.1.row; clear hw1) | (go_at_call 11; refine (all_any b _).mono ?_; rintro e w2 ⟨rfl, rfl⟩))
  have hT := T.out
  have c0 : CI b n w w1.heap.size 0 ((w1.alloc (.cells (blk b) 23)).alloc (.cells #[.int .i64 0] 3)) := by
    have := OwnCell.new (w1.alloc (.cells (blk b) 23)) (.int .i64 0) 3
    rw [World.size_alloc] at this
    exact ⟨(hT.1.alloc _).alloc _, (hT.2.1.alloc _).alloc _, (hT.2.2.1.alloc _).alloc _, this, (hT.2.2.2.1.alloc hT.2.2.2.1.size _).alloc (by have := hT.2.2.2.1.size; simp; omega) _⟩
  have hcb := heap_past_alloc (o := .cells #[.int .i64 0] 3) (heap_at_alloc w1 (.cells (blk b) 23) w1.heap.size rfl)
  have hsz : w.heap.size + 1 + 1 < w1.heap.size := hT.2.2.2.2
  have hTH := Lib.hid hT
  clear hT
  refine wp_rangeFunc (gf := 23) (lb := #[.pointer (some ⟨w1.heap.size, 0, none⟩)]) rfl (enters_of Try.func23 (by kernel_rfl) rfl)
    (all_stops 8 (by omega) b hbH.out w1.heap.size _ hcb) KBlk.trans (kblk_b (by simp; omega)) (Below.refl _ _) (fun _ => rfl)
    (fun pre W => CI b n w w1.heap.size (below n pre) W ∧ ∀ y ∈ pre, hasB b (y : Nat) = true)
    (fun c pre W => c = .ret ∧ ∃ y ∈ pre, hasB b (y : Nat) = false)
    (OwnFrom.and (CI.own (by simp; omega)) (fun _ _ _ _ h _ _ => h)) (fun c => fun _ _ _ _ h _ _ => h)
    ⟨c0, by simp⟩
    (fun x => { tmps := #[.agg (blk b), .int .i64 n, .pointer (some ⟨w.heap.size, 0, none⟩), .pointer (some ⟨w.heap.size + 1, 0, none⟩), .pointer (some ⟨w.heap.size + 1 + 1, 0, none⟩), .func (.func 23) #[] #[.pointer (some ⟨w1.heap.size, 0, none⟩)], .pointer (some ⟨w1.heap.size + 1, 0, none⟩), .int .i64 x, .bool true, .bool false, .agg (blk b), .func (.func 23) #[] #[.pointer (some ⟨w1.heap.size, 0, none⟩)], .func (.func 23) #[] #[.pointer (some ⟨w1.heap.size, 0, none⟩)], .bool false, .func (.func 23) #[] #[.pointer (some ⟨w1.heap.size, 0, none⟩)], .int .i64 x, undef, undef, undef, undef, undef, undef, undef, undef, undef, undef, undef, undef, undef, undef], defers := [] }) ?assign ?body ?done ?stop
  case assign =>
    intro l x W K hK
    gi_wp2
    exact hK
  case body =>
    rintro l pre x W ⟨hI, hall⟩ hlen
    have hA := Lib.hid hall
    have hIH := Lib.hid hI
    have a1 := hI.blk.arr
    have a2 := hI.blk.row
    have hbl := below_le n pre
    clear hall hI
    gi_wp2_with (refine ⟨trivial, ?_⟩; gi_at_call 17; refine (CallsIn.inRound l (callsIn_wide.2 (has_b b hbH.out _ _))).mono ?_; rintro e w3 ⟨rfl, hw3⟩; have J := Lib.hid (hIH.out.later hw3); have hwH := Lib.hid hw3; obtain ⟨j1, j2⟩ := J.out.num; obtain ⟨j3, j4⟩ := J.out.ans; obtain ⟨j5, j6⟩ := J.out.sum; clear hw3)
    · have hv : hasB b (x : Nat) = false := by simpa using ‹(!hasB b (x : Nat)) = true›
      exact ⟨(cellOthers hwH.out).trans (KeepsOthers.setCell _ _ _), rfl, x, by simp, hv⟩
    · have hv : hasB b (x : Nat) = true := by simpa using ‹(!hasB b (x : Nat)) = false›
      have hx : (x : Int) < n := by assumption
      refine ⟨(cellOthers hwH.out).trans (KeepsOthers.setCell _ _ _), ?_, ?_, ?_⟩
      · exact (KBlk.of_below hwH.out (by have := hIH.out.sum.lt; omega)).trans (KBlk.setCell _ (by simp) _)
      · rw [below_snoc_yes hx]
        exact J.out.set (by omega) _
      · intro y hy
        rcases List.mem_append.1 hy with h | h
        · exact hA.out y h
        · simp at h; subst h; exact hv
    · have hv : hasB b (x : Nat) = true := by simpa using ‹(!hasB b (x : Nat)) = false›
      have hx : ¬ (x : Int) < n := by omega
      refine ⟨cellOthers hwH.out, KBlk.of_below hwH.out (by have := hIH.out.sum.lt; omega), ?_, ?_⟩
      · rw [below_snoc_no hx]
        exact J.out
      · intro y hy
        rcases List.mem_append.1 hy with h | h
        · exact hA.out y h
        · simp at h; subst h; exact hv
  case done =>
    rintro D ys W hD rfl ⟨hI, _⟩ hK
    have hIH := Lib.hid hI
    have hcnt : Hid (cnt b n 2048 = below n (sets b 2048)) := cnt_eq b n 2048
    have a1 := hI.blk.arr
    have a2 := hI.blk.row
    obtain ⟨j1, j2⟩ := hI.num
    obtain ⟨j3, j4⟩ := hI.ans
    obtain ⟨j5, j6⟩ := hI.sum
    have hKH := Lib.hid hK
    clear hI hK
    go_wp2_with (first | fail)
    have p1 : ∀ p : Later W, isFree p.x w.heap.size = true := fun p => (hIH.out.later p.h).blk.arr
    have p2 : ∀ p : Later W, rowOf p.x w.heap.size = blk b := fun p => (hIH.out.later p.h).blk.row
    have p3 : ∀ p : Later W, p.x.cell? ⟨w.heap.size + 1, 0, none⟩ = some (.int .i64 n) := fun p => (hIH.out.later p.h).num.1
    have p4 : ∀ p : Later W, p.x.cell? ⟨w1.heap.size + 1, 0, none⟩ = some (.int .i64 (below n (sets b 2048) : Nat)) := fun p => (hIH.out.later p.h).sum.1
    refine wp_region_head 5 (by kernel_rfl) (by kernel_rfl) ?_
    simp only [List.take_succ_cons, List.take_zero, List.drop_succ_cons, List.drop_zero]
    repeat (first | go_big_quiet_step ((go_at_call 21; exact Calls.later (bcount_c b hbH.out n _ hcnt.out _))) | quiet_step ((go_at_call 21; exact Calls.later (bcount_c b hbH.out n _ hcnt.out _))))
    refine wpQuiet_nil ?_
    rintro ⟨w2, hw2⟩
    dsimp only
    have J := Lib.hid (hIH.out.later hw2)
    obtain ⟨i3, i4⟩ := J.out.ans
    have hk2 := Lib.hid (heap_below hw2 (lt_of_heap hKH.out) hKH.out)
    clear p1 p2 p3 p4
    go_wp2
    have hne : w.heap.size + 1 + 1 ≠ D := by simp at hD; omega
    refine bodyPostM_ret (w0 := w) rfl ((heap_setCell_other _ _ _ _ (fun e => hne e.symm)).trans hk2.out) (results_cell_bool rfl _ _ (w.heap.size + 1 + 1) true rfl ?_) (J.out.bel.setCell (show w.heap.size ≤ w.heap.size + 1 + 1 by omega) _) (by simp at hD; omega) fun w' hw' => ⟨rfl, hw'⟩
    have hs := (OwnCell.set J.out.ans (.bool true)).1
    exact (World.cell?_of_block (World.putObj_heap_other hne)).trans hs
  case stop =>
    rintro D c pre W hD ⟨k, hk, rfl⟩ ⟨rfl, y, hy, hv⟩
    have := sets_lt hy
    rw [hasB_nat _ _ (by omega), this.2] at hv
    cases hv
end Go.Proofs.Ytcheogbijioadaa
