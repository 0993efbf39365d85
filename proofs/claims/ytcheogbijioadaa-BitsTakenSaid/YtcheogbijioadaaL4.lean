/- quernlaw04.BitsLeast returns true at every block and two numbers. Each byte is below 256. -/
import Derived.Test.YtcheogbijioadaaL3
namespace Go.Proofs.Ytcheogbijioadaa
open Go.RowKit
attribute [local go_sem ↓] loadAt23 storeAt23
attribute [local go_sem] run_big23 run_bigst23 isFree_alloc rowOf_alloc freeObj_cells objRow_cells isFree_drew rowOf_drew isFree_set rowOf_set okRow_blk nn1 nn1' nn2 nn2'

def LRel (b : Nat → Nat) (lo : Int) (w : World) (v : Value) (wr : World) : Prop := ∃ k : Int, v = .int .i64 k ∧ 0 ≤ k ∧ lo ≤ k ∧ HoldsB wr w.heap.size b ∧ Below w.heap.size w wr
theorem LRel.next {b : Nat → Nat} {lo k : Int} {w wr wr' : World} (h0 : 0 ≤ k) (h1 : lo ≤ k) (hH : HoldsB wr w.heap.size b) (hB : Below w.heap.size w wr) (hb : Below wr.heap.size wr wr') : LRel b lo w (.int .i64 (k + 1)) wr' :=
  ⟨k + 1, rfl, by omega, by omega, hH.later hb hH.lt, hB.trans (hb.mono hB.size)⟩
theorem below_box {w w1 : World} {b : Nat → Nat} (h : Below (w.alloc (.cells (blk b) 23)).heap.size (w.alloc (.cells (blk b) 23)) w1) : HoldsB w1 w.heap.size b ∧ Below w.heap.size w w1 :=
  ⟨(HoldsB.new w b 23).later h (by simp), ((Below.refl _ _).alloc (Nat.le_refl _) _).trans (h.mono (by simp))⟩
theorem later_box {w w1 w2 : World} {b : Nat → Nat} (h : HoldsB w1 w.heap.size b ∧ Below w.heap.size w w1) (hb : Below w1.heap.size w1 w2) : HoldsB w2 w.heap.size b ∧ Below w.heap.size w w2 :=
  ⟨h.1.later hb h.1.lt, h.2.trans (hb.mono h.2.size)⟩

set_option maxRecDepth 100000 in
set_option maxHeartbeats 2000000 in
theorem least_walk (b : Nat → Nat) (hb : ∀ i, b i < 256) (lo hi : Int) (w : World) :
    Calls Try.prog 7 #[.agg (blk b), .int .i64 lo, .int .i64 hi] w fun e w' => e = .returned (.bool true) ∧ Below w.heap.size w w' := by
  have hbH := Lib.hid hb
  clear hb
  by_cases hlo : lo < 0
  all_goals
    go_enter Try.func7, Try.ntmps7
    go_wp2_with (go_at_call 22; refine (awake_any _).mono ?_; rintro e w1 ⟨rfl, hw1⟩; have T := Lib.hid (below_box hw1); have s1 := T.out.1.arr; have s2 := T.out.1.row; clear hw1)
    refine (first_any b hbH.out _ _ _).mono ?_
    rintro e w2 ⟨r, rfl, hr, hw2⟩
    replace T := Lib.hid (later_box T.out hw2)
    clear hw2 s1 s2
    have s1 := T.out.1.arr
    have s2 := T.out.1.row
    have hR := Lib.hid hr
    clear hr
    by_cases hneg : r < 0
    · obtain ⟨rfl, hall⟩ : r = -1 ∧ ∀ i, 0 ≤ i → lo ≤ i → i < hi → i < 2048 → hasB b i = true := by
        rcases hR.out with h | h
        · exact h
        · omega
      have hA := Lib.hid hall
      clear hall hR
      by_cases hm : 2048 < hi
      all_goals
        go_wp2
        go_loopw [9] (fun v wr => LRel b lo w v wr) (fun v _ => (2048 - intOf v).toNat)
        case atStart => exact ⟨_, rfl, by omega, by omega, T.out⟩
        case round =>
          obtain ⟨k, rfl, hk0, hk1, hH, hB⟩ := hrel
          have a1 := hH.arr
          have a2 := hH.row
          by_cases hlt : k < hi ∧ k < 2048
          · obtain ⟨h3, h4⟩ := hlt
            have hv : hasB b k = true := hA.out k hk0 hk1 h3 h4
            go_wp2_with (go_at_call 17; refine (has_b b hbH.out _ _).mono ?_; rintro e w4 ⟨rfl, hw4⟩; have hN := Lib.hid (LRel.next hk0 hk1 hH hB hw4); clear hw4)
            exact ⟨hN.out, by simp [intOf]; omega⟩
          · go_wp2
            go_ret
            exact ⟨rfl, hB⟩
    · obtain ⟨h0, h1, h2, h3, h4, hall⟩ : 0 ≤ r ∧ lo ≤ r ∧ r < hi ∧ r < 2048 ∧ hasB b r = false ∧ ∀ i, 0 ≤ i → lo ≤ i → i < r → hasB b i = true := by
        rcases hR.out with h | h
        · omega
        · exact h
      have hA := Lib.hid hall
      have d1 : decide (r < lo) = false := by simpa using h1
      have d2 : decide (hi ≤ r) = false := by simpa using h2
      have d3 : decide (0 ≤ r) = true := by simpa using h0
      clear hall hR
      go_wp2_with (go_at_call 17; refine (has_b b hbH.out _ _).mono ?_; rintro e w3 ⟨rfl, hw3⟩; replace T := Lib.hid (later_box T.out hw3); clear hw3)
      go_loopw [9] (fun v wr => LRel b lo w v wr) (fun v _ => (2048 - intOf v).toNat)
      case atStart => exact ⟨_, rfl, by omega, by omega, T.out⟩
      case round =>
        obtain ⟨k, rfl, hk0, hk1, hH, hB⟩ := hrel
        have a1 := hH.arr
        have a2 := hH.row
        by_cases hlt : k < r
        · have hv : hasB b k = true := hA.out k hk0 hk1 hlt
          go_wp2_with (go_at_call 17; refine (has_b b hbH.out _ _).mono ?_; rintro e w4 ⟨rfl, hw4⟩; have hN := Lib.hid (LRel.next hk0 hk1 hH hB hw4); clear hw4)
          exact ⟨hN.out, by simp [intOf]; omega⟩
        · go_wp2
          go_ret
          exact ⟨rfl, hB⟩
end Go.Proofs.Ytcheogbijioadaa
