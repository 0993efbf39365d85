/- quernlaw04.BitsTurn returns true at every block and number. Each byte is below 256. -/
import Derived.Test.YtcheogbijioadaaBig
namespace Go.Proofs.Ytcheogbijioadaa
open Go.RowKit
attribute [local go_sem ↓] loadAt23 storeAt23
attribute [local go_sem] run_big23 run_bigst23 isFree_alloc rowOf_alloc freeObj_cells objRow_cells isFree_drew rowOf_drew isFree_set rowOf_set okRow_blk

/-- What the law holds: the block, and the two copies. -/
def T3 (w : World) (b x y : Nat → Nat) (gx gy : Nat) (W : World) : Prop :=
  HoldsB W w.heap.size b ∧ HoldsB W gx x ∧ HoldsB W gy y ∧ Below w.heap.size w W ∧ w.heap.size < gx ∧ w.heap.size < gy ∧ gx ≠ gy
theorem T3.setx {w W W' : World} {b x y c : Nat → Nat} {gx gy : Nat} (h : T3 w b x y gx gy W) (hb : Below W.heap.size (W.setRow gx (blk c)) W') : T3 w b c y gx gy W' := by
  obtain ⟨h1, h2, h3, h4, h5, h6, h7⟩ := h
  refine ⟨(h1.set_other (by omega) _).later hb h1.lt, (h2.set c).later hb h2.lt, (h3.set_other (fun e => h7 e.symm) _).later hb h3.lt, ?_, h5, h6, h7⟩
  exact (below_setRow' h4 (by omega) _).trans (hb.mono h4.size)
theorem T3.sety {w W W' : World} {b x y c : Nat → Nat} {gx gy : Nat} (h : T3 w b x y gx gy W) (hb : Below W.heap.size (W.setRow gy (blk c)) W') : T3 w b x c gx gy W' := by
  obtain ⟨h1, h2, h3, h4, h5, h6, h7⟩ := h
  refine ⟨(h1.set_other (by omega) _).later hb h1.lt, (h2.set_other h7 _).later hb h2.lt, (h3.set c).later hb h3.lt, ?_, h5, h6, h7⟩
  exact (below_setRow' h4 (by omega) _).trans (hb.mono h4.size)
theorem T3.later {w W W' : World} {b x y : Nat → Nat} {gx gy : Nat} (h : T3 w b x y gx gy W) (hb : Below W.heap.size W W') : T3 w b x y gx gy W' := by
  obtain ⟨h1, h2, h3, h4, h5, h6, h7⟩ := h
  exact ⟨h1.later hb h1.lt, h2.later hb h2.lt, h3.later hb h3.lt, h4.trans (hb.mono h4.size), h5, h6, h7⟩
theorem T3.same {w W : World} {b x y : Nat → Nat} {gx gy : Nat} (h : T3 w b x y gx gy W) : (isFree W w.heap.size = true ∧ rowOf W w.heap.size = blk b ∧ ¬ w.heap.size = W.heap.size) ∧ (isFree W gx = true ∧ rowOf W gx = blk x ∧ ¬ gx = W.heap.size) ∧ (isFree W gy = true ∧ rowOf W gy = blk y ∧ ¬ gy = W.heap.size) :=
  ⟨⟨h.1.arr, h.1.row, by have := h.1.lt; omega⟩, ⟨h.2.1.arr, h.2.1.row, by have := h.2.1.lt; omega⟩, ⟨h.2.2.1.arr, h.2.2.1.row, by have := h.2.2.1.lt; omega⟩⟩
theorem T3.grow {w W : World} {b x y : Nat → Nat} {gx gy : Nat} (h : T3 w b x y gx gy W) (o : Obj) (cs : Array Value) : T3 w b x y gx gy ((W.alloc o).setRow W.heap.size cs) := by
  obtain ⟨h1, h2, h3, h4, h5, h6, h7⟩ := h
  have l1 := h1.lt
  have l2 := h2.lt
  have l3 := h3.lt
  exact ⟨(h1.alloc o).set_other (by omega) _, (h2.alloc o).set_other (by omega) _, (h3.alloc o).set_other (by omega) _, below_setRow' (h4.alloc h4.size o) h4.size _, h5, h6, h7⟩
theorem grow_new (W : World) (b c : Nat → Nat) (t : TypeId) : HoldsB ((W.alloc (.cells (blk b) t)).setRow W.heap.size (blk c)) W.heap.size c := (HoldsB.new W b t).set c
theorem nn2 (n : Nat) : (n = n + 1 + 1) = False := eq_false (by omega)
theorem nn2' (n : Nat) : (n + 1 + 1 = n) = False := eq_false (by omega)
theorem nn1 (n : Nat) : (n = n + 1) = False := eq_false (by omega)
theorem nn1' (n : Nat) : (n + 1 = n) = False := eq_false (by omega)
attribute [local go_sem] nn1 nn1' nn2 nn2'

set_option maxRecDepth 100000 in
set_option maxHeartbeats 1000000 in
theorem turn_walk (b : Nat → Nat) (hb : ∀ i, b i < 256) (i : Int) (w : World) :
    Calls Try.prog 4 #[.agg (blk b), .int .i64 i] w fun e w' => e = .returned (.bool true) ∧ Below w.heap.size w w' := by
  have hbH := Lib.hid hb
  clear hb
  have hz := run_zero23
  have eq1 := eql23 (turned b i true) (turned b i true)
  have eq2 := eql23 (turned b i false) (turned b i false)
  rw [blkEq_refl] at eq1 eq2
  have hn := noEq23
  go_enter Try.func4, Try.ntmps4
  go_wp2
  go_region
  · refine (?h : ∀ W1, Hid (T3 w b b b (w.heap.size + 1) (w.heap.size + 1 + 1) W1) → Exit.then _ _ _ _ W1) _ ?t
    case t =>
      refine ⟨⟨by go_simp, by go_simp⟩, ⟨by go_simp, by go_simp⟩, ⟨by go_simp, by go_simp⟩, ?_, by omega, by omega, by omega⟩
      exact below_setRow' (below_setRow' (((((Below.refl _ _).alloc (Nat.le_refl _) _).alloc (by simp) _).alloc (by simp; omega) _).drew) (by omega) _) (by omega) _
    intro W1 T
    have tok1 : True := trivial
    have tok2 : True := trivial
    have tok3 : True := trivial
    go_wp2_with (first | (go_at_call 14; clear tok1; refine (set_u b hbH.out _ _ _ T.out.2.1).mono ?_; rintro e w2 ⟨rfl, hw2⟩; replace T := Lib.hid (T.out.setx hw2); obtain ⟨⟨a1, a2, n1⟩, ⟨a3, a4, n2⟩, ⟨a5, a6, n3⟩⟩ := T.out.same; clear hw2) | (go_at_call 15; clear tok2; refine (clear_u b hbH.out _ _ _ T.out.2.2.1).mono ?_; rintro e w2 ⟨rfl, hw2⟩; replace T := Lib.hid (T.out.sety hw2); obtain ⟨⟨a1, a2, n1⟩, ⟨a3, a4, n2⟩, ⟨a5, a6, n3⟩⟩ := T.out.same; clear hw2) | (go_at_call 16; clear tok3; refine (refTurn_any b hbH.out _ _ _).mono ?_; rintro e w3 ⟨rfl, hw3⟩; replace T := Lib.hid (T.out.later hw3); obtain ⟨⟨a1, a2, n1⟩, ⟨a3, a4, n2⟩, ⟨a5, a6, n3⟩⟩ := T.out.same; clear hw3))
    have V := Lib.hid (grow_new w3 (fun _ => 0) (turned b i true) 23)
    replace T := Lib.hid (T.out.grow (.cells (blk fun _ => 0) 23) (blk (turned b i true)))
    refine (refTurn_any b hbH.out _ _ _).mono ?_
    rintro e w4 ⟨rfl, hw4⟩
    replace T := Lib.hid (T.out.later hw4)
    replace V := Lib.hid (V.out.later hw4 V.out.lt)
    obtain ⟨⟨a1, a2, n1⟩, ⟨a3, a4, n2⟩, ⟨a5, a6, n3⟩⟩ := T.out.same
    have v1 := V.out.arr
    have v2 := V.out.row
    have v3 : ¬ w3.heap.size = w4.heap.size := by have := V.out.lt; omega
    clear hw4
    go_wp2_with (first | (go_at_call 14; refine (set_nil _ _).mono ?_; rintro e w5 ⟨rfl, rfl⟩) | (go_at_call 15; refine (clear_nil _ _).mono ?_; rintro e w5 ⟨rfl, rfl⟩))
    go_ret
    exact ⟨rfl, (T.out.grow _ _).2.2.2.1⟩
  · refine (?h : ∀ W1, Hid (T3 w b b b (w.heap.size + 1 + 1) (w.heap.size + 1) W1) → Exit.then _ _ _ _ W1) _ ?t
    case t =>
      refine ⟨⟨by go_simp, by go_simp⟩, ⟨by go_simp, by go_simp⟩, ⟨by go_simp, by go_simp⟩, ?_, by omega, by omega, by omega⟩
      exact below_setRow' (below_setRow' (((((Below.refl _ _).alloc (Nat.le_refl _) _).alloc (by simp) _).alloc (by simp; omega) _).drew) (by omega) _) (by omega) _
    intro W1 T
    have tok1 : True := trivial
    have tok2 : True := trivial
    have tok3 : True := trivial
    go_wp2_with (first | (go_at_call 14; clear tok1; refine (set_u b hbH.out _ _ _ T.out.2.1).mono ?_; rintro e w2 ⟨rfl, hw2⟩; replace T := Lib.hid (T.out.setx hw2); obtain ⟨⟨a1, a2, n1⟩, ⟨a3, a4, n2⟩, ⟨a5, a6, n3⟩⟩ := T.out.same; clear hw2) | (go_at_call 15; clear tok2; refine (clear_u b hbH.out _ _ _ T.out.2.2.1).mono ?_; rintro e w2 ⟨rfl, hw2⟩; replace T := Lib.hid (T.out.sety hw2); obtain ⟨⟨a1, a2, n1⟩, ⟨a3, a4, n2⟩, ⟨a5, a6, n3⟩⟩ := T.out.same; clear hw2) | (go_at_call 16; clear tok3; refine (refTurn_any b hbH.out _ _ _).mono ?_; rintro e w3 ⟨rfl, hw3⟩; replace T := Lib.hid (T.out.later hw3); obtain ⟨⟨a1, a2, n1⟩, ⟨a3, a4, n2⟩, ⟨a5, a6, n3⟩⟩ := T.out.same; clear hw3))
    have V := Lib.hid (grow_new w3 (fun _ => 0) (turned b i true) 23)
    replace T := Lib.hid (T.out.grow (.cells (blk fun _ => 0) 23) (blk (turned b i true)))
    refine (refTurn_any b hbH.out _ _ _).mono ?_
    rintro e w4 ⟨rfl, hw4⟩
    replace T := Lib.hid (T.out.later hw4)
    replace V := Lib.hid (V.out.later hw4 V.out.lt)
    obtain ⟨⟨a1, a2, n1⟩, ⟨a3, a4, n2⟩, ⟨a5, a6, n3⟩⟩ := T.out.same
    have v1 := V.out.arr
    have v2 := V.out.row
    have v3 : ¬ w3.heap.size = w4.heap.size := by have := V.out.lt; omega
    clear hw4
    go_wp2_with (first | (go_at_call 14; refine (set_nil _ _).mono ?_; rintro e w5 ⟨rfl, rfl⟩) | (go_at_call 15; refine (clear_nil _ _).mono ?_; rintro e w5 ⟨rfl, rfl⟩))
    go_ret
    exact ⟨rfl, (T.out.grow _ _).2.2.2.1⟩
end Go.Proofs.Ytcheogbijioadaa
