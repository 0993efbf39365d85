/- quernlaw04.awake returns true. No condition. -/
import Derived.Test.YtcheogbijioadaaW10
namespace Go.Proofs.Ytcheogbijioadaa
open Go.RowKit

def k1 (j : Nat) : Nat := if j = 0 then 1 else 0
def k2 (j : Nat) : Nat := if j = 1 then 2 else k1 j
def k3 (j : Nat) : Nat := if j = 255 then 128 else k2 j
theorem k3_lt : ∀ i, k3 i < 256 := by
  intro i
  unfold k3 k2 k1
  split
  · omega
  · split
    · omega
    · split <;> omega
theorem cnt10 : cnt k3 10 2048 = 2 := by decide +kernel
theorem cnt9999 : cnt k3 9999 2048 = 3 := by decide +kernel
theorem has0 : hasB k3 0 = true := by decide
theorem has1 : hasB k3 1 = false := by decide
theorem has9 : hasB k3 9 = true := by decide
theorem has2047 : hasB k3 2047 = true := by decide
theorem has2048 : hasB k3 2048 = false := by decide
theorem kset0 : (blk fun _ => 0).setIfInBounds 0 (.int .u8 1) = blk k1 := by
  have := blk_set (fun _ => 0) 0 1 (by omega); exact this
theorem kset1 : (blk k1).setIfInBounds 1 (.int .u8 2) = blk k2 := by
  have := blk_set k1 1 2 (by omega); exact this
theorem kset255 : (blk k2).setIfInBounds 255 (.int .u8 128) = blk k3 := by
  have := blk_set k2 255 128 (by omega); exact this
theorem kget0 : (blk fun _ => 0)[0]? = some (.int .u8 0) := blk_get (fun _ => 0) 0 (by omega)
theorem kget1 : (blk k1)[1]? = some (.int .u8 0) := blk_get k1 1 (by omega)
theorem kget255 : (blk k2)[255]? = some (.int .u8 0) := blk_get k2 255 (by omega)
theorem kflip0 : (blk (flip k3 1))[0]? = some (.int .u8 3) := blk_get (flip k3 1) 0 (by omega)
theorem firstIs_one {r : Int} (h : FirstIs k3 0 2048 r) : r = 1 := by
  rcases h with ⟨_, h⟩ | ⟨h0, _, _, _, hn, h⟩
  · have := h 1 (by omega) (by omega) (by omega) (by omega)
    rw [has1] at this; cases this
  · by_cases e : r = 1
    · exact e
    · by_cases e0 : r = 0
      · subst e0; rw [has0] at hn; cases hn
      · have := h 1 (by omega) (by omega) (by omega)
        rw [has1] at this; cases this
theorem firstIs_no {r : Int} (h : FirstIs k3 9 10 r) : r = -1 := by
  rcases h with ⟨h, _⟩ | ⟨h0, h1, h2, h3, hn, h⟩
  · exact h
  · obtain rfl : r = 9 := by omega
    rw [has9] at hn; cases hn
theorem first_k (w : World) : Calls Try.prog 19 #[.agg (blk k3), .int .i64 0, .int .i64 2048] w fun e w' => e = .returned (.int .i64 1) ∧ Below w.heap.size w w' := by
  refine (first_any k3 k3_lt 0 2048 w).mono ?_
  rintro e w' ⟨r, rfl, h, hw⟩
  exact ⟨by rw [firstIs_one h], hw⟩
theorem first_k9 (w : World) : Calls Try.prog 19 #[.agg (blk k3), .int .i64 9, .int .i64 10] w fun e w' => e = .returned (.int .i64 (-1)) ∧ Below w.heap.size w w' := by
  refine (first_any k3 k3_lt 9 10 w).mono ?_
  rintro e w' ⟨r, rfl, h, hw⟩
  exact ⟨by rw [firstIs_no h], hw⟩
theorem count_k10 (w : World) : Calls Try.prog 21 #[.agg (blk k3), .int .i64 10] w fun e w' => e = .returned (.int .i64 2) ∧ Below w.heap.size w w' := by
  refine (count_any k3 k3_lt 10 w).mono ?_
  rintro e w' ⟨rfl, hw⟩
  exact ⟨by rw [cnt10]; rfl, hw⟩
theorem count_k9999 (w : World) : Calls Try.prog 21 #[.agg (blk k3), .int .i64 9999] w fun e w' => e = .returned (.int .i64 3) ∧ Below w.heap.size w w' := by
  refine (count_any k3 k3_lt 9999 w).mono ?_
  rintro e w' ⟨rfl, hw⟩
  exact ⟨by rw [cnt9999]; rfl, hw⟩
theorem set_k1 (g t : Nat) (w : World) (hg : w.heap[g]? = some (.cells (blk k3) t (0, 0))) :
    Calls Try.prog 14 #[.pointer (some ⟨g, 0, none⟩), .int .i64 1] w fun e w' => e = .returned (.bool true) ∧ Below w.heap.size (w.setRow g (blk (flip k3 1))) w' := by
  refine (set_any k3 k3_lt g t 1 w hg).mono ?_
  rintro e w' h
  unfold TurnPost at h
  rw [if_pos ⟨by omega, by omega, has1⟩] at h
  exact h
theorem set_k9 (b : Nat → Nat) (hb : ∀ i, b i < 256) (h9 : hasB b 9 = true) (g t : Nat) (w : World) (hg : w.heap[g]? = some (.cells (blk b) t (0, 0))) :
    Calls Try.prog 14 #[.pointer (some ⟨g, 0, none⟩), .int .i64 9] w fun e w' => e = .returned (.bool false) ∧ Below w.heap.size w w' := by
  refine (set_any b hb g t 9 w hg).mono ?_
  rintro e w' h
  unfold TurnPost at h
  rw [if_neg (by rw [h9]; simp)] at h
  exact h
theorem flip9 : hasB (flip k3 1) 9 = true := by decide

theorem has_k (i : Int) (w : World) : Calls Try.prog 17 #[.agg (blk k3), .int .i64 i] w fun e w' => e = .returned (.bool (hasB k3 i)) ∧ Below w.heap.size w w' := by
  refine (has_any k3 k3_lt i w).mono ?_
  rintro e w' ⟨rfl, rfl⟩
  exact ⟨rfl, (Below.refl _ _).alloc (Nat.le_refl _) _⟩
/-- The two blocks that awake holds. -/
def KX (w : World) (c : Nat → Nat) (W : World) : Prop := W.heap[w.heap.size]? = some (.cells (blk k3) 23 (0, 0)) ∧ W.heap[w.heap.size + 1]? = some (.cells (blk c) 23 (0, 0)) ∧ Below w.heap.size w W
theorem KX.later {w W W' : World} {c : Nat → Nat} (h : KX w c W) (hb : Below W.heap.size W W') : KX w c W' :=
  ⟨heap_below hb (lt_of_heap h.1) h.1, heap_below hb (lt_of_heap h.2.1) h.2.1, h.2.2.trans (hb.mono h.2.2.size)⟩
theorem KX.turned {w W W' : World} {c d : Nat → Nat} (h : KX w c W) (hb : Below W.heap.size (W.setRow (w.heap.size + 1) (blk d)) W') : KX w d W' := by
  have h1 : (W.setRow (w.heap.size + 1) (blk d)).heap[w.heap.size]? = some (.cells (blk k3) 23 (0, 0)) := by rw [setRow_other _ _ _ _ (by omega)]; exact h.1
  have h2 : (W.setRow (w.heap.size + 1) (blk d)).heap[w.heap.size + 1]? = some (.cells (blk d) 23 (0, 0)) := setRow_heap _ _ _ _ _ _ h.2.1
  have h3 : Below w.heap.size w (W.setRow (w.heap.size + 1) (blk d)) := below_setRow' h.2.2 (by omega) _
  exact ⟨heap_below hb (lt_of_heap h.1) h1, heap_below hb (lt_of_heap h.2.1) h2, h3.trans (hb.mono h.2.2.size)⟩
theorem KX.cell0 {w W : World} (h : KX w (flip k3 1) W) : W.cell? ⟨w.heap.size + 1, 0, none⟩ = some (.int .u8 3) := by
  rw [cell_of_row _ _ _ _ _ _ h.2.1]; exact kflip0

set_option maxRecDepth 100000 in
set_option maxHeartbeats 2000000 in
theorem awake_any (w : World) : Calls Try.prog 22 #[] w fun e w' => e = .returned (.bool true) ∧ Below w.heap.size w w' := by
  have hz := run_zero23
  have g0 := kget0
  have g1 := kget1
  have g2 := kget255
  have s0 := kset0
  have s1 := kset1
  have s2 := kset255
  go_enter Try.func22, Try.ntmps22
  iterate 41 go_step
  clear g0 g1 g2 s0 s1 s2
  go_step
  refine wpl_load_arr 23 _ rfl rfl _ rfl 23 (blk k3) (0, 0) (heap_at_alloc w _ _ rfl) _ _ Try.underlying23 (info23b k3) ?_
  go_wp2_with (refine wpl_store_arr 23 _ _ rfl rfl _ (blk k3) rfl rfl 23 _ (heap_at_alloc _ _ _ (by simp)) (info23b _) (by rw [blk_size, blk_size]) (blk_one _) ?_)
  clear hz
  have F : ∃ W1, W1 = ((w.alloc (.cells (blk k3) 23)).alloc (.cells (blk fun _ => 0) 23)).setRow (w.heap.size + 1) (blk k3) := ⟨_, rfl⟩
  obtain ⟨W1, hW1⟩ := F
  have F1 : Hid (KX w k3 W1) := by
    rw [hW1]
    refine ⟨?_, ?_, ?_⟩
    · rw [setRow_other _ _ _ _ (by omega)]; exact heap_past_alloc (heap_at_alloc _ _ _ rfl)
    · exact setRow_heap _ _ _ _ _ _ (heap_at_alloc _ _ _ (by simp))
    · exact below_setRow' (((Below.refl _ _).alloc (Nat.le_refl _) _).alloc (by simp) _) (by omega) _
  rw [← hW1]
  clear hW1
  have tok : True := trivial
  go_wp2_with (first | (go_at_call 14; clear tok; refine (set_k1 _ 23 _ F1.out.2.1).mono ?_; rintro e w2 ⟨rfl, hw2⟩; have G := Lib.hid (F1.out.turned hw2)) | (go_at_call 14; refine (set_k9 _ (flip_lt _ k3_lt _) flip9 _ 23 _ G.out.2.1).mono ?_; rintro e w3 ⟨rfl, hw3⟩; replace G := Lib.hid (G.out.later hw3); have i0 := has0; have i1 := has1; have i2 := has9; have i3 := has2047; have i4 := has2048) | (refine wpl_load_arr 23 _ rfl rfl _ rfl 23 (blk k3) (0, 0) G.out.1 _ _ Try.underlying23 (info23b k3) ?_) | (go_at_call 17; refine (has_k _ _).mono ?_; rintro e w4 ⟨rfl, hw4⟩; replace G := Lib.hid (G.out.later hw4); replace hc := G.out.cell0; clear hw4) | (go_at_call 19; with_reducible refine (first_k _).mono ?_; rintro e w4 ⟨rfl, hw4⟩; replace G := Lib.hid (G.out.later hw4); clear hw4) | (go_at_call 19; with_reducible refine (first_k9 _).mono ?_; rintro e w4 ⟨rfl, hw4⟩; replace G := Lib.hid (G.out.later hw4); clear hw4) | (go_at_call 21; with_reducible refine (count_k10 _).mono ?_; rintro e w4 ⟨rfl, hw4⟩; replace G := Lib.hid (G.out.later hw4); clear hw4) | (go_at_call 21; with_reducible refine (count_k9999 _).mono ?_; rintro e w4 ⟨rfl, hw4⟩; replace G := Lib.hid (G.out.later hw4); clear hw4))
  go_ret
  exact ⟨rfl, G.out.2.2⟩
end Go.Proofs.Ytcheogbijioadaa
