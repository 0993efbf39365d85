/- What bits.Set and bits.Clear do at a nil pointer, and at a pointer to any block. Each byte is below 256. -/
import Derived.Test.YtcheogbijioadaaW4
namespace Go.Proofs.Ytcheogbijioadaa
open Go.RowKit

/-- What Set and Clear do: the bit is turned if it was not so. -/
def TurnPost (b : Nat → Nat) (g : Nat) (i : Int) (s : Bool) (w : World) (e : Ending) (w' : World) : Prop :=
  if 0 ≤ i ∧ i < 2048 ∧ hasB b i = s then e = .returned (.bool true) ∧ Below w.heap.size (w.setRow g (blk (flip b i.toNat))) w'
  else e = .returned (.bool false) ∧ Below w.heap.size w w'

theorem turn_any (b : Nat → Nat) (hb : ∀ i, b i < 256) (g t : Nat) (i : Int) (s : Bool) (w : World) (hg : w.heap[g]? = some (.cells (blk b) t (0, 0))) :
    Calls Try.prog 24 #[.pointer (some ⟨g, 0, none⟩), .int .i64 i, .bool s] w (TurnPost b g i s w) := by
  by_cases h : 0 ≤ i ∧ i < 2048
  · by_cases hs : hasB b i = s
    · refine (turn_yes b hb g t i s w h.1 h.2 hg hs).mono ?_
      rintro e w' h'
      unfold TurnPost
      rw [if_pos ⟨h.1, h.2, hs⟩]
      exact h'
    · refine (turn_no b hb g t i s w h.1 h.2 hg (by cases s <;> simpa using hs)).mono ?_
      rintro e w' h'
      unfold TurnPost
      rw [if_neg (by rintro ⟨_, _, h3⟩; exact hs h3)]
      exact h'
  · refine (turn_out g i s w (by omega)).mono ?_
    rintro e w' ⟨rfl, rfl⟩
    unfold TurnPost
    rw [if_neg (by rintro ⟨h1, h2, _⟩; exact h ⟨h1, h2⟩)]
    exact ⟨rfl, Below.refl _ _⟩

def RetPost (Q : Ending → World → Prop) (e : Ending) (w' : World) : Prop := ∃ v, e = .returned v ∧ Q e w'
theorem turn_ret (b : Nat → Nat) (hb : ∀ i, b i < 256) (g t : Nat) (i : Int) (s : Bool) (w : World) (hg : w.heap[g]? = some (.cells (blk b) t (0, 0))) :
    Calls Try.prog 24 #[.pointer (some ⟨g, 0, none⟩), .int .i64 i, .bool s] w fun e w' => ∃ r, e = .returned (.bool r) ∧ TurnPost b g i s w (.returned (.bool r)) w' := by
  refine (turn_any b hb g t i s w hg).mono ?_
  rintro e w' h
  unfold TurnPost at h
  split at h
  · rename_i hc; obtain ⟨rfl, h⟩ := h; exact ⟨true, rfl, by unfold TurnPost; rw [if_pos hc]; exact ⟨rfl, h⟩⟩
  · rename_i hc; obtain ⟨rfl, h⟩ := h; exact ⟨false, rfl, by unfold TurnPost; rw [if_neg hc]; exact ⟨rfl, h⟩⟩

theorem set_any (b : Nat → Nat) (hb : ∀ i, b i < 256) (g t : Nat) (i : Int) (w : World) (hg : w.heap[g]? = some (.cells (blk b) t (0, 0))) :
    Calls Try.prog 14 #[.pointer (some ⟨g, 0, none⟩), .int .i64 i] w (TurnPost b g i false w) := by
  have hbH := Lib.hid hb
  have hG := Lib.hid hg
  clear hb hg
  go_enter Try.func14, Try.ntmps14
  go_wp2_with (go_at_call 24; refine (turn_ret b hbH.out g t _ _ _ hG.out).mono ?_; rintro e w' ⟨r, rfl, hr⟩)
  go_ret
  exact hr
theorem clear_any (b : Nat → Nat) (hb : ∀ i, b i < 256) (g t : Nat) (i : Int) (w : World) (hg : w.heap[g]? = some (.cells (blk b) t (0, 0))) :
    Calls Try.prog 15 #[.pointer (some ⟨g, 0, none⟩), .int .i64 i] w (TurnPost b g i true w) := by
  have hbH := Lib.hid hb
  have hG := Lib.hid hg
  clear hb hg
  go_enter Try.func15, Try.ntmps15
  go_wp2_with (go_at_call 24; refine (turn_ret b hbH.out g t _ _ _ hG.out).mono ?_; rintro e w' ⟨r, rfl, hr⟩)
  go_ret
  exact hr
theorem set_nil (i : Int) (w : World) : Calls Try.prog 14 #[.pointer none, .int .i64 i] w fun e w' => e = .returned (.bool false) ∧ w = w' := by
  go_enter Try.func14, Try.ntmps14
  go_wp2_with (go_at_call 24; refine (turn_nil _ _ _).mono ?_; rintro e w' ⟨rfl, rfl⟩)
  go_ret
  exact ⟨rfl, rfl⟩
theorem clear_nil (i : Int) (w : World) : Calls Try.prog 15 #[.pointer none, .int .i64 i] w fun e w' => e = .returned (.bool false) ∧ w = w' := by
  go_enter Try.func15, Try.ntmps15
  go_wp2_with (go_at_call 24; refine (turn_nil _ _ _).mono ?_; rintro e w' ⟨rfl, rfl⟩)
  go_ret
  exact ⟨rfl, rfl⟩
end Go.Proofs.Ytcheogbijioadaa
