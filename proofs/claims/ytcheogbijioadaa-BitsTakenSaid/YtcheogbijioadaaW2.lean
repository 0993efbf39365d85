/- What bits.First does at any block and any numbers. No condition but that each byte is below 256. -/
import Derived.Test.YtcheogbijioadaaW1
namespace Go.Proofs.Ytcheogbijioadaa
open Go.RowKit

theorem info23 : (Try.prog.info? 23).map (·.size) = some 256 := by kernel_rfl
theorem info23b (b : Nat → Nat) : (Try.prog.info? 23).map (·.size) = some (blk b).size := by rw [blk_size]; exact info23

/-- What First tells. -/
def FirstIs (b : Nat → Nat) (lo hi r : Int) : Prop :=
  (r = -1 ∧ ∀ i, 0 ≤ i → lo ≤ i → i < hi → i < 2048 → hasB b i = true) ∨
  (0 ≤ r ∧ lo ≤ r ∧ r < hi ∧ r < 2048 ∧ hasB b r = false ∧ ∀ i, 0 ≤ i → lo ≤ i → i < r → hasB b i = true)
def FirstPost (b : Nat → Nat) (lo hi : Int) (w : World) (e : Ending) (w' : World) : Prop := ∃ r, e = .returned (.int .i64 r) ∧ FirstIs b lo hi r ∧ Below w.heap.size w w'
def AllSet (b : Nat → Nat) (lo k : Int) : Prop := ∀ i, 0 ≤ i → lo ≤ i → i < k → hasB b i = true
def FRel (b : Nat → Nat) (lo : Int) (w : World) (k : Int) (wr : World) : Prop := AllSet b lo k ∧ Below w.heap.size w wr ∧ wr.heap[w.heap.size]? = some (.cells (blk b) 23 (0, 0))

theorem FRel.next {b : Nat → Nat} {lo : Int} {w wr w' : World} {k : Int} (h : FRel b lo w k wr) (hb : hasB b k = true) (hw : w' = wr.alloc (.cells (blk b) 23)) : FRel b lo w (k + 1) w' := by
  subst hw
  refine ⟨fun i h0 h1 h2 => ?_, h.2.1.alloc h.2.1.size _, heap_past_alloc h.2.2⟩
  by_cases e : i = k
  · rw [e]; exact hb
  · exact h.1 i h0 h1 (by omega)

def FirstInv (b : Nat → Nat) (lo : Int) (w : World) (v : Value) (wr : World) : Prop := ∃ k : Int, v = .int .i64 k ∧ 0 ≤ k ∧ lo ≤ k ∧ FRel b lo w k wr

set_option maxHeartbeats 1000000 in
theorem first_any (b : Nat → Nat) (hb : ∀ i, b i < 256) (lo hi : Int) (w : World) :
    Calls Try.prog 19 #[.agg (blk b), .int .i64 lo, .int .i64 hi] w (FirstPost b lo hi w) := by
  have hbH : Hid (∀ i, b i < 256) := hb
  clear hb
  by_cases hl : lo < 0
  all_goals
    go_enter Try.func19, Try.ntmps19
    go_wp2
    go_loopw [7] (fun v wr => FirstInv b lo w v wr) (fun v _ => (2048 - intOf v).toNat)
    case atStart =>
      refine ⟨_, rfl, by omega, by omega, fun i h0 h1 h2 => by omega, (Below.refl _ _).alloc (Nat.le_refl _) _, heap_at_alloc _ _ _ rfl⟩
    case round =>
      obtain ⟨k, rfl, hk0, hk1, hR⟩ := hrel
      by_cases h2 : k < hi ∧ k < 2048
      · obtain ⟨h3, h4⟩ := h2
        go_wp2_with (first | (refine wpl_load_arr 23 _ rfl rfl _ rfl 23 (blk b) (0, 0) hR.2.2 _ _ Try.underlying23 (info23b b) ?_) | (go_at_call 17; refine (has_any b hbH.out _ _).mono ?_; rintro e w' ⟨rfl, hw⟩))
        all_goals first
          | (go_ret; exact ⟨k, rfl, .inr ⟨hk0, hk1, h3, h4, by simpa using ‹(!hasB b k) = true›, hR.1⟩, by subst hw; exact hR.2.1.alloc hR.2.1.size _⟩)
          | (refine ⟨⟨k + 1, rfl, by omega, by omega, hR.next (by simpa using ‹(!hasB b k) = false›) rfl⟩, by simp [intOf]; omega⟩)
      · go_wp2
        all_goals
          go_ret
          exact ⟨-1, rfl, .inl ⟨rfl, fun i a b c d => hR.1 i a b (by omega)⟩, hR.2.1⟩

end Go.Proofs.Ytcheogbijioadaa
