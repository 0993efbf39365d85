/- quernlaw04.BitsTell returns true at any block and any numbers. Each byte is below 256. -/
import Derived.Test.YtcheogbijioadaaW11
namespace Go.Proofs.Ytcheogbijioadaa
open Go.RowKit

theorem Calls.later {P : Program} {f : FuncId} {args : Array Value} {w : World} {p : Later w} {v : Value} (h : Calls P f args p.x fun e w' => e = .returned v ∧ Below p.x.heap.size p.x w') :
    Calls P f args p.x fun e w'' => e = .returned v ∧ ∃ q : Later w, w'' = q.x :=
  h.mono fun _ w' ⟨he, hb⟩ => ⟨he, ⟨w', p.h.trans (hb.mono p.h.size)⟩, rfl⟩

/-- The answer of First, as a function. -/
def ffl (b : Nat → Nat) (lo hi : Int) : List Nat → Int
  | [] => -1
  | k :: ks => if lo ≤ (k : Int) ∧ (k : Int) < hi ∧ bv b k = false then (k : Int) else ffl b lo hi ks
def ff (b : Nat → Nat) (lo hi : Int) : Int := ffl b lo hi (List.range 2048)
theorem ffl_is {b : Nat → Nat} {lo hi r : Int} (h : FirstIs b lo hi r) (m : Nat) : ∀ k : Nat, k + m = 2048 → (r = -1 ∨ (k : Int) ≤ r) → ffl b lo hi (List.range' k m) = r := by
  induction m with
  | zero =>
    intro k hk hr
    rcases h with ⟨h, _⟩ | ⟨h0, h1, h2, h3, _⟩
    · exact h.symm
    · rcases hr with hr | hr <;> omega
  | succ m ih =>
    intro k hk hr
    rw [List.range'_succ]
    unfold ffl
    split
    · rename_i hc
      obtain ⟨a1, a2, a3⟩ := hc
      rcases h with ⟨h, hall⟩ | ⟨h0, h1, h2, h3, h4, hall⟩
      · have := hall k (by omega) a1 a2 (by omega)
        rw [hasB_nat _ _ (by omega), a3] at this
        cases this
      · by_cases e : r = k
        · exact e.symm
        · have := hall k (by omega) a1 (by rcases hr with hr | hr <;> omega)
          rw [hasB_nat _ _ (by omega), a3] at this
          cases this
    · rename_i hc
      refine ih (k + 1) (by omega) ?_
      rcases h with ⟨h, hall⟩ | ⟨h0, h1, h2, h3, h4, hall⟩
      · exact .inl h
      · refine .inr ?_
        by_cases e : r = k
        · exfalso
          apply hc
          subst e
          rw [hasB_nat _ _ (by omega)] at h4
          exact ⟨h1, h2, h4⟩
        · rcases hr with hr | hr <;> omega
theorem ff_is {b : Nat → Nat} {lo hi r : Int} (h : FirstIs b lo hi r) : ff b lo hi = r := by
  unfold ff
  rw [List.range_eq_range']
  exact ffl_is h 2048 0 (by omega) (by rcases h with ⟨h, _⟩ | ⟨h0, _⟩ <;> omega)
theorem first_f (b : Nat → Nat) (hb : ∀ i, b i < 256) (lo hi : Int) (w : World) :
    Calls Try.prog 19 #[.agg (blk b), .int .i64 lo, .int .i64 hi] w fun e w' => e = .returned (.int .i64 (ff b lo hi)) ∧ Below w.heap.size w w' := by
  refine (first_any b hb lo hi w).mono ?_
  rintro e w' ⟨r, rfl, h, hw⟩
  exact ⟨by rw [ff_is h], hw⟩
theorem refFirst_f (b : Nat → Nat) (hb : ∀ i, b i < 256) (lo hi : Int) (w : World) :
    Calls Try.prog 20 #[.agg (blk b), .int .i64 lo, .int .i64 hi] w fun e w' => e = .returned (.int .i64 (ff b lo hi)) ∧ Below w.heap.size w w' := by
  refine (refFirst_any b hb lo hi w).mono ?_
  rintro e w' ⟨r, rfl, h, hw⟩
  exact ⟨by rw [ff_is h], hw⟩
theorem has_b (b : Nat → Nat) (hb : ∀ i, b i < 256) (i : Int) (w : World) :
    Calls Try.prog 17 #[.agg (blk b), .int .i64 i] w fun e w' => e = .returned (.bool (hasB b i)) ∧ Below w.heap.size w w' := by
  refine (has_any b hb i w).mono ?_
  rintro e w' ⟨rfl, rfl⟩
  exact ⟨rfl, (Below.refl _ _).alloc (Nat.le_refl _) _⟩

set_option maxRecDepth 100000 in
set_option maxHeartbeats 1000000 in
theorem tell_walk (b : Nat → Nat) (hb : ∀ i, b i < 256) (i lo hi : Int) (w : World) :
    Calls Try.prog 5 #[.agg (blk b), .int .i64 i, .int .i64 lo, .int .i64 hi] w fun e w' => e = .returned (.bool true) ∧ Below w.heap.size w w' := by
  have hbH := Lib.hid hb
  clear hb
  go_enter Try.func5, Try.ntmps5
  go_wp2
  have f1 : (w.alloc (.cells (blk b) 23)).heap[w.heap.size]? = some (.cells (blk b) 23 (0, 0)) := heap_at_alloc _ _ _ rfl
  have F1 := Lib.hid f1
  clear f1
  refine wp_region_later (by kernel_rfl) (by kernel_rfl) ?_
  repeat (first | (refine wpq_load_arr 23 _ rfl rfl _ rfl 23 (blk b) (0, 0) (by rintro _ ⟨p, rfl⟩; exact heap_below p.h (lt_of_heap F1.out) F1.out) _ _ Try.underlying23 (info23b _) ?_) | quiet_step ((first | (go_at_call 17; exact Calls.later (has_b b hbH.out _ _)) | (go_at_call 18; exact Calls.later (refHas_any b hbH.out _ _)) | (go_at_call 19; exact Calls.later (first_f b hbH.out _ _ _)) | (go_at_call 20; exact Calls.later (refFirst_f b hbH.out _ _ _)) | (go_at_call 21; exact Calls.later (count_any b hbH.out _ _)) | (go_at_call 13; exact Calls.later (refCount_any b hbH.out _ _)))))
  refine wpQuiet_nil ?_
  rintro ⟨w2, hw2⟩
  dsimp only
  go_wp2
  go_ret
  exact ⟨rfl, ((Below.refl _ _).alloc (Nat.le_refl _) _).trans (hw2.mono (by simp))⟩
end Go.Proofs.Ytcheogbijioadaa
