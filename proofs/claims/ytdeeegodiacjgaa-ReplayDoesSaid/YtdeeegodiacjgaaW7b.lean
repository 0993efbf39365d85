/- sort.Ints at a slice that the call owns. No condition but its length. -/
import Derived.Test.YtdeeegodiacjgaaW7
namespace Go.Proofs.Ytdeeegodiacjgaa
open Go.RowKit Go.Sort
def sortI (ks : List Int) : List Int := ks.mergeSort fun x y => decide (x ≤ y)
theorem sortI_len (ks : List Int) : (sortI ks).length = ks.length := List.length_mergeSort ks
theorem flat_ic (ks : List Int) : flat ic ks = ks.map (Value.int .i64) := by
  induction ks with
  | nil => rfl
  | cons a l ih => rw [List.map_cons, ← ih]; rfl
theorem ints_own (base : Nat) (v : Value) (ks : List Int) (w : World) (h : w.ownsRow base 3 1 v ks.length (flat ic ks)) (hl : ks.length ≤ 4000000000) :
    Calls Try.prog 36 #[v] w fun e w' => e = .returned (.tuple #[]) ∧ w'.ownsRow base 3 1 v ks.length (flat ic (sortI ks)) ∧ w.grownBy w' v.ownBlock := by
  rcases h.2 with ⟨hv, hk0⟩ | ⟨r, cap, cur, hv, hbase, hb, h1, h2, h3, h4⟩
  · subst hv
    obtain rfl : ks = [] := List.eq_nil_of_length_eq_zero hk0
    refine (Try.sort_Ints_none none 0 _).mono ?_
    rintro e w' ⟨rfl, rfl⟩
    refine ⟨rfl, ?_, World.grownBy.refl _ _⟩
    have : sortI [] = [] := by simp [sortI]
    rw [this]
    exact h
  · subst hv
    have hH : Holds (Value.int .i64) w r 0 ks.toArray := holds_of_blockI hb (by rw [← flat_ic]; simpa using h4)
    have hgl : r < w.heap.size := (Array.getElem?_eq_some_iff.1 hb).1
    refine (Try.sort_Ints r 0 cap ks w hH hgl (by omega)).mono ?_
    rintro e w' ⟨rfl, nn, os, rfl⟩
    refine ⟨rfl, ?_, grownBy_sortedI (sortI ks).toArray⟩
    rw [flat_ic]
    exact ownsRow_sortedI (n := nn) (os := os) (ts := sortI ks) (sortI_len ks) hbase hb h1 h2 h3
end Go.Proofs.Ytdeeegodiacjgaa
