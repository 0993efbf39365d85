/- Slices that are handed in, opened. No condition but those written. -/
import Derived.Test.YtbcjcfjbdjdajaaRow
import Derived.Deep.Slices
import Derived.Test.YtbcjcfjbdjdajaaRows
import Derived.ProofKit
import Derived.OpenShut
import Derived.ChangeOld
namespace Go.Proofs.Ytbcjcfjbdjdajaa
open Go.ChangeShapes Go.WideShapes Go.RowKit Go.Deep
theorem own : ownKnob Try.prog.godebug = none := by kernel_rfl
theorem laidOut : laidOutB Try.prog = true := by kernel_rfl
theorem add_at (b o : Nat) (n : Nat) : (⟨b, o, none⟩ : Addr).add n = ⟨b, o + n, none⟩ := by unfold Addr.add; split <;> simp_all
theorem open_sl {α : Type} [Inhabited α] {f : α → List Value} {Pr : α → Prop} {T E : TypeId} {n : Nat} {H : Type} {enc : TypeId × Value → H} {W : World} {base : Nat} {sp : Nat → Bool} {held : Bool} {fuel : Nat} {v : Value} {x : DataW H × List MemPlace}
    (hf : ∀ x, (f x).length = n) (hn : 0 < n) (hT : Try.prog.underlying T = some (.slice E)) (hE : Try.prog.cellsOf E = n)
    (each : ∀ (cs : List Value) (k : Nat) (y : DataW H × List MemPlace), cs.length = n → DataW.trod enc Try.prog W base sp held k E cs = some y → ∃ r : α, Pr r ∧ cs = f r)
    (h : DataW.trod enc Try.prog W base sp held fuel T [v] = some x) : ∃ l : List α, Sl W v l.length (flat f l) ∧ ∀ r ∈ l, Pr r := by
  rcases open_slice hT h with ⟨hcs, _⟩ | ⟨a, len, cap, m, k, D, Pl, hcs, hb, hl, hm, hmm, hx, hel⟩
  · simp at hcs
    subst hcs
    exact ⟨[], Sl.nil W, by simp⟩
  · simp at hcs
    subst hcs
    rw [hE] at hel
    have hlm : len ≤ m := by rw [hmm]; split <;> omega
    rcases Nat.eq_zero_or_pos len with h0 | hpos
    · subst h0
      exact ⟨[], ⟨some a, cap, rfl, by simp, hm, fun h => absurd h (by simp [flat]), fun e => by cases e⟩, by simp⟩
    · obtain ⟨b, o, s⟩ := a
      have hs : s = none := by
        obtain ⟨cs0, p1, p2⟩ := hel 0 (by omega)
        obtain ⟨_, hlen, hcell⟩ := World.cells?_some p1
        have e0 := hcell 0 (by omega)
        rw [List.getElem?_eq_getElem (by omega)] at e0
        have := World.cell?_spot e0
        simpa [Addr.add] using this
      subst hs
      have each' : ∀ i, i < len → ∃ r : α, Pr r ∧ W.rangeAt b (o + i * n) (f r) := by
        intro i hi
        obtain ⟨cs, q1, q2⟩ := hel i (by omega)
        obtain ⟨_, hlen, hcell⟩ := World.cells?_some q1
        obtain ⟨r, hr, rfl⟩ := each cs _ _ hlen q2
        refine ⟨r, hr, fun j u hj => ?_⟩
        have hjn : j < n := by rw [← hf r]; exact (List.getElem?_eq_some_iff.1 hj).1
        have e0 := hcell j hjn
        rw [add_at, add_at] at e0
        rw [e0, hj]
      obtain ⟨q, hq⟩ := choose_lt each'
      refine ⟨(List.range len).map q, ⟨some ⟨b, o, none⟩, cap, by simp, by simpa using hl, hm, fun _ => ⟨b, o, rfl, ?_, ?_⟩, fun e => by cases e⟩, fun r hr => ?_⟩
      · have := (hq 0 hpos).2 0 _ (List.getElem?_eq_getElem (by rw [hf]; omega))
        exact World.block_lt_of_cell? W _ this
      · intro j u hj
        have hjl : j < len * n := by
          have := (List.getElem?_eq_some_iff.1 hj).1
          rw [flat_len hf] at this
          simpa using this
        have hi : j / n < len := (Nat.div_lt_iff_lt_mul hn).2 hjl
        have hdm : j / n * n + j % n = j := by rw [Nat.mul_comm]; exact Nat.div_add_mod j n
        have hg := flat_get hf (l := (List.range len).map q) (i := j / n) (x := q (j / n)) (by simp [hi]) (j % n) (Nat.mod_lt _ hn)
        rw [hdm] at hg
        rw [hg] at hj
        have := (hq _ hi).2 _ _ hj
        rw [Nat.add_assoc, hdm] at this
        exact this
      · obtain ⟨i, hi, rfl⟩ := List.mem_map.1 hr
        exact (hq i (List.mem_range.1 hi)).1
end Go.Proofs.Ytbcjcfjbdjdajaa
