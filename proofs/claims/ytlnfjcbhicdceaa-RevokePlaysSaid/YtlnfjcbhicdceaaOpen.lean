/- A slice of records that is handed in, opened. No condition but those written. -/
import Derived.Test.YtlnfjcbhicdceaaL2
import Derived.Deep.Slices
import Derived.Test.YtlnfjcbhicdceaaRows
import Derived.ProofKit
import Derived.OpenShut
import Derived.ChangeOld
namespace Go.Proofs.Ytlnfjcbhicdceaa
open Go.ChangeShapes Go.WideShapes Go.RowKit Go.Deep
theorem own : ownKnob Try.prog.godebug = none := by kernel_rfl
theorem laidOut : laidOutB Try.prog = true := by kernel_rfl
theorem cells28 : Try.prog.cellsOf 28 = 3 := by kernel_rfl
theorem cells3' : Try.prog.cellsOf 3 = 1 := by kernel_rfl
theorem cells23' : Try.prog.cellsOf 23 = 1 := by kernel_rfl
theorem cells4' : Try.prog.cellsOf 4 = 1 := by kernel_rfl
theorem add_at (b o : Nat) (n : Nat) : (⟨b, o, none⟩ : Addr).add n = ⟨b, o + n, none⟩ := by unfold Addr.add; split <;> simp_all
theorem open_rec {H : Type} {enc : TypeId × Value → H} {W : World} {base : Nat} {sp : Nat → Bool} {held : Bool} {b o : Nat} {n i : Nat} {cs : List Value} {x : DataW H × List MemPlace}
    (h1 : W.cells? base ((⟨b, o, none⟩ : Addr).add (i * 3)) 3 = some cs) (h2 : DataW.trod enc Try.prog W base sp held n 28 cs = some x) :
    ∃ r : R3, (0 ≤ r.2.1 ∧ r.2.1 ≤ 4294967295) ∧ W.cell? ⟨b, o + i * 3, none⟩ = some (.int .i64 r.1) ∧ W.cell? ⟨b, o + i * 3 + 1, none⟩ = some (.int .u32 r.2.1) ∧ W.cell? ⟨b, o + i * 3 + 2, none⟩ = some (.bool r.2.2) := by
  obtain ⟨_, hlen, hcell⟩ := World.cells?_some h1
  obtain ⟨xs, k, hk, hxy, _, hxl, hf⟩ := DataW.trod_struct Try.underlying28 h2
  match xs, hxl, cs, hlen with
  | [y0, y1, y2], _, [v0, v1, v2], _ =>
    have g0 := hf 0 _ rfl
    have g1 := hf 1 _ rfl
    have g2 := hf 2 _ rfl
    simp [cells3', cells23', cells4'] at g0 g1 g2
    have e0 := hcell 0 (by omega)
    have e1 := hcell 1 (by omega)
    have e2 := hcell 2 (by omega)
    rw [add_at, add_at] at e0 e1 e2
    obtain ⟨z0, w0, _, _⟩ := DataW.trod_int Try.underlying3 g0
    obtain ⟨z1, w1, _, hw1⟩ := DataW.trod_int Try.underlying23 g1
    obtain ⟨z2, w2, _⟩ := DataW.trod_bool Try.underlying4 g2
    simp at w0 w1 w2
    subst w0 w1 w2
    exact ⟨(z0, z1, z2), bounds_u32 hw1, e0, e1, e2⟩
theorem open_spot {H : Type} {enc : TypeId × Value → H} {W : World} {base : Nat} {sp : Nat → Bool} {held : Bool} {a : Addr} {n : Nat} {cs : List Value} {x : DataW H × List MemPlace}
    (h1 : W.cells? base (a.add (0 * 3)) 3 = some cs) (_h2 : DataW.trod enc Try.prog W base sp held n 28 cs = some x) : a.spot = none := by
  obtain ⟨_, hlen, hcell⟩ := World.cells?_some h1
  match cs, hlen with
  | [v0, v1, v2], _ =>
    have e0 := hcell 0 (by omega)
    have := World.cell?_spot e0
    simpa [Addr.add] using this
theorem open_recs {H : Type} {enc : TypeId × Value → H} {W : World} {base : Nat} {sp : Nat → Bool} {held : Bool} {fuel len cap : Nat} {a0 : Option Addr} {x : DataW H × List MemPlace}
    (h : DataW.trod enc Try.prog W base sp held fuel 22 [.slice a0 len cap] = some x) : ∃ l : List R3, Recs W (.slice a0 len cap) l ∧ OkR l := by
  rcases open_slice Try.underlying22 h with ⟨hcs, _⟩ | ⟨a, len', cap', m, n, D, Pl, hcs, hb, hl, hm, hmm, hx, hel⟩
  · simp at hcs
    obtain ⟨rfl, rfl, rfl⟩ := hcs
    exact ⟨[], ⟨none, 0, rfl, Nat.le_refl _, by simp [maxLen], fun h => absurd h (by simp)⟩, by simp [OkR]⟩
  · simp at hcs
    obtain ⟨rfl, rfl, rfl⟩ := hcs
    rw [cells28] at hel
    have hlm : len ≤ m := by rw [hmm]; split <;> omega
    rcases Nat.eq_zero_or_pos len with h0 | hpos
    · subst h0
      exact ⟨[], ⟨some a, cap, rfl, by omega, hm, fun h => absurd h (by simp)⟩, by simp [OkR]⟩
    · obtain ⟨b, o, s⟩ := a
      obtain ⟨cs0, p1, p2⟩ := hel 0 (by omega)
      obtain rfl : s = none := open_spot p1 p2
      have each : ∀ i, i < len → ∃ r : R3, (0 ≤ r.2.1 ∧ r.2.1 ≤ 4294967295) ∧ W.cell? ⟨b, o + i * 3, none⟩ = some (.int .i64 r.1) ∧ W.cell? ⟨b, o + i * 3 + 1, none⟩ = some (.int .u32 r.2.1) ∧ W.cell? ⟨b, o + i * 3 + 2, none⟩ = some (.bool r.2.2) := by
        intro i hi
        obtain ⟨cs, q1, q2⟩ := hel i (by omega)
        exact open_rec q1 q2
      obtain ⟨q, hq⟩ := choose_lt each
      refine ⟨(List.range len).map q, ⟨some ⟨b, o, none⟩, cap, by simp, by simpa using hl, hm, fun _ => ⟨b, o, rfl, fun i r hr => ?_⟩⟩, fun r hr => ?_⟩
      · obtain ⟨hi, e⟩ := List.getElem?_eq_some_iff.1 hr
        simp at hi e
        subst e
        exact (hq i hi).2
      · obtain ⟨i, hi, rfl⟩ := List.mem_map.1 hr
        exact (hq i (List.mem_range.1 hi)).1
end Go.Proofs.Ytlnfjcbhicdceaa
