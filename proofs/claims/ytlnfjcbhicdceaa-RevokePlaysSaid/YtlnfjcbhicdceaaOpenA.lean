/- A slice of calls that is handed in, opened. No condition but those written. -/
import Derived.Test.YtlnfjcbhicdceaaL6
import Derived.Test.YtlnfjcbhicdceaaOpen
namespace Go.Proofs.Ytlnfjcbhicdceaa
open Go.ChangeShapes Go.WideShapes Go.RowKit Go.Deep
theorem cells45 : Try.prog.cellsOf 45 = 3 := by kernel_rfl
theorem cells5' : Try.prog.cellsOf 5 = 1 := by kernel_rfl
theorem open_act {H : Type} {enc : TypeId × Value → H} {W : World} {base : Nat} {sp : Nat → Bool} {held : Bool} {b o : Nat} {n i : Nat} {cs : List Value} {x : DataW H × List MemPlace}
    (h1 : W.cells? base ((⟨b, o, none⟩ : Addr).add (i * 3)) 3 = some cs) (h2 : DataW.trod enc Try.prog W base sp held n 45 cs = some x) :
    ∃ r : A3, ((0 ≤ r.1 ∧ r.1 ≤ 255) ∧ 0 ≤ r.2.2 ∧ r.2.2 ≤ 4294967295) ∧ W.cell? ⟨b, o + i * 3, none⟩ = some (.int .u8 r.1) ∧ W.cell? ⟨b, o + i * 3 + 1, none⟩ = some (.int .i64 r.2.1) ∧ W.cell? ⟨b, o + i * 3 + 2, none⟩ = some (.int .u32 r.2.2) := by
  obtain ⟨_, hlen, hcell⟩ := World.cells?_some h1
  obtain ⟨xs, k, hk, hxy, _, hxl, hf⟩ := DataW.trod_struct Try.underlying45 h2
  match xs, hxl, cs, hlen with
  | [y0, y1, y2], _, [v0, v1, v2], _ =>
    have g0 := hf 0 _ rfl
    have g1 := hf 1 _ rfl
    have g2 := hf 2 _ rfl
    simp [cells3', cells23', cells5'] at g0 g1 g2
    have e0 := hcell 0 (by omega)
    have e1 := hcell 1 (by omega)
    have e2 := hcell 2 (by omega)
    rw [add_at, add_at] at e0 e1 e2
    obtain ⟨z0, w0, _, hw0⟩ := DataW.trod_int Try.underlying5 g0
    obtain ⟨z1, w1, _, _⟩ := DataW.trod_int Try.underlying3 g1
    obtain ⟨z2, w2, _, hw2⟩ := DataW.trod_int Try.underlying23 g2
    simp at w0 w1 w2
    subst w0 w1 w2
    exact ⟨(z0, z1, z2), ⟨bounds_u8 hw0, bounds_u32 hw2⟩, e0, e1, e2⟩
theorem open_spotA {W : World} {base : Nat} {a : Addr} {cs : List Value} (h1 : W.cells? base (a.add (0 * 3)) 3 = some cs) : a.spot = none := by
  obtain ⟨_, hlen, hcell⟩ := World.cells?_some h1
  match cs, hlen with
  | [v0, v1, v2], _ =>
    have e0 := hcell 0 (by omega)
    have := World.cell?_spot e0
    simpa [Addr.add] using this
theorem open_acts {H : Type} {enc : TypeId × Value → H} {W : World} {base : Nat} {sp : Nat → Bool} {held : Bool} {fuel len cap : Nat} {a0 : Option Addr} {x : DataW H × List MemPlace}
    (h : DataW.trod enc Try.prog W base sp held fuel 37 [.slice a0 len cap] = some x) : ∃ l : List A3, Acts W (.slice a0 len cap) l ∧ OkA l := by
  rcases open_slice Try.underlying37 h with ⟨hcs, _⟩ | ⟨a, len', cap', m, n, D, Pl, hcs, hb, hl, hm, hmm, hx, hel⟩
  · simp at hcs
    obtain ⟨rfl, rfl, rfl⟩ := hcs
    exact ⟨[], ⟨none, 0, rfl, Nat.le_refl _, by simp [maxLen], fun h => absurd h (by simp)⟩, by simp [OkA]⟩
  · simp at hcs
    obtain ⟨rfl, rfl, rfl⟩ := hcs
    rw [cells45] at hel
    have hlm : len ≤ m := by rw [hmm]; split <;> omega
    rcases Nat.eq_zero_or_pos len with h0 | hpos
    · subst h0
      exact ⟨[], ⟨some a, cap, rfl, by omega, hm, fun h => absurd h (by simp)⟩, by simp [OkA]⟩
    · obtain ⟨b, o, s⟩ := a
      obtain ⟨cs0, p1, p2⟩ := hel 0 (by omega)
      obtain rfl : s = none := open_spotA p1
      have each : ∀ i, i < len → ∃ r : A3, ((0 ≤ r.1 ∧ r.1 ≤ 255) ∧ 0 ≤ r.2.2 ∧ r.2.2 ≤ 4294967295) ∧ W.cell? ⟨b, o + i * 3, none⟩ = some (.int .u8 r.1) ∧ W.cell? ⟨b, o + i * 3 + 1, none⟩ = some (.int .i64 r.2.1) ∧ W.cell? ⟨b, o + i * 3 + 2, none⟩ = some (.int .u32 r.2.2) := by
        intro i hi
        obtain ⟨cs, q1, q2⟩ := hel i (by omega)
        exact open_act q1 q2
      obtain ⟨q, hq⟩ := choose_lt each
      refine ⟨(List.range len).map q, ⟨some ⟨b, o, none⟩, cap, by simp, by simpa using hl, hm, fun _ => ⟨b, o, rfl, fun i r hr => ?_⟩⟩, fun r hr => ?_⟩
      · obtain ⟨hi, e⟩ := List.getElem?_eq_some_iff.1 hr
        simp at hi e
        subst e
        exact (hq i hi).2
      · obtain ⟨i, hi, rfl⟩ := List.mem_map.1 hr
        exact (hq i (List.mem_range.1 hi)).1
end Go.Proofs.Ytlnfjcbhicdceaa
