/- A geometry and a transaction told in short that are handed in by value, opened. No condition but those written. -/
import Derived.Test.YtdeeegodiacjgaaOpenB
import Derived.Test.YtdeeegodiacjgaaGeo
namespace Go.Proofs.Ytdeeegodiacjgaa
open Go.ChangeShapes Go.WideShapes Go.RowKit Go.Deep
theorem cells43 : Try.prog.cellsOf 43 = 4 := by kernel_rfl
set_option maxRecDepth 100000 in
theorem open_geo {H : Type} {enc : TypeId × Value → H} {W : World} {base b0 : Nat} {r : Reach} {v : Value} {d : DataW H} {p : List MemPlace} {spare : Nat → Bool} {held : Bool}
    (hv : Value.okWide Try.prog W r base 43 v) (h : DataW.Trod enc Try.prog W b0 spare held 43 v d p) : ∃ g : Ge, v = .agg (ga g) := by
  have hv' : ∃ cs, v = .agg cs ∧ cs.size = Try.prog.cellsOf 43 := by
    unfold Value.okWide at hv
    rw [Try.underlying43] at hv
    obtain ⟨cs, h1, h2, _⟩ := hv
    exact ⟨cs, h1, h2⟩
  obtain ⟨cs, rfl, hsz⟩ := hv'
  rw [cells43] at hsz
  obtain ⟨fuel, hf0⟩ := h
  obtain ⟨xs, k, hk, hxy, _, hxl, hf⟩ := DataW.trod_struct Try.underlying43 hf0
  have hcs : ∃ v0 v1 v2 v3, cs = #[v0, v1, v2, v3] := by
    match cs, hsz with
    | ⟨[v0, v1, v2, v3]⟩, _ => exact ⟨v0, v1, v2, v3, rfl⟩
  obtain ⟨v0, v1, v2, v3, rfl⟩ := hcs
  match xs, hxl with
  | [y0, y1, y2, y3], _ =>
    have g0 := hf 0 _ rfl
    have g1 := hf 1 _ rfl
    have g2 := hf 2 _ rfl
    have g3 := hf 3 _ rfl
    simp [cells3', Value.cells] at g0 g1 g2 g3
    obtain ⟨z0, w0, _, _⟩ := DataW.trod_int Try.underlying3 g0
    obtain ⟨z1, w1, _, _⟩ := DataW.trod_int Try.underlying3 g1
    obtain ⟨z2, w2, _, _⟩ := DataW.trod_int Try.underlying3 g2
    obtain ⟨z3, w3, _, _⟩ := DataW.trod_int Try.underlying3 g3
    simp at w0 w1 w2 w3
    subst w0 w1 w2 w3
    exact ⟨⟨z0, z1, z2, z3⟩, rfl⟩
set_option maxRecDepth 100000 in
theorem open_toldV {H : Type} {enc : TypeId × Value → H} {W : World} {base b0 : Nat} {r : Reach} {v : Value} {d : DataW H} {p : List MemPlace} {spare : Nat → Bool} {held : Bool}
    (hv : Value.okWide Try.prog W r base 60 v) (h : DataW.Trod enc Try.prog W b0 spare held 60 v d p) : ∃ (x : Lv) (t : Lt), v = .agg (lc x).toArray ∧ LvOk W x t := by
  have hv' : ∃ cs, v = .agg cs ∧ cs.size = Try.prog.cellsOf 60 := by
    unfold Value.okWide at hv
    rw [Try.underlying60] at hv
    obtain ⟨cs, h1, h2, _⟩ := hv
    exact ⟨cs, h1, h2⟩
  obtain ⟨cs, rfl, hsz⟩ := hv'
  rw [cells60] at hsz
  obtain ⟨fuel, hf0⟩ := h
  obtain ⟨x, ⟨t, ht⟩, hx⟩ := open_told (cs := cs.toList) (by simpa using hsz) hf0
  exact ⟨x, t, by rw [← hx], ht⟩
end Go.Proofs.Ytdeeegodiacjgaa
