/- Acts that are handed in, opened: by value, and as a slice. No condition but those written. -/
import Derived.Test.YtbcjcfjbdjdajaaOpenD
namespace Go.Proofs.Ytbcjcfjbdjdajaa
open Go.ChangeShapes Go.WideShapes Go.RowKit Go.Deep
/-- An act: its kind, its block or number, its bytes, and the cell of a slice. -/
abbrev Ax := Nat × Int × Nat × Value
def axc (x : Ax) : List Value := [.int .u8 (x.1 : Int), .int .i64 x.2.1, .int .u32 (x.2.2.1 : Int), x.2.2.2]
theorem axc_len (x : Ax) : (axc x).length = 4 := rfl
theorem cells47 : Try.prog.cellsOf 47 = 1 := by kernel_rfl
theorem cells49 : Try.prog.cellsOf 49 = 4 := by kernel_rfl
def Axs (W : World) (v : Value) (l : List Ax) : Prop := Sl W v l.length (flat axc l)
def OkAx (l : List Ax) : Prop := ∀ x ∈ l, x.1 < 256 ∧ x.2.2.1 < 4294967296 ∧ wf64 x.2.1 ∧ x.2.2.2.oneCell' = true
section
variable {H : Type} {enc : TypeId × Value → H} {W : World} {base : Nat} {sp : Nat → Bool} {held : Bool}
set_option maxRecDepth 100000 in
theorem open_act {k : Nat} {cs : List Value} {y : DataW H × List MemPlace} (hlen : cs.length = 4) (h : DataW.trod enc Try.prog W base sp held k 49 cs = some y) : ∃ r : Ax, (r.1 < 256 ∧ r.2.2.1 < 4294967296 ∧ wf64 r.2.1 ∧ r.2.2.2.oneCell' = true) ∧ cs = axc r := by
  obtain ⟨xs, k, hk, hxy, _, hxl, hf⟩ := DataW.trod_struct Try.underlying49 h
  match xs, hxl, cs, hlen with
  | [y0, y1, y2, y3], _, [v0, v1, v2, v3], _ =>
    have g0 := hf 0 _ rfl
    have g1 := hf 1 _ rfl
    have g2 := hf 2 _ rfl
    have g3 := hf 3 _ rfl
    simp [cells3', cells46', cells5', cells47] at g0 g1 g2 g3
    have hone : v3.oneCell' = true := by
      rcases open_slice Try.underlying47 g3 with ⟨hcs, _⟩ | ⟨a, len, cap, m, k, D, Pl, hcs, _⟩
      · simp at hcs; subst hcs; rfl
      · simp at hcs; subst hcs; rfl
    obtain ⟨z0, w0, _, hw0⟩ := DataW.trod_int Try.underlying5 g0
    obtain ⟨z1, w1, _, hw1⟩ := DataW.trod_int Try.underlying3 g1
    obtain ⟨z2, w2, _, hw2⟩ := DataW.trod_int Try.underlying46 g2
    simp at w0 w1 w2
    subst w0 w1 w2
    have hb0 := bounds_u8 hw0
    have hb1 := bounds_i64 hw1
    have hb2 := bounds_u32 hw2
    refine ⟨(z0.toNat, z1, z2.toNat, v3), ⟨?_, ?_, hb1, hone⟩, ?_⟩
    · show z0.toNat < 256; omega
    · show z2.toNat < 4294967296; omega
    · unfold axc
      show _ = [Value.int .u8 ((z0.toNat : Nat) : Int), Value.int .i64 z1, Value.int .u32 ((z2.toNat : Nat) : Int), v3]
      rw [Int.toNat_of_nonneg hb0.1, Int.toNat_of_nonneg hb2.1]
theorem open_acts {k : Nat} {v : Value} {y : DataW H × List MemPlace} (h : DataW.trod enc Try.prog W base sp held k 67 [v] = some y) : ∃ l : List Ax, Axs W v l ∧ OkAx l :=
  open_sl (f := axc) (Pr := fun r => r.1 < 256 ∧ r.2.2.1 < 4294967296 ∧ wf64 r.2.1 ∧ r.2.2.2.oneCell' = true) axc_len (by omega) Try.underlying67 cells49 (fun _ _ _ hl ht => open_act hl ht) h
end
set_option maxRecDepth 100000 in
theorem open_actV {H : Type} {enc : TypeId × Value → H} {W : World} {base b0 : Nat} {r : Reach} {v : Value} {d : DataW H} {p : List MemPlace} {spare : Nat → Bool} {held : Bool}
    (hv : Value.okWide Try.prog W r base 49 v) (h : DataW.Trod enc Try.prog W b0 spare held 49 v d p) : ∃ x : Ax, v = .agg (axc x).toArray := by
  have hv' : ∃ cs, v = .agg cs ∧ cs.size = Try.prog.cellsOf 49 := by
    unfold Value.okWide at hv
    rw [Try.underlying49] at hv
    obtain ⟨cs, h1, h2, _⟩ := hv
    exact ⟨cs, h1, h2⟩
  obtain ⟨cs, rfl, hsz⟩ := hv'
  rw [cells49] at hsz
  obtain ⟨fuel, hf0⟩ := h
  obtain ⟨x, _, hx⟩ := open_act (cs := cs.toList) (by simpa using hsz) hf0
  exact ⟨x, by rw [← hx]⟩
end Go.Proofs.Ytbcjcfjbdjdajaa
