/- Steps that are handed in, opened. No condition but those written. -/
import Derived.Test.YtbcjcfjbdjdajaaOpenA
import Derived.Test.YtbcjcfjbdjdajaaC10
namespace Go.Proofs.Ytbcjcfjbdjdajaa
open Go.ChangeShapes Go.WideShapes Go.RowKit Go.Deep
theorem cells75 : Try.prog.cellsOf 75 = 3 := by kernel_rfl
theorem cells3' : Try.prog.cellsOf 3 = 1 := by kernel_rfl
theorem cells4' : Try.prog.cellsOf 4 = 1 := by kernel_rfl
theorem cells5' : Try.prog.cellsOf 5 = 1 := by kernel_rfl
theorem cells46' : Try.prog.cellsOf 46 = 1 := by kernel_rfl
section
variable {H : Type} {enc : TypeId × Value → H} {W : World} {base : Nat} {sp : Nat → Bool} {held : Bool}
set_option maxRecDepth 100000 in
theorem open_do {k : Nat} {cs : List Value} {y : DataW H × List MemPlace} (hlen : cs.length = 3) (h : DataW.trod enc Try.prog W base sp held k 75 cs = some y) : ∃ r : Dx, (r.1 < 256 ∧ r.2.2 < 4294967296 ∧ wf64 r.2.1) ∧ cs = dxc r := by
  obtain ⟨xs, k, hk, hxy, _, hxl, hf⟩ := DataW.trod_struct Try.underlying75 h
  match xs, hxl, cs, hlen with
  | [y0, y1, y2], _, [v0, v1, v2], _ =>
    have g0 := hf 0 _ rfl
    have g1 := hf 1 _ rfl
    have g2 := hf 2 _ rfl
    simp [cells3', cells46', cells5'] at g0 g1 g2
    obtain ⟨z0, w0, _, hw0⟩ := DataW.trod_int Try.underlying5 g0
    obtain ⟨z1, w1, _, hw1⟩ := DataW.trod_int Try.underlying3 g1
    obtain ⟨z2, w2, _, hw2⟩ := DataW.trod_int Try.underlying46 g2
    simp at w0 w1 w2
    subst w0 w1 w2
    have hb0 := bounds_u8 hw0
    have hb1 := bounds_i64 hw1
    have hb2 := bounds_u32 hw2
    refine ⟨(z0.toNat, z1, z2.toNat), ⟨?_, ?_, hb1⟩, ?_⟩
    · show z0.toNat < 256; omega
    · show z2.toNat < 4294967296; omega
    · unfold dxc
      show _ = [Value.int .u8 ((z0.toNat : Nat) : Int), Value.int .i64 z1, Value.int .u32 ((z2.toNat : Nat) : Int)]
      rw [Int.toNat_of_nonneg hb0.1, Int.toNat_of_nonneg hb2.1]
theorem open_dos {k : Nat} {v : Value} {y : DataW H × List MemPlace} (h : DataW.trod enc Try.prog W base sp held k 22 [v] = some y) : ∃ l : List Dx, Dxs W v l ∧ OkDx l :=
  open_sl (f := dxc) (Pr := fun r => r.1 < 256 ∧ r.2.2 < 4294967296 ∧ wf64 r.2.1) dxc_len (by omega) Try.underlying22 cells75 (fun _ _ _ hl ht => open_do hl ht) h
end
end Go.Proofs.Ytbcjcfjbdjdajaa
