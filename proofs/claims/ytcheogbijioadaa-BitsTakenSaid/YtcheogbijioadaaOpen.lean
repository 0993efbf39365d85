/- A reading of an api.Block by value is a block of 256 bytes. No condition but that it is a reading. -/
import Derived.Test.YtcheogbijioadaaUtil
import Derived.Test.YtcheogbijioadaaRows
import Derived.ProofKit
import Derived.OpenShut
import Derived.ChangeOld
namespace Go.Proofs.Ytcheogbijioadaa
open Go.ChangeShapes Go.WideShapes Go.ChangeAt Go.RowKit

theorem own : ownKnob Try.prog.godebug = none := by kernel_rfl
theorem laidOut : laidOutB Try.prog = true := by kernel_rfl

def byteOf (cs : Array Value) (i : Nat) : Nat := match cs[i]? with | some (.int _ n) => n.toNat | _ => 0
theorem cells23 : Try.prog.cellsOf 23 = 256 := by kernel_rfl
theorem cells5 : Try.prog.cellsOf 5 = 1 := by kernel_rfl
theorem open_blk {H : Type} {enc : TypeId × Value → H} {W : World} {base : Nat} {r : Reach} {v : Value} {d : DataW H} {p : List MemPlace} {spare : Nat → Bool} {held : Bool} {b0 : Nat}
    (hv : Value.okWide Try.prog W r base 23 v) (h : DataW.Trod enc Try.prog W b0 spare held 23 v d p) : ∃ b : Nat → Nat, v = .agg (blk b) ∧ ∀ i, b i < 256 := by
  have hv' : ∃ cs, v = .agg cs ∧ cs.size = Try.prog.cellsOf 23 := by
    unfold Value.okWide at hv
    rw [Try.underlying23] at hv
    obtain ⟨cs, h1, h2, _⟩ := hv
    exact ⟨cs, h1, h2⟩
  obtain ⟨cs, rfl, hsz⟩ := hv'
  rw [cells23] at hsz
  obtain ⟨fuel, hf⟩ := h
  obtain ⟨xs, m, _, _, _, hlen, hel⟩ := DataW.trod_array Try.underlying23 hf
  have key : ∀ i, i < 256 → ∃ n : Int, cs[i]? = some (.int .u8 n) ∧ 0 ≤ n ∧ n < 256 := by
    intro i hi
    have h1 := hel i hi
    rw [cells5, Nat.mul_one] at h1
    have hi' : i < cs.size := by omega
    have h2 : ((Value.agg cs).cells.toList.drop i).take 1 = [cs[i]] := by
      show (cs.toList.drop i).take 1 = _
      rw [List.drop_eq_getElem_cons (by simpa using hi')]
      simp
    rw [h2] at h1
    have hx : i < xs.length := by omega
    rw [List.getElem?_eq_getElem hx] at h1
    obtain ⟨n, h3, _, h4⟩ := DataW.trod_int Try.underlying5 h1
    have hb := bounds_u8 h4
    refine ⟨n, ?_, hb.1, by omega⟩
    rw [Array.getElem?_eq_getElem hi']
    simp at h3
    rw [h3]
  refine ⟨byteOf cs, congrArg Value.agg ?_, ?_⟩
  · apply Array.ext_getElem?
    intro i
    by_cases hi : i < 256
    · obtain ⟨n, h1, h2, h3⟩ := key i hi
      rw [blk_get _ _ hi, h1]
      unfold byteOf
      rw [h1]
      simp
      omega
    · rw [Array.getElem?_eq_none (by omega), Array.getElem?_eq_none (by rw [blk_size]; omega)]
  · intro i
    unfold byteOf
    by_cases hi : i < 256
    · obtain ⟨n, h1, h2, h3⟩ := key i hi
      rw [h1]
      simp
      omega
    · rw [Array.getElem?_eq_none (by omega)]
      simp
end Go.Proofs.Ytcheogbijioadaa
