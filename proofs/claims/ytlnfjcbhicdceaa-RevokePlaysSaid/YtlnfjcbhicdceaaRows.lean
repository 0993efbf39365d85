/-
  No cell of these rows narrows 'for every input' (looked for: loops, veiled, ifaces, maps, wideKeys, modest, calm, conditions, laid).
  DERIVED. THE GIVEN ROWS OF THIS SEAT. 6 by the template 'for every input the law returns true; each argument reads behind the call as it read before'; 0 by the template 'total and deterministic' (their statements: YtlnfjcbhicdceaaTotals.lean).
  GIVEN WITH THE SEED: the statements are not yours to turn. If you find one false, say at which input.
  Laid BY PROGRAM, IN A SANDBOX (cutbox-rows.mjs): the forced cells as the released guide's own fill.sh prints them over the translation 7ff2e9d05275e942… (all of the seat's roots in one cut). By AI agents, Wed Nov 11 2026. No macro, syntax, notation, axiom, sorry.
-/
import Derived.Test.YtlnfjcbhicdceaaChecked
import GoSem.Claim
import GoSem.ClaimJoined
import GoSem.ClaimMapViews
import Derived.JoinedTies
import Derived.KernelRfl
namespace Go.Proofs.Ytlnfjcbhicdceaa
/- THE CELL 'sum', in the pinned program and in every row, IS THE sha256 OF THE DUMP (.gsa) THAT YtlnfjcbhicdceaaProg.lean LOADS. Nothing in Lean hashes anything: it is a label: what it is worth is what the hold of that sum in a sandbox is worth. -/
noncomputable def Try.pinned : Pinned := { name := "ytlnfjcbhicdceaa", sum := "7ff2e9d05275e9421476c86b019c9c8be078713ae713a26e4a956ca8d8ff7436", checked := Try.checked }
namespace Rows
def none {H : Type} : Left H := { results := [], args := [] }

/-- 'quernlaw13.RevokeLast': WHATEVER THE INPUT: true; the input reads as it did. -/
def revokeLastSpec : ChangeSpec := { name := "revokeLast", fn := fun _ => fun
  | [d1, d2, d3] => { results := [.lit (.bool true)], args := [d1, d2, d3] }
  | _ => none }
def revokeLastRow : OpenClaim := { program := "ytlnfjcbhicdceaa", sum := "7ff2e9d05275e9421476c86b019c9c8be078713ae713a26e4a956ca8d8ff7436", func := "quern/quernlaw13.RevokeLast", spec := "revokeLast", plainKeys := false, apart := false }
def RevokeLastSaid : Prop := revokeLastRow.holds Try.pinned (OpenSpec.ofChange revokeLastSpec)

/-- ITS FALSE NEIGHBOUR: 'it returns false'. Refute it at one input. -/
def revokeLastWrong : ChangeSpec := { name := "revokeLast", fn := fun _ => fun
  | [d1, d2, d3] => { results := [.lit (.bool false)], args := [d1, d2, d3] }
  | _ => none }
def RevokeLastWrongFalsely : Prop := revokeLastRow.holds Try.pinned (OpenSpec.ofChange revokeLastWrong)

/-- 'quernlaw13.RevokeOf': WHATEVER THE INPUT: true; the input reads as it did. -/
def revokeOfSpec : ChangeSpec := { name := "revokeOf", fn := fun _ => fun
  | [d1, d2] => { results := [.lit (.bool true)], args := [d1, d2] }
  | _ => none }
def revokeOfRow : OpenClaim := { program := "ytlnfjcbhicdceaa", sum := "7ff2e9d05275e9421476c86b019c9c8be078713ae713a26e4a956ca8d8ff7436", func := "quern/quernlaw13.RevokeOf", spec := "revokeOf", recurses := true, plainKeys := false, apart := false }
def RevokeOfSaid : Prop := revokeOfRow.holds Try.pinned (OpenSpec.ofChange revokeOfSpec)

/-- ITS FALSE NEIGHBOUR: 'it returns false'. Refute it at one input. -/
def revokeOfWrong : ChangeSpec := { name := "revokeOf", fn := fun _ => fun
  | [d1, d2] => { results := [.lit (.bool false)], args := [d1, d2] }
  | _ => none }
def RevokeOfWrongFalsely : Prop := revokeOfRow.holds Try.pinned (OpenSpec.ofChange revokeOfWrong)

/-- 'quernlaw13.RevokePlays': WHATEVER THE INPUT: true; the input reads as it did. -/
def revokePlaysSpec : ChangeSpec := { name := "revokePlays", fn := fun _ => fun
  | [d1, d2, d3] => { results := [.lit (.bool true)], args := [d1, d2, d3] }
  | _ => none }
def revokePlaysRow : OpenClaim := { program := "ytlnfjcbhicdceaa", sum := "7ff2e9d05275e9421476c86b019c9c8be078713ae713a26e4a956ca8d8ff7436", func := "quern/quernlaw13.RevokePlays", spec := "revokePlays", recurses := true, plainKeys := false, apart := false }
def RevokePlaysSaid : Prop := revokePlaysRow.holds Try.pinned (OpenSpec.ofChange revokePlaysSpec)

/-- ITS FALSE NEIGHBOUR: 'it returns false'. Refute it at one input. -/
def revokePlaysWrong : ChangeSpec := { name := "revokePlays", fn := fun _ => fun
  | [d1, d2, d3] => { results := [.lit (.bool false)], args := [d1, d2, d3] }
  | _ => none }
def RevokePlaysWrongFalsely : Prop := revokePlaysRow.holds Try.pinned (OpenSpec.ofChange revokePlaysWrong)

/-- 'quernlaw13.RevokeNil': WHATEVER THE INPUT: true; the input reads as it did. -/
def revokeNilSpec : ChangeSpec := { name := "revokeNil", fn := fun _ => fun
  | [d] => { results := [.lit (.bool true)], args := [d] }
  | _ => none }
def revokeNilRow : OpenClaim := { program := "ytlnfjcbhicdceaa", sum := "7ff2e9d05275e9421476c86b019c9c8be078713ae713a26e4a956ca8d8ff7436", func := "quern/quernlaw13.RevokeNil", spec := "revokeNil", recurses := true, plainKeys := false, apart := false }
def RevokeNilSaid : Prop := revokeNilRow.holds Try.pinned (OpenSpec.ofChange revokeNilSpec)

/-- ITS FALSE NEIGHBOUR: 'it returns false'. Refute it at one input. -/
def revokeNilWrong : ChangeSpec := { name := "revokeNil", fn := fun _ => fun
  | [d] => { results := [.lit (.bool false)], args := [d] }
  | _ => none }
def RevokeNilWrongFalsely : Prop := revokeNilRow.holds Try.pinned (OpenSpec.ofChange revokeNilWrong)

/-- 'quernlaw13.RevokeDown': WHATEVER THE INPUT: true; the input reads as it did. -/
def revokeDownSpec : ChangeSpec := { name := "revokeDown", fn := fun _ => fun
  | [d1, d2, d3, d4] => { results := [.lit (.bool true)], args := [d1, d2, d3, d4] }
  | _ => none }
def revokeDownRow : OpenClaim := { program := "ytlnfjcbhicdceaa", sum := "7ff2e9d05275e9421476c86b019c9c8be078713ae713a26e4a956ca8d8ff7436", func := "quern/quernlaw13.RevokeDown", spec := "revokeDown", recurses := true, plainKeys := false, apart := false }
def RevokeDownSaid : Prop := revokeDownRow.holds Try.pinned (OpenSpec.ofChange revokeDownSpec)

/-- ITS FALSE NEIGHBOUR: 'it returns false'. Refute it at one input. -/
def revokeDownWrong : ChangeSpec := { name := "revokeDown", fn := fun _ => fun
  | [d1, d2, d3, d4] => { results := [.lit (.bool false)], args := [d1, d2, d3, d4] }
  | _ => none }
def RevokeDownWrongFalsely : Prop := revokeDownRow.holds Try.pinned (OpenSpec.ofChange revokeDownWrong)

/-- 'quernlaw13.RevokeDrops': WHATEVER THE INPUT: true; the input reads as it did. -/
def revokeDropsSpec : ChangeSpec := { name := "revokeDrops", fn := fun _ => fun
  | [d1, d2, d3, d4] => { results := [.lit (.bool true)], args := [d1, d2, d3, d4] }
  | _ => none }
def revokeDropsRow : OpenClaim := { program := "ytlnfjcbhicdceaa", sum := "7ff2e9d05275e9421476c86b019c9c8be078713ae713a26e4a956ca8d8ff7436", func := "quern/quernlaw13.RevokeDrops", spec := "revokeDrops", recurses := true, plainKeys := false, apart := false }
def RevokeDropsSaid : Prop := revokeDropsRow.holds Try.pinned (OpenSpec.ofChange revokeDropsSpec)

/-- ITS FALSE NEIGHBOUR: 'it returns false'. Refute it at one input. -/
def revokeDropsWrong : ChangeSpec := { name := "revokeDrops", fn := fun _ => fun
  | [d1, d2, d3, d4] => { results := [.lit (.bool false)], args := [d1, d2, d3, d4] }
  | _ => none }
def RevokeDropsWrongFalsely : Prop := revokeDropsRow.holds Try.pinned (OpenSpec.ofChange revokeDropsWrong)

/- THE SECOND FORM. 'bulk': how many values and letters a reading holds, each counted each time it is reached (what is shared counts as often as it is met; a slice's spare places count too). A statement '..UptoSaid' is the law's where the arguments, and the package variables that the reading takes, are together of bulk at most 1048576: NARROWER than '..Said'. Prove '..Said' where nothing that the law and all that it calls make is longer than what came in: it says more and counts as full. Else prove '..UptoSaid'. A law counts once. -/
mutual
def uptoBulk {H : Type} : DataW H → Nat
  | .lit (.string bytes) => bytes.length + 1
  | .lit _ => 1
  | .nil => 1
  | .ptr d => uptoBulk d + 1
  | .slice elems spare => uptoBulkAll elems + uptoBulkAll spare + 1
  | .agg parts => uptoBulkAll parts + 1
  | .iface _ d => uptoBulk d + 1
  | .map entries => uptoBulkEntries entries + 1
  | .held _ => 1
def uptoBulkAll {H : Type} : List (DataW H) → Nat
  | [] => 0
  | d :: r => uptoBulk d + uptoBulkAll r
def uptoBulkEntries {H : Type} : List (Lit × DataW H) → Nat
  | [] => 0
  | x :: r => uptoBulkEntry x + uptoBulkEntries r
def uptoBulkEntry {H : Type} : Lit × DataW H → Nat
  | (.string bytes, d) => bytes.length + uptoBulk d + 1
  | (_, d) => uptoBulk d + 1
 end
def uptoSmall : (H : Type) → List (DataW H) → Bool := fun _ ds => decide (uptoBulkAll ds ≤ 1048576)
def OpenSpec.upto (s : _root_.Go.ChangeSpec) : _root_.Go.OpenSpec := { _root_.Go.OpenSpec.ofChange s with cond := some uptoSmall }

/-- 'quernlaw13.RevokeLast', WHERE WHAT IT READS IS OF BULK AT MOST 1048576: true; the input reads as it did. -/
def revokeLastUptoRow : OpenClaim := { program := "ytlnfjcbhicdceaa", sum := "7ff2e9d05275e9421476c86b019c9c8be078713ae713a26e4a956ca8d8ff7436", func := "quern/quernlaw13.RevokeLast", spec := "revokeLast", plainKeys := false, apart := false, narrowed := true }
def RevokeLastUptoSaid : Prop := revokeLastUptoRow.holds Try.pinned (OpenSpec.upto revokeLastSpec)

/-- 'quernlaw13.RevokeOf', WHERE WHAT IT READS IS OF BULK AT MOST 1048576: true; the input reads as it did. -/
def revokeOfUptoRow : OpenClaim := { program := "ytlnfjcbhicdceaa", sum := "7ff2e9d05275e9421476c86b019c9c8be078713ae713a26e4a956ca8d8ff7436", func := "quern/quernlaw13.RevokeOf", spec := "revokeOf", recurses := true, plainKeys := false, apart := false, narrowed := true }
def RevokeOfUptoSaid : Prop := revokeOfUptoRow.holds Try.pinned (OpenSpec.upto revokeOfSpec)

/-- 'quernlaw13.RevokePlays', WHERE WHAT IT READS IS OF BULK AT MOST 1048576: true; the input reads as it did. -/
def revokePlaysUptoRow : OpenClaim := { program := "ytlnfjcbhicdceaa", sum := "7ff2e9d05275e9421476c86b019c9c8be078713ae713a26e4a956ca8d8ff7436", func := "quern/quernlaw13.RevokePlays", spec := "revokePlays", recurses := true, plainKeys := false, apart := false, narrowed := true }
def RevokePlaysUptoSaid : Prop := revokePlaysUptoRow.holds Try.pinned (OpenSpec.upto revokePlaysSpec)

/-- 'quernlaw13.RevokeNil', WHERE WHAT IT READS IS OF BULK AT MOST 1048576: true; the input reads as it did. -/
def revokeNilUptoRow : OpenClaim := { program := "ytlnfjcbhicdceaa", sum := "7ff2e9d05275e9421476c86b019c9c8be078713ae713a26e4a956ca8d8ff7436", func := "quern/quernlaw13.RevokeNil", spec := "revokeNil", recurses := true, plainKeys := false, apart := false, narrowed := true }
def RevokeNilUptoSaid : Prop := revokeNilUptoRow.holds Try.pinned (OpenSpec.upto revokeNilSpec)

/-- 'quernlaw13.RevokeDown', WHERE WHAT IT READS IS OF BULK AT MOST 1048576: true; the input reads as it did. -/
def revokeDownUptoRow : OpenClaim := { program := "ytlnfjcbhicdceaa", sum := "7ff2e9d05275e9421476c86b019c9c8be078713ae713a26e4a956ca8d8ff7436", func := "quern/quernlaw13.RevokeDown", spec := "revokeDown", recurses := true, plainKeys := false, apart := false, narrowed := true }
def RevokeDownUptoSaid : Prop := revokeDownUptoRow.holds Try.pinned (OpenSpec.upto revokeDownSpec)

/-- 'quernlaw13.RevokeDrops', WHERE WHAT IT READS IS OF BULK AT MOST 1048576: true; the input reads as it did. -/
def revokeDropsUptoRow : OpenClaim := { program := "ytlnfjcbhicdceaa", sum := "7ff2e9d05275e9421476c86b019c9c8be078713ae713a26e4a956ca8d8ff7436", func := "quern/quernlaw13.RevokeDrops", spec := "revokeDrops", recurses := true, plainKeys := false, apart := false, narrowed := true }
def RevokeDropsUptoSaid : Prop := revokeDropsUptoRow.holds Try.pinned (OpenSpec.upto revokeDropsSpec)

end Rows
end Go.Proofs.Ytlnfjcbhicdceaa
