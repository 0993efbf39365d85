/- Acts as values: their cells, loaded and stored whole; what stands between two acts. -/
import Derived.Test.YtbcjcfjbdjdajaaC17
import Derived.Test.YtbcjcfjbdjdajaaC20
import Derived.Test.YtbcjcfjbdjdajaaOpenE
namespace Go.Proofs.Ytbcjcfjbdjdajaa
open Go.RowKit
def aa (x : Ax) : Array Value := (axc x).toArray
theorem sizeA : (Try.prog.info? 49).map (·.size) = some 4 := by kernel_rfl
theorem loadAtA (v : Value) : Instr.loadAt 49 v = bigLoadAt 49 v := rfl
theorem storeAtA (v x : Value) : Instr.storeAt 49 v x = bigStoreAt 49 v x := rfl
theorem ldA {W : World} {g o : Nat} {x : Ax} (h : W.rangeAt g o (axc x)) : (bigLoadAt 49 (.pointer (some ⟨g, o, none⟩))).run Try.prog W = .ok (.agg (aa x)) W :=
  run_bigLoad Try.underlying49 rfl (by rw [axc_len]; exact sizeA) h
def OneA (x : Ax) : Prop := x.2.2.2.oneCell' = true
def zA : Ax := (0, 0, 0, .slice none 0 0)
theorem stAnew (w : World) (x z : Ax) (hx : OneA x) : (bigStoreAt 49 (.pointer (some ⟨w.heap.size, 0, none⟩)) (.agg (aa x))).run Try.prog (w.alloc (.cells (aa z) 49)) = .ok () (w.alloc (.cells (aa x) 49)) := by
  have hW := Whole.new w (aa z) 49
  have h := run_bigStore (W := w.alloc (.cells (aa z) 49)) (g := w.heap.size) (o := 0) (cs := axc x) (by rw [axc_len]; exact sizeA)
    (fun u hu => by simp [axc] at hu; rcases hu with rfl | rfl | rfl | rfl; rfl; rfl; rfl; exact hx)
    (fun j hj => ⟨by rw [hW.cell (0 + j)]; rw [axc_len] at hj; simp [aa, axc_len]; omega, hW.free _⟩)
  have e : (bigStoreAt 49 (.pointer (some ⟨w.heap.size, 0, none⟩)) (.agg (aa x))).run Try.prog (w.alloc (.cells (aa z) 49)) = .ok () ((w.alloc (.cells (aa z) 49)).setCells w.heap.size 0 (axc x)) := h
  rw [e]
  exact congrArg _ (setCells_whole w (axc z) 49 (axc x) (by rw [axc_len, axc_len]))
theorem aa0 (x : Ax) : (aa x)[0]? = some (.int .u8 (x.1 : Int)) := rfl
theorem aa1 (x : Ax) : (aa x)[1]? = some (.int .i64 x.2.1) := rfl
theorem aa2 (x : Ax) : (aa x)[2]? = some (.int .u32 (x.2.2.1 : Int)) := rfl
structure US (B : Nat) (w0 : World) (N : Nat) (c : Cf) (vw : Value) (g : Nat) (m : List Blk) (K : Nat) (C : Ck) (W : World) : Prop where
  q : RQ B w0 N c vw g m C W
  inv : Inv N m K C
  sy : Sy C.D
theorem US.more {B : Nat} {w0 : World} {N : Nat} {c : Cf} {vw : Value} {g : Nat} {m : List Blk} {K L : Nat} {C : Ck} {W : World} (h : US B w0 N c vw g m K C W) (hl : K ≤ L) : US B w0 N c vw g m L C W := ⟨h.q, h.inv.more hl, h.sy⟩
theorem US.later {B : Nat} {w0 : World} {N : Nat} {c : Cf} {vw : Value} {g : Nat} {m : List Blk} {K : Nat} {C : Ck} {W W' : World} (h : US B w0 N c vw g m K C W) (hb : Below W.heap.size W W') : US B w0 N c vw g m K C W' := ⟨h.q.later hb, h.inv, h.sy⟩
theorem stA0 (w : World) (x : Ax) (hx : OneA x) : (bigStoreAt 49 (.pointer (some ⟨w.heap.size, 0, none⟩)) (.agg (aa x))).run Try.prog (w.alloc (.cells #[.int .u8 0, .int .i64 0, .int .u32 0, .slice none 0 0] 49)) = .ok () (w.alloc (.cells (aa x) 49)) := stAnew w x zA hx
end Go.Proofs.Ytbcjcfjbdjdajaa
