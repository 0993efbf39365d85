/- Copies and blocks that are built, alone and as a slice of one; by the given program. No condition. -/
import Derived.Test.YtbcjcfjbdjdajaaBlk
import Derived.Great.BuildSlice
namespace Go.Proofs.Ytbcjcfjbdjdajaa
open Go.RowKit
def bigBuild (t : TypeId) (p : Array (Nat × Value)) : Sem Value := Instr.build t p
def bigBuildSlice (t : TypeId) (n : Nat) (p : Array (Nat × Value)) : Sem Value := Instr.buildSlice t n p
theorem buildAtC (p : Array (Nat × Value)) : Instr.build 90 p = bigBuild 90 p := rfl
theorem sliceAtC (n : Nat) (p : Array (Nat × Value)) : Instr.buildSlice 52 n p = bigBuildSlice 52 n p := rfl
theorem sliceAtB (n : Nat) (p : Array (Nat × Value)) : Instr.buildSlice 25 n p = bigBuildSlice 25 n p := rfl
theorem builtC (b : Int) (x : Blk) : Try.prog.built 90 [(0, .int .i64 b), (1, .agg (blk x))] = some (ca (b, x)) := by kernel_rfl
theorem fillC (c : Cp) : Instr.fill (fun i => some (i * 257, 257)) ((Array.range (1 * 257)).map ((ca (0, fun _ => 0))[· % 257]!)) [(0, .agg (ca c))] = some (ca c) := by kernel_rfl
theorem fillB (c : Blk) : Instr.fill (fun i => some (i * 256, 256)) ((Array.range (1 * 256)).map ((blk (fun _ => 0))[· % 256]!)) [(0, .agg (blk c))] = some (blk c) := by kernel_rfl
theorem run_buildC (b : Int) (x : Blk) : ∀ w, (bigBuild 90 #[(0, .int .i64 b), (1, .agg (blk x))]).run Try.prog w = .ok (.agg (ca (b, x))) w := fun w => run_build w 90 _ _ (builtC b x)
theorem ca_size (c : Cp) : (ca c).size = 257 := by simp [ca, cc_len]
theorem run_bsC (c : Cp) : ∀ w, (bigBuildSlice 52 1 #[(0, .agg (ca c))]).run Try.prog w = .ok (.slice (some ⟨w.heap.size, 0, none⟩) 1 1) (w.alloc (.cells (ca c) 90)) := fun w => by
  obtain ⟨i, hi, h1, h2, h3⟩ := info_parts zeroC
  refine run_buildSlice w 52 90 1 _ (ca c) i _ Try.underlying52 hi h1 (by rw [h2]; omega) (by rw [h2]; omega) ?_
  rw [h2]
  have := fillC c
  show Instr.fill _ ((Array.range (1 * 257)).map ((ca (0, fun _ => 0))[· % (ca (0, fun _ => 0)).size]!)) _ = _
  rw [ca_size]
  exact this
set_option maxRecDepth 100000 in
theorem run_bsB (c : Blk) : ∀ w, (bigBuildSlice 25 1 #[(0, .agg (blk c))]).run Try.prog w = .ok (.slice (some ⟨w.heap.size, 0, none⟩) 1 1) (w.alloc (.cells (blk c) 32)) := fun w => by
  obtain ⟨i, hi, h1, h2, h3⟩ := info_parts zeroB
  refine run_buildSlice w 25 32 1 _ (blk c) i _ Try.underlying25 hi h1 (by rw [h2]; omega) (by rw [h2]; omega) ?_
  rw [h2]
  have := fillB c
  show Instr.fill _ ((Array.range (1 * 256)).map ((blk fun _ => 0)[· % (blk fun _ => 0).size]!)) _ = _
  rw [blk_size]
  exact this
theorem run_bsB0 : ∀ w, (bigBuildSlice 25 0 #[]).run Try.prog w = .ok (.slice (some ⟨w.heap.size, 0, none⟩) 0 0) (w.alloc (.cells #[] 32)) := fun w => by kernel_rfl
end Go.Proofs.Ytbcjcfjbdjdajaa
