/- Blocks and copies as values of the given program: their cells, zeros, equality. No condition. -/
import Derived.Test.YtbcjcfjbdjdajaaRow
import Derived.Test.YtbcjcfjbdjdajaaMap
import Derived.Test.YtbcjcfjbdjdajaaChecked
namespace Go.Proofs.Ytbcjcfjbdjdajaa
open Go.RowKit
abbrev Blk := Nat → Nat
def bc (b : Blk) : List Value := (blk b).toList
theorem bc_len (b : Blk) : (bc b).length = 256 := by
  have := blk_size b
  unfold bc
  rw [Array.length_toList]
  exact this
theorem bc_arr (b : Blk) : (bc b).toArray = blk b := by simp [bc]
theorem bc_one (b : Blk) : ∀ u ∈ bc b, u.oneCell' = true := fun u hu => (Array.all_eq_true_iff_forall_mem.1 (blk_one b)) u (by simpa [bc] using hu)
abbrev Cp := Int × Blk
/-- A copy's cells. -/
def cc (c : Cp) : List Value := .int .i64 c.1 :: bc c.2
theorem cc_len (c : Cp) : (cc c).length = 257 := by
  have := bc_len c.2
  unfold cc
  rw [List.length_cons, this]
theorem cc_one (c : Cp) : ∀ u ∈ cc c, u.oneCell' = true := by
  intro u hu
  rcases List.mem_cons.1 hu with rfl | h
  · rfl
  · exact bc_one _ u h
def ca (c : Cp) : Array Value := (cc c).toArray
theorem zeroB : (Try.prog.info? 32).map (fun i => (i.zero, i.size, i.bytes)) = some (some (.agg (blk fun _ => 0)), 256, 256) := by kernel_rfl
theorem zeroC : (Try.prog.info? 90).map (fun i => (i.zero, i.size, i.bytes)) = some (some (.agg (ca (0, fun _ => 0))), 257, 264) := by kernel_rfl
theorem sizeB : (Try.prog.info? 32).map (·.size) = some 256 := by kernel_rfl
theorem sizeC : (Try.prog.info? 90).map (·.size) = some 257 := by kernel_rfl
theorem run_zeroB : (zeroValue 32).run Try.prog = fun w => .ok (.agg (blk fun _ => 0)) w := by
  funext w
  obtain ⟨i, hi, h1, h2, h3⟩ := info_parts zeroB
  exact (zero_of_info (show (Try.prog.info? 32).map (fun i => (i.zero, i.size)) = some (some (.agg (blk fun _ => 0)), 256) by rw [hi]; simp [h1, h2])).1 w
theorem run_zeroC : (zeroValue 90).run Try.prog = fun w => .ok (.agg (ca (0, fun _ => 0))) w := by
  funext w
  obtain ⟨i, hi, h1, h2, h3⟩ := info_parts zeroC
  exact (zero_of_info (show (Try.prog.info? 90).map (fun i => (i.zero, i.size)) = some (some (.agg (ca (0, fun _ => 0))), 257) by rw [hi]; simp [h1, h2])).1 w
theorem loadAtB (v : Value) : Instr.loadAt 32 v = bigLoadAt 32 v := rfl
theorem storeAtB (v x : Value) : Instr.storeAt 32 v x = bigStoreAt 32 v x := rfl
theorem loadAtC (v : Value) : Instr.loadAt 90 v = bigLoadAt 90 v := rfl
theorem storeAtC (v x : Value) : Instr.storeAt 90 v x = bigStoreAt 90 v x := rfl
/-- A block is loaded. -/
theorem ldB {W : World} {g o : Nat} {b : Blk} (h : W.rangeAt g o (bc b)) : (bigLoadAt 32 (.pointer (some ⟨g, o, none⟩))).run Try.prog W = .ok (.agg (blk b)) W := by
  rw [← bc_arr]
  exact run_bigLoad Try.underlying32 rfl (by rw [bc_len]; exact sizeB) h
theorem ldC {W : World} {g o : Nat} {c : Cp} (h : W.rangeAt g o (cc c)) : (bigLoadAt 90 (.pointer (some ⟨g, o, none⟩))).run Try.prog W = .ok (.agg (ca c)) W :=
  run_bigLoad Try.underlying90 rfl (by rw [cc_len]; exact sizeC) h
theorem stB {W : World} {g o : Nat} (b : Blk) (h : W.there g o 256) : (bigStoreAt 32 (.pointer (some ⟨g, o, none⟩)) (.agg (blk b))).run Try.prog W = .ok () (W.setCells g o (bc b)) := by
  rw [← bc_arr]
  exact run_bigStore (by rw [bc_len]; exact sizeB) (bc_one b) (by rw [bc_len]; exact h)
theorem stC {W : World} {g o : Nat} (c : Cp) (h : W.there g o 257) : (bigStoreAt 90 (.pointer (some ⟨g, o, none⟩)) (.agg (ca c))).run Try.prog W = .ok () (W.setCells g o (cc c)) :=
  run_bigStore (by rw [cc_len]; exact sizeC) (cc_one c) (by rw [cc_len]; exact h)
theorem blkEq_refl (b : Blk) : blkEq b b = true := by rw [blkEq_iff]; intro i _; rfl
theorem sizeU : ∀ w, (sizeOf 5).run Try.prog w = .ok 1 w := fun w => by kernel_rfl
theorem eqlB (b c : Blk) : ∀ w, (binOp .eql 32 (.agg (blk b)) (.agg (blk c))).run Try.prog w = .ok (.bool (blkEq b c)) w := fun w => run_eql_blk w 32 5 Try.underlying32 Try.underlying5 sizeU b c
theorem eqInB (d : Nat) (b c : Blk) : ∀ w, (Op.equalIn (d + 2) 32 (.agg (blk b)) (.agg (blk c))).run Try.prog w = .ok (blkEq b c) w := fun w => run_equalIn_blk w d 32 5 Try.underlying32 Try.underlying5 sizeU b c
theorem neqB (b c : Blk) : ∀ w, (binOp .neq 32 (.agg (blk b)) (.agg (blk c))).run Try.prog w = .ok (.bool (!blkEq b c)) w := by
  intro w
  rw [run_neq_struct, show (10000 : Nat) = 9998 + 2 from rfl, eqInB]
  rfl

theorem part_data (c : Cp) : ∀ w, (part 32 (ca c) 1).run Try.prog w = .ok (.agg (blk c.2)) w := by
  intro w
  have hx : (ca c).extract 1 (1 + 256) = blk c.2 := by
    unfold ca cc
    rw [← bc_arr]
    apply Array.ext'
    simp [List.take_of_length_le, bc_len]
  simp [part, hx]
theorem part_blk (c : Cp) : ∀ w, (part 3 (ca c) 0).run Try.prog w = .ok (.int .i64 c.1) w := by
  intro w
  simp [part, isAgg, run_underlying Try.underlying3, ca, cc]
/-- Do copies agree? -/
def cpEq (c d : Cp) : Bool := decide (c.1 = d.1) && blkEq c.2 d.2
theorem cpEq_refl (c : Cp) : cpEq c c = true := by simp [cpEq, blkEq_refl]



theorem sB (b : Blk) : (Try.prog.info? 32).map (·.size) = some (blk b).size := by rw [blk_size]; exact sizeB
theorem Whole.range {W : World} {g : Nat} {b : Blk} {t : TypeId} (h : Whole W g (blk b) t) : W.rangeAt g 0 (bc b) := by
  intro j v hv
  rw [Nat.zero_add, h.cell j, ← bc_arr]
  simpa using hv
/-- A block that is known whole is loaded, is stored. -/
theorem ldRow {W : World} {g : Nat} {b : Blk} {t : TypeId} (h : Whole W g (blk b) t) : (bigLoadAt 32 (.pointer (some ⟨g, 0, none⟩))).run Try.prog W = .ok (.agg (blk b)) W := ldB h.range
theorem stRow {W : World} {g : Nat} {b : Blk} {t : TypeId} (c : Blk) (h : Whole W g (blk b) t) : (bigStoreAt 32 (.pointer (some ⟨g, 0, none⟩)) (.agg (blk c))).run Try.prog W = .ok () (W.setRow g (blk c)) := by
  have := run_storeVar_row (P := Try.prog) W g t 32 _ (blk c) h (sB c) (by rw [blk_size, blk_size]) (blk_one c)
  unfold bigStoreAt
  simp only [Instr.storeAt, Instr.sureAddr, Sem.run_bind, Sem.run_pure, Result.andThen_ok, this]
theorem Whole.setRow {W : World} {g : Nat} {cs : Array Value} {t : TypeId} (h : Whole W g cs t) (ds : Array Value) : Whole (W.setRow g ds) g ds t := setRow_heap _ _ _ _ _ _ h
theorem Whole.setRow_other {W : World} {g g' : Nat} {cs : Array Value} {t : TypeId} (h : Whole W g cs t) (ds : Array Value) (hne : g ≠ g') : Whole (W.setRow g' ds) g cs t := (_root_.Go.setRow_other W g' g ds hne).trans h
end Go.Proofs.Ytbcjcfjbdjdajaa
