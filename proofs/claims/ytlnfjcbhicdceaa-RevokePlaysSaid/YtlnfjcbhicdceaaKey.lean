/- The keys of the table of revoked blocks: pairs of a block's number and a transaction's. No condition. -/
import Derived.Test.YtlnfjcbhicdceaaMap
import Derived.Test.YtlnfjcbhicdceaaChecked
import Derived.WideKeyRuns
namespace Go.Proofs.Ytlnfjcbhicdceaa
open Go.RowKit
def rk (x : Int × Int) : Value := .agg #[.int .i64 x.1, .int .u32 x.2]
theorem fields61 : (Try.prog.fieldsOf 61).toList = [{ name := "block", type := 3, offset := 0, embedded := false, tag := "", pkgPath := "quern/revoke", byteOffset := 0 }, { name := "seq", type := 23, offset := 1, embedded := false, tag := "", pkgPath := "quern/revoke", byteOffset := 8 }] := by kernel_rfl
theorem rk_eq (x y : Int × Int) (w : World) : (Op.equal 61 (rk x) (rk y)).run Try.prog w = .ok (decide (y = x)) w := by
  show (Op.equalIn (9999 + 1) 61 (.agg _) (.agg _)).run Try.prog w = _
  rw [run_equalIn_struct w 9999 61 _ _ (by kernel_rfl) (by kernel_rfl), fields61]
  have e3 : ∀ (a b : Int) (w : World), (Op.equalIn 9999 3 (.int .i64 a) (.int .i64 b)).run Try.prog w = .ok (a == b) w := fun a b w => run_equalIn_int w 9998 3 _ _ _ _ Try.underlying3
  have e23 : ∀ (a b : Int) (w : World), (Op.equalIn 9999 23 (.int .u32 a) (.int .u32 b)).run Try.prog w = .ok (a == b) w := fun a b w => run_equalIn_int w 9998 23 _ _ _ _ Try.underlying23
  obtain ⟨x1, x2⟩ := x
  obtain ⟨y1, y2⟩ := y
  simp [Op.eqFields, part, isAgg, run_underlying Try.underlying3, run_underlying Try.underlying23, e3, e23]
  by_cases h1 : x1 = y1
  · subst h1
    by_cases h2 : x2 = y2
    · subst h2; simp
    · have : ¬ y2 = x2 := fun e => h2 e.symm
      simp [h2, this]
  · have : ¬ y1 = x1 := fun e => h1 e.symm
    simp [h1, this]
theorem rk_find (x : Int × Int) (w : World) : ∀ (L : List ((Int × Int) × Value × Nat)) (i : Nat), (Instr.findAsking 61 (rk x) (L.map (Ent rk)) i).run Try.prog w = .ok ((L.findIdx? fun t => decide (t.1 = x)).bind fun j => (L[j]?).map fun t => (i + j, t.2.1)) w
  | [], i => by simp [Instr.findAsking]
  | t :: L, i => by
    have h := rk_find x w L (i + 1)
    rw [List.map_cons, Instr.findAsking, Sem.run_bind]
    show ((Op.equal 61 (rk x) (rk t.1)).run Try.prog w).andThen _ = _
    rw [rk_eq, Result.andThen_ok]
    by_cases e : t.1 = x
    · simp [e, List.findIdx?_cons, Ent]
    · simp only [e, decide_false, Bool.false_eq_true, if_false, h, List.findIdx?_cons]
      cases hL : L.findIdx? (fun t => decide (t.1 = x)) with
      | none => rfl
      | some j => simp [Nat.add_assoc, Nat.add_comm 1 j]
theorem rkEnc : KeyEnc Try.prog 61 rk where
  inj := fun x y h => by
    obtain ⟨x1, x2⟩ := x
    obtain ⟨y1, y2⟩ := y
    simp [rk] at h
    simp [h]
  check := fun em x w => by kernel_rfl
  find := fun x L w => by
    rw [run_findKey_eq w (by kernel_rfl), rk_find x w L 0]
    simp
  stays := fun x w => by
    have hs : Instr.sameBits 10000 (rk x) (rk x) = true := by
      show Instr.sameBits (9999 + 1) (.agg _) (.agg _) = true
      simp [Instr.sameBits]
    simp [Instr.keyThatStays, hs]
/-- 'next' over such a map. -/
theorem wpl_next_rk {ops : Array Oper} {rest : List Oper} {o : Oper} {a : Act} {Q : Exit → Act → World → Prop} (hg : o.guard = none) (x : Operand) (hop : o.op = Op.next x false) (w : World) (it bm : Nat) (m left : List ((Int × Int) × Value)) (hx : a.eval x = .pointer (some ⟨it, 0, none⟩)) (h : Ranging rk w it bm m left)
    (hDone : left = [] → wpList Try.prog ops Q rest (a.put o.dst (.tuple #[.bool false])) w)
    (hMore : ∀ (b s : Int) (v : Value) (w' : World), ((b, s), v) ∈ left → Ranging rk w' it bm m (del left (b, s)) → Chg w w' it → (Instr.entry (.pointer (some ⟨it, 0, none⟩))).run Try.prog w' = .ok (.tuple #[.agg #[.int .i64 b, .int .u32 s], v]) w' → wpList Try.prog ops Q rest (a.put o.dst (.tuple #[.bool true, .agg #[.int .i64 b, .int .u32 s], v])) w') :
    wpList Try.prog ops Q (o :: rest) a w :=
  wpl_next hg x hop w it bm m left hx h hDone fun p w' => by
    obtain ⟨⟨b, s⟩, v⟩ := p
    exact hMore b s v w'
end Go.Proofs.Ytlnfjcbhicdceaa
