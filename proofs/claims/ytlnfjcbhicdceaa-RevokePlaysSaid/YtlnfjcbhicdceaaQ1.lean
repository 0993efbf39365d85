/- The document's table of revoked blocks: a list of records. Conditions are written in each. -/
import Derived.Test.YtlnfjcbhicdceaaL7
namespace Go.Proofs.Ytlnfjcbhicdceaa
open Go.RowKit
theorem info65 : (Try.prog.info? 65).map (fun i => (i.zero, i.size, i.bytes)) = some (some (.agg #[.int .i64 0, .int .u32 0]), 2, 16) := by kernel_rfl
def flat2 (ml : List K) : List Value := ml.flatMap fun x => [.int .i64 x.1, .int .u32 x.2]
theorem flat2_snoc (ml : List K) (x : K) : flat2 (ml ++ [x]) = flat2 ml ++ [.int .i64 x.1, .int .u32 x.2] := by simp [flat2]
theorem flat2_get {ml : List K} : ∀ {i : Nat} {x : K}, ml[i]? = some x → (flat2 ml)[i * 2]? = some (.int .i64 x.1) ∧ (flat2 ml)[i * 2 + 1]? = some (.int .u32 x.2) := by
  induction ml with
  | nil => intro i x h; simp at h
  | cons y l ih =>
    intro i x h
    cases i with
    | zero => simp at h; subst h; simp [flat2]
    | succ i =>
      have := ih (show l[i]? = some x by simpa using h)
      have e : flat2 (y :: l) = .int .i64 y.1 :: .int .u32 y.2 :: flat2 l := by simp [flat2]
      rw [e]
      have h3 : (i + 1) * 2 = i * 2 + 1 + 1 := by omega
      rw [h3]
      simpa using this
theorem own_recs2 {W : World} {base : Nat} {ml : List K} {ao : Option Addr} {n cap : Nat} (h : W.ownsRow base 65 2 (.slice ao n cap) ml.length (flat2 ml)) (hpos : 0 < ml.length) :
    ∃ gv, ao = some ⟨gv, 0, none⟩ ∧ n ≤ cap ∧ cap ≤ maxLen ∧ base ≤ gv ∧ gv < W.heap.size ∧ ∀ i y, ml[i]? = some y → W.cell? ⟨gv, i * 2, none⟩ = some (.int .i64 y.1) ∧ W.cell? ⟨gv, i * 2 + 1, none⟩ = some (.int .u32 y.2) := by
  have hc := @World.ownsRow.cells _ _ _ _ _ _ _ h
  rcases h.2 with ⟨hv, h0⟩ | ⟨g, cap', cur, hv, hb, hg, h1, h2, _⟩
  · omega
  · cases hv
    refine ⟨g, rfl, h1, h2, hb, (Array.getElem?_eq_some_iff.1 hg).1, fun i y hy => ?_⟩
    obtain ⟨f0, f1⟩ := flat2_get hy
    have ea : ∀ j, (⟨g, 0, none⟩ : Addr).add j = ⟨g, j, none⟩ := fun j => by unfold Addr.add; split <;> simp_all
    have hc' := hc (g := g) rfl
    exact ⟨by rw [← ea]; exact hc' _ _ f0, by rw [← ea]; exact hc' _ _ f1⟩
theorem neq65 (b s b' s' : Int) : ∀ w, (binOp .neq 65 (.agg #[.int .i64 b, .int .u32 s]) (.agg #[.int .i64 b', .int .u32 s'])).run Try.prog w = .ok (.bool (decide ((b, s) ≠ (b', s')))) w := by
  intro w
  have hf : (Try.prog.fieldsOf 65).toList = [{ name := "Block", type := 3, offset := 0, embedded := false, tag := "", pkgPath := "", byteOffset := 0 }, { name := "Seq", type := 23, offset := 1, embedded := false, tag := "", pkgPath := "", byteOffset := 8 }] := by kernel_rfl
  rw [run_neq_struct, show (10000 : Nat) = 9999 + 1 from rfl, run_equalIn_struct w 9999 65 _ _ (by kernel_rfl) (by kernel_rfl), hf]
  have e3 : ∀ (a b : Int) (w : World), (Op.equalIn 9999 3 (.int .i64 a) (.int .i64 b)).run Try.prog w = .ok (a == b) w := fun a b w => run_equalIn_int w 9998 3 _ _ _ _ Try.underlying3
  have e23 : ∀ (a b : Int) (w : World), (Op.equalIn 9999 23 (.int .u32 a) (.int .u32 b)).run Try.prog w = .ok (a == b) w := fun a b w => run_equalIn_int w 9998 23 _ _ _ _ Try.underlying23
  simp [Op.eqFields, part, isAgg, run_underlying Try.underlying3, run_underlying Try.underlying23, e3, e23]
  by_cases h1 : b = b'
  · subst h1
    by_cases h2 : s = s'
    · subst h2; simp
    · simp [h2]
  · simp [h1]
theorem cell_two_new (w : World) (a b : Value) (t : TypeId) : ∀ j u, [a, b][j]? = some u → (w.alloc (.cells #[a, b] t)).cell? ((⟨w.heap.size, 0, none⟩ : Addr).add j) = some u := by
  intro j u hj
  match j, hj with
  | 0, hj => simp at hj; subst hj; simp [Addr.add]
  | 1, hj => simp at hj; subst hj; simp [Addr.add]
  | j + 2, hj => simp at hj
/-- The document's table at r: its records. -/
structure RT (W : World) (r B : Nat) (v : Value) (ml : List K) : Prop where
  cell : W.cell? ⟨r, 0, none⟩ = some v
  free : W.frozen? ⟨r, 0, none⟩ = false
  own : W.ownsRow B 65 2 v ml.length (flat2 ml)
  lt : r < B
theorem RT.later {W W' : World} {r B : Nat} {v : Value} {ml : List K} (h : RT W r B v ml) (hb : Below W.heap.size W W') : RT W' r B v ml := by
  have hr : r < W.heap.size := World.block_lt_of_cell? W _ h.cell
  exact ⟨(World.cell?_of_block (hb.block r hr)).trans h.cell, (World.frozen?_of_block (hb.block r hr)).trans h.free, own_later h.own hb, h.lt⟩
end Go.Proofs.Ytlnfjcbhicdceaa
