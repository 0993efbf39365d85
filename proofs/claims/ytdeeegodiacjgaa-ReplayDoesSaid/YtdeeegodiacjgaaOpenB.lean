/- Transactions told in short and rows that are handed in, opened. No condition but those written. -/
import Derived.Test.YtdeeegodiacjgaaOpenA
namespace Go.Proofs.Ytdeeegodiacjgaa
open Go.ChangeShapes Go.WideShapes Go.RowKit Go.Deep
theorem cells32 : Try.prog.cellsOf 32 = 3 := by kernel_rfl
theorem cells60 : Try.prog.cellsOf 60 = 4 := by kernel_rfl
theorem cells3' : Try.prog.cellsOf 3 = 1 := by kernel_rfl
theorem cells4' : Try.prog.cellsOf 4 = 1 := by kernel_rfl
theorem cells5' : Try.prog.cellsOf 5 = 1 := by kernel_rfl
theorem cells23' : Try.prog.cellsOf 23 = 1 := by kernel_rfl
theorem cells53' : Try.prog.cellsOf 53 = 1 := by kernel_rfl
section
variable {H : Type} {enc : TypeId × Value → H} {W : World} {base : Nat} {sp : Nat → Bool} {held : Bool}
set_option maxRecDepth 100000 in
theorem open_row {k : Nat} {cs : List Value} {y : DataW H × List MemPlace} (hlen : cs.length = 3) (h : DataW.trod enc Try.prog W base sp held k 32 cs = some y) : ∃ r : Rw, r.2.1 < 256 ∧ cs = rwc r := by
  obtain ⟨xs, k, hk, hxy, _, hxl, hf⟩ := DataW.trod_struct Try.underlying32 h
  match xs, hxl, cs, hlen with
  | [y0, y1, y2], _, [v0, v1, v2], _ =>
    have g0 := hf 0 _ rfl
    have g1 := hf 1 _ rfl
    have g2 := hf 2 _ rfl
    simp [cells3', cells4', cells5'] at g0 g1 g2
    obtain ⟨z0, w0, _, _⟩ := DataW.trod_int Try.underlying3 g0
    obtain ⟨z1, w1, _, hw1⟩ := DataW.trod_int Try.underlying5 g1
    obtain ⟨z2, w2, _⟩ := DataW.trod_bool Try.underlying4 g2
    simp at w0 w1 w2
    subst w0 w1 w2
    have hb := bounds_u8 hw1
    refine ⟨(z0, z1.toNat, z2), ?_, ?_⟩
    · show z1.toNat < 256
      omega
    · unfold rwc
      show _ = [Value.int .i64 z0, Value.int .u8 ((z1.toNat : Nat) : Int), Value.bool z2]
      rw [Int.toNat_of_nonneg hb.1]
theorem open_rows {k : Nat} {v : Value} {y : DataW H × List MemPlace} (h : DataW.trod enc Try.prog W base sp held k 23 [v] = some y) : ∃ l : List Rw, Rws W v l ∧ ∀ r ∈ l, r.2.1 < 256 :=
  open_sl (f := rwc) (Pr := fun r => r.2.1 < 256) rwc_len (by omega) Try.underlying23 cells32 (fun _ _ _ hl ht => open_row hl ht) h
theorem open_ints {k : Nat} {v : Value} {y : DataW H × List MemPlace} (h : DataW.trod enc Try.prog W base sp held k 53 [v] = some y) : ∃ l : List Int, Ints W v l := by
  obtain ⟨l, hl, _⟩ := open_sl (f := ic) (Pr := fun _ => True) ic_len (by omega) Try.underlying53 cells3' (fun cs _ _ hl ht => by
    match cs, hl with
    | [v], _ =>
      obtain ⟨z, hz, _, _⟩ := DataW.trod_int Try.underlying3 ht
      simp at hz
      subst hz
      exact ⟨z, trivial, rfl⟩) h
  exact ⟨l, hl⟩
def LvOk (W : World) (x : Lv) (t : Lt) : Prop := Rws W x.2.1 t.2.1 ∧ Ints W x.2.2.1 t.2.2.1 ∧ ∀ r ∈ t.2.1, r.2.1 < 256
set_option maxRecDepth 100000 in
theorem open_told {k : Nat} {cs : List Value} {y : DataW H × List MemPlace} (hlen : cs.length = 4) (h : DataW.trod enc Try.prog W base sp held k 60 cs = some y) : ∃ r : Lv, (∃ t : Lt, LvOk W r t) ∧ cs = lc r := by
  obtain ⟨xs, k, hk, hxy, _, hxl, hf⟩ := DataW.trod_struct Try.underlying60 h
  match xs, hxl, cs, hlen with
  | [y0, y1, y2, y3], _, [v0, v1, v2, v3], _ =>
    have g0 := hf 0 _ rfl
    have g1 := hf 1 _ rfl
    have g2 := hf 2 _ rfl
    have g3 := hf 3 _ rfl
    simp [cells3', cells23', cells53'] at g0 g1 g2 g3
    obtain ⟨z0, w0, _, _⟩ := DataW.trod_int Try.underlying3 g0
    obtain ⟨z3, w3, _, _⟩ := DataW.trod_int Try.underlying3 g3
    simp at w0 w3
    subst w0 w3
    obtain ⟨rl, h1, h2⟩ := open_rows g1
    obtain ⟨kl, h3⟩ := open_ints g2
    exact ⟨(z0, v1, v2, z3), ⟨(z0, rl, kl, z3), h1, h3, h2⟩, rfl⟩
theorem pick_list {α β : Type} {Q : α → β → Prop} : ∀ (l : List α), (∀ x ∈ l, ∃ t, Q x t) → ∃ m : List β, m.length = l.length ∧ (∀ (i : Nat) x t, l[i]? = some x → m[i]? = some t → Q x t) ∧ ∀ t ∈ m, ∃ x ∈ l, Q x t
  | [], _ => ⟨[], rfl, fun i x t h => by simp at h, by simp⟩
  | a :: l, h => by
    obtain ⟨t0, h0⟩ := h a List.mem_cons_self
    obtain ⟨m, h1, h2, h3⟩ := pick_list l (fun x hx => h x (List.mem_cons_of_mem _ hx))
    refine ⟨t0 :: m, by simp [h1], fun i x t hx ht => ?_, fun t ht => ?_⟩
    · cases i with
      | zero =>
        simp at hx ht
        subst hx ht
        exact h0
      | succ i =>
        simp at hx ht
        exact h2 i x t hx ht
    · rcases List.mem_cons.1 ht with rfl | ht
      · exact ⟨a, List.mem_cons_self, h0⟩
      · obtain ⟨x, hx, hq⟩ := h3 t ht
        exact ⟨x, List.mem_cons_of_mem _ hx, hq⟩
theorem open_tolds {k : Nat} {v : Value} {y : DataW H × List MemPlace} (h : DataW.trod enc Try.prog W base sp held k 22 [v] = some y) : ∃ l : List Lt, Lts W v l ∧ OkLt l := by
  obtain ⟨vs, hv, hok⟩ := open_sl (f := lc) (Pr := fun r => ∃ t : Lt, LvOk W r t) lc_len (by omega) Try.underlying22 cells60 (fun _ _ _ hl ht => open_told hl ht) h
  obtain ⟨l, h1, h2, h3⟩ := pick_list vs hok
  refine ⟨l, ⟨vs, h1.symm, hv, fun i x t hx ht => ⟨(h2 i x t hx ht).1, (h2 i x t hx ht).2.1⟩⟩, fun t ht => ?_⟩
  obtain ⟨x, _, hq⟩ := h3 t ht
  exact hq.2.2
end
end Go.Proofs.Ytdeeegodiacjgaa
