/- Slices cut off at a place, as values; what is found among copies. No condition but those written. -/
import Derived.Test.YtdeeegodiacjgaaR4
namespace Go.Proofs.Ytdeeegodiacjgaa
open Go.RowKit
def bigSl (t : TypeId) (x : Value) (lo hi mx : Option Value) : Sem Value := Instr.sliceAt t x lo hi mx
theorem slAtT (x : Value) (lo hi mx : Option Value) : Instr.sliceAt 25 x lo hi mx = bigSl 25 x lo hi mx := rfl
theorem slAtC (x : Value) (lo hi mx : Option Value) : Instr.sliceAt 33 x lo hi mx = bigSl 33 x lo hi mx := rfl
theorem flat_drop {α : Type} {f : α → List Value} {n : Nat} (hf : ∀ x, (f x).length = n) (l : List α) (k : Nat) : flat f (l.drop k) = (flat f l).drop (k * n) := by
  by_cases hk : k ≤ l.length
  · have h1 : flat f l = flat f (l.take k) ++ flat f (l.drop k) := by rw [← flat_app, List.take_append_drop]
    have h2 : (flat f (l.take k)).length = k * n := by rw [flat_len hf, List.length_take, Nat.min_eq_left hk]
    rw [h1, ← h2, List.drop_left]
  · rw [List.drop_of_length_le (by omega), List.drop_of_length_le (by rw [flat_len hf]; exact Nat.mul_le_mul_right _ (by omega))]
    rfl
theorem sub_sl {W : World} {g off n cap size : Nat} {xs : List Value} (h : Sl W (.slice (some ⟨g, off, none⟩) n cap) n xs) (hx : xs.length = n * size) (hg : g < W.heap.size) (hr : W.rangeAt g off xs) (k : Nat) (hk : k ≤ n) :
    ∃ a c, sliced (some ⟨g, off, none⟩) k n cap size = .slice a (n - k) c ∧ Sl W (.slice a (n - k) c) (n - k) (xs.drop (k * size)) := by
  obtain ⟨ao, cap', e, h1, h2, _⟩ := h.ex
  cases e
  unfold sliced
  by_cases hc : cap = k
  · rw [if_pos hc]
    refine ⟨_, _, rfl, some ⟨g, off, none⟩, cap - k, rfl, by omega, by omega, fun hp => ?_, fun e => by cases e⟩
    have h3 : n - k = 0 := by omega
    have h4 : n = k := by omega
    rw [List.length_drop, hx, h4] at hp
    omega
  · rw [if_neg hc]
    refine ⟨_, _, rfl, some ⟨g, off + k * size, none⟩, cap - k, by rw [Option.map_some, Addr.add_mid], by omega, by omega, fun _ => ⟨g, off + k * size, rfl, hg, rangeAt_sub hr fun j v hv => ?_⟩, fun e => by cases e⟩
    rw [List.getElem?_drop] at hv
    exact hv
theorem elem25 : Try.prog.underlying 25 = some (.slice (Try.prog.elem 25)) := by kernel_rfl
theorem elem33 : Try.prog.underlying 33 = some (.slice (Try.prog.elem 33)) := by kernel_rfl
theorem size25 : ∀ w, (sizeOf (Try.prog.elem 25)).run Try.prog w = .ok 3 w := fun w => by kernel_rfl
theorem size33 : ∀ w, (sizeOf (Try.prog.elem 33)).run Try.prog w = .ok 257 w := fun w => by kernel_rfl
theorem run_sl25 (a : Option Addr) (n cap k : Nat) (hk : k ≤ n) (w : World) : (bigSl 25 (.slice a n cap) (some (.int .i64 (k : Int))) none none).run Try.prog w = .ok (sliced a k n cap 3) w := by
  unfold bigSl
  rw [run_sliceAt_slice _ _ _ _ _ _ elem25, run_slice_l w 25 a n cap elem25 .i64 (k : Int) (by omega) (by omega), size25]
  rfl
theorem run_sl33 (a : Option Addr) (n cap k : Nat) (hk : k ≤ n) (w : World) : (bigSl 33 (.slice a n cap) (some (.int .i64 (k : Int))) none none).run Try.prog w = .ok (sliced a k n cap 257) w := by
  unfold bigSl
  rw [run_sliceAt_slice _ _ _ _ _ _ elem33, run_slice_l w 33 a n cap elem33 .i64 (k : Int) (by omega) (by omega), size33]
  rfl
theorem cut_trs {W : World} {ao : Option Addr} {cap : Nat} {l : List Tr} (h : Trs W (.slice ao l.length cap) l) (k : Nat) (hk : k ≤ l.length) (hp : 0 < l.length) :
    ∃ a c, (∀ w, (bigSl 25 (.slice ao l.length cap) (some (.int .i64 (k : Int))) none none).run Try.prog w = .ok (.slice a (l.drop k).length c) w) ∧ Trs W (.slice a (l.drop k).length c) (l.drop k) := by
  obtain ⟨vs, h1, h2, h3⟩ := h.ex
  obtain ⟨ao', cap', e, q1, q2, q3, _⟩ := h2.ex
  simp only [Value.slice.injEq] at e
  obtain ⟨rfl, _, rfl⟩ := e
  obtain ⟨g, off, rfl, hg, hr⟩ := q3 (by rw [flat_len tc_len]; omega)
  rw [← h1] at h2 hk
  obtain ⟨a, c, e1, e2⟩ := sub_sl h2 (flat_len tc_len vs) hg hr k hk
  rw [← flat_drop tc_len] at e2
  have hl : (l.drop k).length = vs.length - k := by rw [List.length_drop, h1]
  refine ⟨a, c, fun w => ?_, vs.drop k, by rw [List.length_drop, List.length_drop, h1], ?_, fun i x t hx ht => ?_⟩
  · rw [hl, ← h1, run_sl25 _ _ _ k hk, e1]
  · rw [hl, List.length_drop]; exact e2
  · rw [List.getElem?_drop] at hx ht
    exact h3 _ x t hx ht
theorem cut_cps {W : World} {ao : Option Addr} {cap : Nat} {l : List Cp} (h : Cps W (.slice ao l.length cap) l) (k : Nat) (hk : k ≤ l.length) (hp : 0 < l.length) :
    ∃ a c, (∀ w, (bigSl 33 (.slice ao l.length cap) (some (.int .i64 (k : Int))) none none).run Try.prog w = .ok (.slice a (l.drop k).length c) w) ∧ Cps W (.slice a (l.drop k).length c) (l.drop k) := by
  obtain ⟨ao', cap', e, q1, q2, q3, _⟩ := h.ex
  cases e
  obtain ⟨g, off, rfl, hg, hr⟩ := q3 (by rw [flat_len cc_len]; omega)
  obtain ⟨a, c, e1, e2⟩ := sub_sl h (flat_len cc_len l) hg hr k hk
  rw [← flat_drop cc_len] at e2
  have hl : (l.drop k).length = l.length - k := by rw [List.length_drop]
  refine ⟨a, c, fun w => ?_, ?_⟩
  · rw [hl, run_sl33 _ _ _ k hk, e1]
  · unfold Cps
    rw [hl]
    exact e2
/-- The last place of a block among copies, of the first m. -/
def fndI (C : List Cp) (b : Int) : Nat → Int
  | 0 => -1
  | m + 1 => match C[m]? with
    | some c => if c.1 = b then (m : Int) else fndI C b m
    | none => fndI C b m
theorem fndI_spec (C : List Cp) (b : Int) (m : Nat) : (fndI C b m = -1 ∧ ∀ i c, i < m → C[i]? = some c → c.1 ≠ b) ∨ ∃ i c, i < m ∧ fndI C b m = (i : Int) ∧ C[i]? = some c ∧ c.1 = b := by
  induction m with
  | zero => exact .inl ⟨rfl, fun i c hi => by omega⟩
  | succ m ih =>
    unfold fndI
    cases hc : C[m]? with
    | none =>
      rcases ih with ⟨h1, h2⟩ | ⟨i, c, h1, h2, h3, h4⟩
      · refine .inl ⟨h1, fun i c hi hx => ?_⟩
        by_cases e : i = m
        · subst e; rw [hc] at hx; cases hx
        · exact h2 i c (by omega) hx
      · exact .inr ⟨i, c, by omega, h2, h3, h4⟩
    | some d =>
      by_cases hd : d.1 = b
      · exact .inr ⟨m, d, by omega, by simp [hd], hc, hd⟩
      · rcases ih with ⟨h1, h2⟩ | ⟨i, c, h1, h2, h3, h4⟩
        · refine .inl ⟨by simp [hd, h1], fun i c hi hx => ?_⟩
          by_cases e : i = m
          · subst e; rw [hc] at hx; cases hx; exact hd
          · exact h2 i c (by omega) hx
        · exact .inr ⟨i, c, by omega, by simp [hd, h2], h3, h4⟩
theorem fndI_step {C : List Cp} {b : Int} {m : Nat} {c : Cp} (h : C[m]? = some c) : fndI C b (m + 1) = if c.1 = b then (m : Int) else fndI C b m := by
  show (match C[m]? with | some c => if c.1 = b then (m : Int) else fndI C b m | none => fndI C b m) = _
  rw [h]
/-- Where a block that is left stands among what is told. -/
theorem fnd_none {T : List Tr} {b : Int} (h : lookD (ovMap T) b = none) : fndI (ovOut T) b (ovOut T).length = -1 := by
  rcases fndI_spec (ovOut T) b (ovOut T).length with ⟨h1, _⟩ | ⟨i, c, _, _, h3, h4⟩
  · exact h1
  · have := mem_ovOut.1 (List.mem_of_getElem? h3)
    rw [h4, h] at this
    cases this
theorem fnd_some {T : List Tr} {c : Cp} (h : lookD (ovMap T) c.1 = some c) : ∃ i : Nat, fndI (ovOut T) c.1 (ovOut T).length = (i : Int) ∧ (ovOut T)[i]? = some c := by
  rcases fndI_spec (ovOut T) c.1 (ovOut T).length with ⟨_, h2⟩ | ⟨i, d, _, h2, h3, h4⟩
  · obtain ⟨i, hi⟩ := List.mem_iff_getElem?.1 (mem_ovOut.2 h)
    exact absurd rfl (h2 i c (List.getElem?_eq_some_iff.1 hi).1 hi)
  · have := mem_ovOut.1 (List.mem_of_getElem? h3)
    rw [h4, h] at this
    cases this
    exact ⟨i, h2, h3⟩
theorem ov_keys (l : List Tr) : (ovOut l).map (·.1) = ovKeys l := by
  unfold ovOut
  rw [List.map_map]
  conv => rhs; rw [← List.map_id (ovKeys l)]
  refine List.map_congr_left fun b hb => ?_
  obtain ⟨d, hd⟩ := Option.isSome_iff_exists.1 (mem_ovKeys.1 hb)
  have hk := keyed_map l b d hd
  have : pick (ovMap l) b = d := by unfold pick; rw [hd]; rfl
  show (pick (ovMap l) b).1 = b
  rw [this, hk]
theorem ov_rises {l : List Tr} {q : Nat} {c d : Cp} (h1 : (ovOut l)[q]? = some c) (h2 : (ovOut l)[q + 1]? = some d) : c.1 < d.1 := by
  have hs := keys_sorted l
  rw [← ov_keys, List.pairwise_map, List.pairwise_iff_getElem] at hs
  obtain ⟨a1, e1⟩ := List.getElem?_eq_some_iff.1 h1
  obtain ⟨a2, e2⟩ := List.getElem?_eq_some_iff.1 h2
  have := hs q (q + 1) a1 a2 (by omega)
  rw [e1, e2] at this
  exact this
end Go.Proofs.Ytdeeegodiacjgaa
