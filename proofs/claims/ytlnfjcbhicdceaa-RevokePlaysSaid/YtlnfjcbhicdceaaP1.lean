/- Plain laws on the records that are laid, beside the map's. No program in sight; no condition but those written. -/
import Derived.Test.YtlnfjcbhicdceaaW4
namespace Go.Proofs.Ytlnfjcbhicdceaa
open Go.RowKit
abbrev K := Int × Int
abbrev R3 := Int × Int × Bool
def strike (ml : List K) (x : K) : List K := ml.filter fun y => decide (y ≠ x)
def refStep (ml : List K) (r : R3) : List K := if !r.2.2 && decide (0 ≤ r.1) then strike ml (r.1, r.2.1) ++ [(r.1, r.2.1)] else strike ml (r.1, r.2.1)
def tabStep (m : M) (r : R3) : M := if r.2.2 then del1 m r.1 r.2.1 else upd1 m r.1 r.2.1
def keys (m : M) : List K := m.map (·.1)
theorem keys_del (m : M) (x : K) : keys (del m x) = strike (keys m) x := by
  unfold keys del strike
  rw [List.filter_map]
  rfl
theorem strike_none {ml : List K} {x : K} (h : x ∉ ml) : strike ml x = ml := by
  unfold strike
  rw [List.filter_eq_self]
  intro y hy
  have : y ≠ x := fun e => h (by rw [← e]; exact hy)
  simpa using this
theorem mem_strike {ml : List K} {x y : K} : y ∈ strike ml x ↔ y ∈ ml ∧ y ≠ x := by simp [strike]
theorem strike_perm {ml : List K} {x : K} (hn : ml.Nodup) (h : x ∈ ml) : ml.Perm (strike ml x ++ [x]) := by
  induction ml with
  | nil => cases h
  | cons y l ih =>
    rw [List.nodup_cons] at hn
    by_cases e : y = x
    · subst e
      have : strike (y :: l) y = l := by
        unfold strike
        rw [List.filter_cons_of_neg (by simp)]
        exact strike_none hn.1
      rw [this]
      exact (List.perm_append_singleton y l).symm
    · have hx : x ∈ l := by
        rcases List.mem_cons.1 h with h | h
        · exact absurd h.symm e
        · exact h
      have : strike (y :: l) x = y :: strike l x := by
        unfold strike
        rw [List.filter_cons_of_pos (by simpa using e)]
      rw [this]
      exact (ih hn.2 hx).cons y
theorem keys_upd (m : M) (x : K) (v : Value) : keys (upd m x v) = if x ∈ keys m then keys m else keys m ++ [x] := by
  unfold upd keys
  by_cases h : x ∈ m.map (·.1)
  · rw [if_pos h, if_pos h, List.map_map]
    refine List.map_congr_left fun p _ => ?_
    simp only [Function.comp]
    split
    · rename_i e; exact e.symm
    · rfl
  · rw [if_neg h, if_neg h, List.map_append]; rfl
/-- Every record's numbers are not negative. -/
def Pos (ml : List K) : Prop := ∀ x ∈ ml, 0 ≤ x.1 ∧ 0 ≤ x.2
theorem step_perm {m : M} {ml : List K} {r : R3} (hp : (keys m).Perm ml) (hn : (keys m).Nodup) (hpos : Pos ml) : (keys (tabStep m r)).Perm (refStep ml r) := by
  obtain ⟨b, s, c⟩ := r
  unfold tabStep refStep del1 upd1
  by_cases hb : b < 0
  · have hx : (b, s) ∉ ml := fun h => by have := (hpos _ h).1; simp at this; omega
    have h0 : ¬ 0 ≤ b := by omega
    rw [strike_none hx]
    simp only [hb, if_true, h0, decide_false, Bool.and_false, Bool.false_eq_true, if_false, ite_self]
    exact hp
  · have h0 : 0 ≤ b := by omega
    simp only [hb, if_false, h0, decide_true, Bool.and_true]
    cases c with
    | true =>
      simp only [if_true, Bool.not_true, Bool.false_eq_true, if_false]
      rw [keys_del]
      exact hp.filter _
    | false =>
      simp only [Bool.false_eq_true, if_false, Bool.not_false, if_true]
      rw [keys_upd]
      by_cases hx : (b, s) ∈ keys m
      · rw [if_pos hx]
        exact (strike_perm hn hx).trans ((hp.filter _).append_right _)
      · rw [if_neg hx, strike_none (fun h => hx (hp.mem_iff.2 h))]
        exact hp.append_right _
theorem step_pos {ml : List K} {r : R3} (hpos : Pos ml) (hr : 0 ≤ r.2.1) : Pos (refStep ml r) := by
  unfold refStep
  intro x hx
  split at hx
  · rename_i h
    rcases List.mem_append.1 hx with h1 | h1
    · exact hpos x (mem_strike.1 h1).1
    · simp only [List.mem_singleton] at h1
      subst h1
      simp only [Bool.and_eq_true, decide_eq_true_eq] at h
      exact ⟨h.2, hr⟩
  · exact hpos x (mem_strike.1 hx).1
theorem step_len (ml : List K) (r : R3) : (refStep ml r).length ≤ ml.length + 1 := by
  have h : (strike ml (r.1, r.2.1)).length ≤ ml.length := List.length_filter_le _ _
  unfold refStep
  split
  · rw [List.length_append]; simp; omega
  · omega
def refRun (l : List R3) : List K := l.foldl refStep []
theorem refRun_snoc (l : List R3) (r : R3) : refRun (l ++ [r]) = refStep (refRun l) r := by simp [refRun]
theorem take_snoc {l : List R3} {k : Nat} {r : R3} (h : l[k]? = some r) : l.take (k + 1) = l.take k ++ [r] := by
  rw [List.take_add_one, h]; rfl
def OkR (l : List R3) : Prop := ∀ r ∈ l, 0 ≤ r.2.1 ∧ r.2.1 ≤ 4294967295
theorem refRun_pos {l : List R3} (h : OkR l) : ∀ k, Pos (refRun (l.take k)) := by
  intro k
  induction k with
  | zero => simp [refRun, Pos]
  | succ k ih =>
    cases hk : l[k]? with
    | none =>
      rw [List.take_add_one, hk]
      simpa using ih
    | some r =>
      rw [take_snoc hk, refRun_snoc]
      exact step_pos ih (h r (List.mem_of_getElem? hk)).1
theorem refRun_len (l : List R3) : ∀ k, (refRun (l.take k)).length ≤ k := by
  intro k
  induction k with
  | zero => simp [refRun]
  | succ k ih =>
    cases hk : l[k]? with
    | none =>
      rw [List.take_add_one, hk]
      simp
      omega
    | some r =>
      rw [take_snoc hk, refRun_snoc]
      have := step_len (refRun (l.take k)) r
      omega
/-- The cells of such a list of records. -/
def flat3 (ml : List K) : List Value := ml.flatMap fun x => [.int .i64 x.1, .int .u32 x.2, .bool false]
theorem flat3_snoc (ml : List K) (x : K) : flat3 (ml ++ [x]) = flat3 ml ++ [.int .i64 x.1, .int .u32 x.2, .bool false] := by simp [flat3]
theorem flat3_get {ml : List K} : ∀ {i : Nat} {x : K}, ml[i]? = some x → (flat3 ml)[i * 3]? = some (.int .i64 x.1) ∧ (flat3 ml)[i * 3 + 1]? = some (.int .u32 x.2) ∧ (flat3 ml)[i * 3 + 2]? = some (.bool false) := by
  induction ml with
  | nil => intro i x h; simp at h
  | cons y l ih =>
    intro i x h
    cases i with
    | zero => simp at h; subst h; simp [flat3]
    | succ i =>
      have := ih (show l[i]? = some x by simpa using h)
      have e : flat3 (y :: l) = .int .i64 y.1 :: .int .u32 y.2 :: .bool false :: flat3 l := by simp [flat3]
      rw [e]
      have h3 : (i + 1) * 3 = i * 3 + 1 + 1 + 1 := by omega
      rw [h3]
      simpa using this
theorem strike_take {ml : List K} {x y : K} {k : Nat} (h : ml[k]? = some y) : strike (ml.take (k + 1)) x = if y = x then strike (ml.take k) x else strike (ml.take k) x ++ [y] := by
  rw [List.take_add_one, h]
  unfold strike
  simp only [Option.toList_some, List.filter_append]
  by_cases e : y = x
  · simp [e]
  · simp [e]
end Go.Proofs.Ytlnfjcbhicdceaa
