/- What any transactions come to is what the document says: the plain law. No condition. -/
import Derived.Test.YtdeeegodiacjgaaW12
namespace Go.Proofs.Ytdeeegodiacjgaa
open Go.RowKit
theorem sorted_ext : ∀ {a b : List Int}, a.Pairwise (· < ·) → b.Pairwise (· < ·) → (∀ x, x ∈ a ↔ x ∈ b) → a = b := by
  intro a
  induction a with
  | nil =>
    intro b _ _ h
    cases b with
    | nil => rfl
    | cons y b => exact absurd ((h y).2 List.mem_cons_self) (by simp)
  | cons x a ih =>
    intro b ha hb h
    cases b with
    | nil => exact absurd ((h x).1 List.mem_cons_self) (by simp)
    | cons y b =>
      rw [List.pairwise_cons] at ha hb
      have hxy : x = y := by
        rcases List.mem_cons.1 ((h x).1 List.mem_cons_self) with e | e
        · exact e
        · rcases List.mem_cons.1 ((h y).2 List.mem_cons_self) with e' | e'
          · exact e'.symm
          · have := hb.1 x e
            have := ha.1 y e'
            omega
      subst hxy
      rw [ih ha.2 hb.2 fun z => ?_]
      have hz := h z
      rw [List.mem_cons, List.mem_cons] at hz
      constructor
      · intro e
        rcases hz.1 (.inr e) with e' | e'
        · subst e'; exact absurd (ha.1 z e) (by omega)
        · exact e'
      · intro e
        rcases hz.2 (.inr e) with e' | e'
        · subst e'; exact absurd (hb.1 z e) (by omega)
        · exact e'
def optOf (r : Bool × Cp) : Option Cp := if r.1 then some r.2 else none
theorem look_upds (b : Int) (cs : List Cp) : ∀ (m : Mp) (r : Bool × Cp), lookD m b = optOf r → lookD (upds m cs) b = optOf (cs.foldl (stp b) r) := by
  induction cs with
  | nil => intro m r h; exact h
  | cons c cs ih =>
    intro m r h
    show lookD (upds (updD m c.1 c) cs) b = optOf (cs.foldl (stp b) (stp b r c))
    refine ih _ _ ?_
    rw [lookD_upd]
    unfold stp
    by_cases e : c.1 = b
    · rw [if_pos e.symm, if_pos e]
      rfl
    · rw [if_neg (fun e' => e e'.symm), if_neg e]
      exact h
theorem look_dels (b : Int) (rs : List Int) : ∀ (m : Mp), lookD (dels m rs) b = if b ∈ rs then none else lookD m b := by
  induction rs with
  | nil => intro m; rfl
  | cons r rs ih =>
    intro m
    show lookD (dels (delD m r) rs) b = _
    rw [ih, lookD_del]
    by_cases h1 : b ∈ rs
    · rw [if_pos h1, if_pos (List.mem_cons_of_mem _ h1)]
    · rw [if_neg h1]
      by_cases h2 : b = r
      · rw [if_pos h2, if_pos (by rw [h2]; exact List.mem_cons_self)]
      · rw [if_neg h2, if_neg (by rw [List.mem_cons]; exact fun e => e.elim h2 h1)]
theorem look_step (b : Int) (t : Tr) (m : Mp) (r : Bool × Cp) (h : lookD m b = optOf r) : lookD (ovStep m t) b = optOf (stpT b r t) := by
  unfold ovStep stpT
  rw [look_dels, look_upds b t.2.1 m r h]
  by_cases hb : b ∈ t.2.2
  · rw [if_pos hb, if_pos hb]
    rfl
  · rw [if_neg hb, if_neg hb]
theorem look_map (l : List Tr) (b : Int) : lookD (ovMap l) b = optOf (fin l b) := by
  suffices ∀ (l : List Tr) (m : Mp) (r : Bool × Cp), lookD m b = optOf r → lookD (l.foldl ovStep m) b = optOf (l.foldl (stpT b) r) by
    exact this l [] (false, zC) rfl
  intro l
  induction l with
  | nil => intro m r h; exact h
  | cons t l ih => intro m r h; exact ih _ _ (look_step b t m r h)
theorem stp_yes (b : Int) (cs : List Cp) : ∀ (r : Bool × Cp), (cs.foldl (stp b) r).1 = true → r.1 = true ∨ b ∈ cs.map (·.1) := by
  induction cs with
  | nil => intro r h; exact .inl h
  | cons c cs ih =>
    intro r h
    rcases ih _ h with h' | h'
    · unfold stp at h'
      by_cases e : c.1 = b
      · exact .inr (by rw [List.map_cons, e]; exact List.mem_cons_self)
      · rw [if_neg e] at h'
        exact .inl h'
    · exact .inr (List.mem_cons_of_mem _ h')
theorem fin_yes (l : List Tr) (b : Int) (h : (fin l b).1 = true) : b ∈ bks l := by
  suffices ∀ (l : List Tr) (r : Bool × Cp), (l.foldl (stpT b) r).1 = true → r.1 = true ∨ b ∈ bks l by
    rcases this l _ h with h' | h'
    · cases h'
    · exact h'
  intro l
  induction l with
  | nil => intro r h; exact .inl h
  | cons t l ih =>
    intro r h
    have hb : bks (t :: l) = t.2.1.map (·.1) ++ bks l := by simp [bks]
    rw [hb, List.mem_append]
    rcases ih _ h with h' | h'
    · unfold stpT at h'
      by_cases e : b ∈ t.2.2
      · rw [if_pos e] at h'; cases h'
      · rw [if_neg e] at h'
        rcases stp_yes b _ _ h' with h2 | h2
        · exact .inl h2
        · exact .inr (.inl h2)
    · exact .inr (.inr h')
theorem dels_keys (m : Mp) (rs : List Int) (h : (m.map (·.1)).Nodup) : ((dels m rs).map (·.1)).Nodup := by
  induction rs generalizing m with
  | nil => exact h
  | cons b rs ih => exact ih _ (delD_nodup h b)
theorem upds_keys (m : Mp) (cs : List Cp) (h : (m.map (·.1)).Nodup) : ((upds m cs).map (·.1)).Nodup := by
  induction cs generalizing m with
  | nil => exact h
  | cons c cs ih => exact ih _ (updD_nodup h c.1 c)
theorem ovMap_nodup (l : List Tr) : ((ovMap l).map (·.1)).Nodup := by
  suffices ∀ (l : List Tr) (m : Mp), (m.map (·.1)).Nodup → ((l.foldl ovStep m).map (·.1)).Nodup by exact this l [] (by simp)
  intro l
  induction l with
  | nil => intro m h; exact h
  | cons t l ih => intro m h; exact ih _ (dels_keys _ _ (upds_keys _ _ h))
theorem sortI_strict {ks : List Int} (h : ks.Nodup) : (sortI ks).Pairwise (· < ·) := by
  have hp := List.mergeSort_perm ks (fun x y => decide (x ≤ y))
  have hn : (sortI ks).Nodup := hp.nodup_iff.2 h
  have hs : (sortI ks).Pairwise (fun x y => decide (x ≤ y) = true) := List.pairwise_mergeSort (fun a b c h1 h2 => by simp only [decide_eq_true_eq] at *; omega) (fun a b => by simp only [Bool.or_eq_true, decide_eq_true_eq]; omega) ks
  refine (List.Pairwise.and hs hn).imp fun {a b} h => ?_
  have := of_decide_eq_true h.1
  have := h.2
  omega
theorem keys_eq {l : List Tr} {ks : List Int} (h : CS ks (bks l)) : ovKeys l = ks.filter fun b => (fin l b).1 := by
  refine sorted_ext (sortI_strict (ovMap_nodup l)) (h.srt.sublist List.filter_sublist) fun b => ?_
  have h1 : b ∈ ovKeys l ↔ b ∈ (ovMap l).map (·.1) := List.mem_mergeSort
  rw [h1, mem_keys, look_map, List.mem_filter, h.mem]
  unfold optOf
  constructor
  · intro e
    cases hf : (fin l b).1 with
    | true => exact ⟨fin_yes l b hf, rfl⟩
    | false => rw [hf] at e; cases e
  · intro e
    rw [e.2]
    rfl
/-- What the program collects is what the document says. -/
theorem out_eq {l : List Tr} {ks : List Int} (h : CS ks (bks l)) : ovOut l = refOut l ks := by
  unfold ovOut refOut
  rw [keys_eq h]
  refine List.map_congr_left fun b hb => ?_
  have hf := (List.mem_filter.1 hb).2
  unfold pick
  rw [look_map]
  unfold optOf
  rw [hf]
  rfl
end Go.Proofs.Ytdeeegodiacjgaa
