/- Plain laws for ReplayLast and ReplayRevoked: what a last transaction decides; the copies that count, counted. No condition. -/
import Derived.Test.YtdeeegodiacjgaaR0
namespace Go.Proofs.Ytdeeegodiacjgaa
open Go.RowKit
/-- Each copy stands under its own block. -/
def Keyed (m : Mp) : Prop := ∀ b c, lookD m b = some c → c.1 = b
theorem keyed_upd {m : Mp} (h : Keyed m) (c : Cp) : Keyed (updD m c.1 c) := by
  intro b d hd
  rw [lookD_upd] at hd
  split at hd
  · rename_i e
    cases hd
    exact e.symm
  · exact h b d hd
theorem keyed_del {m : Mp} (h : Keyed m) (x : Int) : Keyed (delD m x) := by
  intro b d hd
  rw [lookD_del] at hd
  split at hd
  · cases hd
  · exact h b d hd
theorem keyed_map (l : List Tr) : Keyed (ovMap l) := by
  have hd : ∀ (rs : List Int) (m : Mp), Keyed m → Keyed (dels m rs) := by
    intro rs
    induction rs with
    | nil => intro m h; exact h
    | cons r rs ih => intro m h; exact ih _ (keyed_del h r)
  have hu : ∀ (cs : List Cp) (m : Mp), Keyed m → Keyed (upds m cs) := by
    intro cs
    induction cs with
    | nil => intro m h; exact h
    | cons c cs ih => intro m h; exact ih _ (keyed_upd h c)
  suffices ∀ (l : List Tr) (m : Mp), Keyed m → Keyed (l.foldl ovStep m) by
    exact this l [] (fun b c h => by simp [lookD] at h)
  intro l
  induction l with
  | nil => intro m h; exact h
  | cons t l ih => intro m h; exact ih _ (hd _ _ (hu _ _ h))
theorem mem_ovOut {l : List Tr} {c : Cp} : c ∈ ovOut l ↔ lookD (ovMap l) c.1 = some c := by
  unfold ovOut
  rw [List.mem_map]
  constructor
  · rintro ⟨b, hb, rfl⟩
    rw [mem_ovKeys] at hb
    obtain ⟨d, hd⟩ := Option.isSome_iff_exists.1 hb
    have hk := keyed_map l b d hd
    have : pick (ovMap l) b = d := by unfold pick; rw [hd]; rfl
    rw [this, hk]
    exact hd
  · intro h
    refine ⟨c.1, mem_ovKeys.2 (by rw [h]; rfl), ?_⟩
    unfold pick
    rw [h]
    rfl
/-- Does a list of copies have a block? -/
def hasC (cs : List Cp) (b : Int) : Bool := cs.any fun c => decide (c.1 = b)
theorem hasC_ov {l : List Tr} {b : Int} : hasC (ovOut l) b = true ↔ (lookD (ovMap l) b).isSome = true := by
  unfold hasC
  rw [List.any_eq_true]
  constructor
  · rintro ⟨c, hc, he⟩
    have := mem_ovOut.1 hc
    have e : c.1 = b := by simpa using he
    rw [e] at this
    rw [this]
    rfl
  · intro h
    obtain ⟨c, hc⟩ := Option.isSome_iff_exists.1 h
    have hk := keyed_map l b c hc
    exact ⟨c, mem_ovOut.2 (by rw [hk]; exact hc), by simpa using hk⟩
theorem nm_eq (b : Int) (t : Tr) : nm b t = (hasC t.2.1 b || decide (b ∈ t.2.2)) := by
  unfold nm hasC
  rw [Bool.or_comm]
/-- What ReplayLast asks, of T and one more. -/
theorem last_from {T : List Tr} {t : Tr} {c : Cp} (h : c ∈ ovOut (T ++ [t])) : c ∈ (if hasC t.2.1 c.1 || decide (c.1 ∈ t.2.2) then ovOut [t] else ovOut T) := by
  have h1 := mem_ovOut.1 h
  rw [look_app] at h1
  have e : ([t].any (nm c.1)) = (hasC t.2.1 c.1 || decide (c.1 ∈ t.2.2)) := by rw [← nm_eq]; simp
  rw [e] at h1
  split at h1
  · rename_i hb
    rw [if_pos hb]
    exact mem_ovOut.2 h1
  · rename_i hb
    rw [if_neg hb]
    exact mem_ovOut.2 h1
theorem last_before {T : List Tr} {t : Tr} {c : Cp} (h : c ∈ ovOut T) (h1 : hasC t.2.1 c.1 = false) (h2 : decide (c.1 ∈ t.2.2) = false) : hasC (ovOut (T ++ [t])) c.1 = true := by
  rw [hasC_ov, look_app]
  have e : ([t].any (nm c.1)) = false := by rw [List.any_cons, nm_eq, h1, h2]; rfl
  rw [if_neg (by rw [e]; simp), mem_ovOut.1 h]
  rfl
theorem last_alone {T : List Tr} {t : Tr} {c : Cp} (h : c ∈ ovOut [t]) : hasC (ovOut (T ++ [t])) c.1 = true := by
  rw [hasC_ov, look_app]
  have h1 := mem_ovOut.1 h
  cases e : [t].any (nm c.1) with
  | true => rw [if_pos rfl, h1]; rfl
  | false =>
    have := look_none e
    rw [h1] at this
    cases this
/-- The copies of one transaction that count, ahead of others. -/
def passC (l : List Tr) (rv : List Int) : List Cp → List Int
  | [] => []
  | c :: cs => if l.any (nm c.1) || hasC cs c.1 || decide (c.1 ∈ rv) then passC l rv cs else c.1 :: passC l rv cs
def pass : List Tr → List Int
  | [] => []
  | t :: l => passC l t.2.2 t.2.1 ++ pass l
theorem mem_passC {l : List Tr} {rv : List Int} {b : Int} (cs : List Cp) : b ∈ passC l rv cs ↔ l.any (nm b) = false ∧ hasC cs b = true ∧ b ∉ rv := by
  induction cs with
  | nil => simp [passC, hasC]
  | cons c cs ih =>
    unfold passC
    have hc : hasC (c :: cs) b = (decide (c.1 = b) || hasC cs b) := rfl
    rw [hc]
    by_cases hp : (l.any (nm c.1) || hasC cs c.1 || decide (c.1 ∈ rv)) = true
    · rw [if_pos hp, ih]
      by_cases e : c.1 = b
      · subst e
        cases h1 : l.any (nm c.1)
        · cases h2 : hasC cs c.1
          · rw [h1, h2] at hp
            have : c.1 ∈ rv := by simpa using hp
            simp [this]
          · simp
        · simp
      · simp [e]
    · rw [if_neg hp, List.mem_cons, ih]
      by_cases e : c.1 = b
      · subst e
        have hp' : (l.any (nm c.1) || hasC cs c.1 || decide (c.1 ∈ rv)) = false := by simpa using hp
        rw [Bool.or_eq_false_iff, Bool.or_eq_false_iff] at hp'
        have h3 : c.1 ∉ rv := by simpa using hp'.2
        simp [hp'.1.1, h3]
      · have : ¬ b = c.1 := fun h => e h.symm
        simp [e, this]
theorem passC_nodup {l : List Tr} {rv : List Int} (cs : List Cp) : (passC l rv cs).Nodup := by
  induction cs with
  | nil => simp [passC]
  | cons c cs ih =>
    unfold passC
    split
    · exact ih
    · rename_i hp
      refine List.nodup_cons.2 ⟨fun hm => ?_, ih⟩
      have := ((mem_passC cs).1 hm).2.1
      rw [this] at hp
      simp at hp
theorem look_one {t : Tr} {b : Int} : (lookD (ovMap [t]) b).isSome = true ↔ hasC t.2.1 b = true ∧ b ∉ t.2.2 := by
  have h : lookD (ovMap [t]) b = if b ∈ t.2.2 then none else lookD (upds [] t.2.1) b := by
    show lookD (dels (upds [] t.2.1) t.2.2) b = _
    rw [look_dels]
  rw [h]
  by_cases hb : b ∈ t.2.2
  · simp [hb]
  · rw [if_neg hb]
    simp only [hb, not_false_eq_true, and_true]
    rw [look_upds b t.2.1 [] (false, zC) (by simp [lookD, optOf])]
    cases hc : hasC t.2.1 b with
    | false => rw [stp_other _ hc]; simp [optOf]
    | true =>
      suffices ∀ (cs : List Cp) (r : Bool × Cp), (hasC cs b = true ∨ r.1 = true) → (cs.foldl (stp b) r).1 = true by
        have := this t.2.1 (false, zC) (.inl hc)
        unfold optOf
        rw [if_pos this]
        simp
      intro cs
      induction cs with
      | nil =>
        intro r hr
        rcases hr with hr | hr
        · simp [hasC] at hr
        · exact hr
      | cons c cs ih =>
        intro r hr
        refine ih _ ?_
        by_cases e : c.1 = b
        · exact .inr (by unfold stp; rw [if_pos e])
        · rcases hr with hr | hr
          · refine .inl ?_
            have hc : hasC (c :: cs) b = (decide (c.1 = b) || hasC cs b) := rfl
            rw [hc] at hr
            simpa [e] using hr
          · exact .inr (by unfold stp; rw [if_neg e]; exact hr)
theorem mem_pass {b : Int} (l : List Tr) : b ∈ pass l ↔ (lookD (ovMap l) b).isSome = true := by
  induction l with
  | nil => simp [pass, ovMap, lookD]
  | cons t l ih =>
    show b ∈ passC l t.2.2 t.2.1 ++ pass l ↔ _
    rw [List.mem_append, mem_passC, ih, show t :: l = [t] ++ l from rfl, look_app]
    cases h : l.any (nm b) with
    | true => simp
    | false =>
      rw [if_neg (by simp), look_one, look_none h]
      simp
theorem pass_nodup (l : List Tr) : (pass l).Nodup := by
  induction l with
  | nil => simp [pass]
  | cons t l ih =>
    show (passC l t.2.2 t.2.1 ++ pass l).Nodup
    refine List.nodup_append.2 ⟨passC_nodup _, ih, fun a ha b hb e => ?_⟩
    subst e
    have h1 := ((mem_passC t.2.1).1 ha).1
    have h2 := (mem_pass l).1 hb
    rw [look_none h1] at h2
    cases h2
theorem pass_len (l : List Tr) : (pass l).length = (ovOut l).length := by
  have h1 : (ovOut l).length = ((ovMap l).map (·.1)).length := by simp [ovOut, ovKeys]
  rw [h1]
  refine ((List.perm_ext_iff_of_nodup (pass_nodup l) (ovMap_nodup l)).2 fun b => ?_).length_eq
  rw [mem_pass, mem_keys]
/-- What is left of a block behind the last copy that names it. -/
theorem look_at {a l : List Tr} {t : Tr} {p q : List Cp} {c : Cp} (ht : t.2.1 = p ++ c :: q) (h1 : l.any (nm c.1) = false) (h2 : hasC q c.1 = false) : lookD (ovMap (a ++ t :: l)) c.1 = if c.1 ∈ t.2.2 then none else some c := by
  rw [show a ++ t :: l = (a ++ [t]) ++ l by simp, look_app, h1, if_neg (by simp), look_map, fin_app]
  show optOf (stpT c.1 (fin a c.1) t) = _
  unfold stpT
  by_cases hb : c.1 ∈ t.2.2
  · rw [if_pos hb, if_pos hb]
    rfl
  · rw [if_neg hb, if_neg hb, ht, List.foldl_append, List.foldl_cons, stp_other q h2]
    unfold stp
    rw [if_pos rfl]
    rfl
end Go.Proofs.Ytdeeegodiacjgaa
