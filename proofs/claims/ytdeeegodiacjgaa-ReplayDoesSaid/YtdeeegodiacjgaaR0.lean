/- Plain laws on what transactions come to: all revoked, gone through twice. No condition. -/
import Derived.Test.YtdeeegodiacjgaaW13
import Derived.Test.YtdeeegodiacjgaaDisk
namespace Go.Proofs.Ytdeeegodiacjgaa
open Go.RowKit
def allB (l : List Tr) : List Int := l.flatMap fun t => t.2.1.map (·.1)
theorem allB_len (l : List Tr) : (allB l).length = cpsN l := by
  unfold allB cpsN
  induction l with
  | nil => rfl
  | cons t l ih => simp [ih]
theorem fin_app (a b : List Tr) (x : Int) : fin (a ++ b) x = b.foldl (stpT x) (fin a x) := by simp [fin]
/-- Is a block named? -/
def nm (b : Int) (t : Tr) : Bool := decide (b ∈ t.2.2) || t.2.1.any fun c => decide (c.1 = b)
theorem stp_other {b : Int} (cs : List Cp) (h : cs.any (fun c => decide (c.1 = b)) = false) (r : Bool × Cp) : cs.foldl (stp b) r = r := by
  induction cs generalizing r with
  | nil => rfl
  | cons c cs ih =>
    rw [List.any_cons, Bool.or_eq_false_iff] at h
    have h1 : ¬ c.1 = b := by simpa using h.1
    show cs.foldl (stp b) (stp b r c) = r
    rw [ih h.2]
    unfold stp
    rw [if_neg h1]
theorem stp_same {b : Int} (cs : List Cp) (h : cs.any (fun c => decide (c.1 = b)) = true) (r s : Bool × Cp) : cs.foldl (stp b) r = cs.foldl (stp b) s := by
  induction cs generalizing r s with
  | nil => simp at h
  | cons c cs ih =>
    show cs.foldl (stp b) (stp b r c) = cs.foldl (stp b) (stp b s c)
    by_cases h1 : c.1 = b
    · have : stp b r c = stp b s c := by unfold stp; rw [if_pos h1, if_pos h1]
      rw [this]
    · rw [List.any_cons] at h
      have h2 : cs.any (fun c => decide (c.1 = b)) = true := by simpa [h1] using h
      exact ih h2 _ _
theorem optOf_false (c : Cp) : optOf (false, c) = none := rfl
theorem stpT_other {b : Int} {t : Tr} (h : nm b t = false) (r : Bool × Cp) : optOf (stpT b r t) = optOf r := by
  unfold nm at h
  rw [Bool.or_eq_false_iff] at h
  unfold stpT
  have h1 : ¬ b ∈ t.2.2 := by simpa using h.1
  rw [stp_other _ h.2, if_neg h1]
theorem stpT_same {b : Int} {t : Tr} (h : nm b t = true) (r s : Bool × Cp) : optOf (stpT b r t) = optOf (stpT b s t) := by
  unfold nm at h
  unfold stpT
  by_cases h1 : b ∈ t.2.2
  · rw [if_pos h1, if_pos h1]
    rfl
  · rw [if_neg h1, if_neg h1]
    have h2 : t.2.1.any (fun c => decide (c.1 = b)) = true := by simpa [h1] using h
    rw [stp_same _ h2 r s]
theorem stpT_opt {b : Int} {t : Tr} {r s : Bool × Cp} (h : optOf r = optOf s) : optOf (stpT b r t) = optOf (stpT b s t) := by
  cases hn : nm b t with
  | true => exact stpT_same hn r s
  | false => rw [stpT_other hn, stpT_other hn, h]
theorem fold_opt {b : Int} (l : List Tr) : ∀ {r s : Bool × Cp}, optOf r = optOf s → optOf (l.foldl (stpT b) r) = optOf (l.foldl (stpT b) s) := by
  induction l with
  | nil => intro r s h; exact h
  | cons t l ih => intro r s h; exact ih (stpT_opt h)
theorem fold_same {b : Int} (l : List Tr) (h : l.any (nm b) = true) : ∀ (r s : Bool × Cp), optOf (l.foldl (stpT b) r) = optOf (l.foldl (stpT b) s) := by
  induction l with
  | nil => simp at h
  | cons t l ih =>
    intro r s
    cases hn : nm b t with
    | true => exact fold_opt l (stpT_same hn r s)
    | false =>
      rw [List.any_cons, hn, Bool.false_or] at h
      exact ih h _ _
theorem fold_other {b : Int} (l : List Tr) (h : l.any (nm b) = false) : ∀ (r : Bool × Cp), optOf (l.foldl (stpT b) r) = optOf r := by
  induction l with
  | nil => intro r; rfl
  | cons t l ih =>
    intro r
    rw [List.any_cons, Bool.or_eq_false_iff] at h
    show optOf (l.foldl (stpT b) (stpT b r t)) = _
    rw [ih h.2, stpT_other h.1]
/-- What a transaction list leaves of a block that another list is put before. -/
theorem look_app (a l : List Tr) (b : Int) : lookD (ovMap (a ++ l)) b = if l.any (nm b) then lookD (ovMap l) b else lookD (ovMap a) b := by
  rw [look_map, look_map, look_map, fin_app]
  by_cases h : l.any (nm b) = true
  · rw [if_pos h]
    exact fold_same l h _ _
  · rw [if_neg h]
    exact fold_other l (by simpa using h) _
theorem keys_sorted (l : List Tr) : (ovKeys l).Pairwise (· < ·) := by
  have h1 : (ovKeys l).Pairwise (fun x y => decide (x ≤ y) = true) := List.pairwise_mergeSort (fun a b c h1 h2 => by simp at *; omega) (fun a b => by simp; omega) _
  have h2 : (ovKeys l).Nodup := (List.mergeSort_perm _ _).nodup_iff.2 (ovMap_nodup l)
  refine (h1.and h2).imp fun {a b} h => ?_
  have := h.1
  have h3 := h.2
  simp at this
  omega
theorem mem_ovKeys {l : List Tr} {b : Int} : b ∈ ovKeys l ↔ (lookD (ovMap l) b).isSome = true := by
  unfold ovKeys
  rw [List.mem_mergeSort, mem_keys]
/-- Lists that leave the same of each block come to the same. -/
theorem ov_ext {a l : List Tr} (h : ∀ b, lookD (ovMap a) b = lookD (ovMap l) b) : ovOut a = ovOut l := by
  have hk : ovKeys a = ovKeys l := sorted_ext (keys_sorted a) (keys_sorted l) fun x => by rw [mem_ovKeys, mem_ovKeys, h]
  unfold ovOut
  rw [hk]
  refine List.map_congr_left fun b _ => ?_
  unfold pick
  rw [h]
theorem ov_twice (l : List Tr) : ovOut (l ++ l) = ovOut l := ov_ext fun b => by rw [look_app]; split <;> rfl
theorem ov_none {l : List Tr} (h : ∀ b, lookD (ovMap l) b = none) : ovOut l = [] := by
  have hk : ovKeys l = [] := by
    cases he : ovKeys l with
    | nil => rfl
    | cons x xs =>
      have := (mem_ovKeys (l := l) (b := x)).1 (by rw [he]; simp)
      rw [h] at this
      cases this
  unfold ovOut
  rw [hk]
  rfl
theorem look_none {l : List Tr} {b : Int} (h : l.any (nm b) = false) : lookD (ovMap l) b = none := by
  rw [look_map]
  exact fold_other l h (false, zC)
theorem ov_revoked (l : List Tr) (s : Int) : ovOut (l ++ [(s, [], allB l)]) = [] := by
  refine ov_none fun b => ?_
  rw [look_app]
  by_cases hb : b ∈ allB l
  · rw [if_pos (by simp [nm, hb])]
    rw [look_map]
    show optOf (stpT b (false, zC) (s, [], allB l)) = none
    unfold stpT
    rw [if_pos hb]
    rfl
  · rw [if_neg (by simp [nm, hb])]
    rw [look_map]
    suffices ∀ (l : List Tr) (r : Bool × Cp), (∀ t ∈ l, b ∉ t.2.1.map (·.1)) → optOf r = none → optOf (l.foldl (stpT b) r) = none by
      refine this l (false, zC) (fun t ht hm => hb ?_) rfl
      exact List.mem_flatMap.2 ⟨t, ht, hm⟩
    intro l
    induction l with
    | nil => intro r _ h; exact h
    | cons t l ih =>
      intro r h hr
      refine ih (stpT b r t) (fun u hu => h u (by simp [hu])) ?_
      unfold stpT
      have : t.2.1.any (fun c => decide (c.1 = b)) = false := by
        rw [List.any_eq_false]
        intro c hc
        simp only [decide_eq_true_eq]
        exact fun e => h t (by simp) (by rw [← e]; exact List.mem_map_of_mem hc)
      rw [stp_other _ this]
      split
      · rfl
      · exact hr
/-- Copies put over an image twice. -/
def lastAt (i : Nat) (cs : List Cp) (x : Blk) : Blk := cs.foldl (fun x c => if c.1 = (i : Int) then c.2 else x) x
theorem overL_get (cs : List Cp) : ∀ (o : List Blk) (i : Nat) (x : Blk), o[i]? = some x → (overL o cs)[i]? = some (lastAt i cs x) := by
  induction cs with
  | nil => intro o i x h; exact h
  | cons c cs ih =>
    intro o i x h
    have hi : i < o.length := (List.getElem?_eq_some_iff.1 h).1
    show (overL (ovPut o c) cs)[i]? = some (lastAt i cs (if c.1 = (i : Int) then c.2 else x))
    refine ih _ _ _ ?_
    unfold ovPut
    by_cases he : c.1 = (i : Int)
    · rw [if_pos he, if_pos ⟨by omega, by omega⟩, he]
      simp [hi]
    · rw [if_neg he]
      split
      · rename_i h1
        rw [List.getElem?_set_ne (by omega)]
        exact h
      · exact h
theorem lastAt_twice (i : Nat) (cs : List Cp) : ∀ (x : Blk), lastAt i cs (lastAt i cs x) = lastAt i cs x := by
  have key : ∀ (cs : List Cp), (∀ x, lastAt i cs x = x) ∨ (∀ x y, lastAt i cs x = lastAt i cs y) := by
    intro cs
    induction cs with
    | nil => exact .inl fun x => rfl
    | cons c cs ih =>
      rcases ih with h | h
      · by_cases he : c.1 = (i : Int)
        · refine .inr fun x y => ?_
          show lastAt i cs (if c.1 = (i : Int) then c.2 else x) = lastAt i cs (if c.1 = (i : Int) then c.2 else y)
          rw [if_pos he, if_pos he]
        · refine .inl fun x => ?_
          show lastAt i cs (if c.1 = (i : Int) then c.2 else x) = x
          rw [if_neg he, h]
      · exact .inr fun x y => h _ _
  intro x
  rcases key cs with h | h
  · rw [h, h]
  · exact h _ _
theorem overL_twice (o : List Blk) (cs : List Cp) : overL (overL o cs) cs = overL o cs := by
  apply List.ext_getElem?
  intro i
  by_cases hi : i < o.length
  · obtain ⟨x, hx⟩ : ∃ x, o[i]? = some x := ⟨_, List.getElem?_eq_getElem hi⟩
    have h1 := overL_get cs o i x hx
    rw [overL_get cs _ i _ h1, h1, lastAt_twice]
  · rw [List.getElem?_eq_none (by rw [overL_len, overL_len]; omega), List.getElem?_eq_none (by rw [overL_len]; omega)]
end Go.Proofs.Ytdeeegodiacjgaa
