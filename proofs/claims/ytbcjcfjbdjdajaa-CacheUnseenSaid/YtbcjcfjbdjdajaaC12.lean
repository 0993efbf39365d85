/- Plain laws: what is written back, what is evicted one after the other, what is dropped. -/
import Derived.Test.YtbcjcfjbdjdajaaC11
namespace Go.Proofs.Ytbcjcfjbdjdajaa
open Go.RowKit
theorem keysC_upd {C : Ck} {D : Dk} {p : PM} {b : Int} {h : Hd} (hb : (lookD C.has b).isSome = true) : keysC { D := D, has := updD C.has b h, pin := p } = keysC C := by
  show sortI ((updD C.has b h).map (·.1)) = _
  rw [updD_keys, if_pos (mem_keys.2 hb)]
  rfl
theorem delD_keys {m : HM} {b : Int} : (delD m b).map (·.1) = (m.map (·.1)).filter fun y => decide (y ≠ b) := by
  unfold delD
  rw [List.filter_map]
  rfl
theorem keysC_del {C : Ck} {b : Int} : keysC { C with has := delD C.has b } = (keysC C).filter fun y => decide (y ≠ b) := by
  show sortI ((delD C.has b).map (·.1)) = _
  rw [delD_keys, sortI_filter]
  rfl
theorem filter_ne_len {l : List Int} (hn : l.Nodup) {b : Int} (hb : b ∈ l) : (l.filter fun y => decide (y ≠ b)).length + 1 = l.length := by
  induction l with
  | nil => cases hb
  | cons x l ih =>
    rw [List.nodup_cons] at hn
    by_cases e : x = b
    · subst e
      rw [List.filter_cons_of_neg (by simp), List.filter_eq_self.2 (fun y hy => by
        have : y ≠ x := fun h => hn.1 (h ▸ hy)
        simpa using this)]
      rfl
    · rw [List.filter_cons_of_pos (by simpa using e), List.length_cons, List.length_cons, ih hn.2 ((List.mem_cons.1 hb).resolve_left fun h => e h.symm)]
theorem lt_nodup {l : List Int} (h : l.Pairwise (· < ·)) : l.Nodup := h.imp fun h => by omega
/-- What Writeback does. -/
structure WbP (n : Nat) (m : List Blk) (C : Ck) (k : Int) (b : Int) (C' : Ck) : Prop where
  wb : cWb C k = ((b, true, 0), C')
  b0 : 0 ≤ b
  b1 : b < n
  now : C'.D.now.getD b.toNat zB = m.getD b.toNat zB
  dirty : b ∉ cDirty C'
  clean : b ∈ cClean C'
  len : (cDirty C').length + 1 = (cDirty C).length
  dir : cDirty C' = (cDirty C).filter fun y => decide (y ≠ b)
theorem wb_plain {n : Nat} {m : List Blk} {K : Nat} {C : Ck} (h : Inv n m K C) (hp : C.pin = []) (k : Int) (hne : cDirty C ≠ []) : WbP n m C k ((cDirty C).getD (k.toNat % (cDirty C).length) 0) (cWb C k).2 := by
  obtain ⟨b, hb⟩ : ∃ b, (cDirty C).getD (k.toNat % (cDirty C).length) 0 = b := ⟨_, rfl⟩
  have hpk : pickL (cDirty C) k = (b, true) := by unfold pickL; rw [if_neg hne, hb]
  have hmem : b ∈ cDirty C := by have := pickL_mem (l := cDirty C) (n := k) (by rw [hpk]); rw [hpk] at this; exact this
  obtain ⟨x, hx⟩ := isD_some.1 (mem_dirty.1 hmem)
  obtain ⟨h0, h1⟩ := h.dirtyIn b hmem
  obtain ⟨q, rfl⟩ : ∃ q : Nat, b = q := ⟨b.toNat, by omega⟩
  have hr : cRef C (q : Int) = 0 := h.ref0.2 ⟨h0, h1⟩
  have hback : cBack C (q : Int) = backD C q x := by
    unfold cBack
    rw [if_pos hr, hx]
  have hw : cWb C k = (((q : Int), true, 0), backD C q x) := by
    unfold cWb
    rw [hpk, if_pos rfl, hback, hr]
  rw [hb, hw]
  have hI := inv_backD h (by omega) hx
  have hkeys : keysC (backD C q x) = keysC C := keysC_upd (by rw [hx]; rfl)
  have hisD : ∀ y, isD (backD C q x) y = (isD C y && decide (y ≠ (q : Int))) := fun y => by
    unfold isD
    show ((lookD (updD C.has (q : Int) (x, false)) y).getD zH).2 = _
    rw [lookD_upd]
    by_cases e : y = (q : Int)
    · rw [if_pos e]; simp [e]
    · rw [if_neg e]; simp [e]
  have hdir : cDirty (backD C q x) = (cDirty C).filter fun y => decide (y ≠ (q : Int)) := by
    unfold cDirty
    rw [hkeys, List.filter_filter]
    exact List.filter_congr fun y _ => by rw [hisD, Bool.and_comm]
  have hlook : lookD (backD C q x).has (q : Int) = some (x, false) := by
    show lookD (updD C.has (q : Int) (x, false)) (q : Int) = _
    rw [lookD_upd, if_pos rfl]
  refine ⟨hw, h0, h1, ?_, ?_, ?_, ?_, hdir⟩
  · have := hI.now (b := q) (by omega) (by rw [hisD]; simp)
    exact this
  · rw [hdir]; simp
  · rw [mem_clean]
    exact ⟨⟨x, hlook⟩, by unfold pinned; show ((lookD C.pin (q : Int)).getD false) = false; rw [hp]; rfl⟩
  · rw [hdir]; exact filter_ne_len (lt_nodup (dirty_lt h.nd)) hmem
theorem wb_none {C : Ck} (k : Int) (he : cDirty C = []) : cWb C k = ((0, false, 0), C) := by
  unfold cWb pickL
  rw [he]; rfl
theorem ev_none {C : Ck} (he : cClean C = []) : cEv C 0 = ((0, false), C) := by
  unfold cEv pickL
  rw [he]; rfl
theorem ev_some {C : Ck} (hnd : (C.has.map (·.1)).Nodup) {b : Int} {t : List Int} (he : cClean C = b :: t) : cEv C 0 = ((b, true), { C with has := delD C.has b }) ∧ cClean { C with has := delD C.has b } = t ∧ cDirty { C with has := delD C.has b } = cDirty C ∧ ((delD C.has b).map (·.1)).Nodup := by
  have hpk : pickL (cClean C) 0 = (b, true) := by unfold pickL; rw [he]; rfl
  obtain ⟨⟨x, hx⟩, _⟩ := mem_clean.1 (show b ∈ cClean C by rw [he]; simp)
  have hlk : ∀ y, y ≠ b → lookD (delD C.has b) y = lookD C.has y := fun y hy => by rw [lookD_del, if_neg hy]
  refine ⟨by unfold cEv; rw [hpk, if_pos rfl], ?_, ?_, delD_nodup hnd _⟩
  · have h1 : cClean { C with has := delD C.has b } = (cClean C).filter fun y => decide (y ≠ b) := by
      unfold cClean
      rw [keysC_del, List.filter_filter, List.filter_filter]
      refine List.filter_congr fun y _ => ?_
      by_cases e : y = b
      · simp [e]
      · have : isC { C with has := delD C.has b } y = isC C y := by unfold isC isD pinned; simp only [hlk y e]
        rw [this, Bool.and_comm]
    have hl := clean_lt hnd
    rw [h1, he, List.filter_cons_of_neg (by simp), List.filter_eq_self.2]
    intro y hy
    rw [he, List.pairwise_cons] at hl
    have := hl.1 y hy
    have : y ≠ b := by omega
    simpa using this
  · unfold cDirty
    rw [keysC_del, List.filter_filter]
    refine List.filter_congr fun y _ => ?_
    by_cases e : y = b
    · subst e
      have : isD C y = false := by unfold isD; rw [hx]; rfl
      simp [this]
    · have : isD { C with has := delD C.has b } y = isD C y := by unfold isD; simp only [hlk y e]
      rw [this]; simp [e]
structure EvP (C : Ck) (k : Nat) : Prop where
  out : (evN C k).1 = (cClean C).take k
  clean : cClean (evN C k).2 = (cClean C).drop k
  dirty : cDirty (evN C k).2 = cDirty C
  nd : ((evN C k).2.has.map (·.1)).Nodup
theorem ev_plain {C : Ck} (hnd : (C.has.map (·.1)).Nodup) : ∀ k, EvP C k
  | 0 => ⟨rfl, rfl, rfl, hnd⟩
  | k + 1 => by
    have ih := ev_plain hnd k
    have hd : evN C (k + 1) = (if (cEv (evN C k).2 0).1.2 then (evN C k).1 ++ [(cEv (evN C k).2 0).1.1] else (evN C k).1, (cEv (evN C k).2 0).2) := rfl
    cases hc : cClean (evN C k).2 with
    | nil =>
      have hdr : (cClean C).drop k = [] := ih.clean.symm.trans hc
      have hle : (cClean C).length ≤ k := List.drop_eq_nil_iff.1 hdr
      rw [ev_none hc, if_neg (by simp)] at hd
      refine ⟨?_, ?_, ?_, ?_⟩ <;> rw [hd]
      · show (evN C k).1 = _
        rw [ih.out, List.take_of_length_le hle, List.take_of_length_le (by omega)]
      · show cClean (evN C k).2 = _
        rw [hc, List.drop_eq_nil_iff.2 (by omega)]
      · exact ih.dirty
      · exact ih.nd
    | cons b t =>
      obtain ⟨e1, e2, e3, e4⟩ := ev_some ih.nd hc
      have hdr : (cClean C).drop k = b :: t := ih.clean.symm.trans hc
      rw [e1, if_pos rfl] at hd
      have hlt : k < (cClean C).length := by
        rcases Nat.lt_or_ge k (cClean C).length with h | h
        · exact h
        · rw [List.drop_eq_nil_iff.2 h] at hdr; cases hdr
      have hget : (cClean C)[k]? = some b := by
        have := congrArg (fun l => l[0]?) hdr
        simpa using this
      refine ⟨?_, ?_, ?_, ?_⟩ <;> rw [hd]
      · show (evN C k).1 ++ [b] = _
        rw [ih.out, List.take_add_one, hget]; rfl
      · show cClean { (evN C k).2 with has := delD (evN C k).2.has b } = _
        rw [e2, ← List.drop_drop, hdr]; rfl
      · exact e3.trans ih.dirty
      · exact e4
theorem evN_inv {n : Nat} {m : List Blk} {K : Nat} {C : Ck} (h : Inv n m K C) : ∀ k, Inv n m K (evN C k).2
  | 0 => h
  | k + 1 => inv_ev (evN_inv h k) 0
/-- Numbers that rise, from 0 on below n, are at most n. -/
theorem rise_len {l : List Int} {n : Nat} (hr : ∀ x ∈ l, 0 ≤ x ∧ x < (n : Int)) (hp : l.Pairwise (· < ·)) : l.length ≤ n := by
  have key : ∀ i (hi : i < l.length), (i : Int) ≤ l[i] := fun i => by
    induction i with
    | zero => intro hi; have := (hr _ (List.getElem_mem hi)).1; simpa using this
    | succ i ih =>
      intro hi
      have h1 := ih (by omega)
      have h2 := List.pairwise_iff_getElem.1 hp i (i + 1) (by omega) hi (by omega)
      push_cast; omega
  rcases Nat.lt_or_ge n l.length with h | h
  · have h1 := key n h
    have h2 := (hr _ (List.getElem_mem h)).2
    omega
  · exact h
theorem ev_all {n : Nat} {m : List Blk} {K : Nat} {C : Ck} (h : Inv n m K C) (hn : n ≤ 64) : (evN C 64).1 = cClean C ∧ cClean (evN C 64).2 = [] ∧ cDirty (evN C 64).2 = cDirty C := by
  have hl : (cClean C).length ≤ 64 := Nat.le_trans (rise_len h.cleanIn (clean_lt h.nd)) hn
  have he := ev_plain h.nd 64
  exact ⟨by rw [he.out, List.take_of_length_le hl], by rw [he.clean, List.drop_eq_nil_iff.2 hl], he.dirty⟩
theorem ev_sub {n : Nat} {m : List Blk} {K : Nat} {C : Ck} (h : Inv n m K C) : ∀ b ∈ (evN C 64).1, b ∈ cClean C := fun b hb => by
  rw [(ev_plain h.nd 64).out] at hb
  exact List.mem_of_mem_take hb
end Go.Proofs.Ytbcjcfjbdjdajaa
