/- Plain laws on a cache over a disk whose power doesn't go: what is dirty, what is clean; what is written last is told. -/
import Derived.Test.YtbcjcfjbdjdajaaC8
namespace Go.Proofs.Ytbcjcfjbdjdajaa
open Go.RowKit
theorem sortI_perm (l : List Int) : (sortI l).Perm l := List.mergeSort_perm l _
theorem sortI_le (l : List Int) : (sortI l).Pairwise (· ≤ ·) := by
  have tr : ∀ a b c : Int, decide (a ≤ b) = true → decide (b ≤ c) = true → decide (a ≤ c) = true := fun a b c h1 h2 => by simp only [decide_eq_true_eq] at *; omega
  have to : ∀ a b : Int, (decide (a ≤ b) || decide (b ≤ a)) = true := fun a b => by simp only [Bool.or_eq_true, decide_eq_true_eq]; omega
  exact (List.pairwise_mergeSort tr to l).imp fun h => by simpa using h
theorem sortI_eq {l l' : List Int} (hp : l'.Perm l) (hs : l'.Pairwise (· ≤ ·)) : sortI l = l' :=
  List.Perm.eq_of_pairwise (le := (· ≤ ·)) (fun _ _ _ _ h1 h2 => Int.le_antisymm h1 h2) (sortI_le l) hs ((sortI_perm l).trans hp.symm)
theorem sortI_filter (l : List Int) (p : Int → Bool) : sortI (l.filter p) = (sortI l).filter p := sortI_eq ((sortI_perm l).filter p) ((sortI_le l).filter p)
theorem sortI_lt {l : List Int} (h : l.Nodup) : (sortI l).Pairwise (· < ·) := by
  have hn : (sortI l).Nodup := (sortI_perm l).nodup_iff.2 h
  exact ((sortI_le l).and hn).imp fun ⟨h1, h2⟩ => by omega
theorem mem_keysC {C : Ck} {b : Int} : b ∈ keysC C ↔ (lookD C.has b).isSome = true := by
  unfold keysC
  rw [(sortI_perm _).mem_iff]
  exact mem_keys
theorem isD_some {C : Ck} {b : Int} : isD C b = true ↔ ∃ x, lookD C.has b = some (x, true) := by
  unfold isD
  cases h : lookD C.has b with
  | none => simp [zH]
  | some y => obtain ⟨y1, y2⟩ := y; cases y2 <;> simp
theorem mem_dirty {C : Ck} {b : Int} : b ∈ cDirty C ↔ isD C b = true := by
  unfold cDirty
  rw [List.mem_filter]
  refine ⟨fun h => h.2, fun h => ⟨?_, h⟩⟩
  obtain ⟨x, hx⟩ := isD_some.1 h
  rw [mem_keysC, hx]; rfl
theorem mem_clean {C : Ck} {b : Int} : b ∈ cClean C ↔ (∃ x, lookD C.has b = some (x, false)) ∧ pinned C b = false := by
  unfold cClean
  rw [List.mem_filter, mem_keysC]
  unfold isC isD
  cases h : lookD C.has b with
  | none => simp
  | some y => obtain ⟨y1, y2⟩ := y; cases y2 <;> simp
theorem dirty_lt {C : Ck} (h : (C.has.map (·.1)).Nodup) : (cDirty C).Pairwise (· < ·) := (sortI_lt h).filter _
theorem clean_lt {C : Ck} (h : (C.has.map (·.1)).Nodup) : (cClean C).Pairwise (· < ·) := (sortI_lt h).filter _
theorem getD_set (m : List Blk) (i j : Nat) (x : Blk) (hi : i < m.length) : (m.set i x).getD j zB = if j = i then x else m.getD j zB := by
  simp only [List.getD_eq_getElem?_getD, List.getElem?_set]
  by_cases h : i = j
  · subst h; simp [hi]
  · have h' : ¬ j = i := fun e => h e.symm
    simp [h, h']
/-- What a cache tells: m is what was written last of each block. -/
structure Inv (n : Nat) (m : List Blk) (K : Nat) (C : Ck) : Prop where
  len : C.D.safe.length = n
  nlen : C.D.now.length = n
  mlen : m.length = n
  left : C.D.left = -1
  acts : C.D.acts ≤ K
  wait : C.D.wait.length ≤ K
  hasl : C.has.length ≤ K
  keys : ∀ k : Int, k ∈ C.has.map (·.1) → 0 ≤ k ∧ k < (n : Int)
  nd : (C.has.map (·.1)).Nodup
  held : ∀ b : Nat, b < n → ∀ h, lookD C.has b = some h → h.1 = m.getD b zB
  free : ∀ b : Nat, b < n → lookD C.has b = none → C.D.now.getD b zB = m.getD b zB
  clean : ∀ b : Nat, b < n → ∀ x, lookD C.has b = some (x, false) → C.D.now.getD b zB = x
theorem Inv.more {n : Nat} {m : List Blk} {K L : Nat} {C : Ck} (h : Inv n m K C) (hl : K ≤ L) : Inv n m L C :=
  ⟨h.len, h.nlen, h.mlen, h.left, by have := h.acts; omega, by have := h.wait; omega, by have := h.hasl; omega, h.keys, h.nd, h.held, h.free, h.clean⟩
theorem Inv.pins {n : Nat} {m : List Blk} {K : Nat} {C : Ck} (h : Inv n m K C) (p : PM) : Inv n m K { C with pin := p } := ⟨h.len, h.nlen, h.mlen, h.left, h.acts, h.wait, h.hasl, h.keys, h.nd, h.held, h.free, h.clean⟩
theorem Inv.ref {n : Nat} {m : List Blk} {K : Nat} {C : Ck} (h : Inv n m K C) (b : Int) : cRef C b = if b < 0 ∨ (n : Int) ≤ b then 2 else 0 := by unfold cRef; rw [h.len]
theorem Inv.ref0 {n : Nat} {m : List Blk} {K : Nat} {C : Ck} (h : Inv n m K C) {b : Int} : cRef C b = 0 ↔ 0 ≤ b ∧ b < n := by
  rw [h.ref b]
  split <;> omega
theorem Inv.wf {n : Nat} {m : List Blk} {K : Nat} {C : Ck} (h : Inv n m K C) (hn : n ≤ 2048) : ∀ p ∈ C.has, wf64 p.1 := fun p hp => by
  have := h.keys p.1 (List.mem_map_of_mem hp)
  unfold wf64; omega
theorem Inv.now {n : Nat} {m : List Blk} {K : Nat} {C : Ck} (h : Inv n m K C) {b : Nat} (hb : b < n) (hd : isD C b = false) : C.D.now.getD b zB = m.getD b zB := by
  cases hl : lookD C.has b with
  | none => exact h.free b hb hl
  | some y =>
    obtain ⟨x, d⟩ := y
    unfold isD at hd
    rw [hl] at hd
    have hd' : d = false := hd
    subst hd'
    rw [h.clean b hb x hl]
    exact h.held b hb _ hl
theorem inv_new {n : Nat} (h1 : 1 ≤ n) (h2 : n ≤ 2048) : Inv n (zeros n) 0 (newC (newD (zeros n))) := by
  have hz : (zeros n).length = n := List.length_replicate
  refine ⟨hz, hz, hz, rfl, Int.le_refl _, Nat.le_refl _, Nat.le_refl _, ?_, ?_, ?_, ?_, ?_⟩
  · intro k hk; cases hk
  · exact List.nodup_nil
  · intro b _ h hh; cases hh
  · intro b _ _; rfl
  · intro b _ x hx; cases hx
theorem upd_keysIn {n : Nat} {h : HM} {b : Int} {v : Hd} (hk : ∀ k : Int, k ∈ h.map (·.1) → 0 ≤ k ∧ k < (n : Int)) (hb : 0 ≤ b ∧ b < (n : Int)) : ∀ k : Int, k ∈ (updD h b v).map (·.1) → 0 ≤ k ∧ k < (n : Int) := by
  intro k hk'
  rw [updD_keys] at hk'
  split at hk'
  · exact hk k hk'
  · rcases List.mem_append.1 hk' with h1 | h1
    · exact hk k h1
    · simp at h1; subst h1; exact hb
theorem inv_write {n : Nat} {m : List Blk} {K : Nat} {C : Ck} (h : Inv n m K C) {b : Nat} (hb : b < n) (x : Blk) : Inv n (m.set b x) (K + 1) (cWrite C b x) := by
  have hr : cRef C (b : Int) = 0 := h.ref0.2 (by omega)
  unfold cWrite
  rw [if_pos hr]
  have hml := h.mlen
  refine ⟨h.len, h.nlen, by rw [List.length_set]; exact h.mlen, h.left, by have := h.acts; show C.D.acts ≤ _; omega, by have := h.wait; show C.D.wait.length ≤ _; omega, by have := h.hasl; have := updD_len C.has (b : Int) (x, true); show (updD C.has (b : Int) (x, true)).length ≤ _; omega, upd_keysIn h.keys (by omega), updD_nodup h.nd _ _, ?_, ?_, ?_⟩
  · intro j hj hd hl
    change lookD (updD C.has (b : Int) (x, true)) j = some hd at hl
    rw [lookD_upd] at hl
    rw [getD_set _ _ _ _ (by omega)]
    by_cases e : j = b
    · subst e; rw [if_pos rfl] at hl; cases hl; rw [if_pos rfl]
    · rw [if_neg (by omega)] at hl; rw [if_neg e]; exact h.held j hj hd hl
  · intro j hj hl
    change lookD (updD C.has (b : Int) (x, true)) j = none at hl
    rw [lookD_upd] at hl
    rw [getD_set _ _ _ _ (by omega)]
    by_cases e : j = b
    · subst e; rw [if_pos rfl] at hl; cases hl
    · rw [if_neg (by omega)] at hl; rw [if_neg e]; exact h.free j hj hl
  · intro j hj y hl
    change lookD (updD C.has (b : Int) (x, true)) j = some (y, false) at hl
    rw [lookD_upd] at hl
    by_cases e : j = b
    · subst e; rw [if_pos rfl] at hl; cases hl
    · rw [if_neg (by omega)] at hl; exact h.clean j hj y hl
theorem inv_read {n : Nat} {m : List Blk} {K : Nat} {C : Ck} (h : Inv n m K C) {b : Nat} (hb : b < n) : (cRead C b).1 = m.getD b zB ∧ Inv n m (K + 1) (cRead C b).2 := by
  have hr : cRef C (b : Int) = 0 := h.ref0.2 (by omega)
  unfold cRead
  rw [if_pos hr]
  cases hlk : lookD C.has (b : Int) with
  | some y => exact ⟨h.held b hb y hlk, h.more (by omega)⟩
  | none =>
    have hnow : nowAt C (b : Int) = m.getD b zB := h.free b hb hlk
    refine ⟨hnow, ⟨h.len, h.nlen, h.mlen, h.left, by have := h.acts; show C.D.acts ≤ _; omega, by have := h.wait; show C.D.wait.length ≤ _; omega, by have := h.hasl; have := updD_len C.has (b : Int) (nowAt C b, false); show (updD C.has (b : Int) (nowAt C b, false)).length ≤ _; omega, upd_keysIn h.keys (by omega), updD_nodup h.nd _ _, ?_, ?_, ?_⟩⟩
    · intro j hj hd hl
      change lookD (updD C.has (b : Int) (nowAt C b, false)) j = some hd at hl
      rw [lookD_upd] at hl
      by_cases e : j = b
      · subst e; rw [if_pos rfl] at hl; cases hl; exact hnow
      · rw [if_neg (by omega)] at hl; exact h.held j hj hd hl
    · intro j hj hl
      change lookD (updD C.has (b : Int) (nowAt C b, false)) j = none at hl
      rw [lookD_upd] at hl
      by_cases e : j = b
      · subst e; rw [if_pos rfl] at hl; cases hl
      · rw [if_neg (by omega)] at hl; exact h.free j hj hl
    · intro j hj y hl
      change lookD (updD C.has (b : Int) (nowAt C b, false)) j = some (y, false) at hl
      rw [lookD_upd] at hl
      by_cases e : j = b
      · subst e; rw [if_pos rfl] at hl; cases hl; rfl
      · rw [if_neg (by omega)] at hl; exact h.clean j hj y hl
theorem dWrite_now {D : Dk} {b : Nat} {x : Blk} (hl : D.left = -1) (hb : b < D.safe.length) : dWrite D b x = dPut D b x := by
  unfold dWrite
  rw [if_pos]
  unfold dRefuse
  rw [if_neg (by omega), if_neg (by omega)]
theorem inv_backD {n : Nat} {m : List Blk} {K : Nat} {C : Ck} (h : Inv n m K C) {b : Nat} (hb : b < n) {x : Blk} (hx : lookD C.has (b : Int) = some (x, true)) : Inv n m (K + 1) (backD C b x) := by
  have hk := dWrite_now (x := x) h.left (by rw [h.len]; exact hb)
  obtain ⟨a1, a2, a3, a4⟩ := dWrite_bk (D := C.D) (b := (b : Int)) (x := x) h.left
  have hnl : (dWrite C.D b x).now = C.D.now.set b x := by rw [hk]; rfl
  have hgd : ∀ j, (dWrite C.D b x).now.getD j zB = if j = b then x else C.D.now.getD j zB := fun j => by rw [hnl]; exact getD_set _ _ _ _ (by rw [h.nlen]; exact hb)
  refine ⟨a4.trans h.len, ?_, h.mlen, a1, ?_, ?_, ?_, upd_keysIn h.keys (by omega), updD_nodup h.nd _ _, ?_, ?_, ?_⟩
  · show (dWrite C.D b x).now.length = n
    rw [hnl, List.length_set]; exact h.nlen
  · have := h.acts; show (dWrite C.D b x).acts ≤ _; push_cast; omega
  · have := h.wait; show (dWrite C.D b x).wait.length ≤ _; omega
  · have := h.hasl; have := updD_len C.has (b : Int) (x, false); show (updD C.has (b : Int) (x, false)).length ≤ _; omega
  · intro j hj hd hl
    change lookD (updD C.has (b : Int) (x, false)) j = some hd at hl
    rw [lookD_upd] at hl
    by_cases e : j = b
    · subst e; rw [if_pos rfl] at hl; cases hl; have := h.held j hj (x, true) hx; exact this
    · rw [if_neg (by omega)] at hl; exact h.held j hj hd hl
  · intro j hj hl
    change lookD (updD C.has (b : Int) (x, false)) j = none at hl
    rw [lookD_upd] at hl
    show (dWrite C.D b x).now.getD j zB = _
    rw [hgd]
    by_cases e : j = b
    · subst e; rw [if_pos rfl] at hl; cases hl
    · rw [if_neg (by omega)] at hl; rw [if_neg e]; exact h.free j hj hl
  · intro j hj y hl
    change lookD (updD C.has (b : Int) (x, false)) j = some (y, false) at hl
    rw [lookD_upd] at hl
    show (dWrite C.D b x).now.getD j zB = _
    rw [hgd]
    by_cases e : j = b
    · subst e; rw [if_pos rfl] at hl ⊢; cases hl; rfl
    · rw [if_neg (by omega)] at hl; rw [if_neg e]; exact h.clean j hj y hl
theorem inv_back {n : Nat} {m : List Blk} {K : Nat} {C : Ck} (h : Inv n m K C) (b : Int) : Inv n m (K + 1) (cBack C b) := by
  unfold cBack
  split
  · rename_i hr
    obtain ⟨h0, h1⟩ := h.ref0.1 hr
    obtain ⟨q, rfl⟩ : ∃ q : Nat, b = q := ⟨b.toNat, by omega⟩
    split
    · rename_i x hx
      exact inv_backD h (by omega) hx
    · exact h.more (by omega)
  · exact h.more (by omega)
theorem inv_wb {n : Nat} {m : List Blk} {K : Nat} {C : Ck} (h : Inv n m K C) (k : Int) : Inv n m (K + 1) (cWb C k).2 := by
  unfold cWb
  split
  · exact inv_back h _
  · exact h.more (by omega)
theorem inv_del {n : Nat} {m : List Blk} {K : Nat} {C : Ck} (h : Inv n m K C) {b : Int} {x : Blk} (hx : lookD C.has b = some (x, false)) : Inv n m K { C with has := delD C.has b } := by
  refine ⟨h.len, h.nlen, h.mlen, h.left, h.acts, h.wait, Nat.le_trans (delD_len _ _) h.hasl, ?_, delD_nodup h.nd _, ?_, ?_, ?_⟩
  · intro k hk
    refine h.keys k ?_
    obtain ⟨p, hp, rfl⟩ := List.mem_map.1 hk
    exact List.mem_map_of_mem (List.mem_filter.1 hp).1
  · intro j hj hd hl
    change lookD (delD C.has b) j = some hd at hl
    rw [lookD_del] at hl
    split at hl
    · cases hl
    · exact h.held j hj hd hl
  · intro j hj hl
    change lookD (delD C.has b) j = none at hl
    rw [lookD_del] at hl
    split at hl
    · rename_i e
      rw [← e] at hx
      show C.D.now.getD j zB = _
      rw [h.clean j hj x hx]
      exact h.held j hj _ hx
    · exact h.free j hj hl
  · intro j hj y hl
    change lookD (delD C.has b) j = some (y, false) at hl
    rw [lookD_del] at hl
    split at hl
    · cases hl
    · exact h.clean j hj y hl
theorem pickL_mem {l : List Int} {n : Int} (h : (pickL l n).2 = true) : (pickL l n).1 ∈ l := by
  unfold pickL at h ⊢
  split at h
  · cases h
  · rename_i h0
    rw [if_neg h0]
    have hpos : 0 < l.length := List.length_pos_iff.2 h0
    have hr := Nat.mod_lt n.toNat hpos
    show l.getD (n.toNat % l.length) 0 ∈ l
    rw [List.getD_eq_getElem?_getD, List.getElem?_eq_getElem hr]
    exact List.getElem_mem _
theorem inv_ev {n : Nat} {m : List Blk} {K : Nat} {C : Ck} (h : Inv n m K C) (k : Int) : Inv n m K (cEv C k).2 := by
  unfold cEv
  split
  · rename_i hp
    obtain ⟨⟨x, hx⟩, _⟩ := mem_clean.1 (pickL_mem hp)
    exact inv_del h hx
  · exact h
end Go.Proofs.Ytbcjcfjbdjdajaa
