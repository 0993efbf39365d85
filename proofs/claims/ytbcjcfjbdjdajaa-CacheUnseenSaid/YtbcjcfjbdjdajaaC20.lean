/- Plain laws on a cache that is synced: nothing is dirty, nothing waits, and the safe blocks are what was written last. -/
import Derived.Test.YtbcjcfjbdjdajaaC12
namespace Go.Proofs.Ytbcjcfjbdjdajaa
open Go.RowKit
/-- The safe blocks overlaid with what waits are the blocks now. -/
def Sy (D : Dk) : Prop := overL D.safe D.wait = D.now
theorem sy_new (l : List Blk) : Sy (newD l) := rfl
theorem sy_write {D : Dk} (h : Sy D) (b : Int) (x : Blk) : Sy (dWrite D b x) := by
  unfold dWrite
  split
  · rename_i hr
    unfold dRefuse at hr
    have hb : 0 ≤ b ∧ b < (D.safe.length : Int) := by
      split at hr
      · cases hr
      · split at hr
        · cases hr
        · omega
    show overL D.safe (D.wait ++ [(b, x)]) = D.now.set b.toNat x
    have hl : D.now.length = D.safe.length := by unfold Sy at h; rw [← h, overL_len]
    rw [overL_snoc, show overL D.safe D.wait = D.now from h]
    unfold ovPut
    rw [if_pos (by show 0 ≤ b ∧ b < (D.now.length : Int); omega)]
  · exact h
theorem sy_flush {D : Dk} (h : Sy D) : Sy (dFlush D) := by
  unfold dFlush
  split
  · show overL D.safe D.wait = D.now
    exact h
  · exact h
theorem sy_back {C : Ck} (h : Sy C.D) (b : Int) : Sy (cBack C b).D := by
  unfold cBack
  split
  · split
    · exact sy_write h _ _
    · exact h
  · exact h
theorem sy_backN : ∀ (l : List Int) (C : Ck), Sy C.D → Sy (backN C l).D
  | [], _, h => h
  | b :: l, C, h => sy_backN l (cBack C b) (sy_back h b)
theorem sy_sync {C : Ck} (h : Sy C.D) : Sy (cSync C).D := sy_flush (sy_backN _ _ h)
theorem sy_wb {C : Ck} (h : Sy C.D) (k : Int) : Sy (cWb C k).2.D := by
  unfold cWb
  split
  · exact sy_back h _
  · exact h
theorem cEv_D (C : Ck) (k : Int) : (cEv C k).2.D = C.D := by unfold cEv; split <;> rfl
theorem cRead_D (C : Ck) (k : Int) : (cRead C k).2.D = C.D := by unfold cRead; split <;> (try split) <;> rfl
theorem cWrite_D (C : Ck) (k : Int) (x : Blk) : (cWrite C k x).D = C.D := by unfold cWrite; split <;> rfl
theorem cPin_D (C : Ck) (k : Int) (on : Bool) : (cPin C k on).D = C.D := by unfold cPin; split <;> (try split) <;> rfl
theorem inv_pin {n : Nat} {m : List Blk} {K : Nat} {C : Ck} (h : Inv n m K C) (b : Int) (on : Bool) : Inv n m K (cPin C b on) := by
  unfold cPin
  split
  · split
    · exact h.pins _
    · exact h.pins _
  · exact h
theorem inv_readA {n : Nat} {m : List Blk} {K : Nat} {C : Ck} (h : Inv n m K C) (b : Int) : Inv n m (K + 1) (cRead C b).2 := by
  by_cases hr : cRef C b = 0
  · obtain ⟨h0, h1⟩ := h.ref0.1 hr
    obtain ⟨q, rfl⟩ : ∃ q : Nat, b = q := ⟨b.toNat, by omega⟩
    exact (inv_read h (by omega)).2
  · unfold cRead
    rw [if_neg hr]
    exact h.more (by omega)
theorem inv_backN {n : Nat} {m : List Blk} : ∀ (l : List Int) (C : Ck) (K : Nat), Inv n m K C → Inv n m (K + l.length) (backN C l)
  | [], _, _, h => h
  | b :: l, C, K, h => by
    have := inv_backN l (cBack C b) (K + 1) (inv_back h b)
    rw [List.length_cons, show K + (l.length + 1) = K + 1 + l.length by omega]
    exact this
theorem inv_flush {n : Nat} {m : List Blk} {K : Nat} {C : Ck} (h : Inv n m K C) : Inv n m (K + 1) { C with D := dFlush C.D } := by
  have hf : (dFlush C.D).safe.length = C.D.safe.length ∧ (dFlush C.D).now = C.D.now ∧ (dFlush C.D).left = -1 ∧ (dFlush C.D).acts ≤ C.D.acts + 1 ∧ (dFlush C.D).wait.length ≤ C.D.wait.length := by
    have hl := h.left
    unfold dFlush
    split
    · refine ⟨overL_len _ _, rfl, ?_, Int.le_refl _, Nat.zero_le _⟩
      show (if 0 < C.D.left then C.D.left - 1 else C.D.left) = -1
      rw [if_neg (by omega)]; exact hl
    · exact ⟨rfl, rfl, hl, by omega, Nat.le_refl _⟩
  obtain ⟨f1, f2, f3, f4, f5⟩ := hf
  refine ⟨f1.trans h.len, by show (dFlush C.D).now.length = n; rw [f2]; exact h.nlen, h.mlen, f3, by have := h.acts; show (dFlush C.D).acts ≤ _; push_cast; omega, by have := h.wait; show (dFlush C.D).wait.length ≤ _; omega, by have := h.hasl; show C.has.length ≤ _; omega, h.keys, h.nd, h.held, ?_, ?_⟩
  · intro b hb hl
    show (dFlush C.D).now.getD b zB = _
    rw [f2]
    exact h.free b hb hl
  · intro b hb x hl
    show (dFlush C.D).now.getD b zB = _
    rw [f2]
    exact h.clean b hb x hl
theorem dirty_in {n : Nat} {m : List Blk} {K : Nat} {C : Ck} (h : Inv n m K C) : ∀ b ∈ cDirty C, 0 ≤ b ∧ b < (n : Int) := fun b hb => by
  obtain ⟨x, hx⟩ := isD_some.1 (mem_dirty.1 hb)
  exact h.keys b (mem_keys.2 (by rw [hx]; rfl))
theorem dirty_ref {n : Nat} {m : List Blk} {K : Nat} {C : Ck} (h : Inv n m K C) : ∀ b ∈ cDirty C, cRef C b = 0 := fun b hb => h.ref0.2 (dirty_in h b hb)
theorem inv_sync {n : Nat} {m : List Blk} {K : Nat} {C : Ck} (h : Inv n m K C) (hn : n ≤ 64) : Inv n m (K + 65) (cSync C) := by
  have hl := rise_len (dirty_in h) (dirty_lt h.nd)
  exact (inv_flush (inv_backN (cDirty C) C K h)).more (by omega)
theorem back_isD {n : Nat} {m : List Blk} {K : Nat} {C : Ck} (h : Inv n m K C) {b : Int} (hb : 0 ≤ b ∧ b < (n : Int)) (j : Int) (hd : isD (cBack C b) j = true) : isD C j = true ∧ j ≠ b := by
  have hr := h.ref0.2 hb
  unfold cBack at hd
  rw [if_pos hr] at hd
  split at hd
  · obtain ⟨x, hx⟩ := isD_some.1 hd
    change lookD (updD C.has b _) j = _ at hx
    rw [lookD_upd] at hx
    split at hx
    · cases hx
    · rename_i e
      exact ⟨isD_some.2 ⟨x, hx⟩, fun e' => e e'⟩
  · rename_i hnx
    refine ⟨hd, fun e => ?_⟩
    subst e
    obtain ⟨x, hx⟩ := isD_some.1 hd
    exact hnx x hx
theorem backN_isD {n : Nat} {m : List Blk} : ∀ (l : List Int) (C : Ck) (K : Nat), Inv n m K C → (∀ b ∈ l, 0 ≤ b ∧ b < (n : Int)) → ∀ j, isD (backN C l) j = true → isD C j = true ∧ j ∉ l
  | [], _, _, _, _, _, hd => ⟨hd, fun hj => by cases hj⟩
  | b :: l, C, K, h, hb, j, hd => by
    obtain ⟨h1, h2⟩ := backN_isD l (cBack C b) (K + 1) (inv_back h b) (fun b' hb' => hb b' (List.mem_cons_of_mem _ hb')) j hd
    obtain ⟨h3, h4⟩ := back_isD h (hb b (List.mem_cons_self ..)) j h1
    exact ⟨h3, fun hj => by rcases List.mem_cons.1 hj with e | e; exact h4 e; exact h2 e⟩
structure SyncP (n : Nat) (m : List Blk) (C : Ck) : Prop where
  dirty : cDirty C = []
  wait : C.D.wait = []
  len : C.D.safe.length = n
  safe : ∀ b : Nat, b < n → C.D.safe.getD b zB = m.getD b zB
theorem sync_plain {n : Nat} {m : List Blk} {K : Nat} {C : Ck} (h : Inv n m K C) (hs : Sy C.D) (hn : n ≤ 64) (h1 : 1 ≤ n) : SyncP n m (cSync C) := by
  have hI := inv_sync h hn
  have hB := inv_backN (cDirty C) C K h
  have hr : dRefuse (backN C (cDirty C)).D 0 = 0 := by
    unfold dRefuse
    rw [if_neg (by rw [hB.left]; decide), if_neg (by rw [hB.len]; omega)]
  have hD : (cSync C).D = dSync (backN C (cDirty C)).D := by
    show dFlush _ = _
    unfold dFlush
    rw [if_pos hr]
  have hdi : cDirty (cSync C) = [] := by
    rw [List.eq_nil_iff_forall_not_mem]
    intro b hb
    have hb' : isD (backN C (cDirty C)) b = true := mem_dirty.1 hb
    obtain ⟨h2, h3⟩ := backN_isD (cDirty C) C K h (dirty_in h) b hb'
    exact h3 (mem_dirty.2 h2)
  have hw : (cSync C).D.wait = [] := by rw [hD]; rfl
  refine ⟨hdi, hw, hI.len, fun b hb => ?_⟩
  have hsy := sy_sync hs
  unfold Sy at hsy
  rw [hw] at hsy
  have hsafe : (cSync C).D.safe = (cSync C).D.now := hsy
  rw [hsafe]
  refine hI.now hb ?_
  cases hd : isD (cSync C) b with
  | false => rfl
  | true =>
    have := mem_dirty.2 hd
    rw [hdi] at this
    cases this
end Go.Proofs.Ytbcjcfjbdjdajaa
