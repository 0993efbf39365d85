/- One of some by a number; the cache's Writeback, Evict, Sync, walked. The disk's power doesn't go; keys are of 64 bits. -/
import Derived.Test.YtbcjcfjbdjdajaaC5
namespace Go.Proofs.Ytbcjcfjbdjdajaa
open Go.RowKit
def pickL (l : List Int) (n : Int) : Int × Bool := if l = [] then (0, false) else (l.getD (n.toNat % l.length) 0, true)
theorem pick_any (l : List Int) (n : Int) (v : Value) (w : World) (h : Ints w v l) :
    Calls Try.prog 37 #[v, .int .i64 n] w (SamePost (.tuple #[.int .i64 (pickL l n).1, .bool (pickL l n).2]) w) := by
  have H := Lib.hid h
  obtain ⟨ao, cap, rfl, h1, h2, _⟩ := h.ex
  clear h
  unfold maxLen at h2
  obtain ⟨L, hL⟩ : ∃ L, Hid (l.length = L) := ⟨_, rfl⟩
  by_cases h0 : l = []
  · have hp : Hid (pickL l n = (0, false)) := by unfold pickL Hid; rw [if_pos h0]
    rw [hp.out]
    subst h0
    clear H hp
    go_enter Try.func37, Try.ntmps37
    go_wp2_with fail
    refine bodyPost_ret (results_tmp2 rfl _ _ _) rfl ⟨rfl, rfl⟩
  · have hpos : 0 < l.length := List.length_pos_iff.2 h0
    obtain ⟨g, off, rfl, _, _, _, hat⟩ := Sl.at H.out ic_len (by omega) hpos
    obtain ⟨m, hm⟩ : ∃ m : Nat, Hid (max n 0 = m) := ⟨n.toNat, by unfold Hid; omega⟩
    have hmn : n.toNat = m := by have := hm.out; omega
    have hr : m % l.length < l.length := Nat.mod_lt _ hpos
    obtain ⟨x, hx⟩ : ∃ x, l[m % l.length]? = some x := ⟨_, List.getElem?_eq_getElem hr⟩
    have hp : Hid (pickL l n = (x, true)) := by unfold pickL Hid; rw [if_neg h0, hmn]; simp [hx]
    rw [hp.out]
    have c0 := hat _ x hx 0 _ rfl
    rw [Nat.add_zero, Nat.mul_one] at c0
    obtain ⟨j, hj⟩ : ∃ j, Hid (m % l.length = j) := ⟨_, rfl⟩
    rw [hj.out] at c0 hr
    have hne : ((l.length : Int) == 0) = false := by simp; exact h0
    have ht : Int.tmod (m : Int) (l.length : Int) = (j : Int) := by rw [← hj.out]; rfl
    have ht2 : IntKind.i64.wrap (j : Int) = (j : Int) := IntWalk.i64_in _ (by omega)
    have hmx := hm.out
    have h1' := h1
    rw [hL.out] at hne ht hr h1 hpos ⊢
    clear hat hx hmn hj h0 hp H hL h1'
    go_enter Try.func37, Try.ntmps37
    go_wp2_with fail
    refine bodyPost_ret (results_tmp2 rfl _ _ _) rfl ⟨rfl, rfl⟩
def cWb (C : Ck) (n : Int) : (Int × Bool × Int) × Ck := if (pickL (cDirty C) n).2 then (((pickL (cDirty C) n).1, true, cRef C (pickL (cDirty C) n).1), cBack C (pickL (cDirty C) n).1) else ((0, false, 0), C)
set_option maxRecDepth 100000 in
theorem wb_c {W : World} {c : Cf} {vw : Value} {C : Ck} (n : Int) (hl : C.D.left = -1) (ha1 : C.D.acts < 1000000000) (hf : C.D.wait.length < 1000000) (hwf : ∀ p ∈ C.has, wf64 p.1) (hn : C.has.length ≤ 1000000) (h : CAt W c vw C) :
    Calls Try.prog 15 #[.pointer (some ⟨c.rc, 0, none⟩), .int .i64 n] W (fun e w' => e = .returned (.tuple #[.int .i64 (cWb C n).1.1, .bool (cWb C n).1.2.1, .int .i64 (cWb C n).1.2.2]) ∧ ∃ vw', CS c vw W vw' w' (cWb C n).2) := by
  have H := Lib.hid h
  have hnone := Lib.hid (none_c h)
  have hd := Lib.hid (dirty_c hwf hn h)
  have hback := Lib.hid (fun (w : World) (b : Int) (hw : CAt w c vw C) => back_c b hl ha1 hf hw)
  have hpk := Lib.hid (fun (v : Value) (w : World) (hi : Ints w v (cDirty C)) => pick_any (cDirty C) n v w hi)
  clear h hwf hn hl ha1 hf
  obtain ⟨⟨b, ok⟩, hp⟩ : ∃ p, Hid (pickL (cDirty C) n = p) := ⟨_, rfl⟩
  rw [hp.out] at hpk
  cases ok with
  | false =>
    have hr : Hid (cWb C n = ((0, false, 0), C)) := by unfold cWb Hid; rw [hp.out, if_neg (by simp)]
    rw [hr.out]
    clear hr hp
    go_enter Try.func15, Try.ntmps15
    go_wp2_with (first
      | (go_at_call 36; refine hnone.out.mono ?_; rintro e w1 ⟨rfl, e1⟩; have e1H := Lib.hid e1; subst e1)
      | (go_at_call 10; refine hd.out.mono ?_; rintro e w2 ⟨a, k, rfl, ho, hb⟩; have I2 := Lib.hid (Sl.own ho); have B2 := Lib.hid hb; clear ho hb)
      | (go_at_call 37; refine (hpk.out _ _ I2.out).mono ?_; rintro e w3 ⟨rfl, e3⟩; have e3H := Lib.hid e3; subst e3))
    go_ret3
    exact ⟨rfl, vw, (CS.refl H.out).later B2.out⟩
  | true =>
    have hr : Hid (cWb C n = ((b, true, cRef C b), cBack C b)) := by unfold cWb Hid; rw [hp.out, if_pos rfl]
    rw [hr.out]
    clear hr hp
    go_enter Try.func15, Try.ntmps15
    go_wp2_with (first
      | (go_at_call 36; refine hnone.out.mono ?_; rintro e w1 ⟨rfl, e1⟩; have e1H := Lib.hid e1; subst e1)
      | (go_at_call 10; refine hd.out.mono ?_; rintro e w2 ⟨a, k, rfl, ho, hb⟩; have I2 := Lib.hid (Sl.own ho); have B2 := Lib.hid hb; clear ho hb)
      | (go_at_call 37; refine (hpk.out _ _ I2.out).mono ?_; rintro e w3 ⟨rfl, e3⟩; have e3H := Lib.hid e3; subst e3)
      | (go_at_call 25; refine (hback.out _ b (H.out.later B2.out)).mono ?_; rintro e w4 ⟨rfl, vw4, hs4⟩; have S4 := Lib.hid hs4; clear hs4))
    go_ret3
    exact ⟨rfl, vw4, ((CS.refl H.out).later B2.out).trans S4.out⟩
def cEv (C : Ck) (n : Int) : (Int × Bool) × Ck := if (pickL (cClean C) n).2 then (pickL (cClean C) n, { C with has := delD C.has (pickL (cClean C) n).1 }) else (pickL (cClean C) n, C)
set_option maxRecDepth 100000 in
theorem ev_c {W : World} {c : Cf} {vw : Value} {C : Ck} (n : Int) (hwf : ∀ p ∈ C.has, wf64 p.1) (hn : C.has.length ≤ 1000000) (h : CAt W c vw C) :
    Calls Try.prog 22 #[.pointer (some ⟨c.rc, 0, none⟩), .int .i64 n] W (fun e w' => e = .returned (.tuple #[.int .i64 (cEv C n).1.1, .bool (cEv C n).1.2]) ∧ CS c vw W vw w' (cEv C n).2) := by
  have H := Lib.hid h
  have hd := Lib.hid (clean_c hwf hn h)
  have hpk := Lib.hid (fun (v : Value) (w : World) (hi : Ints w v (cClean C)) => pick_any (cClean C) n v w hi)
  clear h hwf hn
  obtain ⟨⟨b, ok⟩, hp⟩ : ∃ p, Hid (pickL (cClean C) n = p) := ⟨_, rfl⟩
  rw [hp.out] at hpk
  cases ok with
  | false =>
    have hr : Hid (cEv C n = ((b, false), C)) := by unfold cEv Hid; rw [hp.out, if_neg (by simp)]
    rw [hr.out]
    clear hr hp
    go_enter Try.func22, Try.ntmps22
    go_wp2_with (first
      | (go_at_call 11; refine hd.out.mono ?_; rintro e w2 ⟨a, k, rfl, ho, hb⟩; have I2 := Lib.hid (Sl.own ho); have B2 := Lib.hid hb; clear ho hb)
      | (go_at_call 37; refine (hpk.out _ _ I2.out).mono ?_; rintro e w3 ⟨rfl, e3⟩; have e3H := Lib.hid e3; subst e3))
    go_ret2
    exact ⟨rfl, (CS.refl H.out).later B2.out⟩
  | true =>
    have hr : Hid (cEv C n = ((b, true), { C with has := delD C.has b })) := by unfold cEv Hid; rw [hp.out, if_pos rfl]
    rw [hr.out]
    clear hr hp
    go_enter Try.func22, Try.ntmps22
    go_wp2_with (first
      | (go_at_call 11; refine hd.out.mono ?_; rintro e w2 ⟨a, k, rfl, ho, hb⟩; have I2 := Lib.hid (Sl.own ho); have B2 := Lib.hid hb; clear ho hb)
      | (go_at_call 37; refine (hpk.out _ _ I2.out).mono ?_; rintro e w3 ⟨rfl, e3⟩; have e3H := Lib.hid e3; subst e3; have H3 := Lib.hid (H.out.later B2.out); obtain ⟨_, k1, _⟩ := H3.out.cells)
      | (at_delete; refine wpl_deleteD (f := hval) Try.underlying3 rfl _ _ 55 3 rfl 78 Try.underlying55 _ c.hm C.has b rfl rfl H3.out.has ?_; intro w5 hm5 hc5; have T5 := Lib.hid (H3.out.turnHas hm5 hc5); clear hm5 hc5))
    go_ret2
    exact ⟨rfl, ((CS.refl H.out).later B2.out).trans T5.out⟩
/-- Behind some blocks that were written back. -/
def backN (C : Ck) (l : List Int) : Ck := l.foldl cBack C
theorem backN_snoc (C : Ck) (l : List Int) (b : Int) : backN C (l ++ [b]) = cBack (backN C l) b := by simp [backN]
structure Bk (C C' : Ck) (k : Nat) : Prop where
  left : C'.D.left = -1
  acts : C'.D.acts ≤ C.D.acts + k
  wait : C'.D.wait.length ≤ C.D.wait.length + k
  len : C'.D.safe.length = C.D.safe.length
theorem dWrite_bk {D : Dk} {b : Int} {x : Blk} (hl : D.left = -1) : (dWrite D b x).left = -1 ∧ (dWrite D b x).acts ≤ D.acts + 1 ∧ (dWrite D b x).wait.length ≤ D.wait.length + 1 ∧ (dWrite D b x).safe.length = D.safe.length := by
  unfold dWrite
  split
  · refine ⟨?_, Int.le_refl _, by simp [dPut], rfl⟩
    show (if 0 < D.left then D.left - 1 else D.left) = -1
    rw [if_neg (by omega)]; exact hl
  · exact ⟨hl, by omega, by omega, rfl⟩
theorem cBack_bk {C : Ck} (b : Int) (hl : C.D.left = -1) : Bk C (cBack C b) 1 := by
  have h0 : Bk C C 1 := ⟨hl, by omega, by omega, rfl⟩
  unfold cBack
  split
  · split
    · rename_i x _
      obtain ⟨a1, a2, a3, a4⟩ := dWrite_bk (D := C.D) (b := b) (x := x) hl
      exact ⟨a1, by show (dWrite C.D b x).acts ≤ _; omega, a3, a4⟩
    · exact h0
  · exact h0
theorem backN_bk : ∀ (l : List Int) (C : Ck), C.D.left = -1 → Bk C (backN C l) l.length
  | [], C, hl => ⟨hl, by show C.D.acts ≤ _; omega, by show C.D.wait.length ≤ _; omega, rfl⟩
  | b :: l, C, hl => by
    have h1 := cBack_bk b hl
    have h2 := backN_bk l (cBack C b) h1.left
    exact ⟨h2.left, by have := h1.acts; have := h2.acts; rw [List.length_cons]; push_cast; show (backN (cBack C b) l).D.acts ≤ _; omega, by have := h1.wait; have := h2.wait; rw [List.length_cons]; show (backN (cBack C b) l).D.wait.length ≤ _; omega, h2.len.trans h1.len⟩
theorem cRef_len {C C' : Ck} (h : C'.D.safe.length = C.D.safe.length) (b : Int) : cRef C' b = cRef C b := by unfold cRef; rw [h]
def cSync (C : Ck) : Ck := { backN C (cDirty C) with D := dFlush (backN C (cDirty C)).D }
set_option maxRecDepth 100000 in
set_option maxHeartbeats 1000000 in
theorem sync_c {W : World} {c : Cf} {vw : Value} {C : Ck} (hl : C.D.left = -1) (ha1 : C.D.acts < 900000000) (hf : C.D.wait.length < 500000) (hwf : ∀ p ∈ C.has, wf64 p.1) (hn : C.has.length ≤ 100000) (hin : ∀ b ∈ cDirty C, cRef C b = 0) (h : CAt W c vw C) :
    Calls Try.prog 26 #[.pointer (some ⟨c.rc, 0, none⟩)] W (fun e w' => e = .returned (.int .i64 0) ∧ ∃ vw', CS c vw W vw' w' (cSync C)) := by
  have H := Lib.hid h
  have hnone := Lib.hid (none_c h)
  have hd := Lib.hid (dirty_c hwf (by omega) h)
  have hlen : (cDirty C).length ≤ 100000 := Nat.le_trans (List.length_filter_le _ _) (by rw [keysC_len]; exact hn)
  have hback := Lib.hid (fun (W : World) (vw : Value) (i : Nat) (b : Int) (hi : (cDirty C)[i]? = some b) (hw : CAt W c vw (backN C ((cDirty C).take i))) => by
    have hbk := backN_bk ((cDirty C).take i) C hl
    have hlt : ((cDirty C).take i).length ≤ 100000 := by rw [List.length_take]; omega
    have := back_c b hbk.left (by have := hbk.acts; omega) (by have := hbk.wait; omega) hw
    rw [cRef_len hbk.len b, hin b (List.mem_of_getElem? hi), ← backN_snoc] at this
    have e : (cDirty C).take i ++ [b] = (cDirty C).take (i + 1) := by rw [List.take_add_one, hi]; rfl
    rw [e] at this
    exact this)
  have hflush := Lib.hid (fun (W : World) (vw : Value) (hw : CAt W c vw (backN C (cDirty C))) => by
    have hbk := backN_bk (cDirty C) C hl
    have := flush_at (by have := hbk.acts; omega) hw.disk
    have hr : dRefuse (backN C (cDirty C)).D 0 = 0 := by
      have := hw.disk.ok.pos
      unfold dRefuse
      rw [if_neg (by rw [hbk.left]; decide), if_neg (by omega)]
    rw [hr] at this
    exact this)
  have hs : Hid (cSync C = { backN C (cDirty C) with D := dFlush (backN C (cDirty C)).D }) := rfl
  rw [hs.out]
  have hz : Hid (backN C ((cDirty C).take 0) = C) := rfl
  clear h hwf hn hl ha1 hf hin hs
  generalize cDirty C = ds at hd hlen hback hflush hz
  go_enter Try.func26, Try.ntmps26
  go_wp2_with (first
    | (go_at_call 36; refine hnone.out.mono ?_; rintro e w1 ⟨rfl, e1⟩; have e1H := Lib.hid e1; subst e1)
    | (go_at_call 10; refine hd.out.mono ?_; rintro e w2 ⟨a, k, rfl, ho, hb⟩; have O2 := Lib.hid ho; have B2 := Lib.hid hb; clear ho hb))
  have S0 : Hid (CS c vw w1 vw w2 (backN C (ds.take 0))) := by unfold Hid; rw [hz.out]; exact (CS.refl H.out).later B2.out
  have hk2 : ds.length ≤ k ∧ k ≤ 9223372036854775807 := by obtain ⟨ao, cap, e, h1, h2, _⟩ := (Sl.own O2.out).ex; cases e; exact ⟨h1, h2⟩
  obtain ⟨hk3, hk4⟩ := hk2
  have hlt := Lib.hid H.out.lt
  go_loopw [11] (fun v11 W => ∃ i vw', v11 = .int .i64 (i : Nat) ∧ i ≤ ds.length ∧ CS c vw w1 vw' W (backN C (ds.take i)) ∧ W.ownsRow w1.heap.size 3 1 (.slice a ds.length k) ds.length (flat ic ds) ∧ ∀ q, (Value.slice a ds.length k).ownBlock = some q → ¬ CFoot c vw' q) (fun v11 _ => (ds.length - intOf v11).toNat)
  case atStart => exact ⟨0, vw, rfl, by omega, S0.out, O2.out, fun q hq f => by have := (O2.out.lt q hq).1; have := (hlt.out _ f).2; omega⟩
  case round =>
    obtain ⟨i, vwi, rfl, hi, hS, hO, hA⟩ := hrel
    have AH := Lib.hid hA
    have SH := Lib.hid hS
    have OH := Lib.hid hO
    clear hS S0 hO hA
    by_cases hin : i < ds.length
    · obtain ⟨g3, rfl, _, _, _⟩ := own_head OH.out (by omega)
      obtain ⟨x, hx⟩ : ∃ x, ds[i]? = some x := ⟨_, List.getElem?_eq_getElem hin⟩
      have c0 := range_one (rangeAt_sub (own_range OH.out) (k := i * 1) (ys := [.int .i64 x]) (fun j v hv => by rw [flat_get ic_len hx j (by have := (List.getElem?_eq_some_iff.1 hv).1; simpa using this)]; exact hv))
      rw [Nat.zero_add, Nat.mul_one] at c0
      have wi : IntKind.i64.wrap ((i : Int) + 1) = (i : Int) + 1 := IntWalk.i64_in _ (by omega)
      have hb := Lib.hid (hback.out wr vwi i x hx SH.out.at_)
      have hgx := Lib.hid (OH.out.lt g3 rfl)
      clear hx
      go_wp2_with (go_at_call 25; refine hb.out.mono ?_; rintro e w4 ⟨rfl, vw4, hs4⟩; have S4 := Lib.hid (SH.out.trans hs4); have C4 := Lib.hid hs4.ch; have N4 := Lib.hid hs4.own; clear hs4)
      refine ⟨⟨i + 1, vw4, rfl, by omega, S4.out, own_ch OH.out C4.out (fun q hq f => AH.out q hq f), fun q hq f => ?_⟩, by simp [intOf]; omega⟩
      rcases cfoot_mono N4.out f with h1 | h1
      · exact AH.out q hq h1
      · have := (OH.out.lt q hq).2; omega
    · obtain rfl : i = ds.length := by omega
      have SX := Lib.hid SH.out
      rw [List.take_length] at SX
      have hfl := Lib.hid (hflush.out wr vwi SX.out.at_)
      obtain ⟨k0, _, _⟩ := SX.out.at_.cells
      unfold DPost at hfl
      go_wp2_with (go_at_call 41; refine hfl.out.mono ?_; rintro e w5 ⟨vw5, rfl, hd5, hc5, ho5⟩; have T5 := Lib.hid (SX.out.trans (SX.out.at_.turnDisk hd5 hc5 ho5)); clear hd5 hc5 ho5)
      go_ret
      exact ⟨rfl, vw5, T5.out⟩
end Go.Proofs.Ytbcjcfjbdjdajaa
