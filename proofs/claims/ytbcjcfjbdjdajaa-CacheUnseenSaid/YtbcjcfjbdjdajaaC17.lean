/- quernlaw11.awake, walked: some of the chapter's rows. -/
import Derived.Test.YtbcjcfjbdjdajaaC16
import Derived.Test.YtbcjcfjbdjdajaaC14
namespace Go.Proofs.Ytbcjcfjbdjdajaa
open Go.RowKit
attribute [local go_sem ↓] loadAtB storeAtB loadAtH storeAtH
structure AwP (C1 C2 C3 C4 : Ck) (x : Blk) : Prop where
  w1 : cWrite (newC (newD (zeros 4))) 1 (tellB 1) = C1
  r1 : cRef (newC (newD (zeros 4))) 1 = 0
  w2 : cWrite C1 3 (tellB 2) = C2
  r2 : cRef C1 3 = 0
  wb : cWb C2 5 = ((3, true, 0), C3)
  left : C2.D.left = -1
  acts : C2.D.acts ≤ 2
  wait : C2.D.wait.length ≤ 2
  wf : ∀ p ∈ C2.has, wf64 p.1
  len : C2.has.length ≤ 2
  rd : dRead C3.D 3 = tellB 2
  rf : dRefuse C3.D 3 = 0
  pin : cPin C3 3 true = C4
  dirty : DL 4 C4 [1] (cClean C4)
  wf4 : ∀ p ∈ C4.has, wf64 p.1
  len4 : C4.has.length ≤ 3
  drop : cDrop C4 3 = (110, C4)
  xx : tellB 2 = x
theorem aw_plain : ∃ C1 C2 C3 C4 x, AwP C1 C2 C3 C4 x := by
  have h0 : Inv 4 (zeros 4) 0 (newC (newD (zeros 4))) := inv_new (by omega) (by omega)
  have h1 := inv_write h0 (b := 1) (by omega) (tellB 1)
  have h2 := inv_write h1 (b := 3) (by omega) (tellB 2)
  have e1 : cWrite (newC (newD (zeros 4))) ((1 : Nat) : Int) (tellB 1) = { newC (newD (zeros 4)) with has := [(1, (tellB 1, true))] } := by
    unfold cWrite
    rw [if_pos (h0.ref0.2 (by omega))]
    rfl
  have e2 : cWrite (cWrite (newC (newD (zeros 4))) ((1 : Nat) : Int) (tellB 1)) ((3 : Nat) : Int) (tellB 2) = { newC (newD (zeros 4)) with has := [(1, (tellB 1, true)), (3, (tellB 2, true))] } := by
    have hr := h1.ref0.2 (show (0 : Int) ≤ ((3 : Nat) : Int) ∧ ((3 : Nat) : Int) < ((4 : Nat) : Int) by omega)
    rw [e1] at hr ⊢
    unfold cWrite
    rw [if_pos hr]
    rfl
  have r1 := h0.ref0.2 (show (0 : Int) ≤ ((1 : Nat) : Int) ∧ ((1 : Nat) : Int) < ((4 : Nat) : Int) by omega)
  have r2 := h1.ref0.2 (show (0 : Int) ≤ ((3 : Nat) : Int) ∧ ((3 : Nat) : Int) < ((4 : Nat) : Int) by omega)
  have hd : cDirty (cWrite (cWrite (newC (newD (zeros 4))) ((1 : Nat) : Int) (tellB 1)) ((3 : Nat) : Int) (tellB 2)) = [1, 3] := by
    rw [e2]
    unfold cDirty keysC
    have : sortI [(1 : Int), 3] = [1, 3] := sortI_eq (List.Perm.refl _) (by simp)
    show (sortI [(1 : Int), 3]).filter _ = _
    rw [this]
    rfl
  have hw := wb_plain h2 (by rw [e2]; rfl) 5 (by rw [hd]; simp)
  rw [hd] at hw
  have hb : ([1, 3] : List Int).getD ((5 : Int).toNat % ([1, 3] : List Int).length) 0 = 3 := rfl
  rw [hb] at hw
  have h3 := inv_wb h2 5
  obtain ⟨C2, hC2⟩ : ∃ C2, cWrite (cWrite (newC (newD (zeros 4))) ((1 : Nat) : Int) (tellB 1)) ((3 : Nat) : Int) (tellB 2) = C2 := ⟨_, rfl⟩
  rw [hC2] at h2 hd hw h3
  obtain ⟨C3, hC3⟩ : ∃ C3, (cWb C2 5).2 = C3 := ⟨_, rfl⟩
  rw [hC3] at hw h3
  obtain ⟨p1, p2, p3⟩ := cPin_on h3 (b := 3) (by omega)
  have hdr := h3.readD (b := 3) (by omega)
  have hd4 : cDirty (cPin C3 ((3 : Nat) : Int) true) = [1] := by
    have e : cPin C3 ((3 : Nat) : Int) true = { C3 with pin := updD C3.pin ((3 : Nat) : Int) true } := by
      unfold cPin; rw [if_pos (h3.ref0.2 (by omega)), if_pos rfl]
    rw [e]
    show cDirty C3 = _
    rw [hw.dir, hd]
    rfl
  refine ⟨_, C2, C3, cPin C3 3 true, _, rfl, r1, ?_, r2, hw.wb, h2.left, ?_, ?_, h2.wf (by omega), h2.hasl, ?_, hdr.2, rfl, ⟨hd4, rfl⟩, p1.wf (by omega), p1.hasl, p3, rfl⟩
  · exact hC2
  · have := h2.acts; simpa using this
  · have := h2.wait; simpa using this
  · refine hdr.1.trans (hw.now.trans ?_)
    show (((zeros 4).set 1 (tellB 1)).set 3 (tellB 2)).getD 3 zB = tellB 2
    rw [getD_set _ _ _ _ (by simp [zeros]), if_pos rfl]
theorem write_d {W : World} {c : Cf} {vw : Value} {C C' : Ck} {b : Int} {x : Blk} (hE : cWrite C b x = C') (hr : cRef C b = 0) (h : CAt W c vw C) :
    Calls Try.prog 24 #[.pointer (some ⟨c.rc, 0, none⟩), .int .i64 b, .agg (blk x)] W (fun e w' => e = .returned (.int .i64 0) ∧ CS c vw W vw w' C') := by
  have := write_c b x h
  rw [hE, hr] at this
  exact this
set_option maxRecDepth 100000 in
set_option maxHeartbeats 2000000 in
theorem awake_any (w : World) : Calls Try.prog 27 #[] w (BPost (.bool true) w) := by
  obtain ⟨C1, C2, C3, C4, x, hp⟩ := aw_plain
  have P := Lib.hid hp
  clear hp
  have hx := Lib.hid P.out.xx
  have hnew : Hid (∀ w, Calls Try.prog 28 #[.int .i64 4] w (LoadPost (zeros 4) w)) := fun w => new_any 4 (by omega) (by omega) w
  have f1 : Hid (∀ w, Calls Try.prog 29 #[.int .u32 1] w (fun e w' => e = .returned (.agg (blk (tellB 1))) ∧ Below w.heap.size w w')) := fun w => fill_any 1 (by omega) w
  have f2 : Hid (∀ w, Calls Try.prog 29 #[.int .u32 2] w (fun e w' => e = .returned (.agg (blk x)) ∧ Below w.heap.size w w')) := fun w => by rw [← hx.out]; exact fill_any 2 (by omega) w
  have hz : Try.zeroCells32 = blk fun _ => 0 := zcB
  have tok : True := trivial
  go_enter Try.func27, Try.ntmps27
  go_wp2_with (first
    | (go_at_call 28; refine (hnew.out _).mono ?_; rintro e w2 ⟨r, gs, gn, rfl, hd, hb⟩; have D2 := Lib.hid hd; have B2 := Lib.hid hb; clear hd hb)
    | (go_at_call 21; refine (newc_ex D2.out).mono ?_; rintro e w3 ⟨c, rfl, hr, hcb, hca, hb⟩; have C3' := Lib.hid hca; have B3 := Lib.hid (B2.out.trans (hb.mono B2.out.size)); have Hcb := Lib.hid hcb; clear hcb; subst hr; clear hca hb)
    | (go_at_call 29; clear tok; refine (f1.out w3).mono ?_; rintro e w4 ⟨rfl, hb⟩; have K4 := Lib.hid (C3'.out.later hb); have B4 := Lib.hid (B3.out.trans (hb.mono B3.out.size)); clear hb)
    | (go_at_call_of 24 (Value.int .i64 1); refine (write_d P.out.w1 P.out.r1 K4.out).mono ?_; rintro e w5 ⟨rfl, hs⟩; have K5 := Lib.hid hs.at_; have B5 := Lib.hid (hs.below K4.out (Nat.le_of_eq Hcb.out.symm) B4.out B4.out.size); clear hs)
    | (go_at_call 29; refine (f2.out w5).mono ?_; rintro e w6 ⟨rfl, hb⟩; have K6 := Lib.hid (K5.out.later hb); have B6 := Lib.hid (B5.out.trans (hb.mono B5.out.size)); clear hb)
    | (go_at_call_of 24 (Value.int .i64 3); refine (write_d (hx.out ▸ P.out.w2) P.out.r2 K6.out).mono ?_; rintro e w7 ⟨rfl, hs⟩; have K7 := Lib.hid hs.at_; have B7 := Lib.hid (hs.below K6.out (Nat.le_of_eq Hcb.out.symm) B6.out B6.out.size); clear hs)
    | (go_at_call 15; refine (wb_d P.out.wb P.out.left (by have := P.out.acts; omega) (by have := P.out.wait; omega) P.out.wf (by have := P.out.len; omega) K7.out).mono ?_; rintro e w8 ⟨rfl, vw8, hs⟩; have K8 := Lib.hid hs.at_; have B8 := Lib.hid (hs.below K7.out (Nat.le_of_eq Hcb.out.symm) B7.out B7.out.size); clear hs)
    | (go_at_call 13; refine (dread_d (hx.out ▸ P.out.rd) P.out.rf K8.out).mono ?_; rintro e w9 ⟨rfl, hb⟩; have K9 := Lib.hid (K8.out.later hb); have B9 := Lib.hid (B8.out.trans (hb.mono B8.out.size)); clear hb; have st9 := stRow x (Whole.new w9 (blk fun _ => 0) 32); have Y9 := Lib.hid ((Whole.new w9 (blk fun _ => 0) 32).setRow (blk x)); have L9 : Hid (Below w9.heap.size w9 ((w9.alloc (.cells (blk fun _ => 0) 32)).setRow w9.heap.size (blk x))) := below_setRow' ((Below.refl _ _).alloc (Nat.le_refl _) _) (Nat.le_refl _) _)
    | (go_at_call 19; generalize hwa : (w9.alloc (.cells (blk fun _ => 0) 32)).setRow w9.heap.size (blk x) = wa at Y9 L9 ⊢; clear st9 hwa; have Ka := Lib.hid (K9.out.later L9.out); have Ba := Lib.hid (B9.out.trans (L9.out.mono B9.out.size)); refine (pin_d P.out.pin Ka.out).mono ?_; rintro e w10 ⟨rfl, hs⟩; have K10 := Lib.hid hs.at_; have B10 := Lib.hid (hs.below Ka.out (Nat.le_of_eq Hcb.out.symm) Ba.out Ba.out.size); have Y10 := Lib.hid (Y9.out.ch hs.ch (fun f => by have h1 := (K9.out.lt _ f).2; omega)); clear hs))
  have f0 : ∀ p : Kept (fun w' => Below w10.heap.size w10 w'), (bigLoadAt 32 (.pointer (some ⟨w9.heap.size, 0, none⟩))).run Try.prog p.x = .ok (.agg (blk x)) p.x := fun p => ldRow (Y10.out.later p.h)
  have hne : Nonempty (Kept (fun w' => Below w10.heap.size w10 w')) := ⟨⟨w10, Below.refl _ _⟩⟩
  have hq0 : ∀ w, (binOp .eql 32 (.agg (blk x)) (.agg (blk x))).run Try.prog w = .ok (.bool true) w := fun w => by rw [eqlB, blkEq_refl]
  have hone : Hid (∀ (w : World), Ints (w.alloc (.cells #[.int .i64 1] 3)) (.slice (some ⟨w.heap.size, 0, none⟩) 1 1) [1]) := fun w => by
    have hw := Whole.new w #[.int .i64 1] 3
    exact ⟨some ⟨w.heap.size, 0, none⟩, 1, rfl, by simp, by simp [maxLen], fun _ => ⟨w.heap.size, 0, rfl, by simp, fun j v hv => by rw [Nat.zero_add, hw.cell j]; simpa [flat, ic] using hv⟩, fun e => by cases e⟩
  refine wp_region_tree2 (fun w' => Below w10.heap.size w10 w') (.one 0 0 (.one 0 1 (.one 0 2 (.one 0 3 (.one 0 4 (.one 0 5 (.one 0 6 (.one 0 7 (.one 0 8 (.one 0 9 (.one 1 10 (.one 2 11 (.one 0 12 (.one 0 13 (.one 0 14 (.one 0 15 (.fork 16 17 (.one 3 18 (.one 0 19 (.one 0 20 (.one 0 21 (.one 3 22 (.one 0 23 (.one 0 24 (.one 0 25 .done))))))))))))))))))))))))) (by kernel_rfl) (by kernel_rfl) (Below.refl _ _).drew ?_
  repeat (first | (refine wpT_pure rfl (fun K hK => ?_); go_simp; refine hK _ ?_; clear hK K) | (refine wpT_held rfl (fun K hK => ?_); go_simp; refine hK _ ?_; clear hK K))
  refine wpT_turn rfl (fun K hK => ?_)
  go_wp2_with (go_at_call 29; refine (f2.out _).mono ?_; rintro e w11 ⟨rfl, hb⟩; have B11 : Hid (Below w10.heap.size w10 w11) := ((Below.refl _ _).drew).trans hb; clear hb)
  refine hK.out _ _ B11.out ?_
  clear hK K
  have K11 := Lib.hid (K10.out.later B11.out)
  repeat (first | (refine wpT_pure rfl (fun K hK => ?_); go_simp; refine hK _ ?_; clear hK K) | (refine wpT_held rfl (fun K hK => ?_); go_simp; refine hK _ ?_; clear hK K))
  refine wpT_fork rfl rfl (fun v16 v17 w' => (∃ a k, v16 = .slice a 1 k ∧ Ints w' (.slice a 1 k) [1]) ∧ (∃ g, v17 = .slice (some ⟨g, 0, none⟩) 1 1 ∧ Ints w' (.slice (some ⟨g, 0, none⟩) 1 1) [1]) ∧ CAt w' c vw8 C4 ∧ Below w10.heap.size w10 w') (fun K hK => ?_) (fun K hK => ?_) ?_
  · go_wp2_with (go_at_call 10; refine (dirty_d P.out.dirty P.out.wf4 (by have := P.out.len4; omega) K11.out).mono ?_; rintro e w12 ⟨a, k, rfl, ho, hb⟩; have I12 := Lib.hid (Sl.own ho); have K12 := Lib.hid (K11.out.later hb); have B12 := Lib.hid (B11.out.trans (hb.mono B11.out.size)); clear ho hb)
    refine hK.out _ _ B12.out ?_
    clear hK K
    refine wpOp_fork rfl (fun K hK => ?_)
    go_wp2_with fail
    have b6 : Below w12.heap.size w12 (w12.alloc (.cells #[.int .i64 1] 3)) := (Below.refl _ _).alloc (Nat.le_refl _) _
    exact hK.out _ _ (B12.out.trans (b6.mono B12.out.size)) ⟨_, _, rfl, ⟨_, _, rfl, Sl.later I12.out b6⟩, ⟨_, rfl, hone.out w12⟩, K12.out.later b6, B12.out.trans (b6.mono B12.out.size)⟩
  · go_wp2_with fail
    have b6 : Hid (Below w11.heap.size w11 (w11.alloc (.cells #[.int .i64 1] 3))) := (Below.refl _ _).alloc (Nat.le_refl _) _
    have B6 := Lib.hid (B11.out.trans (b6.out.mono B11.out.size))
    have I6 := Lib.hid (hone.out w11)
    have K6 := Lib.hid (K11.out.later b6.out)
    refine hK.out _ _ B6.out ?_
    clear hK K
    refine wpOp_fork rfl (fun K hK => ?_)
    go_wp2_with (go_at_call 10; refine (dirty_d P.out.dirty P.out.wf4 (by have := P.out.len4; omega) K6.out).mono ?_; rintro e w12 ⟨a, k, rfl, ho, hb⟩; have I12 := Lib.hid (Sl.own ho); have J12 := Lib.hid (Sl.later I6.out hb); have K12 := Lib.hid (K6.out.later hb); have B12 := Lib.hid (B6.out.trans (hb.mono B6.out.size)); clear ho hb)
    exact hK.out _ _ B12.out ⟨_, _, rfl, ⟨_, _, rfl, I12.out⟩, ⟨_, rfl, J12.out⟩, K12.out, B12.out⟩
  rintro v16 v17 w13 ⟨⟨a, k, rfl, hi1⟩, ⟨g, rfl, hi2⟩, hk, hb⟩
  have I13 := Lib.hid hi1
  have J13 := Lib.hid hi2
  have K13 := Lib.hid hk
  have B13 := Lib.hid hb
  clear hi1 hi2 hk hb f0 hne
  refine wpT_last rfl (fun K hK => ?_)
  go_wp2_with (go_at_call 17; refine (same_any [1] _ _ _ I13.out J13.out).mono ?_; rintro e w14 ⟨rfl, hb⟩; have K14 := Lib.hid (K13.out.later hb); have B14 := Lib.hid (B13.out.trans (hb.mono B13.out.size)); clear hb)
  refine hK.out _ _ ?_
  clear hK K
  repeat (first | (refine wpT_pure rfl (fun K hK => ?_); go_simp; refine hK _ ?_; clear hK K))
  refine wpT_last rfl (fun K hK => ?_)
  go_wp2_with (go_at_call 20; refine (drop_d P.out.drop K14.out).mono ?_; rintro e w15 ⟨rfl, hs⟩; have B15 := Lib.hid (hs.below K14.out (Nat.le_of_eq Hcb.out.symm) (B10.out.trans (B14.out.mono B10.out.size)) (Nat.le_trans B10.out.size B14.out.size)); clear hs)
  refine hK.out _ _ ?_
  clear hK K
  repeat (first | (refine wpT_pure rfl (fun K hK => ?_); go_simp; refine hK _ ?_; clear hK K))
  refine wpT_done ?_
  go_wp2_with fail
  go_ret
  exact ⟨rfl, B15.out⟩
end Go.Proofs.Ytbcjcfjbdjdajaa
