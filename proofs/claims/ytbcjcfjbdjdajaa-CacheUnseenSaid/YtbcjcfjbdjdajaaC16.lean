/- quernlaw11.CacheDrops, walked. -/
import Derived.Test.YtbcjcfjbdjdajaaC15
namespace Go.Proofs.Ytbcjcfjbdjdajaa
open Go.RowKit
attribute [local go_sem ↓] loadAtB storeAtB loadAtH storeAtH
theorem drop_d {W : World} {c : Cf} {vw : Value} {C C' : Ck} {b r : Int} (hE : cDrop C b = (r, C')) (h : CAt W c vw C) :
    Calls Try.prog 20 #[.pointer (some ⟨c.rc, 0, none⟩), .int .i64 b] W (fun e w' => e = .returned (.int .i64 r) ∧ CS c vw W vw w' C') := by
  have := drop_c b h
  rw [hE] at this
  exact this
theorem pin_d {W : World} {c : Cf} {vw : Value} {C C' : Ck} {b : Int} {on : Bool} (hE : cPin C b on = C') (h : CAt W c vw C) :
    Calls Try.prog 19 #[.pointer (some ⟨c.rc, 0, none⟩), .int .i64 b, .bool on] W (fun e w' => e = .returned (.tuple #[]) ∧ CS c vw W vw w' C') := by
  have := pin_c b on h
  rw [hE] at this
  exact this
theorem read_d {W : World} {c : Cf} {vw : Value} {C C' : Ck} {b : Int} {x : Blk} (hE : cRead C b = (x, C')) (hr : cRef C b = 0) (hl : C.D.left = -1) (h : CAt W c vw C) :
    Calls Try.prog 18 #[.pointer (some ⟨c.rc, 0, none⟩), .int .i64 b] W (fun e w' => e = .returned (.tuple #[.agg (blk x), .int .i64 0]) ∧ CS c vw W vw w' C') := by
  have := read_c b hl h
  rw [hE, hr] at this
  exact this
theorem dread_d {W : World} {c : Cf} {vw : Value} {C : Ck} {b : Int} {x : Blk} (h1 : dRead C.D b = x) (h2 : dRefuse C.D b = 0) (h : CAt W c vw C) :
    Calls Try.prog 13 #[.pointer (some ⟨c.r, 0, none⟩), .int .i64 b] W (fun e w' => e = .returned (.tuple #[.agg (blk x), .int .i64 0]) ∧ Below W.heap.size W w') := by
  have := read_at b h.disk
  unfold ReadPost at this
  rw [h1, h2] at this
  exact this
theorem has_no {l : List Int} {v : Value} {x : Int} {w : World} (hx : x ∉ l) (h : Ints w v l) : Calls Try.prog 14 #[v, .int .i64 x] w (SamePost (.bool false) w) := by
  have := has_any l v x w h
  rw [show decide (x ∈ l) = false by simpa using hx] at this
  exact this
set_option maxRecDepth 100000 in
set_option maxHeartbeats 2000000 in
theorem cacheDrops_any (n : Int) (l : List Dx) (b : Int) (pin : Bool) (hok : OkDx l) (v : Value) (w : World) (h : Dxs w v l) : Calls Try.prog 6 #[.int .i64 n, v, .int .i64 b, .bool pin] w (BPost (.bool true) w) := by
  have H := Lib.hid h
  obtain ⟨ao, cap, rfl, hc1, hc2, _⟩ := h.ex
  unfold maxLen at hc2
  clear h
  by_cases hl : 200 < l.length
  · have d1 : decide (200 < l.length) = true := by simpa using hl
    have d2 : decide ((200 : Int) < (l.length : Int)) = true := by simp; omega
    go_enter Try.func6, Try.ntmps6
    go_wp2_with fail
    go_ret
    exact ⟨rfl, Below.refl _ _⟩
  · have d1 : decide (200 < l.length) = false := by simpa using hl
    have d2 : decide ((200 : Int) < (l.length : Int)) = false := by simp; omega
    have hran := Lib.hid (ran_any n l (by omega) hok _ w H.out)
    obtain ⟨N, hN⟩ : ∃ N, Hid (nOf n = N) := ⟨_, rfl⟩
    rw [hN.out] at hran
    have hN1 : Hid (1 ≤ N ∧ N ≤ 64) := by have := hN.out; unfold nOf at this; unfold Hid; omega
    obtain ⟨q, hqe⟩ : ∃ q, Hid (bOf b N = q) := ⟨_, rfl⟩
    have hq : Hid (q < N) := by unfold Hid; rw [← hqe.out]; exact bOf_lt hN1.out.1
    have wq : IntKind.i64.wrap ((IntKind.u64.wrap b).tmod (N : Int)) = (q : Int) := by rw [bOf_wrap b hN1.out.1 hN1.out.2, hqe.out]
    have wq2 : wrap64 ((IntKind.u64.wrap b).tmod (N : Int)) = (q : Int) := by rw [← IntWalk.i64_left]; exact wq
    have wn3 : IntKind.u64.wrap (N : Int) = (N : Int) := IntWalk.u64_in _ (by have := hN1.out; omega)
    have hqN : q < N := hq.out
    have hNne : N ≠ 0 := by have := hN1.out; omega
    clear hok hl
    cases pin with
    | true =>
      have tokA : True := trivial
      go_enter Try.func6, Try.ntmps6
      go_wp2_with (first
        | (go_at_call 9; refine hran.out.mono ?_; rintro e w2 ⟨c, vw, g, m, C, rfl, hrs⟩; have R2 := Lib.hid hrs; have iv0 := Lib.hid hrs.inv; have hlt := Lib.hid (fun k hk => (hrs.q.at_.lt k hk).2); obtain ⟨C1, hC1⟩ : ∃ C1, Hid (cPin C (q : Int) true = C1) := ⟨_, rfl⟩; have hpo := Lib.hid (cPin_on iv0.out hq.out); rw [hC1.out] at hpo; have iv := Lib.hid hpo.out.1; have hwf := Lib.hid (iv.out.wf (by have := hN1.out; omega)); have hln : Hid (C1.has.length ≤ 1000000) := (by have := iv.out.hasl; unfold Hid; omega); clear hrs; obtain ⟨ds, cs, hdl⟩ : ∃ ds cs, Hid (DL N C1 ds cs) := ⟨_, _, rfl, rfl⟩; obtain ⟨⟨ot, C2⟩, hE⟩ : ∃ p, Hid (evN C1 64 = p) := ⟨_, rfl⟩; have hnc : Hid ((q : Int) ∉ cs) := (by rw [← hdl.out.c]; exact fun hc => by have := (mem_clean.1 hc).2; rw [hpo.out.2.1] at this; cases this); have hno : Hid ((q : Int) ∉ ot) := (fun ho => hnc.out (by rw [← hdl.out.c]; exact ev_sub iv.out _ (by rw [hE.out]; exact ho))))
        | (go_at_call 19; refine (pin_d hC1.out R2.out.q.at_).mono ?_; rintro e w3 ⟨rfl, hs⟩; have Q3 := Lib.hid (R2.out.q.cache hs); clear hs)
        | (go_at_call 20; refine (drop_d hpo.out.2.2 Q3.out.at_).mono ?_; rintro e w4 ⟨rfl, hs⟩; have Q4 := Lib.hid (Q3.out.cache hs); clear hs)
        | (go_at_call 11; refine (clean_d hdl.out hwf.out hln.out Q4.out.at_).mono ?_; rintro e w5 ⟨a5, k5, rfl, ho, hb⟩; have I5 := Lib.hid (Sl.own ho); have Q5 := Lib.hid (Q4.out.later hb); clear ho hb)
        | (go_at_call 14; clear tokA; refine (has_no hnc.out I5.out).mono ?_; rintro e w6 ⟨rfl, e6⟩; have e6H := Lib.hid e6; subst e6)
        | (go_at_call 16; refine (evicted_d hE.out hwf.out hln.out Q5.out.at_).mono ?_; rintro e w7 ⟨a7, k7, rfl, ho, hs⟩; have I7 := Lib.hid (Sl.own ho); have Q7 := Lib.hid (Q5.out.cache hs); clear ho hs)
        | (go_at_call 14; refine (has_no hno.out I7.out).mono ?_; rintro e w8 ⟨rfl, e8⟩; have e8H := Lib.hid e8; subst e8))
      go_ret
      exact ⟨rfl, Q7.out.bel⟩
    | false =>
      have hz : Try.zeroCells32 = blk fun _ => 0 := zcB
      go_enter Try.func6, Try.ntmps6
      go_wp2_with (first
        | (go_at_call 9; refine hran.out.mono ?_; rintro e w2 ⟨c, vw, g, m, C, rfl, hrs⟩; have R2 := Lib.hid hrs; have iv0 := Lib.hid hrs.inv; obtain ⟨C1, C2, C3, x, hp⟩ := drop_plain (by have := hN1.out; omega) iv0.out hrs.pin hq.out; have hpH := Lib.hid hp; clear hp hrs; obtain ⟨ds, cs, hdl⟩ : ∃ ds cs, Hid (DL N C3 ds cs) := ⟨_, _, rfl, rfl⟩; have hnd : Hid ((q : Int) ∉ ds) := (by have := hpH.out.not; rw [hdl.out.d] at this; exact this); have hq0 : ∀ w, (binOp .eql 32 (.agg (blk x)) (.agg (blk x))).run Try.prog w = .ok (.bool true) w := (fun w => by rw [eqlB, blkEq_refl]))
        | (go_at_call 19; refine (pin_d hpH.out.pin R2.out.q.at_).mono ?_; rintro e w3 ⟨rfl, hs⟩; have Q3 := Lib.hid (R2.out.q.cache hs); clear hs)
        | (go_at_call 20; refine (drop_d hpH.out.drop Q3.out.at_).mono ?_; rintro e w4 ⟨rfl, hs⟩; have Q4 := Lib.hid (Q3.out.cache hs); clear hs)
        | (go_at_call 18; refine (read_d hpH.out.read hpH.out.ref hpH.out.left2 Q4.out.at_).mono ?_; rintro e w5 ⟨rfl, hs⟩; have Q5 := Lib.hid (Q4.out.cache hs); clear hs; have st5 := stRow x (Whole.new w5 (blk fun _ => 0) 32); have Y5 := Lib.hid ((Whole.new w5 (blk fun _ => 0) 32).setRow (blk x)); have B5 : Hid (Below w5.heap.size w5 ((w5.alloc (.cells (blk fun _ => 0) 32)).setRow w5.heap.size (blk x))) := below_setRow' ((Below.refl _ _).alloc (Nat.le_refl _) _) (Nat.le_refl _) _)
        | (go_at_call 13; generalize hwa : (w5.alloc (.cells (blk fun _ => 0) 32)).setRow w5.heap.size (blk x) = wa at Y5 B5 ⊢; clear st5 hwa; have Qa := Lib.hid (Q5.out.later B5.out); refine (dread_d hpH.out.rd hpH.out.rf Qa.out.at_).mono ?_; rintro e w6 ⟨rfl, hb⟩; have Q6 := Lib.hid (Qa.out.later hb); have Y6 := Lib.hid (Y5.out.later hb); clear hb; have st6 := stRow x (Whole.new w6 (blk fun _ => 0) 32); have B6 : Hid (Below w6.heap.size w6 ((w6.alloc (.cells (blk fun _ => 0) 32)).setRow w6.heap.size (blk x))) := below_setRow' ((Below.refl _ _).alloc (Nat.le_refl _) _) (Nat.le_refl _) _; have ldx := ldRow (Y6.out.later B6.out); have ldy := ldRow ((Whole.new w6 (blk fun _ => 0) 32).setRow (blk x)); have Qb := Lib.hid (Q6.out.later B6.out))
        | (go_at_call 10; refine (dirty_d hdl.out hpH.out.wf (by have := hpH.out.len; omega) Qb.out.at_).mono ?_; rintro e w7 ⟨a7, k7, rfl, ho, hb⟩; have I7 := Lib.hid (Sl.own ho); have Q7 := Lib.hid (Qb.out.later hb); clear ho hb)
        | (go_at_call 14; refine (has_no hnd.out I7.out).mono ?_; rintro e w8 ⟨rfl, e8⟩; have e8H := Lib.hid e8; subst e8))
      go_ret
      exact ⟨rfl, Q7.out.bel⟩
end Go.Proofs.Ytbcjcfjbdjdajaa
