/- quernlaw11.CacheLists, walked. -/
import Derived.Test.YtbcjcfjbdjdajaaC10
import Derived.Deep.RegionWith
namespace Go.Proofs.Ytbcjcfjbdjdajaa
open Go.RowKit
attribute [local go_sem ↓] loadAtB storeAtB loadAtH storeAtH
theorem Calls.later {P : Program} {f : FuncId} {args : Array Value} {w : World} {p : Later w} {v : Value} (h : Calls P f args p.x (BPost v p.x)) :
    Calls P f args p.x fun e w'' => e = .returned v ∧ ∃ q : Later w, w'' = q.x :=
  h.mono fun _ w' ⟨he, hb⟩ => ⟨he, ⟨w', p.h.trans (hb.mono p.h.size)⟩, rfl⟩
theorem SamePost.b {v : Value} {w : World} {P : Program} {f : FuncId} {args : Array Value} (h : Calls P f args w (SamePost v w)) : Calls P f args w (BPost v w) := h.mono fun e w' ⟨h1, h2⟩ => ⟨h1, by subst h2; exact Below.refl _ _⟩
theorem Inv.dirtyIn {n : Nat} {m : List Blk} {K : Nat} {C : Ck} (h : Inv n m K C) : ∀ x ∈ cDirty C, 0 ≤ x ∧ x < (n : Int) := fun x hx => h.keys x (by
  have := (List.mem_filter.1 hx).1
  rw [mem_keysC] at this
  exact mem_keys.2 this)
theorem Inv.cleanIn {n : Nat} {m : List Blk} {K : Nat} {C : Ck} (h : Inv n m K C) : ∀ x ∈ cClean C, 0 ≤ x ∧ x < (n : Int) := fun x hx => h.keys x (by
  have := (List.mem_filter.1 hx).1
  rw [mem_keysC] at this
  exact mem_keys.2 this)
theorem Inv.getM {n : Nat} {m : List Blk} {K : Nat} {C : Ck} (h : Inv n m K C) {b : Nat} (hb : b < n) : m[b]? = some (m.getD b zB) := by
  rw [List.getD_eq_getElem?_getD, List.getElem?_eq_getElem (by rw [h.mlen]; exact hb)]
  rfl
/-- A block of the slice of what was written last. -/
theorem RQ.range {B : Nat} {w0 : World} {N : Nat} {c : Cf} {vw : Value} {g : Nat} {m : List Blk} {C : Ck} {W : World} (h : RQ B w0 N c vw g m C W) {q : Nat} {x : Blk} (hx : m[q]? = some x) : W.rangeAt g (q * 256) (bc x) := by
  have := rangeAt_sub (own_range h.row) (k := q * 256) (ys := bc x) fun j v hv => by
    rw [flat_get bc_len hx j (by have := (List.getElem?_eq_some_iff.1 hv).1; rw [bc_len] at this; exact this)]; exact hv
  rw [Nat.zero_add] at this
  exact this
theorem Inv.readD {n : Nat} {m : List Blk} {K : Nat} {C : Ck} (h : Inv n m K C) {b : Nat} (hb : b < n) : dRead C.D b = C.D.now.getD b zB ∧ dRefuse C.D b = 0 := by
  have hr : dRefuse C.D (b : Int) = 0 := dRef_live h.left (h.ref0.2 (by omega))
  exact ⟨by unfold dRead; rw [if_pos hr]; rfl, hr⟩
/-- What is dirty and clean, as lists of one's own. -/
structure DL (N : Nat) (C : Ck) (ds cs : List Int) : Prop where
  d : cDirty C = ds
  c : cClean C = cs
theorem dirty_d {W : World} {c : Cf} {vw : Value} {C : Ck} {N : Nat} {ds cs : List Int} (hd : DL N C ds cs) (hwf : ∀ p ∈ C.has, wf64 p.1) (hn : C.has.length ≤ 1000000) (h : CAt W c vw C) : Calls Try.prog 10 #[.pointer (some ⟨c.rc, 0, none⟩)] W (SomePost ds W) := by
  rw [← hd.d]; exact dirty_c hwf hn h
theorem clean_d {W : World} {c : Cf} {vw : Value} {C : Ck} {N : Nat} {ds cs : List Int} (hd : DL N C ds cs) (hwf : ∀ p ∈ C.has, wf64 p.1) (hn : C.has.length ≤ 1000000) (h : CAt W c vw C) : Calls Try.prog 11 #[.pointer (some ⟨c.rc, 0, none⟩)] W (SomePost cs W) := by
  rw [← hd.c]; exact clean_c hwf hn h
set_option maxRecDepth 100000 in
set_option maxHeartbeats 1000000 in
theorem cacheLists_any (n : Int) (l : List Dx) (hok : OkDx l) (v : Value) (w : World) (h : Dxs w v l) : Calls Try.prog 3 #[.int .i64 n, v] w (BPost (.bool true) w) := by
  have H := Lib.hid h
  obtain ⟨ao, cap, rfl, hc1, hc2, _⟩ := h.ex
  unfold maxLen at hc2
  clear h
  by_cases hl : 200 < l.length
  · have d1 : decide (200 < l.length) = true := by simpa using hl
    have d2 : decide ((200 : Int) < (l.length : Int)) = true := by simp; omega
    go_enter Try.func3, Try.ntmps3
    go_wp2_with fail
    go_ret
    exact ⟨rfl, Below.refl _ _⟩
  · have d1 : decide (200 < l.length) = false := by simpa using hl
    have d2 : decide ((200 : Int) < (l.length : Int)) = false := by simp; omega
    have hran := Lib.hid (ran_any n l (by omega) hok _ w H.out)
    obtain ⟨N, hN⟩ : ∃ N, Hid (nOf n = N) := ⟨_, rfl⟩
    rw [hN.out] at hran
    have hN1 : Hid (1 ≤ N ∧ N ≤ 64) := by have := hN.out; unfold nOf at this; unfold Hid; omega
    clear hok hl
    have tok : True := trivial
    go_enter Try.func3, Try.ntmps3
    go_wp2_with (first
      | (go_at_call 9; refine hran.out.mono ?_; rintro e w2 ⟨c, vw, g, m, C, rfl, hrs⟩; have R2 := Lib.hid hrs; have iv := Lib.hid hrs.inv; have hwf := Lib.hid (hrs.inv.wf (by have := hN1.out; omega)); have hln : Hid (C.has.length ≤ 1000000) := (by have := hrs.inv.hasl; unfold Hid; omega); clear hrs; obtain ⟨ds, cs, hdl⟩ : ∃ ds cs, Hid (DL N C ds cs) := ⟨_, _, rfl, rfl⟩)
      | (go_at_call 10; refine (dirty_d hdl.out hwf.out hln.out R2.out.q.at_).mono ?_; rintro e w3 ⟨a3, k3, rfl, ho, hb⟩; have I3 := Lib.hid (Sl.own ho); have Q3 := Lib.hid (R2.out.q.later hb); clear ho hb)
      | (go_at_call 11; refine (clean_d hdl.out hwf.out hln.out Q3.out.at_).mono ?_; rintro e w4 ⟨a4, k4, rfl, ho, hb⟩; have I4 := Lib.hid (Sl.own ho); have J4 := Lib.hid (Sl.later I3.out hb); have Q4 := Lib.hid (Q3.out.later hb); clear ho hb)
      | (go_at_call 12; clear tok; refine (rises_any ds (N : Int) _ w4 (hdl.out.d ▸ iv.out.dirtyIn) (hdl.out.d ▸ dirty_lt iv.out.nd) J4.out).mono ?_; rintro e w5 ⟨rfl, hb⟩; have Q5 := Lib.hid (Q4.out.later hb); have I5 := Lib.hid (Sl.later I4.out hb); have J5 := Lib.hid (Sl.later J4.out hb); clear hb)
      | (go_at_call 12; refine (rises_any cs (N : Int) _ w5 (hdl.out.c ▸ iv.out.cleanIn) (hdl.out.c ▸ clean_lt iv.out.nd) I5.out).mono ?_; rintro e w6 ⟨rfl, hb⟩; have Q6 := Lib.hid (Q5.out.later hb); have I6 := Lib.hid (Sl.later I5.out hb); have J6 := Lib.hid (Sl.later J5.out hb); clear hb))
    have hj : Hid (∀ W, Below w6.heap.size w6 W → RQ w.heap.size w N c vw g m C W ∧ Ints W (.slice a3 ds.length k3) ds ∧ Ints W (.slice a4 cs.length k4) cs) := fun W hb => ⟨Q6.out.later hb, Sl.later J6.out hb, Sl.later I6.out hb⟩
    clear R2 Q3 Q4 Q5 I3 I4 I5 J4 J5 hran
    go_loopw [11] (fun v11 W => ∃ i, v11 = .int .i64 (i : Nat) ∧ i ≤ N ∧ Below w6.heap.size w6 W) (fun v11 _ => (N - intOf v11).toNat)
    case atStart => exact ⟨0, rfl, by omega, Below.refl _ _⟩
    case round =>
      obtain ⟨i, rfl, hi, hB⟩ := hrel
      have BH := Lib.hid hB
      clear hB
      by_cases hin : i < N
      · obtain ⟨hq, hdi, hcl⟩ := hj.out wr BH.out
        have Qr := Lib.hid hq
        clear hq hdi hcl
        obtain ⟨y, hy⟩ : ∃ y, Hid (C.D.now.getD i zB = y) := ⟨_, rfl⟩
        obtain ⟨x, hx⟩ : ∃ x, Hid (m.getD i zB = x) := ⟨_, rfl⟩
        have hrd := Lib.hid (read_at (i : Int) Qr.out.at_.disk)
        unfold ReadPost at hrd
        rw [(iv.out.readD hin).1, (iv.out.readD hin).2, hy.out] at hrd
        have hmx : Hid (m[i]? = some x) := by unfold Hid; rw [← hx.out]; exact iv.out.getM hin
        have wi : IntKind.i64.wrap ((i : Int) + 1) = (i : Int) + 1 := IntWalk.i64_in _ (by have := hN1.out; omega)
        have hz : Try.zeroCells32 = blk fun _ => 0 := zcB
        have hin1 : decide (i < N) = true := by simpa using hin
        go_wp2_with (go_at_call 13; refine hrd.out.mono ?_; rintro e w7 ⟨rfl, hb7⟩; have B7 := Lib.hid (BH.out.trans (hb7.mono BH.out.size)); have st7 := stRow y (Whole.new w7 (blk fun _ => 0) 32); clear hb7)
        obtain ⟨wa, hwa⟩ : ∃ wa, wa = (w7.alloc (.cells (blk fun _ => 0) 32)).setRow w7.heap.size (blk y) := ⟨_, rfl⟩
        have hba : Hid (Below w7.heap.size w7 wa) := by subst hwa; exact below_setRow' ((Below.refl _ _).alloc (Nat.le_refl _) _) (Nat.le_refl _) _
        have Xa : Hid (Whole wa w7.heap.size (blk y) 32) := by subst hwa; exact (Whole.new w7 _ 32).setRow _
        rw [← hwa]
        clear hwa st7
        have Ba := Lib.hid (B7.out.trans (hba.out.mono B7.out.size))
        obtain ⟨Qa, Da, Ka⟩ := hj.out wa Ba.out
        replace Qa := Lib.hid Qa
        replace Da := Lib.hid Da
        replace Ka := Lib.hid Ka
        have hra := Qa.out.range hmx.out
        have hga := (Qa.out.row.lt g rfl).2
        have f0 : ∀ q : Later wa, (bigLoadAt 32 (.pointer (some ⟨w7.heap.size, 0, none⟩))).run Try.prog q.x = .ok (.agg (blk y)) q.x := fun q => ldRow (Xa.out.later q.h)
        have f1 : ∀ q : Later wa, (bigLoadAt 32 (.pointer (some ⟨g, i * 256, none⟩))).run Try.prog q.x = .ok (.agg (blk x)) q.x := fun q => ldB (rangeAt_block hra (q.h.block _ hga))
        clear hra
        cases hd : isD C (i : Int) with
        | true =>
          have m1 : decide ((i : Int) ∈ ds) = true := by have := mem_dirty.2 hd; rw [hdl.out.d] at this; simpa using this
          have m2 : decide ((i : Int) ∈ cs) = false := by
            have : ¬ (i : Int) ∈ cs := fun hc => by
              rw [← hdl.out.c] at hc; obtain ⟨z, hz⟩ := (mem_clean.1 hc).1
              unfold isD at hd; rw [hz] at hd; cases hd
            simpa using this
          have h1 : Hid (∀ q : Later wa, Calls Try.prog 14 #[.slice a3 ds.length k3, .int .i64 (i : Int)] q.x (BPost (.bool true) q.x)) := fun q => by have h := SamePost.b (has_any ds _ (i : Int) q.x (Sl.later Da.out q.h)); rw [m1] at h; exact h
          have h2 : Hid (∀ q : Later wa, Calls Try.prog 14 #[.slice a4 cs.length k4, .int .i64 (i : Int)] q.x (BPost (.bool false) q.x)) := fun q => by have h := SamePost.b (has_any cs _ (i : Int) q.x (Sl.later Ka.out q.h)); rw [m2] at h; exact h
          clear m1 m2 hd
          refine wp_region_later (by kernel_rfl) (by kernel_rfl) ?_
          repeat (first | go_big_quiet_step ((first | (go_at_call_of 14 a3; exact Calls.later (h1.out _)) | (go_at_call_of 14 a4; exact Calls.later (h2.out _)))) | quiet_step ((first | (go_at_call_of 14 a3; exact Calls.later (h1.out _)) | (go_at_call_of 14 a4; exact Calls.later (h2.out _)))))
          refine wpQuiet_nil ?_
          rintro ⟨W9, hW9⟩
          dsimp only
          have H9 := Lib.hid hW9
          clear hW9 f0 f1
          go_wp2_with fail
          exact ⟨⟨i + 1, rfl, by omega, Ba.out.trans (H9.out.mono Ba.out.size)⟩, by simp [intOf]; omega⟩
        | false =>
          have m1 : decide ((i : Int) ∈ ds) = false := by
            have : ¬ (i : Int) ∈ ds := fun hc => by rw [← hdl.out.d, mem_dirty, hd] at hc; cases hc
            simpa using this
          have h1 : Hid (∀ q : Later wa, Calls Try.prog 14 #[.slice a3 ds.length k3, .int .i64 (i : Int)] q.x (BPost (.bool false) q.x)) := fun q => by have h := SamePost.b (has_any ds _ (i : Int) q.x (Sl.later Da.out q.h)); rw [m1] at h; exact h
          have hyx : y = x := by rw [← hy.out, ← hx.out]; exact iv.out.now hin hd
          subst hyx
          have hq0 : ∀ w, (binOp .neq 32 (.agg (blk y)) (.agg (blk y))).run Try.prog w = .ok (.bool false) w := fun w => by rw [neqB, blkEq_refl]; rfl
          clear m1 hd
          refine wp_region_later (by kernel_rfl) (by kernel_rfl) ?_
          repeat (first | go_big_quiet_step ((go_at_call_of 14 a3; exact Calls.later (h1.out _))) | quiet_step ((go_at_call_of 14 a3; exact Calls.later (h1.out _))))
          refine wpQuiet_nil ?_
          rintro ⟨W9, hW9⟩
          dsimp only
          have H9 := Lib.hid hW9
          clear hW9 f0 f1
          go_wp2_with fail
          exact ⟨⟨i + 1, rfl, by omega, Ba.out.trans (H9.out.mono Ba.out.size)⟩, by simp [intOf]; omega⟩
      · obtain rfl : N = i := by omega
        go_wp2_with fail
        go_ret
        exact ⟨rfl, Q6.out.bel.trans (BH.out.mono Q6.out.lt)⟩
end Go.Proofs.Ytbcjcfjbdjdajaa
