/- A cache over a new disk behind steps: what the given statements begin with; walked. At most 200 steps. -/
import Derived.Test.YtbcjcfjbdjdajaaC9
namespace Go.Proofs.Ytbcjcfjbdjdajaa
open Go.RowKit
attribute [local go_sem ↓] loadAtB storeAtB loadAtH storeAtH
/-- A step: its kind, its block or number, its bytes. -/
abbrev Dx := Nat × Int × Nat
def dxc (x : Dx) : List Value := [.int .u8 (x.1 : Int), .int .i64 x.2.1, .int .u32 (x.2.2 : Int)]
theorem dxc_len (x : Dx) : (dxc x).length = 3 := rfl
def Dxs (W : World) (v : Value) (l : List Dx) : Prop := Sl W v l.length (flat dxc l)
def OkDx (l : List Dx) : Prop := ∀ x ∈ l, x.1 < 256 ∧ x.2.2 < 4294967296 ∧ wf64 x.2.1
theorem newc_ex {W : World} {base r gs gn : Nat} {vw : Value} {D : Dk} (h : DAt W base r gs gn vw D) :
    Calls Try.prog 21 #[.pointer (some ⟨r, 0, none⟩)] W (fun e w' => ∃ c : Cf, e = .returned (.tuple #[.pointer (some ⟨c.rc, 0, none⟩), .int .i64 0]) ∧ c.r = r ∧ c.base = base ∧ CAt w' c vw (newC D) ∧ Below W.heap.size W w') := by
  refine (newc_at h).mono ?_
  rintro e w' ⟨rfl, h1, h2⟩
  exact ⟨newCf base r gs gn W.heap.size, rfl, rfl, rfl, h1, h2⟩
/-- The cache, and the slice of what was written last, in a world. -/
structure RQ (B : Nat) (w0 : World) (N : Nat) (c : Cf) (vw : Value) (g : Nat) (m : List Blk) (C : Ck) (W : World) : Prop where
  at_ : CAt W c vw C
  row : W.ownsRow B 32 256 (.slice (some ⟨g, 0, none⟩) N N) N (flat bc m)
  bel : Below B w0 W
  lt : B ≤ W.heap.size
  base : B ≤ c.base
  far : ∀ k, (CFoot c vw k ∨ k = c.rc) → k ≠ g
theorem RQ.later {B : Nat} {w0 : World} {N : Nat} {c : Cf} {vw : Value} {g : Nat} {m : List Blk} {C : Ck} {W W' : World} (h : RQ B w0 N c vw g m C W) (hb : Below W.heap.size W W') : RQ B w0 N c vw g m C W' :=
  ⟨h.at_.later hb, own_later h.row hb, h.bel.trans (hb.mono h.lt), Nat.le_trans h.lt hb.size, h.base, h.far⟩
theorem RQ.cache {B : Nat} {w0 : World} {N : Nat} {c : Cf} {vw vw' : Value} {g : Nat} {m : List Blk} {C C' : Ck} {W W' : World} (h : RQ B w0 N c vw g m C W) (hs : CS c vw W vw' W' C') : RQ B w0 N c vw' g m C' W' := by
  have hg := (h.row.lt g rfl).2
  refine ⟨hs.at_, own_ch h.row hs.ch (fun k hk f => by cases hk; exact h.far _ (.inl f) rfl), hs.below h.at_ h.base h.bel h.lt, Nat.le_trans h.lt hs.ch.size, h.base, fun k hk e => ?_⟩
  subst e
  rcases hk with hk | hk
  · rcases cfoot_mono hs.own hk with h1 | h1
    · exact h.far _ (.inl h1) rfl
    · omega
  · exact h.far _ (.inr hk) rfl
theorem RQ.put {B : Nat} {w0 : World} {N : Nat} {c : Cf} {vw : Value} {g : Nat} {m : List Blk} {C : Ck} {W : World} {i : Nat} (h : RQ B w0 N c vw g m C W) (hm : m.length = N) (hi : i < N) (x : Blk) : RQ B w0 N c vw g (m.set i x) C (W.setCells g (i * 256) (bc x)) := by
  have hc : Ch (fun k => k = g) W (W.setCells g (i * 256) (bc x)) := Ch.cells rfl
  have hg := (h.row.lt g rfl).1
  exact ⟨h.at_.ch hc (fun k hk e => h.far k hk e), own_set bc_len h.row hm i hi x, h.bel.grown (grownBy_setCells _ _ _ _) h.lt (fun k hk => by cases hk; exact hg), Nat.le_trans h.lt (grownBy_setCells _ _ _ _).size, h.base, h.far⟩
/-- .. and what the cache tells. -/
structure RS (B : Nat) (w0 : World) (N : Nat) (c : Cf) (vw : Value) (g : Nat) (m : List Blk) (K : Nat) (C : Ck) (W : World) : Prop where
  q : RQ B w0 N c vw g m C W
  inv : Inv N m K C
  pin : C.pin = []
theorem cWb_pin (C : Ck) (k : Int) : (cWb C k).2.pin = C.pin := by
  unfold cWb
  split
  · unfold cBack
    split
    · split <;> rfl
    · rfl
  · rfl
theorem cEv_pin (C : Ck) (k : Int) : (cEv C k).2.pin = C.pin := by unfold cEv; split <;> rfl
theorem cRead_pin (C : Ck) (k : Int) : (cRead C k).2.pin = C.pin := by unfold cRead; split <;> (try split) <;> rfl
theorem cWrite_pin (C : Ck) (k : Int) (x : Blk) : (cWrite C k x).pin = C.pin := by unfold cWrite; split <;> rfl
/-- What ran hands back. -/
def RanPost (N : Nat) (w : World) (e : Ending) (w' : World) : Prop := ∃ c vw g m C, e = .returned (.tuple #[.pointer (some ⟨c.rc, 0, none⟩), .pointer (some ⟨c.r, 0, none⟩), .slice (some ⟨g, 0, none⟩) N N, .bool true]) ∧ RS w.heap.size w N c vw g m 200 C w'
/-- How many blocks. -/
def nOf (n : Int) : Nat := (n % 64).toNat + 1
theorem results_tmp4 {fn : Func} {t u v x : Tmp} (h : fn.results = #[.tmp t, .tmp u, .tmp v, .tmp x]) (tmps : Array Value) (P : Program) (w : World) :
    (results fn tmps).run P w = .ok (.tuple #[tmps.getD t undef, tmps.getD u undef, tmps.getD v undef, tmps.getD x undef]) w := by
  simp [results, h]
/-- Which block. -/
def bOf (b : Int) (N : Nat) : Nat := (b % 18446744073709551616 % (N : Int)).toNat
theorem bOf_lt {b : Int} {N : Nat} (h : 1 ≤ N) : bOf b N < N := by
  unfold bOf
  have := Int.emod_lt_of_pos (b % 18446744073709551616) (show (0 : Int) < (N : Int) by omega)
  have := Int.emod_nonneg (b % 18446744073709551616) (show (N : Int) ≠ 0 by omega)
  omega
theorem bOf_wrap (b : Int) {N : Nat} (h1 : 1 ≤ N) (h2 : N ≤ 64) : IntKind.i64.wrap ((IntKind.u64.wrap b).tmod (N : Int)) = (bOf b N : Int) := by
  have e : IntKind.u64.wrap b = b % 18446744073709551616 := by simp [IntKind.wrap, IntKind.bits, IntKind.signed]
  have h0 : 0 ≤ b % 18446744073709551616 := Int.emod_nonneg _ (by decide)
  have h3 := Int.emod_lt_of_pos (b % 18446744073709551616) (show (0 : Int) < (N : Int) by omega)
  have h4 := Int.emod_nonneg (b % 18446744073709551616) (show (N : Int) ≠ 0 by omega)
  rw [e, Int.tmod_eq_emod_of_nonneg h0, IntWalk.i64_in _ (by omega)]
  unfold bOf
  omega
theorem nOf_wrap (n : Int) : IntKind.i64.wrap ((IntKind.u64.wrap n).tmod 64) = ((n % 64).toNat : Int) := by
  have e : IntKind.u64.wrap n = n % 18446744073709551616 := by simp [IntKind.wrap, IntKind.bits, IntKind.signed]
  have h0 : 0 ≤ n % 18446744073709551616 := Int.emod_nonneg _ (by decide)
  rw [e, Int.tmod_eq_emod_of_nonneg h0, IntWalk.i64_in _ (by omega)]
  omega
set_option maxRecDepth 100000 in
set_option maxHeartbeats 2000000 in
theorem ran_any (n : Int) (l : List Dx) (hl : l.length ≤ 200) (hok : OkDx l) (v : Value) (w : World) (h : Dxs w v l) :
    Calls Try.prog 9 #[.int .i64 n, v] w (RanPost (nOf n) w) := by
  have H := Lib.hid h
  obtain ⟨ao, cap, rfl, hc1, hc2, _⟩ := h.ex
  unfold maxLen at hc2
  clear h
  have wn1 := nOf_wrap n
  have hM : Hid ((n % 64).toNat < 64) := by unfold Hid; omega
  obtain ⟨N, hN⟩ : ∃ N, Hid ((n % 64).toNat + 1 = N) := ⟨_, rfl⟩
  have hNN : Hid (nOf n = N) := hN.out
  rw [hNN.out]
  have hN1 : Hid (1 ≤ N ∧ N ≤ 64) := by have := hN.out; have := hM.out; unfold Hid; omega
  generalize (n % 64).toNat = M at wn1 hN hM
  have wn2 : IntKind.i64.wrap (1 + (M : Int)) = (N : Int) := by have := hN.out; have := hM.out; rw [IntWalk.i64_in _ (by omega)]; omega
  have wn3 : IntKind.u64.wrap (N : Int) = (N : Int) := IntWalk.u64_in _ (by have := hN1.out; omega)
  have wn4 : wrap64 ((IntKind.u64.wrap n).tmod 64) = (M : Int) := by rw [← IntWalk.i64_left]; exact wn1
  have wn5 : wrap64 (1 + (M : Int)) = (N : Int) := by rw [← IntWalk.i64_left]; exact wn2
  have hnew := Lib.hid (new_any N hN1.out.1 (by have := hN1.out; omega))
  have hzl : Hid ((zeros N).length = N) := List.length_replicate
  have hokH := Lib.hid hok
  clear hok
  go_enter Try.func9, Try.ntmps9
  go_wp2_with (first
    | (go_at_call 28; refine (hnew.out _).mono ?_; rintro e w2 ⟨r, gs, gn, rfl, hd, hb⟩; have D2 := Lib.hid hd; have B2 := Lib.hid hb; clear hd hb)
    | (go_at_call 21; refine (newc_ex D2.out).mono ?_; rintro e w3 ⟨c, rfl, hr, hcb, hca, hb⟩; have C3 := Lib.hid hca; have B3 := Lib.hid (B2.out.trans (hb.mono B2.out.size)); have Hcb := Lib.hid hcb; clear hcb; subst hr; clear hca hb)
    | (refine wpl_makeB rfl _ _ rfl N rfl rfl (by have := hN1.out; omega) ?_; intro w4 ho4 hb4; have O4 := Lib.hid ho4; have C4 := Lib.hid (C3.out.later hb4); have B4 := Lib.hid (B3.out.trans (hb4.mono B3.out.size)); have L4 := Lib.hid C3.out.lt; have R4 := Lib.hid C3.out.obj.lt; clear ho4 hb4))
  obtain ⟨g, hg⟩ : ∃ g, w3.heap.size = g := ⟨_, rfl⟩
  rw [hg] at O4 ⊢
  have S0 : Hid (RS w.heap.size w N c (.slice none 0 0) g (zeros N) 0 (newC (newD (zeros N))) w4) := by
    refine ⟨⟨C4.out, own_mono O4.out (by rw [← hg]; exact B3.out.size), B4.out, B4.out.size, Nat.le_of_eq Hcb.out.symm, fun k hk => ?_⟩, inv_new hN1.out.1 (by have := hN1.out; omega), rfl⟩
    rcases hk with hk | hk
    · have := (L4.out k hk).2; omega
    · have := R4.out; omega
  clear O4 C3 C4 D2 B2 B3 B4 L4 R4 Hcb hg hnew wn1 wn2 wn4 wn5
  go_loopw [13] (fun v13 W => ∃ i vw m C, v13 = .int .i64 (i : Nat) ∧ i ≤ l.length ∧ RS w.heap.size w N c vw g m i C W) (fun v13 _ => (l.length - intOf v13).toNat)
  case atStart => exact ⟨0, _, _, _, rfl, by omega, S0.out⟩
  case round =>
    obtain ⟨i, vw, m, C, rfl, hi, hS⟩ := hrel
    have SH := Lib.hid hS
    clear hS S0
    by_cases hin : i < l.length
    · obtain ⟨gl, off, rfl, _, _, hgl, hat⟩ := Sl.at H.out dxc_len (by omega) hin
      obtain ⟨⟨k, b, f⟩, hx⟩ : ∃ x, l[i]? = some x := ⟨_, List.getElem?_eq_getElem hin⟩
      have hok := hokH.out _ (List.mem_of_getElem? hx)
      have hk := Lib.hid hok.1
      have hf := Lib.hid hok.2.1
      have hra := hat i _ hx
      have hcell : Hid (∀ W, Below w.heap.size w W → W.cell? ⟨gl, off + i * 3, none⟩ = some (.int .u8 (k : Int)) ∧ W.cell? ⟨gl, off + i * 3 + 1, none⟩ = some (.int .i64 b) ∧ W.cell? ⟨gl, off + i * 3 + 2, none⟩ = some (.int .u32 (f : Int))) := fun W hb =>
        ⟨(World.cell?_of_block (hb.block _ hgl)).trans (hra 0 _ rfl), (World.cell?_of_block (hb.block _ hgl)).trans (hra 1 _ rfl), (World.cell?_of_block (hb.block _ hgl)).trans (hra 2 _ rfl)⟩
      clear hok hra hat hx
      obtain ⟨c0, c1, c2⟩ := hcell.out wr SH.out.q.bel
      obtain ⟨q, hqe⟩ : ∃ q, Hid (bOf b N = q) := ⟨_, rfl⟩
      have hq : Hid (q < N) := by unfold Hid; rw [← hqe.out]; exact bOf_lt hN1.out.1
      have wq : IntKind.i64.wrap ((IntKind.u64.wrap b).tmod (N : Int)) = (q : Int) := by rw [bOf_wrap b hN1.out.1 hN1.out.2, hqe.out]
      have wq2 : wrap64 ((IntKind.u64.wrap b).tmod (N : Int)) = (q : Int) := by rw [← IntWalk.i64_left]; exact wq
      have wi : IntKind.i64.wrap ((i : Int) + 1) = (i : Int) + 1 := IntWalk.i64_in _ (by omega)
      have hr0 : Hid (cRef C (q : Int) = 0) := SH.out.inv.ref0.2 (by have := hq.out; omega)
      have hqN : q < N := hq.out
      rcases (show k % 4 = 0 ∨ k % 4 = 1 ∨ k % 4 = 2 ∨ k % 4 = 3 by omega) with hk4 | hk4 | hk4 | hk4
      · have e1 : (k : Int).tmod 4 = 0 := by rw [Int.tmod_eq_emod_of_nonneg (by omega)]; omega
        have e2 : (k : Int) % 4 = 0 := by omega
        have tok : True := trivial
        go_wp2_with (first
          | (go_at_call 29; clear tok; refine (fill_any f hf.out _).mono ?_; rintro e w5 ⟨rfl, hb5⟩; have Q5 := Lib.hid (SH.out.q.later hb5); clear hb5)
          | (go_at_call 24; refine (write_c (q : Int) (tellB f) Q5.out.at_).mono ?_; rintro e w6 ⟨rfl, hs6⟩; have Q6 := Lib.hid (Q5.out.cache hs6); clear hs6; obtain ⟨d0, d1, d2⟩ := hcell.out _ Q6.out.bel; rw [hr0.out])
          | (go_at_call 29; refine (fill_any f hf.out _).mono ?_; rintro e w7 ⟨rfl, hb7⟩; have Q7 := Lib.hid (Q6.out.later hb7); have st7 := stB (W := w7) (g := g) (o := q * 256) (tellB f) (own_there Q7.out.row _ _ (by omega)); have P7 := Lib.hid (Q7.out.put SH.out.inv.mlen hqN (tellB f)); clear hb7))
        exact ⟨⟨i + 1, _, _, _, rfl, by omega, P7.out, inv_write SH.out.inv hqN (tellB f), by rw [cWrite_pin]; exact SH.out.pin⟩, by simp [intOf]; omega⟩
      · have e1 : (k : Int).tmod 4 = 1 := by rw [Int.tmod_eq_emod_of_nonneg (by omega)]; omega
        have e2 : (k : Int) % 4 = 1 := by omega
        have iv := Lib.hid SH.out.inv
        obtain ⟨x, hxx⟩ : ∃ x, Hid (m.getD q zB = x) := ⟨_, rfl⟩
        have hri := Lib.hid (inv_read SH.out.inv hqN)
        have hrd := Lib.hid (read_c (q : Int) iv.out.left SH.out.q.at_)
        rw [hri.out.1, hxx.out, hr0.out] at hrd
        have hmq : m[q]? = some x := by
          have := hxx.out
          rw [List.getD_eq_getElem?_getD, List.getElem?_eq_getElem (by rw [iv.out.mlen]; exact hqN)] at this
          rw [List.getElem?_eq_getElem (by rw [iv.out.mlen]; exact hqN)]
          simpa using this
        replace hmq := Lib.hid hmq
        have hz : Try.zeroCells32 = blk fun _ => 0 := zcB
        have hq0 : ∀ w, (binOp .neq 32 (.agg (blk x)) (.agg (blk x))).run Try.prog w = .ok (.bool false) w := fun w => by rw [neqB, blkEq_refl]; rfl
        go_wp2_with (go_at_call 18; refine hrd.out.mono ?_; rintro e w5 ⟨rfl, hs5⟩; have Q5 := Lib.hid (SH.out.q.cache hs5); have st5 := stRow x (Whole.new w5 (blk fun _ => 0) 32); clear hs5)
        obtain ⟨wa, hwa⟩ : ∃ wa, wa = (w5.alloc (.cells (blk fun _ => 0) 32)).setRow w5.heap.size (blk x) := ⟨_, rfl⟩
        have hba : Hid (Below w5.heap.size w5 wa) := by subst hwa; exact below_setRow' ((Below.refl _ _).alloc (Nat.le_refl _) _) (Nat.le_refl _) _
        have Xa : Hid (Whole wa w5.heap.size (blk x) 32) := by subst hwa; exact (Whole.new w5 _ 32).setRow _
        rw [← hwa]
        clear hwa st5
        have Qa := Lib.hid (Q5.out.later hba.out)
        have hra : wa.rangeAt g (q * 256) (bc x) := by
          have := rangeAt_sub (own_range Qa.out.row) (k := q * 256) (ys := bc x) fun j v hv => by
            rw [flat_get bc_len hmq.out j (by have := (List.getElem?_eq_some_iff.1 hv).1; rw [bc_len] at this; exact this)]; exact hv
          rw [Nat.zero_add] at this
          exact this
        have hga := (Qa.out.row.lt g rfl).2
        have f0 : ∀ p : Kept (fun w' => Below wa.heap.size wa w'), (bigLoadAt 32 (.pointer (some ⟨w5.heap.size, 0, none⟩))).run Try.prog p.x = .ok (.agg (blk x)) p.x := fun p => ldRow (Xa.out.later p.h)
        have f1 : ∀ p : Kept (fun w' => Below wa.heap.size wa w'), (bigLoadAt 32 (.pointer (some ⟨g, q * 256, none⟩))).run Try.prog p.x = .ok (.agg (blk x)) p.x := fun p => ldB (rangeAt_block hra (p.h.block _ hga))
        have hne : Nonempty (Kept (fun w' => Below wa.heap.size wa w')) := ⟨⟨wa, Below.refl _ _⟩⟩
        clear hra
        refine wp_region_plan (fun w' => Below wa.heap.size wa w') [(0, 0), (0, 1), (0, 2), (1, 3), (0, 4), (0, 5), (0, 6), (1, 7), (0, 8), (0, 9)] (by kernel_rfl) (by kernel_rfl) (Below.refl _ _).drew ?_
        repeat (first | (refine wpPlan_pure rfl (fun K hK => ?_); go_simp; refine hK _ ?_; clear hK K) | (refine wpPlan_held rfl (fun K hK => ?_); go_simp; refine hK _ ?_; clear hK K))
        refine wpPlan_nil ?_
        clear f0 f1 hne
        go_wp2_with fail
        exact ⟨⟨i + 1, _, _, _, rfl, by omega, Qa.out.later (Below.refl _ _).drew, hri.out.2, by rw [cRead_pin]; exact SH.out.pin⟩, by simp [intOf]; omega⟩
      · have e1 : (k : Int).tmod 4 = 2 := by rw [Int.tmod_eq_emod_of_nonneg (by omega)]; omega
        have e2 : (k : Int) % 4 = 2 := by omega
        have iv := Lib.hid SH.out.inv
        have hwb := Lib.hid (wb_c b iv.out.left (by have := iv.out.acts; omega) (by have := iv.out.wait; omega) (iv.out.wf (by have := hN1.out; omega)) (by have := iv.out.hasl; omega) SH.out.q.at_)
        go_wp2_with (go_at_call 15; refine hwb.out.mono ?_; rintro e w5 ⟨rfl, vw5, hs5⟩; have Q5 := Lib.hid (SH.out.q.cache hs5); clear hs5)
        exact ⟨⟨i + 1, _, _, _, rfl, by omega, Q5.out, inv_wb SH.out.inv b, by rw [cWb_pin]; exact SH.out.pin⟩, by simp [intOf]; omega⟩
      · have e1 : (k : Int).tmod 4 = 3 := by rw [Int.tmod_eq_emod_of_nonneg (by omega)]; omega
        have e2 : (k : Int) % 4 = 3 := by omega
        have iv := Lib.hid SH.out.inv
        have hev := Lib.hid (ev_c b (iv.out.wf (by have := hN1.out; omega)) (by have := iv.out.hasl; omega) SH.out.q.at_)
        go_wp2_with (go_at_call 22; refine hev.out.mono ?_; rintro e w5 ⟨rfl, hs5⟩; have Q5 := Lib.hid (SH.out.q.cache hs5); clear hs5)
        exact ⟨⟨i + 1, _, _, _, rfl, by omega, Q5.out, (inv_ev SH.out.inv b).more (by omega), by rw [cEv_pin]; exact SH.out.pin⟩, by simp [intOf]; omega⟩
    · obtain rfl : i = l.length := by omega
      go_wp2_with fail
      refine bodyPost_ret (results_tmp4 rfl _ _ _) rfl ⟨c, vw, g, m, C, rfl, SH.out.q, SH.out.inv.more hl, SH.out.pin⟩
end Go.Proofs.Ytbcjcfjbdjdajaa
