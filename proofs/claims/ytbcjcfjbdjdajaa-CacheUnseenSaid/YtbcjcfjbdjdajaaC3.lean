/- The cache's Read, Write, Back, Drop, Pin, walked. The disk's power doesn't go. -/
import Derived.Test.YtbcjcfjbdjdajaaC2
import Derived.Maps.OwnOps
namespace Go.Proofs.Ytbcjcfjbdjdajaa
open Go.RowKit
attribute [local go_sem ↓] loadAtB storeAtB loadAtH storeAtH buildAtH buildAtB
attribute [local irreducible] ha
section
variable {P : Program} {k : TypeId} {ops : Array Oper} {rest : List Oper} {o : Oper} {a : Act} {Q : Exit → Act → World → Prop} {ν : Type} {f : ν → Value}
theorem wpl_lookV (hk : P.underlying k = some (.int .i64)) (hg : o.guard = none) (mo xo : Operand) (T : TypeId) (hop : o.op = Op.lookup T mo xo false) (e : TypeId) (hT : P.underlying T = some (.map k e)) {z : Value} (hz : ∀ w, (zeroValue e).run P w = .ok z w) (w : World) (bm : Nat) (m : List (Int × ν)) (x : Int)
    (hm : a.eval mo = .map (some bm)) (hx : a.eval xo = .int .i64 x) (h : MapOf f w bm m) (v : Value) (hv : ((lookD m x).map f).getD z = v)
    (hK : wpList P ops Q rest (a.put o.dst v) w) :
    wpList P ops Q (o :: rest) a w := by
  subst hv
  exact wpl_lookupD hk hg mo xo T false hop e hT hz w bm m x hm hx h hK
/-- 'm[x]' at an operation that is guarded, and wanted. -/
theorem wpl_lookG (hk : P.underlying k = some (.int .i64)) (hw : Region.wanted o (yielded ops a.tmps) = true) (mo xo : Operand) (T : TypeId) (hop : o.op = Op.lookup T mo xo false) (e : TypeId) (hT : P.underlying T = some (.map k e)) {z : Value} (hz : ∀ w, (zeroValue e).run P w = .ok z w) (w : World) (bm : Nat) (m : List (Int × ν)) (x : Int)
    (hm : a.eval mo = .map (some bm)) (hx : a.eval xo = .int .i64 x) (h : MapOf f w bm m) (v : Value) (hv : ((lookD m x).map f).getD z = v)
    (hK : wpList P ops Q rest (a.put o.dst v) w) :
    wpList P ops Q (o :: rest) a w := by
  subst hv
  have hrun := MapAt.lookup (ikEnc hk) hT hz h x false
  rw [lift_look, Option.isSome_map] at hrun
  unfold ik at hrun
  unfold wpList
  rw [if_pos hw]
  refine .inl ?_
  unfold Oper.wp
  simp only [execOp, hop, hm, hx, hrun, Sem.run_bind, Sem.run_pure, Result.andThen_ok]
  exact hK
theorem wpl_lookOk (hk : P.underlying k = some (.int .i64)) (hg : o.guard = none) (mo xo : Operand) (T : TypeId) (hop : o.op = Op.lookup T mo xo true) (e : TypeId) (hT : P.underlying T = some (.map k e)) {z : Value} (hz : ∀ w, (zeroValue e).run P w = .ok z w) (w : World) (bm : Nat) (m : List (Int × ν)) (x : Int)
    (hm : a.eval mo = .map (some bm)) (hx : a.eval xo = .int .i64 x) (h : MapOf f w bm m) (v : Value) (b : Bool) (hv : ((lookD m x).map f).getD z = v) (hb : (lookD m x).isSome = b)
    (hK : wpList P ops Q rest (a.put o.dst (.tuple #[v, .bool b])) w) :
    wpList P ops Q (o :: rest) a w := by
  subst hv hb
  exact wpl_lookupD hk hg mo xo T true hop e hT hz w bm m x hm hx h hK
end
theorem stHn {w : World} {n : Nat} (hn : n = w.heap.size) (z h : Hd) : (bigStoreAt 78 (.pointer (some ⟨n, 0, none⟩)) (.agg (ha h))).run Try.prog (w.alloc (.cells (ha z) 78)) = .ok () (w.alloc (.cells (ha h) 78)) := by
  subst hn; exact stHnew w z h
theorem newHn {w : World} {n : Nat} (hn : n = w.heap.size) (h : Hd) : Whole (w.alloc (.cells (ha h) 78)) n (ha h) 78 := by
  subst hn; exact Whole.new w _ 78
theorem newBn {w : World} {n : Nat} (hn : n = w.heap.size) (x : Blk) : Whole (w.alloc (.cells (blk x) 32)) n (blk x) 32 := by
  subst hn; exact Whole.new w _ 32
def nowAt (C : Ck) (b : Int) : Blk := C.D.now.getD b.toNat zB
def cRead (C : Ck) (b : Int) : Blk × Ck :=
  if cRef C b = 0 then match lookD C.has b with
    | some h => (h.1, C)
    | none => (nowAt C b, { C with has := updD C.has b (nowAt C b, false) })
  else (zB, C)
theorem cRef_in {C : Ck} {b : Int} (h : cRef C b = 0) : 0 ≤ b ∧ b < C.D.safe.length := by
  unfold cRef at h
  split at h
  · cases h
  · omega
theorem cRef_out {C : Ck} {b : Int} (h : cRef C b ≠ 0) : cRef C b = 2 := by
  unfold cRef at h ⊢
  split
  · rfl
  · rename_i h1; rw [if_neg h1] at h; exact absurd rfl h
theorem dRef_live {C : Ck} {b : Int} (hl : C.D.left = -1) (h : cRef C b = 0) : dRefuse C.D b = 0 := by
  have := cRef_in h
  unfold dRefuse
  rw [if_neg (by omega), if_neg (by omega)]
set_option maxRecDepth 100000 in
set_option maxHeartbeats 1000000 in
theorem read_c {W : World} {c : Cf} {vw : Value} {C : Ck} (b : Int) (hl : C.D.left = -1) (h : CAt W c vw C) :
    Calls Try.prog 18 #[.pointer (some ⟨c.rc, 0, none⟩), .int .i64 b] W (fun e w' => e = .returned (.tuple #[.agg (blk (cRead C b).1), .int .i64 (cRef C b)]) ∧ CS c vw W vw w' (cRead C b).2) := by
  have H := Lib.hid (h.later ((Below.refl _ _).alloc (Nat.le_refl _) (.cells (blk zB) 32)))
  have h0 := Lib.hid h
  have hbb : Hid (Below W.heap.size W (W.alloc (.cells (blk zB) 32))) := (Below.refl _ _).alloc (Nat.le_refl _) _
  have hz : Try.zeroCells32 = blk zB := zcB
  have hzh := zcH
  have hwh := Lib.hid (Whole.new W (blk zB) 32)
  have hcall := Lib.hid (refuse_c b H.out)
  obtain ⟨_, c1, _⟩ := H.out.cells
  obtain ⟨c0, _, _⟩ := H.out.cells
  have hlh := Lib.hid hl
  clear h hl
  by_cases hr : cRef C b = 0
  · have hrd : Hid (cRead C b = match lookD C.has b with
      | some h => (h.1, C)
      | none => (nowAt C b, { C with has := updD C.has b (nowAt C b, false) })) := by unfold cRead Hid; rw [if_pos hr]
    rw [hrd.out]
    have hR := Lib.hid hr
    rw [hr] at hcall ⊢
    cases hlk : lookD C.has b with
    | some x =>
      replace hlk := Lib.hid hlk
      have st78 := stHn (w := W.alloc (.cells (blk zB) 32)) (n := W.heap.size + 1) (by simp) zH x
      have ld32 := ldHb (newHn (w := W.alloc (.cells (blk zB) 32)) (n := W.heap.size + 1) (by simp) x)
      have hw2 := Lib.hid (hwh.out.alloc (.cells (ha x) 78))
      have st32 := stRow x.1 hw2.out
      have hb2 : Hid (Below W.heap.size W ((W.alloc (.cells (blk zB) 32)).alloc (.cells (ha x) 78))) := hbb.out.alloc (by simp) _
      clear hr hrd
      go_enter Try.func18, Try.ntmps18
      go_wp2_with (first
        | (go_at_call 38; refine hcall.out.mono ?_; rintro e w1 ⟨rfl, rfl⟩)
        | (at_lookup; refine wpl_lookOk (f := hval) Try.underlying3 rfl _ _ 55 rfl 78 Try.underlying55 run_zeroH _ c.hm C.has b rfl rfl H.out.has (.agg (ha x)) true (by rw [hlk.out]; rfl) (by rw [hlk.out]; rfl) ?_))
      (try simp only [Exit.inBlock, Exit.then])
      refine bodyPost_ret (results_cellB rfl rfl (hw2.out.setRow (blk x.1))) rfl ⟨rfl, ?_⟩
      exact (CS.refl h0.out).later (below_setRow' hb2.out (Nat.le_refl _) _)
    | none =>
      replace hlk := Lib.hid hlk
      have st78 := stHn (w := W.alloc (.cells (blk zB) 32)) (n := W.heap.size + 1) (by simp) zH zH
      have H2 := Lib.hid (H.out.later ((Below.refl _ _).alloc (Nat.le_refl _) (.cells (ha zH) 78)))
      have hb2 : Hid (Below W.heap.size W ((W.alloc (.cells (blk zB) 32)).alloc (.cells (ha zH) 78))) := hbb.out.alloc (by simp) _
      have X2 := Lib.hid (hwh.out.alloc (.cells (ha zH) 78))
      have hdr : Hid (dRead C.D b = nowAt C b) := by unfold dRead Hid; rw [if_pos (dRef_live hlh.out hr)]; rfl
      have hd0 := Lib.hid (dRef_live hlh.out hr)
      have hread := Lib.hid (fun (w : World) (hw : CAt w c vw C) => read_at b hw.disk)
      unfold ReadPost at hread
      rw [hdr.out, hd0.out] at hread
      obtain ⟨x, hx⟩ : ∃ x, Hid (nowAt C b = x) := ⟨_, rfl⟩
      rw [hx.out] at hread
      have hx' := hx.out
      rw [hx']
      clear hr hrd hdr hx hx'
      obtain ⟨k0, k1, _⟩ := H2.out.cells
      go_enter Try.func18, Try.ntmps18
      go_wp2_with (first
        | (go_at_call 38; refine hcall.out.mono ?_; rintro e w1 ⟨rfl, rfl⟩)
        | (at_lookup; refine wpl_lookOk (f := hval) Try.underlying3 rfl _ _ 55 rfl 78 Try.underlying55 run_zeroH _ c.hm C.has b rfl rfl H.out.has (.agg (ha zH)) false (by rw [hlk.out]; rfl) (by rw [hlk.out]; rfl) ?_)
        | (go_at_call 13; refine (hread.out _ H2.out).mono ?_; rintro e w3 ⟨rfl, hb3⟩; have H3 := Lib.hid (H2.out.later hb3); have B3 := Lib.hid (hb2.out.trans (hb3.mono hb2.out.size)); have X3 := Lib.hid (X2.out.later hb3); have st9 := stRow x (Whole.new w3 (blk zB) 32); clear hb3))
      obtain ⟨w4, hw4⟩ : ∃ w4, w4 = (w3.alloc (.cells (blk zB) 32)).setRow w3.heap.size (blk x) := ⟨_, rfl⟩
      have hb4 : Hid (Below w3.heap.size w3 w4) := by subst hw4; exact below_setRow' ((Below.refl _ _).alloc (Nat.le_refl _) _) (Nat.le_refl _) _
      have X9 : Hid (Whole w4 w3.heap.size (blk x) 32) := by subst hw4; exact (Whole.new w3 (blk zB) 32).setRow _
      have lt3 : W.heap.size < w3.heap.size := X3.out.lt
      have X4 := Lib.hid (X3.out.later hb4.out)
      have H4 := Lib.hid (H3.out.later hb4.out)
      have B4 := Lib.hid (B3.out.trans (hb4.out.mono B3.out.size))
      have lt9 := X9.out.lt
      rw [← hw4]
      clear hw4 st9
      have hm1 := h0.out.has.lt
      obtain ⟨_, k1', _⟩ := H4.out.cells
      have hrc := H4.out.obj.lt
      have f0 : ∀ p : Kept (fun w' => Below w4.heap.size w4 w'), p.x.cell? ⟨c.rc, 1, none⟩ = some (.map (some c.hm)) := fun p => (World.cell?_of_block (p.h.block _ hrc)).trans k1'
      have f1 : ∀ p : Kept (fun w' => Below w4.heap.size w4 w'), (bigLoadAt 32 (.pointer (some ⟨w3.heap.size, 0, none⟩))).run Try.prog p.x = .ok (.agg (blk x)) p.x := fun p => ldRow (X9.out.later p.h)
      have hne : Nonempty (Kept (fun w' => Below w4.heap.size w4 w')) := ⟨⟨w4, Below.refl _ _⟩⟩
      have hbl := run_buildH0 x
      have H4d := Lib.hid (H4.out.later (Below.refl _ _).drew)
      refine wp_region_plan (fun w' => Below w4.heap.size w4 w') [(0, 0), (0, 1), (0, 2), (1, 3), (0, 4), (1, 5), (0, 6), (3, 7)] (by kernel_rfl) (by kernel_rfl) (Below.refl _ _).drew ?_
      repeat (first | (refine wpPlan_pure rfl (fun K hK => ?_); go_simp; refine hK _ ?_; clear hK K) | (refine wpPlan_held rfl (fun K hK => ?_); go_simp; refine hK _ ?_; clear hK K))
      refine wpPlan_last rfl (fun K hK => ?_)
      go_wp2_with (at_mapUpdate; refine wpl_updateD (f := hval) Try.underlying3 rfl _ _ _ 55 rfl 78 Try.underlying55 _ c.hm C.has b (x, false) rfl rfl rfl H4d.out.has ?_; intro w5 hm5 hc5; have T5 := Lib.hid (H4d.out.turnHas hm5 hc5); have Y9 := Lib.hid ((X9.out.later (Below.refl _ _).drew).chg hc5 (by omega)); have Y4 := Lib.hid ((X4.out.later (Below.refl _ _).drew).chg hc5 (by omega)); clear hm5 hc5)
      refine hK.out _ _ ?_
      clear hK K
      refine wpPlan_nil ?_
      have ld9 := ldRow Y9.out
      have st4 := stRow x Y4.out
      clear f0 f1 hne
      go_wp2_with fail
      (try simp only [Exit.inBlock, Exit.then])
      refine bodyPost_ret (results_cellB rfl rfl (Y4.out.setRow (blk x))) rfl ⟨rfl, ?_⟩
      exact CS.fresh (((CS.refl h0.out).later B4.out.drew).trans T5.out) h0.out Ch.setRow (Nat.le_refl _)
  · have hrd : Hid (cRead C b = (zB, C)) := by unfold cRead Hid; rw [if_neg hr]
    rw [hrd.out]
    have h2 := cRef_out hr
    rw [h2] at hcall ⊢
    have hst := stRow zB hwh.out
    have hbd : ∀ w, (bigBuild 32 #[]).run Try.prog w = .ok (.agg (blk zB)) w := run_buildB0
    clear hr h2
    go_enter Try.func18, Try.ntmps18
    go_wp2_with (go_at_call 38; refine hcall.out.mono ?_; rintro e w1 ⟨rfl, rfl⟩)
    (try simp only [Exit.inBlock, Exit.then])
    refine bodyPost_ret (results_cellB rfl rfl (hwh.out.setRow (blk zB))) rfl ⟨rfl, ?_⟩
    exact (CS.refl h0.out).later (below_setRow' hbb.out (Nat.le_refl _) _)
end Go.Proofs.Ytbcjcfjbdjdajaa
