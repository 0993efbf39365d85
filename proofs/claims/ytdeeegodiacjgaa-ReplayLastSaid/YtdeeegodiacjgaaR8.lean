/- The given statement ReplayLast, walked. The rows' bytes are below 256. -/
import Derived.Test.YtdeeegodiacjgaaR7
namespace Go.Proofs.Ytdeeegodiacjgaa
open Go.RowKit
attribute [local go_sem ↓] loadAtB storeAtB loadAtC storeAtC buildAtC sliceAtC sliceAtB
set_option maxRecDepth 100000 in
set_option maxHeartbeats 8000000 in
theorem replayLast_any (l : List Lt) (x : Lv) (t : Lt) (hok : OkLt l) (v : Value) (w : World) (h : Lts w v l) (hx : LvOk w x t) :
    Calls Try.prog 6 #[v, .agg (lc x).toArray] w (GPost (.bool true) w) := by
  obtain ⟨x0, x1, x2, x3⟩ := x
  obtain ⟨b1, k1, hs1, _⟩ := hx.1.ex
  obtain ⟨b2, k2, hs2, _⟩ := hx.2.1.ex
  simp only at hs1 hs2
  subst hs1 hs2
  generalize hn1 : t.2.1.length = n1 at hx
  generalize hn2 : t.2.2.1.length = n2 at hx
  clear hn1 hn2
  show Calls Try.prog 6 #[v, .agg #[.int .i64 x0, .slice b1 n1 k1, .slice b2 n2 k2, .int .i64 x3]] w (GPost (.bool true) w)
  obtain ⟨al, lcap, rfl, q1, q2⟩ := h.shape
  unfold maxLen at q2
  have B0 : Hid (Below w.heap.size w (w.alloc (.cells #[.int .i64 x0, .slice b1 n1 k1, .slice b2 n2 k2, .int .i64 x3] 60))) := (Below.refl _ _).alloc (Nat.le_refl _) _
  have R0 := Lib.hid (Whole.new w #[.int .i64 x0, .slice b1 n1 k1, .slice b2 n2 k2, .int .i64 x3] 60)
  have H := Lib.hid (h.later B0.out)
  have HX := Lib.hid (hx.later B0.out)
  have OK := Lib.hid hok
  have OK1 := Lib.hid (ok_one hx)
  clear h hx hok
  have hmany := Lib.hid (many19 l (.slice al l.length lcap))
  have hmany1 := Lib.hid (fun v => many19 [t] v)
  have t0 : True := trivial
  have i30 : ∀ b, decide (30 < l.length) = b → decide ((30 : Int) < (l.length : Int)) = b := fun b h => by rw [← h]; congr 1; exact propext (by omega)
  cases hm : tooMany l 1000 with
  | true =>
    go_enter Try.func6, Try.ntmps6
    go_wp2_with (first
      | (go_at_call 21; refine (awake_any _).mono ?_; rintro e w1 ⟨rfl, hw⟩; have B1 : Hid (Below (w.alloc (.cells #[.int .i64 x0, .slice b1 n1 k1, .slice b2 n2 k2, .int .i64 x3] 60)).heap.size (w.alloc (.cells #[.int .i64 x0, .slice b1 n1 k1, .slice b2 n2 k2, .int .i64 x3] 60)) w1) := hw; clear hw)
      | (go_at_call 10; clear t0; refine (hmany.out _ (H.out.later B1.out)).mono ?_; rintro e w2 ⟨rfl, hw⟩; have B2 : Hid (Below (w.alloc (.cells #[.int .i64 x0, .slice b1 n1 k1, .slice b2 n2 k2, .int .i64 x3] 60)).heap.size (w.alloc (.cells #[.int .i64 x0, .slice b1 n1 k1, .slice b2 n2 k2, .int .i64 x3] 60)) w2) := B1.out.trans (hw.mono B1.out.size); clear hw; rw [hm]; have R2 := Lib.hid (R0.out.later B2.out); have u0 := R2.out.cell 0; have u1 := R2.out.cell 1; have u2 := R2.out.cell 2; have u3 := R2.out.cell 3; have HX2 := Lib.hid (HX.out.later B2.out)))
    go_ret
    exact ⟨rfl, B0.out.trans (B2.out.mono B0.out.size)⟩
  | false =>
    cases h30 : decide (30 < l.length) with
    | true =>
      have d1 := i30 _ h30
      go_enter Try.func6, Try.ntmps6
      go_wp2_with (first
        | (go_at_call 21; refine (awake_any _).mono ?_; rintro e w1 ⟨rfl, hw⟩; have B1 : Hid (Below (w.alloc (.cells #[.int .i64 x0, .slice b1 n1 k1, .slice b2 n2 k2, .int .i64 x3] 60)).heap.size (w.alloc (.cells #[.int .i64 x0, .slice b1 n1 k1, .slice b2 n2 k2, .int .i64 x3] 60)) w1) := hw; clear hw)
        | (go_at_call 10; clear t0; refine (hmany.out _ (H.out.later B1.out)).mono ?_; rintro e w2 ⟨rfl, hw⟩; have B2 : Hid (Below (w.alloc (.cells #[.int .i64 x0, .slice b1 n1 k1, .slice b2 n2 k2, .int .i64 x3] 60)).heap.size (w.alloc (.cells #[.int .i64 x0, .slice b1 n1 k1, .slice b2 n2 k2, .int .i64 x3] 60)) w2) := B1.out.trans (hw.mono B1.out.size); clear hw; rw [hm]; have R2 := Lib.hid (R0.out.later B2.out); have u0 := R2.out.cell 0; have u1 := R2.out.cell 1; have u2 := R2.out.cell 2; have u3 := R2.out.cell 3; have HX2 := Lib.hid (HX.out.later B2.out)))
      go_ret
      exact ⟨rfl, B0.out.trans (B2.out.mono B0.out.size)⟩
    | false =>
      have d1 := i30 _ h30
      cases hm1 : tooMany [t] 1000 with
      | true =>
        go_enter Try.func6, Try.ntmps6
        go_wp2_with (first
          | (go_at_call 21; refine (awake_any _).mono ?_; rintro e w1 ⟨rfl, hw⟩; have B1 : Hid (Below (w.alloc (.cells #[.int .i64 x0, .slice b1 n1 k1, .slice b2 n2 k2, .int .i64 x3] 60)).heap.size (w.alloc (.cells #[.int .i64 x0, .slice b1 n1 k1, .slice b2 n2 k2, .int .i64 x3] 60)) w1) := hw; clear hw)
          | (go_at_call 10; clear t0; refine (hmany.out _ (H.out.later B1.out)).mono ?_; rintro e w2 ⟨rfl, hw⟩; have B2 : Hid (Below (w.alloc (.cells #[.int .i64 x0, .slice b1 n1 k1, .slice b2 n2 k2, .int .i64 x3] 60)).heap.size (w.alloc (.cells #[.int .i64 x0, .slice b1 n1 k1, .slice b2 n2 k2, .int .i64 x3] 60)) w2) := B1.out.trans (hw.mono B1.out.size); clear hw; rw [hm]; have R2 := Lib.hid (R0.out.later B2.out); have u0 := R2.out.cell 0; have u1 := R2.out.cell 1; have u2 := R2.out.cell 2; have u3 := R2.out.cell 3; have HX2 := Lib.hid (HX.out.later B2.out))
          | (go_at_call 10; refine (hmany1.out _ _ (lts_one (x := (x0, .slice b1 n1 k1, .slice b2 n2 k2, x3)) (Whole.new w2 _ 60) (HX2.out.later ((Below.refl _ _).alloc (Nat.le_refl _) _)))).mono ?_; rintro e w3 ⟨rfl, hw⟩; have B3 : Hid (Below (w.alloc (.cells #[.int .i64 x0, .slice b1 n1 k1, .slice b2 n2 k2, .int .i64 x3] 60)).heap.size (w.alloc (.cells #[.int .i64 x0, .slice b1 n1 k1, .slice b2 n2 k2, .int .i64 x3] 60)) w3) := (B2.out.alloc B2.out.size _).trans (hw.mono (by have := B2.out.size; simp; simp at this; omega)); clear hw; rw [hm1]))
        go_ret
        exact ⟨rfl, B0.out.trans (B3.out.mono B0.out.size)⟩
      | false =>
        have hle30 : l.length ≤ 30 := by have := of_decide_eq_false h30; omega
        have hsz : szs l ≤ 1000 := by
          unfold tooMany at hm
          have := of_decide_eq_false hm
          omega
        have hsz1 : szs [t] ≤ 1000 := by
          unfold tooMany at hm1
          have := of_decide_eq_false hm1
          omega
        have hsh : Hid (∀ w, Lts w (.slice al l.length lcap) l → Calls Try.prog 11 #[.slice al l.length lcap] w (fun e w' => ∃ a c vs, e = .returned (.slice a (shortL l).length c) ∧ TV w' (.slice a (shortL l).length c) vs (shortL l) ∧ Below w.heap.size w w')) := fun w h => short_tv l (by omega) hsz OK.out _ w h
        have hsh1 : Hid (∀ v w, Lts w v [t] → Calls Try.prog 11 #[v] w (fun e w' => ∃ a c vs, e = .returned (.slice a 1 c) ∧ TV w' (.slice a 1 c) vs [trOf 0 t] ∧ Below w.heap.size w w')) := fun v w h => short_tv [t] (by simp) hsz1 OK1.out v w h
        have hcn : cpsN (shortL l) ≤ 1000 := by have := cpsN_short l; omega
        have hTl : (shortL l).length ≤ 30 := by unfold shortL; rw [List.length_mapIdx]; exact hle30
        have hcn1 : cpsN [trOf 0 t] ≤ 1000 := by have := cpsN_short [t]; exact Nat.le_trans this hsz1
        generalize shortL l = T at hcn hTl hsh
        generalize trOf 0 t = t1 at hsh1 hcn1
        have hcnF : cpsN (T ++ [t1]) ≤ 2000 := by
          have : cpsN (T ++ [t1]) = cpsN T + cpsN [t1] := by simp [cpsN]
          omega
        have hov : ∀ L, cpsN L ≤ 2000 → Hid (∀ (v : Value) (w : World), Trs w v L → Calls Try.prog 14 #[v] w (fun e w' => ∃ a c, e = .returned (.slice a (ovOut L).length c) ∧ Cps w' (.slice a (ovOut L).length c) (ovOut L) ∧ Below w.heap.size w w')) := fun L hL v w h => by
          refine (overlay_any L (by omega) v w h).mono ?_
          rintro e w' ⟨u, rfl, hown, hb⟩
          obtain ⟨a, c, rfl⟩ := own_shape hown
          exact ⟨a, c, rfl, Sl.own hown, hb⟩
        have hoB := hov T (by omega)
        have hoA := hov [t1] (by omega)
        have hoF := hov (T ++ [t1]) hcnF
        clear hov
        have lB : (ovOut T).length ≤ 2000 := Nat.le_trans (ovOut_le T) (by omega)
        have lA : (ovOut [t1]).length ≤ 2000 := Nat.le_trans (ovOut_le [t1]) (by omega)
        have lF : (ovOut (T ++ [t1])).length ≤ 2000 := Nat.le_trans (ovOut_le (T ++ [t1])) hcnF
        have pfrom := Lib.hid (fun c (h : c ∈ ovOut (T ++ [t1])) => last_from h)
        have pbefore := Lib.hid (fun c (h : c ∈ ovOut T) h1 h2 => last_before (t := t1) h h1 h2)
        have palone := Lib.hid (fun c (h : c ∈ ovOut [t1]) => last_alone (T := T) h)
        generalize ovOut (T ++ [t1]) = F at hoF lF pfrom pbefore palone
        generalize ovOut T = B at hoB lB pfrom pbefore
        generalize ovOut [t1] = A at hoA lA pfrom palone
        obtain ⟨j0, hj0, jz0, jz1, jz2⟩ := info_parts info55
        go_enter Try.func6, Try.ntmps6
        go_wp2_with (first
          | (go_at_call 21; refine (awake_any _).mono ?_; rintro e w1 ⟨rfl, hw⟩; have B1 : Hid (Below (w.alloc (.cells #[.int .i64 x0, .slice b1 n1 k1, .slice b2 n2 k2, .int .i64 x3] 60)).heap.size (w.alloc (.cells #[.int .i64 x0, .slice b1 n1 k1, .slice b2 n2 k2, .int .i64 x3] 60)) w1) := hw; clear hw)
          | (go_at_call 10; clear t0; refine (hmany.out _ (H.out.later B1.out)).mono ?_; rintro e w2 ⟨rfl, hw⟩; have B2 : Hid (Below (w.alloc (.cells #[.int .i64 x0, .slice b1 n1 k1, .slice b2 n2 k2, .int .i64 x3] 60)).heap.size (w.alloc (.cells #[.int .i64 x0, .slice b1 n1 k1, .slice b2 n2 k2, .int .i64 x3] 60)) w2) := B1.out.trans (hw.mono B1.out.size); clear hw; rw [hm]; have R2 := Lib.hid (R0.out.later B2.out); have u0 := R2.out.cell 0; have u1 := R2.out.cell 1; have u2 := R2.out.cell 2; have u3 := R2.out.cell 3; have HX2 := Lib.hid (HX.out.later B2.out))
          | (go_at_call 10; refine (hmany1.out _ _ (lts_one (x := (x0, .slice b1 n1 k1, .slice b2 n2 k2, x3)) (Whole.new w2 _ 60) (HX2.out.later ((Below.refl _ _).alloc (Nat.le_refl _) _)))).mono ?_; rintro e w3 ⟨rfl, hw⟩; have B3 : Hid (Below (w.alloc (.cells #[.int .i64 x0, .slice b1 n1 k1, .slice b2 n2 k2, .int .i64 x3] 60)).heap.size (w.alloc (.cells #[.int .i64 x0, .slice b1 n1 k1, .slice b2 n2 k2, .int .i64 x3] 60)) w3) := (B2.out.alloc B2.out.size _).trans (hw.mono (by have := B2.out.size; simp; simp at this; omega)); clear hw; rw [hm1]))
        have B3w : Hid (Below w.heap.size w w3) := B0.out.trans (B3.out.mono B0.out.size)
        have H3 := Lib.hid (H.out.later B3.out)
        have HX3 := Lib.hid (HX.out.later B3.out)
        have R3 := Lib.hid (R0.out.later B3.out)
        have hne : Nonempty (Kept (fun w' => Below w3.heap.size w3 w')) := ⟨⟨w3, Below.refl _ _⟩⟩
        have f0 : ∀ p : Kept (fun w' => Below w3.heap.size w3 w'), p.x.cell? ⟨w.heap.size, 0, none⟩ = some (.int .i64 x0) := fun p => (R3.out.later p.h).cell 0
        have f1 : ∀ p : Kept (fun w' => Below w3.heap.size w3 w'), p.x.cell? ⟨w.heap.size, 1, none⟩ = some (.slice b1 n1 k1) := fun p => (R3.out.later p.h).cell 1
        have f2 : ∀ p : Kept (fun w' => Below w3.heap.size w3 w'), p.x.cell? ⟨w.heap.size, 2, none⟩ = some (.slice b2 n2 k2) := fun p => (R3.out.later p.h).cell 2
        have f3 : ∀ p : Kept (fun w' => Below w3.heap.size w3 w'), p.x.cell? ⟨w.heap.size, 3, none⟩ = some (.int .i64 x3) := fun p => (R3.out.later p.h).cell 3
        clear u0 u1 u2 u3 hmany hmany1 R2 R0 HX2 HX H B1 B2
        refine wp_region_tree (fun w' => Below w3.heap.size w3 w') (.one 0 0 (.one 1 2 (.fork 1 3 (.one 3 4 (.one 0 5 (.one 0 6 .done)))))) (by kernel_rfl) (by kernel_rfl) (Below.refl _ _).drew ?_
        repeat (first | (refine wpT_pure rfl (fun K hK => ?_); go_simp; refine hK _ ?_; clear hK K) | (refine wpT_held rfl (fun K hK => ?_); go_simp; refine hK _ ?_; clear hK K))
        refine wpT_fork rfl rfl (fun v1 v3 w' => (∃ a c vs, v1 = .slice a T.length c ∧ TV w' (.slice a T.length c) vs T) ∧ Lts w' v3 [t] ∧ Below w3.heap.size w3 w') (fun K hK => ?_) (fun K hK => ?_) ?_
        · go_wp2_with (go_at_call 11; refine (hsh.out _ (H3.out.later (Below.refl _ _).drew)).mono ?_; rintro e w4 ⟨a, c, vs, rfl, htv, hb⟩; have TV4 := Lib.hid htv; have B4 : Hid (Below w3.heap.size w3 w4) := ((Below.refl _ _).drew).trans hb; clear htv hb)
          refine hK.out _ _ B4.out ?_
          clear hK K
          refine wpOp_fork rfl (fun K hK => ?_)
          go_wp2_with fail
          have b5 : Below w4.heap.size w4 (w4.alloc (.cells #[.int .i64 x0, .slice b1 n1 k1, .slice b2 n2 k2, .int .i64 x3] 60)) := (Below.refl _ _).alloc (Nat.le_refl _) _
          have b6 := B4.out.trans (b5.mono B4.out.size)
          exact hK.out _ _ b6 ⟨_, _, rfl, ⟨_, _, _, rfl, TV4.out.later b5⟩, lts_one (x := (x0, .slice b1 n1 k1, .slice b2 n2 k2, x3)) (Whole.new w4 _ 60) (HX3.out.later b6), b6⟩
        · go_wp2_with fail
          have b5 : Hid (Below w3.heap.size w3 (w3.alloc (.cells #[.int .i64 x0, .slice b1 n1 k1, .slice b2 n2 k2, .int .i64 x3] 60)).drew) := ((Below.refl _ _).alloc (Nat.le_refl _) _).drew
          have l5 : Hid (Lts (w3.alloc (.cells #[.int .i64 x0, .slice b1 n1 k1, .slice b2 n2 k2, .int .i64 x3] 60)).drew (.slice (some ⟨w3.heap.size, 0, none⟩) 1 1) [t]) := lts_one (x := (x0, .slice b1 n1 k1, .slice b2 n2 k2, x3)) (Whole.new w3 _ 60) (HX3.out.later b5.out)
          refine hK.out _ _ b5.out ?_
          clear hK K
          refine wpOp_fork rfl (fun K hK => ?_)
          go_wp2_with (go_at_call 11; refine (hsh.out _ (H3.out.later b5.out)).mono ?_; rintro e w4 ⟨a, c, vs, rfl, htv, hb⟩; have TV4 := Lib.hid htv; have B4 := Lib.hid hb; clear htv hb)
          have b6 := b5.out.trans (B4.out.mono b5.out.size)
          exact hK.out _ _ b6 ⟨_, _, rfl, ⟨_, _, _, rfl, TV4.out⟩, l5.out.later B4.out, b6⟩
        rintro v1 v3 w6 ⟨⟨a5, c5, vs, rfl, htv⟩, hlt, hb⟩
        have TV6 := Lib.hid htv
        have L6 := Lib.hid hlt
        have B6 : Hid (Below w.heap.size w w6) := B3w.out.trans (hb.mono B3w.out.size)
        clear htv hlt hb f0 f1 f2 f3 hne H3 HX3 R3 B3 B3w
        refine wpT_last rfl (fun K hK => ?_)
        go_wp2_with (go_at_call 11; refine (hsh1.out _ _ L6.out).mono ?_; rintro e w7 ⟨a6, c6, ws, rfl, htv, hb⟩; have TW7 := Lib.hid htv; have TV7 := Lib.hid (TV6.out.later hb); have B7 : Hid (Below w.heap.size w w7) := B6.out.trans (hb.mono B6.out.size); clear htv hb)
        refine hK.out _ _ ?_
        clear hK K
        repeat (first | (refine wpT_pure rfl (fun K hK => ?_); go_simp; refine hK _ ?_; clear hK K) | (refine wpT_held rfl (fun K hK => ?_); go_simp; refine hK _ ?_; clear hK K))
        refine wpT_done ?_
        clear TV6 L6 B6 hsh hsh1
        have hfl : (flat tc vs).length = vs.length * 3 := flat_len tc_len vs
        have hgl : (flat tc ws).length = ws.length * 3 := flat_len tc_len ws
        have hvb : vs.length ≤ 30 := by have := TV7.out.len; omega
        have hwb : ws.length ≤ 1 := by have := TW7.out.len; simp at this; omega
        obtain ⟨_, _, hsh7, m1, m2⟩ := TV7.out.trs.shape
        cases hsh7
        have tA : True := trivial
        have tB : True := trivial
        go_wp2_with (first
          | (go_at_call 14; clear tA; refine (hoB.out _ _ TV7.out.trs).mono ?_; rintro e w8 ⟨aB, cB, rfl, hc, hb⟩; have CB8 := Lib.hid hc; have b8 := Lib.hid hb; clear hc hb; have tC : True := trivial)
          | (go_at_call 14; clear tC; refine (hoA.out _ _ (TW7.out.later b8.out).trs).mono ?_; rintro e w9 ⟨aA, cA, rfl, hc, hb⟩; have CA9 := Lib.hid hc; have b9 : Hid (Below w7.heap.size w7 w9) := b8.out.trans (hb.mono b8.out.size); have CB9 : Hid (Cps w9 (.slice aB B.length cB) B) := Sl.later CB8.out hb; have TV9 := Lib.hid (TV7.out.later b9.out); have TW9 := Lib.hid (TW7.out.later b9.out); clear hc hb)
          | (at_builtin; clear tB; refine wpl_append_sl rfl _ _ 25 rfl w9.heap.size 55 j0 (.agg #[.int .u32 0, .slice none 0 0, .slice none 0 0]) 3 56 Try.underlying25 hj0 jz0 jz1 jz2 rfl (by decide) _ 0 [] rfl (World.ownsRow_nil _ _ _ _) _ vs.length (flat tc vs) rfl TV9.out.sl hfl TV9.out.one (by unfold maxLen; omega) (by omega) (Nat.le_refl _) ?_; intro va wa hown hgrow; have Oa := Lib.hid hown; have Ba : Hid (Below w9.heap.size w9 wa) := (Below.refl _ _).grown hgrow (Nat.le_refl _) (fun k hk => by cases hk); clear hown hgrow)
          | (at_builtin; refine wpl_append_sl rfl _ _ 25 rfl w9.heap.size 55 j0 (.agg #[.int .u32 0, .slice none 0 0, .slice none 0 0]) 3 56 Try.underlying25 hj0 jz0 jz1 jz2 rfl (by decide) _ _ _ rfl Oa.out _ ws.length (flat tc ws) rfl (Sl.later TW9.out.sl Ba.out) hgl TW9.out.one (by unfold maxLen; omega) (by omega) Ba.out.size ?_; intro vb wb hown hgrow; have Bb : Hid (Below w9.heap.size w9 wb) := Ba.out.grown hgrow Ba.out.size (fun k hk => (Oa.out.lt k hk).1); have Tb : Hid (Trs wb vb (T ++ [t1])) := ⟨vs ++ ws, by rw [List.length_append, List.length_append, TV9.out.len, TW9.out.len], by have := Sl.own hown; rw [Nat.zero_add, List.nil_append] at this; rw [List.length_append, flat_app]; exact this, (TV9.out.at_.later Bb.out).app (TW9.out.at_.later Bb.out) TV9.out.len⟩; clear hown hgrow; have tD : True := trivial)
          | (go_at_call 14; clear tD; refine (hoF.out _ _ Tb.out).mono ?_; rintro e wz ⟨aF, cF, rfl, hc, hb⟩; have CFz := Lib.hid hc; have bz : Hid (Below w9.heap.size w9 wz) := Bb.out.trans (hb.mono Bb.out.size); clear hc hb))
        have Bz : Hid (Below w.heap.size w wz) := by have h1 := B7.out.trans (b9.out.mono B7.out.size); exact h1.trans (bz.out.mono h1.size)
        have CAz : Hid (Cps wz (.slice aA A.length cA) A) := Sl.later CA9.out bz.out
        have CBz : Hid (Cps wz (.slice aB B.length cB) B) := Sl.later CB9.out bz.out
        have TWz := Lib.hid (TW9.out.later bz.out).trs
        clear hoA hoB hoF CB8 b8 CA9 CB9 b9 TV9 TW9 Oa Ba Bb Tb bz TV7 TW7 B7
        obtain ⟨g1, o1, ⟨cv, rv⟩, ha6, _, _, hg1, d0, d1', d2, pc, pr⟩ := Trs.at (l := [t1]) (i := 0) (t := t1) TWz.out rfl
        subst ha6
        obtain ⟨s1, cs, rs⟩ := t1
        rw [Nat.zero_mul, Nat.add_zero] at d0 d1' d2
        have D0 := Lib.hid d0
        have D1 := Lib.hid d1'
        have D2 := Lib.hid d2
        have hcop := Lib.hid (fun b (w : World) (hb : Below wz.heap.size wz w) => copies_any cs cv b w (Sl.later pc hb))
        have hrev := Lib.hid (fun b (w : World) (hb : Below wz.heap.size wz w) => revokes_any rs s1 cv rv b w (Sl.later pr hb))
        have hcopF := Lib.hid (fun b (w : World) (hb : Below wz.heap.size wz w) => copies_any F (.slice aF F.length cF) b w (Sl.later CFz.out hb))
        simp only at d0 d1' d2 pc pr
        clear d0 d1' d2 pc pr TWz
        obtain ⟨_, _, hsF, nF1, nF2, _⟩ := CFz.out.ex
        cases hsF
        obtain ⟨_, _, hsA, nA1, nA2, _⟩ := CAz.out.ex
        cases hsA
        obtain ⟨_, _, hsB, nB1, nB2, _⟩ := CBz.out.ex
        cases hsB
        unfold maxLen at nF2 nA2 nB2 m2
        go_loopw [11, 12] (fun v11 v12 W => ∃ i, v12 = .int .i64 (i : Nat) ∧ i ≤ F.length ∧ v11 = .int .i64 (i : Nat) ∧ Below wz.heap.size wz W) (fun _ v12 _ => (F.length - intOf v12).toNat)
        case atStart => exact ⟨0, rfl, by omega, rfl, Below.refl _ _⟩
        case round =>
          obtain ⟨i, rfl, hi, rfl, hB⟩ := hrel
          have BB := Lib.hid hB
          clear hB
          by_cases hin : i < F.length
          · obtain ⟨gF, oF, hF, _, _, hgF, hatF⟩ := Sl.at (l := F) (Sl.later CFz.out BB.out) cc_len (by omega) hin
            subst hF
            obtain ⟨c, hc⟩ : ∃ c, F[i]? = some c := ⟨_, List.getElem?_eq_getElem hin⟩
            have RF := Lib.hid (hatF i c hc)
            have x0' := fst_at RF.out
            have hfrom := Lib.hid (pfrom.out c (List.mem_of_getElem? hc))
            have hne : Nonempty (Kept (fun w' => Below wr.heap.size wr w')) := ⟨⟨wr, Below.refl _ _⟩⟩
            have fF : ∀ p : Kept (fun w' => Below wr.heap.size wr w'), p.x.cell? ⟨gF, oF + i * 257, none⟩ = some (.int .i64 c.1) := fun p => (World.cell?_of_block (p.h.block _ hgF)).trans x0'
            have y0 : ∀ p : Kept (fun w' => Below wr.heap.size wr w'), p.x.cell? ⟨g1, o1, none⟩ = some (.int .u32 s1) := fun p => (World.cell?_of_block ((BB.out.trans (p.h.mono BB.out.size)).block g1 hg1)).trans D0.out
            have y1 : ∀ p : Kept (fun w' => Below wr.heap.size wr w'), p.x.cell? ⟨g1, o1 + 1, none⟩ = some cv := fun p => (World.cell?_of_block ((BB.out.trans (p.h.mono BB.out.size)).block g1 hg1)).trans D1.out
            have y2 : ∀ p : Kept (fun w' => Below wr.heap.size wr w'), p.x.cell? ⟨g1, o1 + 2, none⟩ = some rv := fun p => (World.cell?_of_block ((BB.out.trans (p.h.mono BB.out.size)).block g1 hg1)).trans D2.out
            have wi : IntKind.i64.wrap ((i : Int) + 1) = (i : Int) + 1 := IntWalk.i64_in _ (by omega)
            clear hatF hc x0'
            cases eC : hasC cs c.1 with
            | true =>
              go_wp2_with fail
              refine wp_region_plan (fun w' => Below wr.heap.size wr w') [(0, 0), (0, 1), (0, 2), (1, 3), (0, 4), (0, 5), (0, 6), (0, 7), (1, 8), (2, 9), (0, 10), (0, 11), (0, 12), (1, 13), (0, 14), (0, 15), (0, 16), (0, 17), (1, 18), (3, 19), (0, 20)] (by kernel_rfl) (by kernel_rfl) (Below.refl _ _).drew ?_
              repeat (first | (refine wpPlan_pure rfl (fun K hK => ?_); go_simp; refine hK _ ?_; clear hK K) | (refine wpPlan_held rfl (fun K hK => ?_); go_simp; refine hK _ ?_; clear hK K))
              refine wpPlan_turn rfl (fun K hK => ?_)
              go_wp2_with (go_at_call 23; refine (hcop.out _ _ (BB.out.trans (Below.refl _ _).drew)).mono ?_; rintro e wc ⟨rfl, rfl⟩; rw [eC])
              have BC : Hid (Below wr.heap.size wr wr.drew) := (Below.refl _ _).drew
              refine hK.out _ _ BC.out ?_
              clear hK K
              repeat (first | (refine wpPlan_pure rfl (fun K hK => ?_); go_simp; refine hK _ ?_; clear hK K) | (refine wpPlan_held rfl (fun K hK => ?_); go_simp; refine hK _ ?_; clear hK K))
              refine wpPlan_nil ?_
              have BM := BC
              generalize wr.drew = wc at BM ⊢
              clear fF y0 y1 y2 hne
              go_wp2_with fail
              have hmemL := hfrom.out
              rw [show (hasC cs c.1 || decide (c.1 ∈ rs)) = true by rw [eC]; rfl, if_pos rfl] at hmemL
              have hall := Lib.hid (anyEq_mem hmemL)
              clear hmemL
              have BM5 : Hid (Below wz.heap.size wz wc) := BB.out.trans (BM.out.mono BB.out.size)
              have RF2 : Hid (wc.rangeAt gF (oF + i * 257) (cc c)) := rangeAt_block RF.out (BM.out.block _ hgF)
              have hgF2 : gF < wc.heap.size := Nat.lt_of_lt_of_le hgF BM.out.size
              go_loopw [14, 15] (fun v14 v15 W => ∃ k, v15 = .int .i64 (k : Nat) ∧ k ≤ A.length ∧ v14 = .bool (anyEq (A.take k) c) ∧ Below wc.heap.size wc W) (fun _ v15 _ => (A.length - intOf v15).toNat)
              case atStart => exact ⟨0, rfl, by omega, rfl, Below.refl _ _⟩
              case round =>
                obtain ⟨k, rfl, hk, rfl, hB⟩ := hrel
                have BK := Lib.hid hB
                clear hB
                have BKz : Hid (Below wz.heap.size wz wr) := BM5.out.trans (BK.out.mono BM5.out.size)
                by_cases hkn : k < A.length
                · obtain ⟨gL, oL, hL, _, _, hgL, hatL⟩ := Sl.at (l := A) (Sl.later CAz.out BKz.out) cc_len (by omega) hkn
                  subst hL
                  obtain ⟨d, hd⟩ : ∃ d, A[k]? = some d := ⟨_, List.getElem?_eq_getElem hkn⟩
                  have RL := Lib.hid (hatL k d hd)
                  have hsn := Lib.hid (anyEq_snoc hd c)
                  have hgF3 : gF < wr.heap.size := Nat.lt_of_lt_of_le hgF2 BK.out.size
                  have RF3 : Hid (wr.rangeAt gF (oF + i * 257) (cc c)) := rangeAt_block RF2.out (BK.out.block _ hgF2)
                  have hne : Nonempty (Kept (fun w' => Below wr.heap.size wr w')) := ⟨⟨wr, Below.refl _ _⟩⟩
                  have z1 : ∀ p : Kept (fun w' => Below wr.heap.size wr w'), (bigLoadAt 40 (.pointer (some ⟨gL, oL + k * 257, none⟩))).run Try.prog p.x = .ok (.agg (ca d)) p.x := fun p => ldC (rangeAt_block RL.out (p.h.block _ hgL))
                  have z2 : ∀ p : Kept (fun w' => Below wr.heap.size wr w'), (bigLoadAt 40 (.pointer (some ⟨gF, oF + i * 257, none⟩))).run Try.prog p.x = .ok (.agg (ca c)) p.x := fun p => ldC (rangeAt_block RF3.out (p.h.block _ hgF3))
                  have zq := eqlC d c
                  clear hatL hd
                  cases eA : anyEq (A.take k) c with
                  | true =>
                    have hnx : Hid (anyEq (A.take (k + 1)) c = true) := by unfold Hid; rw [hsn.out, eA]; rfl
                    go_wp2_with fail
                    refine wp_region_plan (fun w' => Below wr.heap.size wr w') [(0, 0), (0, 1), (0, 2), (0, 3), (0, 4), (1, 5), (0, 6), (0, 7), (0, 8), (1, 9), (0, 10), (0, 11), (0, 12)] (by kernel_rfl) (by kernel_rfl) (Below.refl _ _).drew ?_
                    repeat (first | (refine wpPlan_pure rfl (fun K hK => ?_); go_simp; refine hK _ ?_; clear hK K) | (refine wpPlan_held rfl (fun K hK => ?_); go_simp; refine hK _ ?_; clear hK K))
                    refine wpPlan_nil ?_
                    go_wp2_with fail
                    exact ⟨⟨k + 1, rfl, by omega, by rw [hnx.out], BK.out.drew⟩, by simp [intOf]; omega⟩
                  | false =>
                    cases eD : cpEq d c with
                    | true =>
                      have hnx : Hid (anyEq (A.take (k + 1)) c = true) := by unfold Hid; rw [hsn.out, eA, eD]; rfl
                      rw [eD] at zq
                      go_wp2_with fail
                      refine wp_region_plan (fun w' => Below wr.heap.size wr w') [(0, 0), (0, 1), (0, 2), (0, 3), (0, 4), (1, 5), (0, 6), (0, 7), (0, 8), (1, 9), (0, 10), (0, 11), (0, 12)] (by kernel_rfl) (by kernel_rfl) (Below.refl _ _).drew ?_
                      repeat (first | (refine wpPlan_pure rfl (fun K hK => ?_); go_simp; refine hK _ ?_; clear hK K) | (refine wpPlan_held rfl (fun K hK => ?_); go_simp; refine hK _ ?_; clear hK K))
                      refine wpPlan_nil ?_
                      go_wp2_with fail
                      exact ⟨⟨k + 1, rfl, by omega, by rw [hnx.out], BK.out.drew⟩, by simp [intOf]; omega⟩
                    | false =>
                      have hnx : Hid (anyEq (A.take (k + 1)) c = false) := by unfold Hid; rw [hsn.out, eA, eD]; rfl
                      rw [eD] at zq
                      go_wp2_with fail
                      refine wp_region_plan (fun w' => Below wr.heap.size wr w') [(0, 0), (0, 1), (0, 2), (0, 3), (0, 4), (1, 5), (0, 6), (0, 7), (0, 8), (1, 9), (0, 10), (0, 11), (0, 12)] (by kernel_rfl) (by kernel_rfl) (Below.refl _ _).drew ?_
                      repeat (first | (refine wpPlan_pure rfl (fun K hK => ?_); go_simp; refine hK _ ?_; clear hK K) | (refine wpPlan_held rfl (fun K hK => ?_); go_simp; refine hK _ ?_; clear hK K))
                      refine wpPlan_nil ?_
                      go_wp2_with fail
                      exact ⟨⟨k + 1, rfl, by omega, by rw [hnx.out], BK.out.drew⟩, by simp [intOf]; omega⟩
                · obtain rfl : k = A.length := by omega
                  rw [List.take_length, hall.out]
                  go_wp2_with fail
                  exact ⟨⟨i + 1, rfl, by omega, rfl, BKz.out⟩, by simp [intOf]; omega⟩
            | false =>
              cases eR : decide (c.1 ∈ rs) with
              | true =>
                go_wp2_with fail
                refine wp_region_plan (fun w' => Below wr.heap.size wr w') [(0, 0), (0, 1), (0, 2), (1, 3), (0, 4), (0, 5), (0, 6), (0, 7), (1, 8), (2, 9), (0, 10), (0, 11), (0, 12), (1, 13), (0, 14), (0, 15), (0, 16), (0, 17), (1, 18), (3, 19), (0, 20)] (by kernel_rfl) (by kernel_rfl) (Below.refl _ _).drew ?_
                repeat (first | (refine wpPlan_pure rfl (fun K hK => ?_); go_simp; refine hK _ ?_; clear hK K) | (refine wpPlan_held rfl (fun K hK => ?_); go_simp; refine hK _ ?_; clear hK K))
                refine wpPlan_turn rfl (fun K hK => ?_)
                go_wp2_with (go_at_call 23; refine (hcop.out _ _ (BB.out.trans (Below.refl _ _).drew)).mono ?_; rintro e wc ⟨rfl, rfl⟩; rw [eC])
                have BC : Hid (Below wr.heap.size wr wr.drew) := (Below.refl _ _).drew
                refine hK.out _ _ BC.out ?_
                clear hK K
                repeat (first | (refine wpPlan_pure rfl (fun K hK => ?_); go_simp; refine hK _ ?_; clear hK K) | (refine wpPlan_held rfl (fun K hK => ?_); go_simp; refine hK _ ?_; clear hK K))
                refine wpPlan_last rfl (fun K hK => ?_)
                go_wp2_with (go_at_call 24; refine (hrev.out _ _ (BB.out.trans (BC.out.mono BB.out.size))).mono ?_; rintro e wm ⟨rfl, hb⟩; rw [eR]; have BM : Hid (Below wr.heap.size wr wm) := BC.out.trans (hb.mono BC.out.size); clear hb)
                refine hK.out _ _ ?_
                clear hK K
                repeat (first | (refine wpPlan_pure rfl (fun K hK => ?_); go_simp; refine hK _ ?_; clear hK K) | (refine wpPlan_held rfl (fun K hK => ?_); go_simp; refine hK _ ?_; clear hK K))
                refine wpPlan_nil ?_
                clear fF y0 y1 y2 hne
                go_wp2_with fail
                have hmemL := hfrom.out
                rw [show (hasC cs c.1 || decide (c.1 ∈ rs)) = true by rw [eC, eR]; rfl] at hmemL
                rw [if_pos rfl] at hmemL
                have hall := Lib.hid (anyEq_mem hmemL)
                clear hmemL
                have BM5 : Hid (Below wz.heap.size wz wm) := BB.out.trans (BM.out.mono BB.out.size)
                have RF2 : Hid (wm.rangeAt gF (oF + i * 257) (cc c)) := rangeAt_block RF.out (BM.out.block _ hgF)
                have hgF2 : gF < wm.heap.size := Nat.lt_of_lt_of_le hgF BM.out.size
                go_loopw [14, 15] (fun v14 v15 W => ∃ k, v15 = .int .i64 (k : Nat) ∧ k ≤ A.length ∧ v14 = .bool (anyEq (A.take k) c) ∧ Below wm.heap.size wm W) (fun _ v15 _ => (A.length - intOf v15).toNat)
                case atStart => exact ⟨0, rfl, by omega, rfl, Below.refl _ _⟩
                case round =>
                  obtain ⟨k, rfl, hk, rfl, hB⟩ := hrel
                  have BK := Lib.hid hB
                  clear hB
                  have BKz : Hid (Below wz.heap.size wz wr) := BM5.out.trans (BK.out.mono BM5.out.size)
                  by_cases hkn : k < A.length
                  · obtain ⟨gL, oL, hL, _, _, hgL, hatL⟩ := Sl.at (l := A) (Sl.later CAz.out BKz.out) cc_len (by omega) hkn
                    subst hL
                    obtain ⟨d, hd⟩ : ∃ d, A[k]? = some d := ⟨_, List.getElem?_eq_getElem hkn⟩
                    have RL := Lib.hid (hatL k d hd)
                    have hsn := Lib.hid (anyEq_snoc hd c)
                    have hgF3 : gF < wr.heap.size := Nat.lt_of_lt_of_le hgF2 BK.out.size
                    have RF3 : Hid (wr.rangeAt gF (oF + i * 257) (cc c)) := rangeAt_block RF2.out (BK.out.block _ hgF2)
                    have hne : Nonempty (Kept (fun w' => Below wr.heap.size wr w')) := ⟨⟨wr, Below.refl _ _⟩⟩
                    have z1 : ∀ p : Kept (fun w' => Below wr.heap.size wr w'), (bigLoadAt 40 (.pointer (some ⟨gL, oL + k * 257, none⟩))).run Try.prog p.x = .ok (.agg (ca d)) p.x := fun p => ldC (rangeAt_block RL.out (p.h.block _ hgL))
                    have z2 : ∀ p : Kept (fun w' => Below wr.heap.size wr w'), (bigLoadAt 40 (.pointer (some ⟨gF, oF + i * 257, none⟩))).run Try.prog p.x = .ok (.agg (ca c)) p.x := fun p => ldC (rangeAt_block RF3.out (p.h.block _ hgF3))
                    have zq := eqlC d c
                    clear hatL hd
                    cases eA : anyEq (A.take k) c with
                    | true =>
                      have hnx : Hid (anyEq (A.take (k + 1)) c = true) := by unfold Hid; rw [hsn.out, eA]; rfl
                      go_wp2_with fail
                      refine wp_region_plan (fun w' => Below wr.heap.size wr w') [(0, 0), (0, 1), (0, 2), (0, 3), (0, 4), (1, 5), (0, 6), (0, 7), (0, 8), (1, 9), (0, 10), (0, 11), (0, 12)] (by kernel_rfl) (by kernel_rfl) (Below.refl _ _).drew ?_
                      repeat (first | (refine wpPlan_pure rfl (fun K hK => ?_); go_simp; refine hK _ ?_; clear hK K) | (refine wpPlan_held rfl (fun K hK => ?_); go_simp; refine hK _ ?_; clear hK K))
                      refine wpPlan_nil ?_
                      go_wp2_with fail
                      exact ⟨⟨k + 1, rfl, by omega, by rw [hnx.out], BK.out.drew⟩, by simp [intOf]; omega⟩
                    | false =>
                      cases eD : cpEq d c with
                      | true =>
                        have hnx : Hid (anyEq (A.take (k + 1)) c = true) := by unfold Hid; rw [hsn.out, eA, eD]; rfl
                        rw [eD] at zq
                        go_wp2_with fail
                        refine wp_region_plan (fun w' => Below wr.heap.size wr w') [(0, 0), (0, 1), (0, 2), (0, 3), (0, 4), (1, 5), (0, 6), (0, 7), (0, 8), (1, 9), (0, 10), (0, 11), (0, 12)] (by kernel_rfl) (by kernel_rfl) (Below.refl _ _).drew ?_
                        repeat (first | (refine wpPlan_pure rfl (fun K hK => ?_); go_simp; refine hK _ ?_; clear hK K) | (refine wpPlan_held rfl (fun K hK => ?_); go_simp; refine hK _ ?_; clear hK K))
                        refine wpPlan_nil ?_
                        go_wp2_with fail
                        exact ⟨⟨k + 1, rfl, by omega, by rw [hnx.out], BK.out.drew⟩, by simp [intOf]; omega⟩
                      | false =>
                        have hnx : Hid (anyEq (A.take (k + 1)) c = false) := by unfold Hid; rw [hsn.out, eA, eD]; rfl
                        rw [eD] at zq
                        go_wp2_with fail
                        refine wp_region_plan (fun w' => Below wr.heap.size wr w') [(0, 0), (0, 1), (0, 2), (0, 3), (0, 4), (1, 5), (0, 6), (0, 7), (0, 8), (1, 9), (0, 10), (0, 11), (0, 12)] (by kernel_rfl) (by kernel_rfl) (Below.refl _ _).drew ?_
                        repeat (first | (refine wpPlan_pure rfl (fun K hK => ?_); go_simp; refine hK _ ?_; clear hK K) | (refine wpPlan_held rfl (fun K hK => ?_); go_simp; refine hK _ ?_; clear hK K))
                        refine wpPlan_nil ?_
                        go_wp2_with fail
                        exact ⟨⟨k + 1, rfl, by omega, by rw [hnx.out], BK.out.drew⟩, by simp [intOf]; omega⟩
                  · obtain rfl : k = A.length := by omega
                    rw [List.take_length, hall.out]
                    go_wp2_with fail
                    exact ⟨⟨i + 1, rfl, by omega, rfl, BKz.out⟩, by simp [intOf]; omega⟩
              | false =>
                go_wp2_with fail
                refine wp_region_plan (fun w' => Below wr.heap.size wr w') [(0, 0), (0, 1), (0, 2), (1, 3), (0, 4), (0, 5), (0, 6), (0, 7), (1, 8), (2, 9), (0, 10), (0, 11), (0, 12), (1, 13), (0, 14), (0, 15), (0, 16), (0, 17), (1, 18), (3, 19), (0, 20)] (by kernel_rfl) (by kernel_rfl) (Below.refl _ _).drew ?_
                repeat (first | (refine wpPlan_pure rfl (fun K hK => ?_); go_simp; refine hK _ ?_; clear hK K) | (refine wpPlan_held rfl (fun K hK => ?_); go_simp; refine hK _ ?_; clear hK K))
                refine wpPlan_turn rfl (fun K hK => ?_)
                go_wp2_with (go_at_call 23; refine (hcop.out _ _ (BB.out.trans (Below.refl _ _).drew)).mono ?_; rintro e wc ⟨rfl, rfl⟩; rw [eC])
                have BC : Hid (Below wr.heap.size wr wr.drew) := (Below.refl _ _).drew
                refine hK.out _ _ BC.out ?_
                clear hK K
                repeat (first | (refine wpPlan_pure rfl (fun K hK => ?_); go_simp; refine hK _ ?_; clear hK K) | (refine wpPlan_held rfl (fun K hK => ?_); go_simp; refine hK _ ?_; clear hK K))
                refine wpPlan_last rfl (fun K hK => ?_)
                go_wp2_with (go_at_call 24; refine (hrev.out _ _ (BB.out.trans (BC.out.mono BB.out.size))).mono ?_; rintro e wm ⟨rfl, hb⟩; rw [eR]; have BM : Hid (Below wr.heap.size wr wm) := BC.out.trans (hb.mono BC.out.size); clear hb)
                refine hK.out _ _ ?_
                clear hK K
                repeat (first | (refine wpPlan_pure rfl (fun K hK => ?_); go_simp; refine hK _ ?_; clear hK K) | (refine wpPlan_held rfl (fun K hK => ?_); go_simp; refine hK _ ?_; clear hK K))
                refine wpPlan_nil ?_
                clear fF y0 y1 y2 hne
                go_wp2_with fail
                have hmemL := hfrom.out
                rw [show (hasC cs c.1 || decide (c.1 ∈ rs)) = false by rw [eC, eR]; rfl] at hmemL
                rw [if_neg (by simp)] at hmemL
                have hall := Lib.hid (anyEq_mem hmemL)
                clear hmemL
                have BM5 : Hid (Below wz.heap.size wz wm) := BB.out.trans (BM.out.mono BB.out.size)
                have RF2 : Hid (wm.rangeAt gF (oF + i * 257) (cc c)) := rangeAt_block RF.out (BM.out.block _ hgF)
                have hgF2 : gF < wm.heap.size := Nat.lt_of_lt_of_le hgF BM.out.size
                go_loopw [14, 15] (fun v14 v15 W => ∃ k, v15 = .int .i64 (k : Nat) ∧ k ≤ B.length ∧ v14 = .bool (anyEq (B.take k) c) ∧ Below wm.heap.size wm W) (fun _ v15 _ => (B.length - intOf v15).toNat)
                case atStart => exact ⟨0, rfl, by omega, rfl, Below.refl _ _⟩
                case round =>
                  obtain ⟨k, rfl, hk, rfl, hB⟩ := hrel
                  have BK := Lib.hid hB
                  clear hB
                  have BKz : Hid (Below wz.heap.size wz wr) := BM5.out.trans (BK.out.mono BM5.out.size)
                  by_cases hkn : k < B.length
                  · obtain ⟨gL, oL, hL, _, _, hgL, hatL⟩ := Sl.at (l := B) (Sl.later CBz.out BKz.out) cc_len (by omega) hkn
                    subst hL
                    obtain ⟨d, hd⟩ : ∃ d, B[k]? = some d := ⟨_, List.getElem?_eq_getElem hkn⟩
                    have RL := Lib.hid (hatL k d hd)
                    have hsn := Lib.hid (anyEq_snoc hd c)
                    have hgF3 : gF < wr.heap.size := Nat.lt_of_lt_of_le hgF2 BK.out.size
                    have RF3 : Hid (wr.rangeAt gF (oF + i * 257) (cc c)) := rangeAt_block RF2.out (BK.out.block _ hgF2)
                    have hne : Nonempty (Kept (fun w' => Below wr.heap.size wr w')) := ⟨⟨wr, Below.refl _ _⟩⟩
                    have z1 : ∀ p : Kept (fun w' => Below wr.heap.size wr w'), (bigLoadAt 40 (.pointer (some ⟨gL, oL + k * 257, none⟩))).run Try.prog p.x = .ok (.agg (ca d)) p.x := fun p => ldC (rangeAt_block RL.out (p.h.block _ hgL))
                    have z2 : ∀ p : Kept (fun w' => Below wr.heap.size wr w'), (bigLoadAt 40 (.pointer (some ⟨gF, oF + i * 257, none⟩))).run Try.prog p.x = .ok (.agg (ca c)) p.x := fun p => ldC (rangeAt_block RF3.out (p.h.block _ hgF3))
                    have zq := eqlC d c
                    clear hatL hd
                    cases eA : anyEq (B.take k) c with
                    | true =>
                      have hnx : Hid (anyEq (B.take (k + 1)) c = true) := by unfold Hid; rw [hsn.out, eA]; rfl
                      go_wp2_with fail
                      refine wp_region_plan (fun w' => Below wr.heap.size wr w') [(0, 0), (0, 1), (0, 2), (0, 3), (0, 4), (1, 5), (0, 6), (0, 7), (0, 8), (1, 9), (0, 10), (0, 11), (0, 12)] (by kernel_rfl) (by kernel_rfl) (Below.refl _ _).drew ?_
                      repeat (first | (refine wpPlan_pure rfl (fun K hK => ?_); go_simp; refine hK _ ?_; clear hK K) | (refine wpPlan_held rfl (fun K hK => ?_); go_simp; refine hK _ ?_; clear hK K))
                      refine wpPlan_nil ?_
                      go_wp2_with fail
                      exact ⟨⟨k + 1, rfl, by omega, by rw [hnx.out], BK.out.drew⟩, by simp [intOf]; omega⟩
                    | false =>
                      cases eD : cpEq d c with
                      | true =>
                        have hnx : Hid (anyEq (B.take (k + 1)) c = true) := by unfold Hid; rw [hsn.out, eA, eD]; rfl
                        rw [eD] at zq
                        go_wp2_with fail
                        refine wp_region_plan (fun w' => Below wr.heap.size wr w') [(0, 0), (0, 1), (0, 2), (0, 3), (0, 4), (1, 5), (0, 6), (0, 7), (0, 8), (1, 9), (0, 10), (0, 11), (0, 12)] (by kernel_rfl) (by kernel_rfl) (Below.refl _ _).drew ?_
                        repeat (first | (refine wpPlan_pure rfl (fun K hK => ?_); go_simp; refine hK _ ?_; clear hK K) | (refine wpPlan_held rfl (fun K hK => ?_); go_simp; refine hK _ ?_; clear hK K))
                        refine wpPlan_nil ?_
                        go_wp2_with fail
                        exact ⟨⟨k + 1, rfl, by omega, by rw [hnx.out], BK.out.drew⟩, by simp [intOf]; omega⟩
                      | false =>
                        have hnx : Hid (anyEq (B.take (k + 1)) c = false) := by unfold Hid; rw [hsn.out, eA, eD]; rfl
                        rw [eD] at zq
                        go_wp2_with fail
                        refine wp_region_plan (fun w' => Below wr.heap.size wr w') [(0, 0), (0, 1), (0, 2), (0, 3), (0, 4), (1, 5), (0, 6), (0, 7), (0, 8), (1, 9), (0, 10), (0, 11), (0, 12)] (by kernel_rfl) (by kernel_rfl) (Below.refl _ _).drew ?_
                        repeat (first | (refine wpPlan_pure rfl (fun K hK => ?_); go_simp; refine hK _ ?_; clear hK K) | (refine wpPlan_held rfl (fun K hK => ?_); go_simp; refine hK _ ?_; clear hK K))
                        refine wpPlan_nil ?_
                        go_wp2_with fail
                        exact ⟨⟨k + 1, rfl, by omega, by rw [hnx.out], BK.out.drew⟩, by simp [intOf]; omega⟩
                  · obtain rfl : k = B.length := by omega
                    rw [List.take_length, hall.out]
                    go_wp2_with fail
                    exact ⟨⟨i + 1, rfl, by omega, rfl, BKz.out⟩, by simp [intOf]; omega⟩
          · obtain rfl : i = F.length := by omega
            go_wp2_with fail
            obtain ⟨wy, hwy⟩ : ∃ wy : World, wy = wr := ⟨_, rfl⟩
            subst hwy
            go_loopw [16] (fun v16 W => ∃ i, v16 = .int .i64 (i : Nat) ∧ i ≤ B.length ∧ Below wz.heap.size wz W) (fun v16 _ => (B.length - intOf v16).toNat)
            case atStart => exact ⟨0, rfl, by omega, BB.out⟩
            case round =>
              obtain ⟨i, rfl, hi2, hB⟩ := hrel
              have B2B := Lib.hid hB
              clear hB
              by_cases hin2 : i < B.length
              · obtain ⟨gB, oB, hBs, _, _, hgB, hatB⟩ := Sl.at (l := B) (Sl.later CBz.out B2B.out) cc_len (by omega) hin2
                subst hBs
                obtain ⟨c, hc⟩ : ∃ c, B[i]? = some c := ⟨_, List.getElem?_eq_getElem hin2⟩
                have x0' := fst_at (hatB i c hc)
                have hbef := Lib.hid (pbefore.out c (List.mem_of_getElem? hc))
                have hne : Nonempty (Kept (fun w' => Below wr.heap.size wr w')) := ⟨⟨wr, Below.refl _ _⟩⟩
                have fB : ∀ p : Kept (fun w' => Below wr.heap.size wr w'), p.x.cell? ⟨gB, oB + i * 257, none⟩ = some (.int .i64 c.1) := fun p => (World.cell?_of_block (p.h.block _ hgB)).trans x0'
                have y0 : ∀ p : Kept (fun w' => Below wr.heap.size wr w'), p.x.cell? ⟨g1, o1, none⟩ = some (.int .u32 s1) := fun p => (World.cell?_of_block ((B2B.out.trans (p.h.mono B2B.out.size)).block g1 hg1)).trans D0.out
                have y1 : ∀ p : Kept (fun w' => Below wr.heap.size wr w'), p.x.cell? ⟨g1, o1 + 1, none⟩ = some cv := fun p => (World.cell?_of_block ((B2B.out.trans (p.h.mono B2B.out.size)).block g1 hg1)).trans D1.out
                have y2 : ∀ p : Kept (fun w' => Below wr.heap.size wr w'), p.x.cell? ⟨g1, o1 + 2, none⟩ = some rv := fun p => (World.cell?_of_block ((B2B.out.trans (p.h.mono B2B.out.size)).block g1 hg1)).trans D2.out
                have wi : IntKind.i64.wrap ((i : Int) + 1) = (i : Int) + 1 := IntWalk.i64_in _ (by omega)
                clear hatB hc x0'
                cases eC : hasC cs c.1 with
                | true =>
                  go_wp2_with fail
                  refine wp_region_plan (fun w' => Below wr.heap.size wr w') [(0, 0), (0, 1), (0, 2), (1, 3), (0, 4), (0, 5), (0, 6), (0, 7), (1, 8), (2, 9), (0, 10), (0, 11), (0, 12), (0, 13), (1, 14), (0, 15), (0, 16), (0, 17), (0, 18), (1, 19), (2, 20), (0, 21), (0, 22), (0, 23), (0, 24), (0, 25), (0, 26), (0, 27), (0, 28), (1, 29), (3, 30), (0, 31), (0, 32)] (by kernel_rfl) (by kernel_rfl) (Below.refl _ _).drew ?_
                  repeat (first | (refine wpPlan_pure rfl (fun K hK => ?_); go_simp; refine hK _ ?_; clear hK K) | (refine wpPlan_held rfl (fun K hK => ?_); go_simp; refine hK _ ?_; clear hK K))
                  refine wpPlan_turn rfl (fun K hK => ?_)
                  go_wp2_with (go_at_call 23; refine (hcop.out _ _ (B2B.out.trans (Below.refl _ _).drew)).mono ?_; rintro e wc ⟨rfl, rfl⟩; rw [eC])
                  have BC : Hid (Below wr.heap.size wr wr.drew) := (Below.refl _ _).drew
                  refine hK.out _ _ BC.out ?_
                  clear hK K
                  repeat (first | (refine wpPlan_pure rfl (fun K hK => ?_); go_simp; refine hK _ ?_; clear hK K) | (refine wpPlan_held rfl (fun K hK => ?_); go_simp; refine hK _ ?_; clear hK K))
                  refine wpPlan_turn rfl (fun K hK => ?_)
                  go_wp2_with fail
                  refine hK.out _ _ BC.out ?_
                  clear hK K
                  have BM := BC
                  repeat (first | (refine wpPlan_pure rfl (fun K hK => ?_); go_simp; refine hK _ ?_; clear hK K) | (refine wpPlan_held rfl (fun K hK => ?_); go_simp; refine hK _ ?_; clear hK K))
                  refine wpPlan_nil ?_
                  clear fB y0 y1 y2 hne
                  go_wp2_with fail
                  exact ⟨⟨i + 1, rfl, by omega, B2B.out.trans (BM.out.mono B2B.out.size)⟩, by simp [intOf]; omega⟩
                | false =>
                  cases eR : decide (c.1 ∈ rs) with
                  | true =>
                    go_wp2_with fail
                    refine wp_region_plan (fun w' => Below wr.heap.size wr w') [(0, 0), (0, 1), (0, 2), (1, 3), (0, 4), (0, 5), (0, 6), (0, 7), (1, 8), (2, 9), (0, 10), (0, 11), (0, 12), (0, 13), (1, 14), (0, 15), (0, 16), (0, 17), (0, 18), (1, 19), (2, 20), (0, 21), (0, 22), (0, 23), (0, 24), (0, 25), (0, 26), (0, 27), (0, 28), (1, 29), (3, 30), (0, 31), (0, 32)] (by kernel_rfl) (by kernel_rfl) (Below.refl _ _).drew ?_
                    repeat (first | (refine wpPlan_pure rfl (fun K hK => ?_); go_simp; refine hK _ ?_; clear hK K) | (refine wpPlan_held rfl (fun K hK => ?_); go_simp; refine hK _ ?_; clear hK K))
                    refine wpPlan_turn rfl (fun K hK => ?_)
                    go_wp2_with (go_at_call 23; refine (hcop.out _ _ (B2B.out.trans (Below.refl _ _).drew)).mono ?_; rintro e wc ⟨rfl, rfl⟩; rw [eC])
                    have BC : Hid (Below wr.heap.size wr wr.drew) := (Below.refl _ _).drew
                    refine hK.out _ _ BC.out ?_
                    clear hK K
                    repeat (first | (refine wpPlan_pure rfl (fun K hK => ?_); go_simp; refine hK _ ?_; clear hK K) | (refine wpPlan_held rfl (fun K hK => ?_); go_simp; refine hK _ ?_; clear hK K))
                    refine wpPlan_turn rfl (fun K hK => ?_)
                    go_wp2_with (go_at_call 24; refine (hrev.out _ _ (B2B.out.trans (BC.out.mono B2B.out.size))).mono ?_; rintro e wm ⟨rfl, hb⟩; rw [eR]; have BM : Hid (Below wr.heap.size wr wm) := BC.out.trans (hb.mono BC.out.size); clear hb)
                    refine hK.out _ _ BM.out ?_
                    clear hK K
                    repeat (first | (refine wpPlan_pure rfl (fun K hK => ?_); go_simp; refine hK _ ?_; clear hK K) | (refine wpPlan_held rfl (fun K hK => ?_); go_simp; refine hK _ ?_; clear hK K))
                    refine wpPlan_nil ?_
                    clear fB y0 y1 y2 hne
                    go_wp2_with fail
                    exact ⟨⟨i + 1, rfl, by omega, B2B.out.trans (BM.out.mono B2B.out.size)⟩, by simp [intOf]; omega⟩
                  | false =>
                    go_wp2_with fail
                    refine wp_region_plan (fun w' => Below wr.heap.size wr w') [(0, 0), (0, 1), (0, 2), (1, 3), (0, 4), (0, 5), (0, 6), (0, 7), (1, 8), (2, 9), (0, 10), (0, 11), (0, 12), (0, 13), (1, 14), (0, 15), (0, 16), (0, 17), (0, 18), (1, 19), (2, 20), (0, 21), (0, 22), (0, 23), (0, 24), (0, 25), (0, 26), (0, 27), (0, 28), (1, 29), (3, 30), (0, 31), (0, 32)] (by kernel_rfl) (by kernel_rfl) (Below.refl _ _).drew ?_
                    repeat (first | (refine wpPlan_pure rfl (fun K hK => ?_); go_simp; refine hK _ ?_; clear hK K) | (refine wpPlan_held rfl (fun K hK => ?_); go_simp; refine hK _ ?_; clear hK K))
                    refine wpPlan_turn rfl (fun K hK => ?_)
                    go_wp2_with (go_at_call 23; refine (hcop.out _ _ (B2B.out.trans (Below.refl _ _).drew)).mono ?_; rintro e wc ⟨rfl, rfl⟩; rw [eC])
                    have BC : Hid (Below wr.heap.size wr wr.drew) := (Below.refl _ _).drew
                    refine hK.out _ _ BC.out ?_
                    clear hK K
                    repeat (first | (refine wpPlan_pure rfl (fun K hK => ?_); go_simp; refine hK _ ?_; clear hK K) | (refine wpPlan_held rfl (fun K hK => ?_); go_simp; refine hK _ ?_; clear hK K))
                    refine wpPlan_turn rfl (fun K hK => ?_)
                    go_wp2_with (go_at_call 24; refine (hrev.out _ _ (B2B.out.trans (BC.out.mono B2B.out.size))).mono ?_; rintro e wm ⟨rfl, hb⟩; rw [eR]; have BM : Hid (Below wr.heap.size wr wm) := BC.out.trans (hb.mono BC.out.size); clear hb)
                    refine hK.out _ _ BM.out ?_
                    clear hK K
                    repeat (first | (refine wpPlan_pure rfl (fun K hK => ?_); go_simp; refine hK _ ?_; clear hK K) | (refine wpPlan_held rfl (fun K hK => ?_); go_simp; refine hK _ ?_; clear hK K))
                    refine wpPlan_last rfl (fun K hK => ?_)
                    go_wp2_with (go_at_call 23; refine (hcopF.out _ _ (B2B.out.trans (BM.out.mono B2B.out.size))).mono ?_; rintro e we ⟨rfl, rfl⟩; rw [hbef.out eC eR])
                    refine hK.out _ _ ?_
                    clear hK K
                    repeat (first | (refine wpPlan_pure rfl (fun K hK => ?_); go_simp; refine hK _ ?_; clear hK K) | (refine wpPlan_held rfl (fun K hK => ?_); go_simp; refine hK _ ?_; clear hK K))
                    refine wpPlan_nil ?_
                    clear fB y0 y1 y2 hne
                    go_wp2_with fail
                    exact ⟨⟨i + 1, rfl, by omega, B2B.out.trans (BM.out.mono B2B.out.size)⟩, by simp [intOf]; omega⟩
              · obtain rfl : i = B.length := by omega
                go_wp2_with fail
                obtain ⟨wx, hwx⟩ : ∃ wx : World, wx = wr := ⟨_, rfl⟩
                subst hwx
                go_loopw [17] (fun v17 W => ∃ i, v17 = .int .i64 (i : Nat) ∧ i ≤ A.length ∧ Below wz.heap.size wz W) (fun v17 _ => (A.length - intOf v17).toNat)
                case atStart => exact ⟨0, rfl, by omega, B2B.out⟩
                case round =>
                  obtain ⟨i, rfl, hi3, hB⟩ := hrel
                  have B3B := Lib.hid hB
                  clear hB
                  by_cases hin3 : i < A.length
                  · obtain ⟨gA, oA, hAs, _, _, hgA, hatA⟩ := Sl.at (l := A) (Sl.later CAz.out B3B.out) cc_len (by omega) hin3
                    subst hAs
                    obtain ⟨c, hc⟩ : ∃ c, A[i]? = some c := ⟨_, List.getElem?_eq_getElem hin3⟩
                    have x0' := fst_at (hatA i c hc)
                    have hal := Lib.hid (palone.out c (List.mem_of_getElem? hc))
                    have wi : IntKind.i64.wrap ((i : Int) + 1) = (i : Int) + 1 := IntWalk.i64_in _ (by omega)
                    clear hatA hc
                    go_wp2_with (go_at_call 23; refine (hcopF.out _ _ B3B.out).mono ?_; rintro e we ⟨rfl, rfl⟩; rw [hal.out])
                    exact ⟨⟨i + 1, rfl, by omega, B3B.out⟩, by simp [intOf]; omega⟩
                  · obtain rfl : i = A.length := by omega
                    go_wp2_with fail
                    go_ret
                    exact ⟨rfl, Bz.out.trans (B3B.out.mono Bz.out.size)⟩
end Go.Proofs.Ytdeeegodiacjgaa
