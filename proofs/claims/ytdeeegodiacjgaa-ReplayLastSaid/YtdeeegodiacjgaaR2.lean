/- The given statement ReplayTwice, walked. The rows' bytes are below 256. -/
import Derived.Test.YtdeeegodiacjgaaR1
namespace Go.Proofs.Ytdeeegodiacjgaa
open Go.RowKit
attribute [local go_sem ↓] loadAtB storeAtB loadAtC storeAtC buildAtC sliceAtC sliceAtB
def TrsAt (W : World) (vs : List Tv) (l : List Tr) : Prop := ∀ (i : Nat) (x : Tv) (t : Tr), vs[i]? = some x → l[i]? = some t → TrAt W x t
theorem TrsAt.later {W W' : World} {vs : List Tv} {l : List Tr} (h : TrsAt W vs l) (hb : Below W.heap.size W W') : TrsAt W' vs l := fun i x t hx ht => (h i x t hx ht).later hb
theorem TrsAt.app {W : World} {vs us : List Tv} {l m : List Tr} (h : TrsAt W vs l) (k : TrsAt W us m) (hl : vs.length = l.length) : TrsAt W (vs ++ us) (l ++ m) := by
  intro i x t hx ht
  by_cases hi : i < vs.length
  · rw [List.getElem?_append_left hi] at hx
    rw [List.getElem?_append_left (by omega)] at ht
    exact h i x t hx ht
  · rw [List.getElem?_append_right (by omega)] at hx ht
    rw [hl] at hx
    exact k _ x t hx ht
theorem SI.atall {w : World} {v : Value} {vs : List Tv} {l : List Tr} {W : World} (h : SI w v vs l W) : TrsAt W vs l := fun i x t hx ht => ⟨(h.each i x t hx ht).seq, Sl.own (h.each i x t hx ht).cps, Sl.own (h.each i x t hx ht).rvs⟩
theorem tc_one : ∀ (x : Tv), ∀ u ∈ tc x, u.oneCell' = true → u.oneCell' = true := fun _ _ _ h => h
theorem SI.ones {w : World} {v : Value} {vs : List Tv} {l : List Tr} {W : World} (h : SI w v vs l W) : ∀ u ∈ flat tc vs, u.oneCell' = true := by
  intro u hu
  obtain ⟨x, hx, hm⟩ := List.mem_flatMap.1 hu
  obtain ⟨i, hi⟩ := List.mem_iff_getElem?.1 hx
  have hil := (List.getElem?_eq_some_iff.1 hi).1
  obtain ⟨t, ht⟩ : ∃ t, l[i]? = some t := ⟨_, List.getElem?_eq_getElem (by rw [← h.len]; exact hil)⟩
  have e := h.each i x t hi ht
  obtain ⟨a1, c1, e1⟩ := own_shape e.cps
  obtain ⟨a2, c2, e2⟩ := own_shape e.rvs
  simp only [tc, List.mem_cons, List.not_mem_nil, or_false] at hm
  rcases hm with rfl | rfl | rfl
  · rfl
  · rw [e1]; rfl
  · rw [e2]; rfl
set_option maxRecDepth 100000 in
set_option maxHeartbeats 1000000 in
theorem replayTwice_any (l : List Lt) (im : List Rw) (hok : OkLt l) (him : ∀ x ∈ im, x.2.1 < 256) (v vi : Value) (w : World) (h : Lts w v l) (hi : Rws w vi im) :
    Calls Try.prog 8 #[v, vi] w (GPost (.bool true) w) := by
  have H := Lib.hid h
  have HI := Lib.hid hi
  have OK := Lib.hid hok
  have HIM := Lib.hid him
  obtain ⟨ai, icap, rfl, i1, i2, _⟩ := hi.ex
  obtain ⟨al, lcap, rfl, k1, k2⟩ := h.shape
  unfold maxLen at i2 k2
  clear h hi hok him
  have hmany := Lib.hid (many19 l (.slice al l.length lcap))
  by_cases hout : tooMany l 1000 = true ∨ 30 < l.length ∨ 300 < im.length
  · cases hm : tooMany l 1000 with
    | true =>
      go_enter Try.func8, Try.ntmps8
      go_wp2_with (first
        | (go_at_call 21; refine (awake_any _).mono ?_; rintro e w1 ⟨rfl, hw⟩; have HW := Lib.hid hw; clear hw)
        | (go_at_call 10; refine (hmany.out _ (H.out.later HW.out)).mono ?_; rintro e w2 ⟨rfl, hw⟩; have HW2 := Lib.hid hw; clear hw; rw [hm]))
      go_ret
      exact ⟨rfl, HW.out.trans (HW2.out.mono HW.out.size)⟩
    | false =>
      by_cases h30 : 30 < l.length
      · have d1 : decide ((30 : Int) < (l.length : Int)) = true := by simp; omega
        go_enter Try.func8, Try.ntmps8
        go_wp2_with (first
          | (go_at_call 21; refine (awake_any _).mono ?_; rintro e w1 ⟨rfl, hw⟩; have HW := Lib.hid hw; clear hw)
          | (go_at_call 10; refine (hmany.out _ (H.out.later HW.out)).mono ?_; rintro e w2 ⟨rfl, hw⟩; have HW2 := Lib.hid hw; clear hw; rw [hm]))
        go_ret
        exact ⟨rfl, HW.out.trans (HW2.out.mono HW.out.size)⟩
      · have h300 : 300 < im.length := by rcases hout with h | h | h; · rw [hm] at h; cases h
                                          · omega
                                          · exact h
        have d1 : decide ((30 : Int) < (l.length : Int)) = false := by simp; omega
        have d2 : decide ((300 : Int) < (im.length : Int)) = true := by simp; omega
        go_enter Try.func8, Try.ntmps8
        go_wp2_with (first
          | (go_at_call 21; refine (awake_any _).mono ?_; rintro e w1 ⟨rfl, hw⟩; have HW := Lib.hid hw; clear hw)
          | (go_at_call 10; refine (hmany.out _ (H.out.later HW.out)).mono ?_; rintro e w2 ⟨rfl, hw⟩; have HW2 := Lib.hid hw; clear hw; rw [hm]))
        go_ret
        exact ⟨rfl, HW.out.trans (HW2.out.mono HW.out.size)⟩
  · have hm' : tooMany l 1000 = false := by cases hm : tooMany l 1000 with
      | true => exact absurd (.inl hm) hout
      | false => rfl
    have h30 : l.length ≤ 30 := by
      rcases Nat.lt_or_ge 30 l.length with h | h
      · exact absurd (.inr (.inl h)) hout
      · exact h
    have h300 : im.length ≤ 300 := by
      rcases Nat.lt_or_ge 300 im.length with h | h
      · exact absurd (.inr (.inr h)) hout
      · exact h
    have d1 : decide ((30 : Int) < (l.length : Int)) = false := by simp; omega
    have d2 : decide ((300 : Int) < (im.length : Int)) = false := by simp; omega
    have hsm : l.length ≤ 60 ∧ szs l ≤ 1000 := by
      unfold tooMany at hm'
      have := of_decide_eq_false hm'
      omega
    obtain ⟨hl60, hsz⟩ := hsm
    obtain ⟨i0, hi0, iz0, iz1, iz2⟩ := info_parts zeroB
    obtain ⟨j0, hj0, jz0, jz1, jz2⟩ := info_parts info55
    have hshort : Hid (∀ w, Lts w (.slice al l.length lcap) l → Calls Try.prog 11 #[.slice al l.length lcap] w (fun e w' => ∃ a c vs, e = .returned (.slice a (shortL l).length c) ∧ SI w (.slice a (shortL l).length c) vs (shortL l) w')) := fun w h => by
      refine (short_any l hl60 hsz OK.out _ w h).mono ?_
      rintro e w' ⟨v5, vs5, rfl, hs5⟩
      obtain ⟨a, c, hsh⟩ := own_shape hs5.own
      rw [hs5.len] at hsh
      subst hsh
      exact ⟨a, c, vs5, rfl, hs5⟩
    have hcn : cpsN (shortL l) ≤ 1000 := by have := cpsN_short l; omega
    have hTl : (shortL l).length ≤ 30 := by unfold shortL; rw [List.length_mapIdx]; exact h30
    generalize shortL l = T at hcn hTl hshort
    have ho1 : Hid (∀ (v : Value) (w : World), Trs w v T → Calls Try.prog 14 #[v] w (fun e w' => ∃ a c, e = .returned (.slice a (ovOut T).length c) ∧ w'.ownsRow w.heap.size 40 257 (.slice a (ovOut T).length c) (ovOut T).length (flat cc (ovOut T)) ∧ Below w.heap.size w w')) := fun v w h => by
      refine (overlay_any T (by omega) v w h).mono ?_
      rintro e w' ⟨u, rfl, hown, hb⟩
      obtain ⟨a, c, rfl⟩ := own_shape hown
      exact ⟨a, c, rfl, hown, hb⟩
    have ho2 : Hid (∀ (v : Value) (w : World), Trs w v (T ++ T) → Calls Try.prog 14 #[v] w (fun e w' => ∃ a c, e = .returned (.slice a (ovOut T).length c) ∧ w'.ownsRow w.heap.size 40 257 (.slice a (ovOut T).length c) (ovOut T).length (flat cc (ovOut T)) ∧ Below w.heap.size w w')) := fun v w h => by
      refine (overlay_any (T ++ T) (by have : cpsN (T ++ T) = cpsN T + cpsN T := by simp [cpsN]
                                       omega) v w h).mono ?_
      rintro e w' ⟨u, rfl, hown, hb⟩
      rw [ov_twice] at hown
      obtain ⟨a, c, rfl⟩ := own_shape hown
      exact ⟨a, c, rfl, hown, hb⟩
    have hCl : (ovOut T).length ≤ 100000 := Nat.le_trans (ovOut_le T) (by omega)
    generalize ovOut T = C at ho1 ho2 hCl
    have t0 : True := trivial
    go_enter Try.func8, Try.ntmps8
    go_wp2_with (first
      | (go_at_call 21; refine (awake_any _).mono ?_; rintro e w1 ⟨rfl, hw⟩; have HW := Lib.hid hw; clear hw)
      | (go_at_call 10; refine (hmany.out _ (H.out.later HW.out)).mono ?_; rintro e w2 ⟨rfl, hw⟩; have HW2 := Lib.hid hw; clear hw; rw [hm']; have B2 : Hid (Below w.heap.size w w2) := HW.out.trans (HW2.out.mono HW.out.size))
      | (go_at_call 11; refine (hshort.out w2 (H.out.later B2.out)).mono ?_; rintro e w3 ⟨a3, c3, vs, rfl, hs3⟩; have S3 := Lib.hid hs3; clear hs3; have hvl : Hid (vs.length = T.length) := S3.out.len; have hfl : (flat tc vs).length = vs.length * 3 := flat_len tc_len vs; have hvb : vs.length ≤ 30 := by (have := hvl.out; omega))
      | (at_builtin; clear t0; refine wpl_append_sl rfl _ _ 25 rfl w3.heap.size 55 j0 (.agg #[.int .u32 0, .slice none 0 0, .slice none 0 0]) 3 56 Try.underlying25 hj0 jz0 jz1 jz2 rfl (by decide) _ 0 [] rfl (World.ownsRow_nil _ _ _ _) _ vs.length (flat tc vs) rfl (Sl.own S3.out.own) hfl S3.out.ones (by unfold maxLen; omega) (by omega) (Nat.le_refl _) ?_; intro v6 w6 hown hgrow; have O6 := Lib.hid hown; have B6 : Hid (Below w3.heap.size w3 w6) := (Below.refl _ _).grown hgrow (Nat.le_refl _) (fun k hk => by cases hk); clear hown hgrow)
      | (at_builtin; refine wpl_append_sl rfl _ _ 25 rfl w3.heap.size 55 j0 (.agg #[.int .u32 0, .slice none 0 0, .slice none 0 0]) 3 56 Try.underlying25 hj0 jz0 jz1 jz2 rfl (by decide) _ _ _ rfl O6.out _ vs.length (flat tc vs) rfl (Sl.later (Sl.own S3.out.own) B6.out) hfl S3.out.ones (by unfold maxLen; omega) (by omega) B6.out.size ?_; intro v7 w7 hown hgrow; have B7 : Hid (Below w3.heap.size w3 w7) := B6.out.grown hgrow B6.out.size (fun k hk => (O6.out.lt k hk).1); have T7 : Hid (Trs w7 v7 (T ++ T)) := ⟨vs ++ vs, by rw [List.length_append, List.length_append, hvl.out], by have := Sl.own hown; rw [Nat.zero_add, List.nil_append] at this; rw [List.length_append, flat_app]; exact this, (S3.out.atall.later B7.out).app (S3.out.atall.later B7.out) hvl.out⟩; clear hown hgrow; have t1 : True := trivial)
      | (go_at_call 14; clear t1; refine (ho1.out _ w7 (S3.out.trs.later B7.out)).mono ?_; rintro e w8 ⟨a8, c8, rfl, hown, hb⟩; have O8 := Lib.hid hown; have B8 := Lib.hid hb; clear hown hb)
      | (go_at_call 14; refine (ho2.out _ w8 (T7.out.later B8.out)).mono ?_; rintro e w9 ⟨a9, c9, rfl, hown, hb⟩; have O9 := Lib.hid hown; have B9 := Lib.hid hb; clear hown hb)
      | (go_at_call 16; refine (sameCps_any C _ _ w9 (Sl.own O9.out) (Sl.own (own_later O8.out B9.out))).mono ?_; rintro e wa ⟨rfl, hb⟩; have BA := Lib.hid hb; clear hb))
    have Ba : Hid (Below w7.heap.size w7 wa) := B8.out.trans ((B9.out.trans (BA.out.mono B9.out.size)).mono B8.out.size)
    have B7w : Hid (Below w.heap.size w w7) := B2.out.trans ((S3.out.bel.trans (B7.out.mono S3.out.bel.size)).mono B2.out.size)
    have BAw : Hid (Below w.heap.size w wa) := B7w.out.trans (Ba.out.mono B7w.out.size)
    have C8 : Hid (Cps wa (.slice a8 C.length c8) C) := Sl.own (own_later O8.out (B9.out.trans (BA.out.mono B9.out.size)))
    have W0 : Hid (OW wa (.slice none 0 0) (imgB (im.take 0)) wa) := ⟨Below.refl _ _, World.ownsRow_nil _ _ _ _⟩
    clear O8 O9 B8 B9 BA Ba S3 B6 O6 B7 T7 hshort ho1 ho2 hmany HW HW2
    go_loopw [8, 9] (fun v8 v9 W => ∃ i, v9 = .int .i64 (i : Nat) ∧ i ≤ im.length ∧ OW wa v8 (imgB (im.take i)) W) (fun _ v9 _ => (im.length - intOf v9).toNat)
    case atStart => exact ⟨0, rfl, by omega, W0.out⟩
    case round =>
      obtain ⟨i, rfl, hi, hW⟩ := hrel
      have WH := Lib.hid hW
      clear hW
      by_cases hin : i < im.length
      · obtain ⟨ga, oa, hai, _, _, hga, hat⟩ := Sl.at (Sl.later HI.out (BAw.out.trans (WH.out.bel.mono BAw.out.size))) rwc_len (by omega) hin
        subst hai
        obtain ⟨x, hx⟩ : ∃ x, im[i]? = some x := ⟨_, List.getElem?_eq_getElem hin⟩
        obtain ⟨e0, e1, e2⟩ := range_three (hat i x hx)
        have hx256 := Lib.hid (HIM.out x (List.mem_of_getElem? hx))
        have hnext := Lib.hid (imgB_snoc hx)
        have hlen : (imgB (im.take i)).length ≤ 300 := by rw [imgB_len, List.length_take]; omega
        have hbs := run_bsB (rowB x)
        clear hat hx
        go_wp2_with (first
          | (go_at_call 12; refine (block_any x hx256.out _).mono ?_; rintro e wb ⟨rfl, hw4⟩; have W4 := Lib.hid (WH.out.later hw4); clear hw4)
          | (at_builtin; refine wpList_append_own_at _ rfl _ _ 27 rfl wa.heap.size 29 i0 (.agg (blk fun _ => 0)) 256 256 Try.underlying27 hi0 iz0 iz1 iz2 zB_size (by decide) _ _ _ rfl (W4.out.own.alloc _) ⟨wb.heap.size, 0, none⟩ 1 1 (bc (rowB x)) rfl (by rw [bc_len]) (bk_new wb (rowB x)) (bc_one _) (by unfold maxLen; omega) (by omega) (by have := W4.out.bel.size; simp; omega) ?_; intro vc wc hown hgrow hx1 hx2; clear hx1 hx2; have W9 := Lib.hid (W4.out.app hown hgrow); clear hown hgrow))
        have w9h := W9.out
        rw [← hnext.out] at w9h
        exact ⟨⟨i + 1, rfl, by omega, w9h⟩, by simp [intOf]; omega⟩
      · obtain rfl : i = im.length := by omega
        have wt := WH.out
        rw [List.take_length] at wt
        have hBl : (imgB im).length = im.length := imgB_len im
        generalize imgB im = B at wt hBl
        have hB300 : B.length ≤ 300 := by omega
        clear hBl
        have WT := Lib.hid wt
        clear wt WH
        obtain ⟨ab, bcap, hsh⟩ := own_shape WT.out.own
        subst hsh
        have hov : Hid (∀ v vc w, Bks w v B → Cps w vc C → Calls Try.prog 15 #[v, vc] w (fun e w' => ∃ a c, e = .returned (.slice a B.length c) ∧ Bks w' (.slice a B.length c) (overL B C) ∧ Below w.heap.size w w')) := fun v vc w h1 h2 => by
          refine (over_any B C (by omega) (by omega) v vc w h1 h2).mono ?_
          rintro e w' ⟨u, rfl, hown, hb⟩
          have hb2 := Sl.own hown
          obtain ⟨a, c, rfl⟩ := own_shape hown
          have hl := overL_len C B
          refine ⟨a, c, by rw [hl], ?_, hb⟩
          rw [hl] at hb2
          unfold Bks
          rw [hl]
          exact hb2
        have hov2 : Hid (∀ v vc w, Bks w v (overL B C) → Cps w vc C → Calls Try.prog 15 #[v, vc] w (fun e w' => ∃ u, e = .returned u ∧ Bks w' u (overL B C) ∧ Below w.heap.size w w')) := fun v vc w h1 h2 => by
          refine (over_any (overL B C) C (by rw [overL_len]; omega) (by omega) v vc w h1 h2).mono ?_
          rintro e w' ⟨u, rfl, hown, hb⟩
          rw [overL_twice] at hown
          exact ⟨u, rfl, Sl.own hown, hb⟩
        have hBk : Hid (Bks wr (.slice ab B.length bcap) B) := Sl.own WT.out.own
        obtain ⟨_, _, hsh, m1, m2, _⟩ := hBk.out.ex
        cases hsh
        unfold maxLen at m2
        have CR := Lib.hid (Sl.later C8.out WT.out.bel)
        have t5 : True := trivial
        generalize overL B C = X at hov hov2
        go_wp2_with (first
          | (go_at_call 15; clear t5; refine (hov.out _ _ wr hBk.out CR.out).mono ?_; rintro e wx ⟨ax, cx, rfl, hxb, hb⟩; have XB := Lib.hid hxb; have BX := Lib.hid hb; clear hxb hb)
          | (go_at_call 15; refine (hov2.out _ _ wx XB.out (Sl.later CR.out BX.out)).mono ?_; rintro e wy ⟨uy, rfl, hxb, hb⟩; have YB := Lib.hid hxb; have BY := Lib.hid hb; clear hxb hb)
          | (go_at_call 18; refine (sameBks_any X _ _ wy YB.out (Sl.later XB.out BY.out)).mono ?_; rintro e wz ⟨rfl, hb⟩; have BZ := Lib.hid hb; clear hb))
        go_ret
        have b1 := BAw.out.trans (WT.out.bel.mono BAw.out.size)
        have b2 := b1.trans (BX.out.mono b1.size)
        have b3 := b2.trans (BY.out.mono b2.size)
        exact ⟨rfl, b3.trans (BZ.out.mono b3.size)⟩
end Go.Proofs.Ytdeeegodiacjgaa
