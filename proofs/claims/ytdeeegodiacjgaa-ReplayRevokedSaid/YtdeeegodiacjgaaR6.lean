/- The given statement ReplayRevoked, walked. The rows' bytes are below 256. -/
import Derived.Test.YtdeeegodiacjgaaR5
import Derived.Test.YtdeeegodiacjgaaR1
namespace Go.Proofs.Ytdeeegodiacjgaa
open Go.RowKit
attribute [local go_sem ↓] loadAtB storeAtB loadAtC storeAtC buildAtC sliceAtC sliceAtB slAtT slAtC
theorem pass_drop {T : List Tr} {q : Nat} {t : Tr} (h : T[q]? = some t) : pass (T.drop q) = passC (T.drop (q + 1)) t.2.2 t.2.1 ++ pass (T.drop (q + 1)) := by
  obtain ⟨a1, e1⟩ := List.getElem?_eq_some_iff.1 h
  rw [List.drop_eq_getElem_cons a1, e1]
  rfl
theorem passC_drop {l : List Tr} {rv : List Int} {cs : List Cp} {p : Nat} {c : Cp} (h : cs[p]? = some c) : passC l rv (cs.drop p) = if l.any (nm c.1) || hasC (cs.drop (p + 1)) c.1 || decide (c.1 ∈ rv) then passC l rv (cs.drop (p + 1)) else c.1 :: passC l rv (cs.drop (p + 1)) := by
  obtain ⟨a1, e1⟩ := List.getElem?_eq_some_iff.1 h
  rw [List.drop_eq_getElem_cons a1, e1]
  rfl
theorem passC_le {l : List Tr} {rv : List Int} (cs : List Cp) : ∀ p, (passC l rv (cs.drop p)).length ≤ (passC l rv cs).length := by
  induction cs with
  | nil => intro p; simp
  | cons c cs ih =>
    intro p
    cases p with
    | zero => exact Nat.le_refl _
    | succ p =>
      refine Nat.le_trans (ih p) ?_
      show _ ≤ (if l.any (nm c.1) || hasC cs c.1 || decide (c.1 ∈ rv) then passC l rv cs else c.1 :: passC l rv cs).length
      split <;> simp
theorem pass_le (T : List Tr) : ∀ q, (pass (T.drop q)).length ≤ (pass T).length := by
  induction T with
  | nil => intro q; simp
  | cons t T ih =>
    intro q
    cases q with
    | zero => exact Nat.le_refl _
    | succ q =>
      refine Nat.le_trans (ih q) ?_
      show _ ≤ (passC T t.2.2 t.2.1 ++ pass T).length
      simp
theorem look_here {T : List Tr} {q p : Nat} {t : Tr} {c : Cp} (ht : T[q]? = some t) (hc : t.2.1[p]? = some c) (h1 : (T.drop (q + 1)).any (nm c.1) = false) (h2 : hasC (t.2.1.drop (p + 1)) c.1 = false) : lookD (ovMap T) c.1 = if c.1 ∈ t.2.2 then none else some c := by
  obtain ⟨a1, e1⟩ := List.getElem?_eq_some_iff.1 ht
  obtain ⟨a2, e2⟩ := List.getElem?_eq_some_iff.1 hc
  have hT : T = T.take q ++ t :: T.drop (q + 1) := by rw [← e1, ← List.drop_eq_getElem_cons a1, List.take_append_drop]
  have hC : t.2.1 = t.2.1.take p ++ c :: t.2.1.drop (p + 1) := by
    conv => lhs; rw [← List.take_append_drop p t.2.1, List.drop_eq_getElem_cons a2, e2]
  have := look_at (a := T.take q) hC h1 h2
  rw [← hT] at this
  exact this
set_option maxRecDepth 100000 in
set_option maxHeartbeats 1000000 in
theorem replayRevoked_any (l : List Lt) (hok : OkLt l) (v : Value) (w : World) (h : Lts w v l) :
    Calls Try.prog 5 #[v] w (GPost (.bool true) w) := by
  have H := Lib.hid h
  have OK := Lib.hid hok
  clear h hok
  have hmany := Lib.hid (many19 l v)
  by_cases hm : tooMany l 1000 = true
  · go_enter Try.func5, Try.ntmps5
    go_wp2_with (first
      | (go_at_call 21; refine (awake_any _).mono ?_; rintro e w1 ⟨rfl, hw⟩; have HW := Lib.hid hw; clear hw)
      | (go_at_call 10; refine (hmany.out _ (H.out.later HW.out)).mono ?_; rintro e w2 ⟨rfl, hw⟩; have HW2 := Lib.hid hw; clear hw; rw [hm]))
    go_ret
    exact ⟨rfl, HW.out.trans (HW2.out.mono HW.out.size)⟩
  · have hm' : tooMany l 1000 = false := by simpa using hm
    have hsm : l.length ≤ 60 ∧ szs l ≤ 1000 := by
      unfold tooMany at hm'
      have := of_decide_eq_false hm'
      omega
    obtain ⟨hl60, hsz⟩ := hsm
    have hshort : Hid (∀ w, Lts w v l → Calls Try.prog 11 #[v] w (fun e w' => ∃ a c, e = .returned (.slice a (shortL l).length c) ∧ Trs w' (.slice a (shortL l).length c) (shortL l) ∧ Below w.heap.size w w')) := fun w h => by
      refine (short_any l hl60 hsz OK.out _ w h).mono ?_
      rintro e w' ⟨v5, vs5, rfl, hs5⟩
      obtain ⟨a, c, hsh⟩ := own_shape hs5.own
      rw [hs5.len] at hsh
      subst hsh
      exact ⟨a, c, rfl, hs5.trs, hs5.bel⟩
    have hcn : cpsN (shortL l) ≤ 1000 := by have := cpsN_short l; omega
    have hTl : (shortL l).length ≤ 60 := by unfold shortL; rw [List.length_mapIdx]; exact hl60
    generalize shortL l = T at hcn hTl hshort
    have ho1 : Hid (∀ (v : Value) (w : World), Trs w v T → Calls Try.prog 14 #[v] w (fun e w' => ∃ a c, e = .returned (.slice a (ovOut T).length c) ∧ Cps w' (.slice a (ovOut T).length c) (ovOut T) ∧ Below w.heap.size w w')) := fun v w h => by
      refine (overlay_any T (by omega) v w h).mono ?_
      rintro e w' ⟨u, rfl, hown, hb⟩
      obtain ⟨a, c, rfl⟩ := own_shape hown
      exact ⟨a, c, rfl, Sl.own hown, hb⟩
    have hCl : (ovOut T).length ≤ 1000 := Nat.le_trans (ovOut_le T) hcn
    have hrise := Lib.hid (fun q c d (h1 : (ovOut T)[q]? = some c) (h2 : (ovOut T)[q + 1]? = some d) => ov_rises h1 h2)
    have hpl := Lib.hid (pass_len T)
    have hfn := Lib.hid (fun b (h : lookD (ovMap T) b = none) => fnd_none h)
    have hfs := Lib.hid (fun (c : Cp) (h : lookD (ovMap T) c.1 = some c) => fnd_some h)
    generalize ovOut T = C at ho1 hCl hrise hpl hfn hfs
    clear hm
    go_enter Try.func5, Try.ntmps5
    go_wp2_with (first
      | (go_at_call 21; refine (awake_any _).mono ?_; rintro e w1 ⟨rfl, hw⟩; have HW := Lib.hid hw; clear hw)
      | (go_at_call 10; refine (hmany.out _ (H.out.later HW.out)).mono ?_; rintro e w2 ⟨rfl, hw⟩; have HW2 := Lib.hid hw; clear hw; rw [hm']; have B2 : Hid (Below w.heap.size w w2) := HW.out.trans (HW2.out.mono HW.out.size))
      | (go_at_call 11; refine (hshort.out w2 (H.out.later B2.out)).mono ?_; rintro e w3 ⟨a3, c3, rfl, hT3, hb⟩; have T3 := Lib.hid hT3; have B3 : Hid (Below w.heap.size w w3) := B2.out.trans (hb.mono B2.out.size); clear hT3 hb)
      | (go_at_call 14; refine (ho1.out _ w3 T3.out).mono ?_; rintro e w5 ⟨a4, c4, rfl, hC5, hb⟩; have C5 := Lib.hid hC5; have T5 := Lib.hid (T3.out.later hb); have B5 : Hid (Below w.heap.size w w5) := B3.out.trans (hb.mono B3.out.size); clear hC5 hb))
    clear hmany hshort ho1 HW HW2 T3
    obtain ⟨_, _, hsh, m1, m2⟩ := T5.out.shape
    cases hsh
    obtain ⟨_, _, hsh, m3, m4, _⟩ := C5.out.ex
    cases hsh
    unfold maxLen at m2 m4
    go_loopw [5] (fun v5 W => ∃ i, v5 = .int .i64 (i : Nat) ∧ i ≤ C.length ∧ Below w5.heap.size w5 W) (fun v5 _ => (C.length - intOf v5).toNat)
    case atStart => exact ⟨0, rfl, by omega, Below.refl _ _⟩
    case round =>
      obtain ⟨i, rfl, hi, hB⟩ := hrel
      have BB := Lib.hid hB
      clear hB
      by_cases hin : i < C.length
      · have hne : Nonempty (Kept (fun w' => Below wr.heap.size wr w')) := ⟨⟨wr, Below.refl _ _⟩⟩
        rcases Nat.eq_zero_or_pos i with h0 | hpos
        · subst h0
          go_wp2_with fail
          refine wp_region_plan (fun w' => Below wr.heap.size wr w') [(0, 0), (0, 1), (0, 2), (0, 3), (0, 4), (0, 5), (0, 6), (1, 7), (0, 8), (0, 9), (0, 10), (0, 11), (0, 12), (1, 13), (0, 14), (0, 15)] (by kernel_rfl) (by kernel_rfl) (Below.refl _ _).drew ?_
          repeat (first | (refine wpPlan_pure rfl (fun K hK => ?_); go_simp; refine hK _ ?_; clear hK K) | (refine wpPlan_held rfl (fun K hK => ?_); go_simp; refine hK _ ?_; clear hK K))
          refine wpPlan_nil ?_
          go_wp2_with fail
          exact ⟨⟨0 + 1, rfl, by omega, BB.out.drew⟩, by simp [intOf]; omega⟩
        · obtain ⟨q, rfl⟩ : ∃ q, i = q + 1 := ⟨i - 1, by omega⟩
          obtain ⟨gc, oc, hac, _, _, hgc, hatc⟩ := Sl.at (Sl.later C5.out BB.out) cc_len (by omega) hin
          subst hac
          obtain ⟨c, hc⟩ : ∃ c, C[q]? = some c := ⟨_, List.getElem?_eq_getElem (by omega)⟩
          obtain ⟨d, hd⟩ : ∃ d, C[q + 1]? = some d := ⟨_, List.getElem?_eq_getElem hin⟩
          have hlt := hrise.out q c d hc hd
          have x0 : wr.cell? ⟨gc, oc + q * 257, none⟩ = some (.int .i64 c.1) := by
            have := hatc q c hc 0 (.int .i64 c.1) rfl
            rwa [Nat.add_zero] at this
          have x1 : wr.cell? ⟨gc, oc + (q + 1) * 257, none⟩ = some (.int .i64 d.1) := by
            have := hatc (q + 1) d hd 0 (.int .i64 d.1) rfl
            rwa [Nat.add_zero] at this
          have f0 : ∀ p : Kept (fun w' => Below wr.heap.size wr w'), p.x.cell? ⟨gc, oc + q * 257, none⟩ = some (.int .i64 c.1) := fun p => (World.cell?_of_block (p.h.block _ hgc)).trans x0
          have f1 : ∀ p : Kept (fun w' => Below wr.heap.size wr w'), p.x.cell? ⟨gc, oc + (q + 1) * 257, none⟩ = some (.int .i64 d.1) := fun p => (World.cell?_of_block (p.h.block _ hgc)).trans x1
          have dl : decide (d.1 ≤ c.1) = false := by simp; omega
          have w1 : IntKind.i64.wrap (q : Int) = (q : Int) := IntWalk.i64_in _ (by omega)
          have t1 : ((q : Int) + 1).toNat = q + 1 := by omega
          have p0 : (0 : Int) < (q : Int) + 1 := by omega
          have p1 : (0 : Int) ≤ (q : Int) + 1 := by omega
          have p2 : (q : Int) + 1 < (C.length : Int) := by omega
          have p3 : q < C.length := by omega
          clear x0 x1 hatc hc hd
          go_wp2_with fail
          refine wp_region_plan (fun w' => Below wr.heap.size wr w') [(0, 0), (0, 1), (0, 2), (0, 3), (0, 4), (0, 5), (0, 6), (1, 7), (0, 8), (0, 9), (0, 10), (0, 11), (0, 12), (1, 13), (0, 14), (0, 15)] (by kernel_rfl) (by kernel_rfl) (Below.refl _ _).drew ?_
          repeat (first | (refine wpPlan_pure rfl (fun K hK => ?_); go_simp; refine hK _ ?_; clear hK K) | (refine wpPlan_held rfl (fun K hK => ?_); go_simp; refine hK _ ?_; clear hK K))
          refine wpPlan_nil ?_
          go_wp2_with fail
          exact ⟨⟨q + 1 + 1, by simp, by omega, BB.out.drew⟩, by simp [intOf]; omega⟩
      · obtain rfl : i = C.length := by omega
        have wT : IntKind.i64.wrap ((T.length : Int) - 1) = (T.length : Int) - 1 := IntWalk.i64_in _ (by omega)
        go_wp2_with fail
        obtain ⟨wo, rfl⟩ : ∃ wo : World, wo = wr := ⟨_, rfl⟩
        go_loopw [6, 7] (fun v6 v7 W => ∃ (j left : Nat), v7 = .int .i64 ((j : Int) - 1) ∧ j ≤ T.length ∧ v6 = .int .i64 (left : Int) ∧ left + (pass (T.drop j)).length = C.length ∧ Below w5.heap.size w5 W) (fun _ v7 _ => (intOf v7 + 1).toNat)
        case atStart => exact ⟨T.length, C.length, rfl, by omega, rfl, by simp [pass], BB.out⟩
        case round =>
          obtain ⟨j, left, rfl, hj, rfl, hsum, hB⟩ := hrel
          have B6 := Lib.hid hB
          have SUM := Lib.hid hsum
          clear hB hsum
          rcases Nat.eq_zero_or_pos j with h0 | hpos
          · subst h0
            have hz : left = 0 := by have := SUM.out; rw [List.drop_zero, hpl.out] at this; omega
            subst hz
            go_wp2_with fail
            go_ret
            exact ⟨rfl, B5.out.trans (B6.out.mono B5.out.size)⟩
          · obtain ⟨q, rfl⟩ : ∃ q, j = q + 1 := ⟨j - 1, by omega⟩
            rw [show ((q + 1 : Nat) : Int) - 1 = (q : Int) by omega]
            obtain ⟨t, ht⟩ : ∃ t, T[q]? = some t := ⟨_, List.getElem?_eq_getElem (by omega)⟩
            obtain ⟨s0, cs, rvs⟩ := t
            obtain ⟨g, off, ⟨cv, rv⟩, hao, _, _, hg, d0, d1, d2, pc, pr⟩ := T5.out.at ht
            subst hao
            obtain ⟨ac, cc1, hcv, q1, q2, _⟩ := pc.ex
            simp only at hcv pc pr
            subst hcv
            unfold maxLen at q2
            have PC := Lib.hid pc
            have PR := Lib.hid pr
            have D0 := Lib.hid d0
            have D1 := Lib.hid d1
            have D2 := Lib.hid d2
            have TH := Lib.hid ht
            have hm : cs.length ≤ 1000 := by
              have h1 : cs.length ≤ cpsN T := by
                obtain ⟨u1, u2, e⟩ := List.append_of_mem (List.mem_of_getElem? ht)
                rw [e]
                simp [cpsN]
                omega
              omega
            have wM : IntKind.i64.wrap ((cs.length : Int) - 1) = (cs.length : Int) - 1 := IntWalk.i64_in _ (by omega)
            have e1 := (World.cell?_of_block (a := ⟨g, off + q * 3 + 1, none⟩) (B6.out.block g hg)).trans d1
            have hql : q < T.length := by omega
            clear ht d0 d1 d2 pc pr
            go_wp2_with fail
            clear e1
            have hdrop : Hid (pass (T.drop q) = passC (T.drop (q + 1)) rvs cs ++ pass (T.drop (q + 1))) := pass_drop TH.out
            obtain ⟨wp, rfl⟩ : ∃ wp : World, wp = wr := ⟨_, rfl⟩
            go_loopw [6, 8] (fun v6 v8 W => ∃ (k lf : Nat), v8 = .int .i64 ((k : Int) - 1) ∧ k ≤ cs.length ∧ v6 = .int .i64 (lf : Int) ∧ lf + (passC (T.drop (q + 1)) rvs (cs.drop k)).length + (pass (T.drop (q + 1))).length = C.length ∧ Below w5.heap.size w5 W) (fun _ v8 _ => (intOf v8 + 1).toNat)
            case atStart => exact ⟨cs.length, left, rfl, by omega, rfl, by rw [List.drop_length]; have := SUM.out; simp [passC]; omega, B6.out⟩
            case round =>
              obtain ⟨k, lf, rfl, hk, rfl, hsm, hB⟩ := hrel
              have B7 := Lib.hid hB
              have SM := Lib.hid hsm
              clear hB hsm
              rcases Nat.eq_zero_or_pos k with h0 | hpos
              · subst h0
                have wq : IntKind.i64.wrap ((q : Int) - 1) = (q : Int) - 1 := IntWalk.i64_in _ (by omega)
                go_wp2_with fail
                exact ⟨⟨q, lf, rfl, by omega, rfl, by have := SM.out; rw [List.drop_zero] at this; rw [hdrop.out, List.length_append]; omega, B7.out⟩, by simp [intOf] <;> omega⟩
              · obtain ⟨p, rfl⟩ : ∃ p, k = p + 1 := ⟨k - 1, by omega⟩
                rw [show ((p + 1 : Nat) : Int) - 1 = (p : Int) by omega]
                obtain ⟨c, hc⟩ : ∃ c, cs[p]? = some c := ⟨_, List.getElem?_eq_getElem (by omega)⟩
                obtain ⟨gc, oc, hac, _, _, hgc, hatc⟩ := Sl.at (l := cs) (Sl.later PC.out B7.out) cc_len (by omega) (show p < cs.length by omega)
                subst hac
                have e1 := (World.cell?_of_block (a := ⟨g, off + q * 3 + 1, none⟩) (B7.out.block g hg)).trans D1.out
                have hl0 := ldC (hatc p c hc)
                have hst := fun z => stCnew wr z c
                have hzc := zcC
                have wp1 : IntKind.i64.wrap ((p : Int) - 1) = (p : Int) - 1 := IntWalk.i64_in _ (by omega)
                have hpl' : p < cs.length := by omega
                have CH := Lib.hid hc
                have hpc := Lib.hid (passC_drop (l := T.drop (q + 1)) (rv := rvs) hc)
                have hlook := Lib.hid (fun h1 h2 => look_here TH.out hc h1 h2)
                clear hatc hc
                go_wp2_with fail
                clear e1 hl0 hst hzc
                obtain ⟨wb, hwb⟩ : ∃ wb : World, wb = wr := ⟨_, rfl⟩
                subst hwb
                have BA : Hid (Below w5.heap.size w5 (wb.alloc (.cells (ca c) 40))) := B7.out.alloc B7.out.size _
                have CA := Lib.hid (Whole.new wb (ca c) 40)
                have szA : wb.heap.size < (wb.alloc (.cells (ca c) 40)).heap.size := by simp
                generalize hWA : wb.alloc (.cells (ca c) 40) = wa at BA CA szA ⊢
                clear hWA
                obtain ⟨vT, hcutT, hTv⟩ : ∃ vT, (∀ w, (bigSl 25 (.slice (some ⟨g, off, none⟩) T.length c3) (some (.int .i64 ((q : Int) + 1))) none none).run Try.prog w = .ok vT w) ∧ Trs w5 vT (T.drop (q + 1)) := by
                  obtain ⟨a, c, h1, h2⟩ := cut_trs T5.out (q + 1) (by omega) (by omega)
                  exact ⟨_, by simpa using h1, h2⟩
                obtain ⟨vC, hcutC, hCv⟩ : ∃ vC, (∀ w, (bigSl 33 (.slice (some ⟨gc, oc, none⟩) cs.length cc1) (some (.int .i64 ((p : Int) + 1))) none none).run Try.prog w = .ok vC w) ∧ Cps w5 vC (cs.drop (p + 1)) := by
                  obtain ⟨a, c, h1, h2⟩ := cut_cps PC.out (p + 1) (by omega) (by omega)
                  exact ⟨_, by simpa using h1, h2⟩
                have hnam : Hid (∀ w, Below wa.heap.size wa w → Calls Try.prog 22 #[vT, .int .i64 c.1] w fun e w' => e = .returned (.bool ((T.drop (q + 1)).any (nm c.1))) ∧ Below w.heap.size w w') := fun w hb => named_any _ vT c.1 w (hTv.later (BA.out.trans (hb.mono BA.out.size)))
                have hcop : Hid (∀ w, Below wa.heap.size wa w → Calls Try.prog 23 #[vC, .int .i64 c.1] w fun e w' => e = .returned (.bool (hasC (cs.drop (p + 1)) c.1)) ∧ w = w') := fun w hb => copies_any _ vC c.1 w (Sl.later hCv (BA.out.trans (hb.mono BA.out.size)))
                have hne : Nonempty (Kept (fun w' => Below wa.heap.size wa w')) := ⟨⟨wa, Below.refl _ _⟩⟩
                have f0 : ∀ p : Kept (fun w' => Below wa.heap.size wa w'), p.x.cell? ⟨wb.heap.size, 0, none⟩ = some (.int .i64 c.1) := fun p => by rw [(CA.out.later p.h).cell 0]; exact ca_zero c
                have f1 : ∀ p : Kept (fun w' => Below wa.heap.size wa w'), p.x.cell? ⟨g, off + q * 3 + 1, none⟩ = some (.slice (some ⟨gc, oc, none⟩) cs.length cc1) := fun p => (World.cell?_of_block ((BA.out.trans (p.h.mono BA.out.size)).block g hg)).trans D1.out
                have ww1 : IntKind.i64.wrap ((q : Int) + 1) = (q : Int) + 1 := IntWalk.i64_in _ (by omega)
                have ww2 : IntKind.i64.wrap ((p : Int) + 1) = (p : Int) + 1 := IntWalk.i64_in _ (by omega)
                clear hTv hCv
                cases eA : (T.drop (q + 1)).any (nm c.1) with
                | true =>
                  have hnx : Hid (passC (T.drop (q + 1)) rvs (cs.drop p) = passC (T.drop (q + 1)) rvs (cs.drop (p + 1))) := by unfold Hid; rw [hpc.out, eA]; rfl
                  refine wp_region_plan (fun w' => Below wa.heap.size wa w') [(0, 0), (0, 1), (0, 2), (0, 3), (0, 4), (1, 5), (2, 6), (0, 7), (0, 8), (0, 9), (0, 10), (0, 11), (1, 12), (0, 13), (0, 14), (0, 15), (0, 16), (1, 17), (3, 18), (0, 19)] (by kernel_rfl) (by kernel_rfl) (Below.refl _ _).drew ?_
                  repeat (first | (refine wpPlan_pure rfl (fun K hK => ?_); go_simp; refine hK _ ?_; clear hK K) | (refine wpPlan_held rfl (fun K hK => ?_); go_simp; refine hK _ ?_; clear hK K))
                  refine wpPlan_turn rfl (fun K hK => ?_)
                  go_wp2_with (go_at_call 22; refine (hnam.out _ (Below.refl _ _).drew).mono ?_; rintro e w6 ⟨rfl, hb⟩; rw [eA]; have BN : Hid (Below wa.heap.size wa w6) := ((Below.refl _ _).drew).trans hb; clear hb)
                  refine hK.out _ _ BN.out ?_
                  clear hK K
                  repeat (first | (refine wpPlan_pure rfl (fun K hK => ?_); go_simp; refine hK _ ?_; clear hK K) | (refine wpPlan_held rfl (fun K hK => ?_); go_simp; refine hK _ ?_; clear hK K))
                  refine wpPlan_nil ?_
                  go_wp2_with fail
                  exact ⟨⟨p, lf, rfl, by omega, rfl, by have := SM.out; rw [hnx.out]; exact this, BA.out.trans (BN.out.mono BA.out.size)⟩, by simp [intOf] <;> omega⟩
                | false =>
                  cases eB : hasC (cs.drop (p + 1)) c.1 with
                  | true =>
                    have hnx : Hid (passC (T.drop (q + 1)) rvs (cs.drop p) = passC (T.drop (q + 1)) rvs (cs.drop (p + 1))) := by unfold Hid; rw [hpc.out, eA, eB]; rfl
                    refine wp_region_plan (fun w' => Below wa.heap.size wa w') [(0, 0), (0, 1), (0, 2), (0, 3), (0, 4), (1, 5), (2, 6), (0, 7), (0, 8), (0, 9), (0, 10), (0, 11), (1, 12), (0, 13), (0, 14), (0, 15), (0, 16), (1, 17), (3, 18), (0, 19)] (by kernel_rfl) (by kernel_rfl) (Below.refl _ _).drew ?_
                    repeat (first | (refine wpPlan_pure rfl (fun K hK => ?_); go_simp; refine hK _ ?_; clear hK K) | (refine wpPlan_held rfl (fun K hK => ?_); go_simp; refine hK _ ?_; clear hK K))
                    refine wpPlan_turn rfl (fun K hK => ?_)
                    go_wp2_with (go_at_call 22; refine (hnam.out _ (Below.refl _ _).drew).mono ?_; rintro e w6 ⟨rfl, hb⟩; rw [eA]; have BN : Hid (Below wa.heap.size wa w6) := ((Below.refl _ _).drew).trans hb; clear hb)
                    refine hK.out _ _ BN.out ?_
                    clear hK K
                    repeat (first | (refine wpPlan_pure rfl (fun K hK => ?_); go_simp; refine hK _ ?_; clear hK K) | (refine wpPlan_held rfl (fun K hK => ?_); go_simp; refine hK _ ?_; clear hK K))
                    refine wpPlan_last rfl (fun K hK => ?_)
                    go_wp2_with (go_at_call 23; refine (hcop.out _ BN.out).mono ?_; rintro e w7 ⟨rfl, rfl⟩; rw [eB])
                    refine hK.out _ _ ?_
                    clear hK K
                    repeat (first | (refine wpPlan_pure rfl (fun K hK => ?_); go_simp; refine hK _ ?_; clear hK K) | (refine wpPlan_held rfl (fun K hK => ?_); go_simp; refine hK _ ?_; clear hK K))
                    refine wpPlan_nil ?_
                    go_wp2_with fail
                    exact ⟨⟨p, lf, rfl, by omega, rfl, by have := SM.out; rw [hnx.out]; exact this, BA.out.trans (BN.out.mono BA.out.size)⟩, by simp [intOf] <;> omega⟩
                  | false =>
                    refine wp_region_plan (fun w' => Below wa.heap.size wa w') [(0, 0), (0, 1), (0, 2), (0, 3), (0, 4), (1, 5), (2, 6), (0, 7), (0, 8), (0, 9), (0, 10), (0, 11), (1, 12), (0, 13), (0, 14), (0, 15), (0, 16), (1, 17), (3, 18), (0, 19)] (by kernel_rfl) (by kernel_rfl) (Below.refl _ _).drew ?_
                    repeat (first | (refine wpPlan_pure rfl (fun K hK => ?_); go_simp; refine hK _ ?_; clear hK K) | (refine wpPlan_held rfl (fun K hK => ?_); go_simp; refine hK _ ?_; clear hK K))
                    refine wpPlan_turn rfl (fun K hK => ?_)
                    go_wp2_with (go_at_call 22; refine (hnam.out _ (Below.refl _ _).drew).mono ?_; rintro e w6 ⟨rfl, hb⟩; rw [eA]; have BN : Hid (Below wa.heap.size wa w6) := ((Below.refl _ _).drew).trans hb; clear hb)
                    refine hK.out _ _ BN.out ?_
                    clear hK K
                    repeat (first | (refine wpPlan_pure rfl (fun K hK => ?_); go_simp; refine hK _ ?_; clear hK K) | (refine wpPlan_held rfl (fun K hK => ?_); go_simp; refine hK _ ?_; clear hK K))
                    refine wpPlan_last rfl (fun K hK => ?_)
                    go_wp2_with (go_at_call 23; refine (hcop.out _ BN.out).mono ?_; rintro e w7 ⟨rfl, rfl⟩; rw [eB])
                    refine hK.out _ _ ?_
                    clear hK K
                    repeat (first | (refine wpPlan_pure rfl (fun K hK => ?_); go_simp; refine hK _ ?_; clear hK K) | (refine wpPlan_held rfl (fun K hK => ?_); go_simp; refine hK _ ?_; clear hK K))
                    refine wpPlan_nil ?_
                    go_wp2_with fail
                    clear hnam hcop hcutT hcutC f0 f1 hne
                    have BN5 : Hid (Below w5.heap.size w5 w6) := BA.out.trans (BN.out.mono BA.out.size)
                    have C6 := Lib.hid (CA.out.later BN.out)
                    go_loopw [10, 11] (fun v10 v11 W => ∃ m, v11 = .int .i64 (m : Nat) ∧ m ≤ C.length ∧ v10 = .int .i64 (fndI C c.1 m) ∧ Below w6.heap.size w6 W) (fun _ v11 _ => (C.length - intOf v11).toNat)
                    case atStart => exact ⟨0, rfl, by omega, rfl, Below.refl _ _⟩
                    case round =>
                      obtain ⟨m, rfl, hm', rfl, hB⟩ := hrel
                      have B8 := Lib.hid hB
                      clear hB
                      have C8 := Lib.hid (C6.out.later B8.out)
                      have B85 : Hid (Below w5.heap.size w5 wr) := BN5.out.trans (B8.out.mono BN5.out.size)
                      have hne : Nonempty (Kept (fun w' => Below wr.heap.size wr w')) := ⟨⟨wr, Below.refl _ _⟩⟩
                      have f2 : ∀ p : Kept (fun w' => Below wr.heap.size wr w'), p.x.cell? ⟨wb.heap.size, 0, none⟩ = some (.int .i64 c.1) := fun p => by rw [(C8.out.later p.h).cell 0]; exact ca_zero c
                      by_cases hmn : m < C.length
                      · obtain ⟨go, oo, hao, _, _, hgo, hato⟩ := Sl.at (l := C) (Sl.later C5.out B85.out) cc_len (by omega) hmn
                        subst hao
                        obtain ⟨d, hd⟩ : ∃ d, C[m]? = some d := ⟨_, List.getElem?_eq_getElem hmn⟩
                        have x1 : wr.cell? ⟨go, oo + m * 257, none⟩ = some (.int .i64 d.1) := by
                          have := hato m d hd 0 (.int .i64 d.1) rfl
                          rwa [Nat.add_zero] at this
                        have f1 : ∀ p : Kept (fun w' => Below wr.heap.size wr w'), p.x.cell? ⟨go, oo + m * 257, none⟩ = some (.int .i64 d.1) := fun p => (World.cell?_of_block (p.h.block _ hgo)).trans x1
                        have hstep := Lib.hid (fndI_step (b := c.1) hd)
                        clear hato hd x1
                        by_cases hdc : d.1 = c.1
                        · have hs2 : Hid (fndI C c.1 (m + 1) = (m : Int)) := by unfold Hid; rw [hstep.out, if_pos hdc]
                          have hq1 : (d.1 == c.1) = true := by simpa using hdc
                          clear hdc
                          go_wp2_with fail
                          refine wp_region_plan (fun w' => Below wr.heap.size wr w') [(0, 0), (0, 1), (0, 2), (0, 3), (1, 4), (0, 5), (1, 6), (0, 7)] (by kernel_rfl) (by kernel_rfl) (Below.refl _ _).drew ?_
                          repeat (first | (refine wpPlan_pure rfl (fun K hK => ?_); go_simp; refine hK _ ?_; clear hK K) | (refine wpPlan_held rfl (fun K hK => ?_); go_simp; refine hK _ ?_; clear hK K))
                          refine wpPlan_nil ?_
                          go_wp2_with fail
                          exact ⟨⟨m + 1, rfl, by omega, by rw [hs2.out], B8.out.drew⟩, by simp [intOf]; omega⟩
                        · have hs2 : Hid (fndI C c.1 (m + 1) = fndI C c.1 m) := by unfold Hid; rw [hstep.out, if_neg hdc]
                          have hq1 : (d.1 == c.1) = false := by simpa using hdc
                          clear hdc
                          go_wp2_with fail
                          refine wp_region_plan (fun w' => Below wr.heap.size wr w') [(0, 0), (0, 1), (0, 2), (0, 3), (1, 4), (0, 5), (1, 6), (0, 7)] (by kernel_rfl) (by kernel_rfl) (Below.refl _ _).drew ?_
                          repeat (first | (refine wpPlan_pure rfl (fun K hK => ?_); go_simp; refine hK _ ?_; clear hK K) | (refine wpPlan_held rfl (fun K hK => ?_); go_simp; refine hK _ ?_; clear hK K))
                          refine wpPlan_nil ?_
                          go_wp2_with fail
                          exact ⟨⟨m + 1, rfl, by omega, by rw [hs2.out], B8.out.drew⟩, by simp [intOf]; omega⟩
                      · obtain rfl : m = C.length := by omega
                        go_wp2_with fail
                        clear f2 hne
                        have hne : Nonempty (Kept (fun w' => Below wr.heap.size wr w')) := ⟨⟨wr, Below.refl _ _⟩⟩
                        have f2 : ∀ p : Kept (fun w' => Below wr.heap.size wr w'), p.x.cell? ⟨wb.heap.size, 0, none⟩ = some (.int .i64 c.1) := fun p => by rw [(C8.out.later p.h).cell 0]; exact ca_zero c
                        have g0 : ∀ p : Kept (fun w' => Below wr.heap.size wr w'), p.x.cell? ⟨g, off + q * 3, none⟩ = some (.int .u32 s0) := fun p => (World.cell?_of_block ((B85.out.trans (p.h.mono B85.out.size)).block g hg)).trans D0.out
                        have g1 : ∀ p : Kept (fun w' => Below wr.heap.size wr w'), p.x.cell? ⟨g, off + q * 3 + 1, none⟩ = some (.slice (some ⟨gc, oc, none⟩) cs.length cc1) := fun p => (World.cell?_of_block ((B85.out.trans (p.h.mono B85.out.size)).block g hg)).trans D1.out
                        have g2 : ∀ p : Kept (fun w' => Below wr.heap.size wr w'), p.x.cell? ⟨g, off + q * 3 + 2, none⟩ = some rv := fun p => (World.cell?_of_block ((B85.out.trans (p.h.mono B85.out.size)).block g hg)).trans D2.out
                        have hrv : Hid (∀ w, Below w5.heap.size w5 w → Calls Try.prog 24 #[.agg #[.int .u32 s0, .slice (some ⟨gc, oc, none⟩) cs.length cc1, rv], .int .i64 c.1] w fun e w' => e = .returned (.bool (decide (c.1 ∈ rvs))) ∧ Below w.heap.size w w') := fun w hb => revokes_any rvs s0 _ rv c.1 w (Sl.later PR.out hb)
                        have hlk := hlook.out eA eB
                        cases eR : decide (c.1 ∈ rvs) with
                        | true =>
                          have hmem : c.1 ∈ rvs := by simpa using eR
                          rw [if_pos hmem] at hlk
                          rw [hfn.out _ hlk]
                          have hnx : Hid (passC (T.drop (q + 1)) rvs (cs.drop p) = passC (T.drop (q + 1)) rvs (cs.drop (p + 1))) := by unfold Hid; rw [hpc.out, eA, eB, eR]; rfl
                          clear hlk hmem
                          refine wp_region_plan (fun w' => Below wr.heap.size wr w') [(0, 0), (0, 1), (0, 2), (1, 3), (0, 4), (1, 5), (3, 6)] (by kernel_rfl) (by kernel_rfl) (Below.refl _ _).drew ?_
                          repeat (first | (refine wpPlan_pure rfl (fun K hK => ?_); go_simp; refine hK _ ?_; clear hK K) | (refine wpPlan_held rfl (fun K hK => ?_); go_simp; refine hK _ ?_; clear hK K))
                          refine wpPlan_last rfl (fun K hK => ?_)
                          go_wp2_with (go_at_call 24; refine (hrv.out _ (B85.out.trans (Below.refl _ _).drew)).mono ?_; rintro e w8 ⟨rfl, hb⟩; rw [eR]; have BR : Hid (Below wr.heap.size wr w8) := ((Below.refl _ _).drew).trans hb; clear hb)
                          refine hK.out _ _ ?_
                          clear hK K
                          refine wpPlan_nil ?_
                          go_wp2_with fail
                          exact ⟨⟨p, lf, rfl, by omega, rfl, by have := SM.out; rw [hnx.out]; exact this, B85.out.trans (BR.out.mono B85.out.size)⟩, by simp [intOf] <;> omega⟩
                        | false =>
                          have hmem : ¬ c.1 ∈ rvs := by simpa using eR
                          rw [if_neg hmem] at hlk
                          obtain ⟨fi, hfi, hci⟩ := hfs.out c hlk
                          rw [hfi]
                          have hnx : Hid (passC (T.drop (q + 1)) rvs (cs.drop p) = c.1 :: passC (T.drop (q + 1)) rvs (cs.drop (p + 1))) := by unfold Hid; rw [hpc.out, eA, eB, eR]; rfl
                          have hlf : 1 ≤ lf := by
                            have a1 := passC_le (l := T.drop (q + 1)) (rv := rvs) cs p
                            have a2 := pass_le T q
                            have a3 := SM.out
                            rw [hpl.out] at a2
                            rw [hdrop.out, List.length_append] at a2
                            rw [hnx.out, List.length_cons] at a1
                            omega
                          obtain ⟨lg, rfl⟩ : ∃ lg, lf = lg + 1 := ⟨lf - 1, by omega⟩
                          have hlg : lg ≤ 1000 := by have := SM.out; omega
                          have wl : IntKind.i64.wrap (lg : Int) = (lg : Int) := IntWalk.i64_in _ (by omega)
                          have hil : fi < C.length := (List.getElem?_eq_some_iff.1 hci).1
                          have HCI := Lib.hid hci
                          clear hlk hmem hlf hci hfi
                          refine wp_region_plan (fun w' => Below wr.heap.size wr w') [(0, 0), (0, 1), (0, 2), (1, 3), (0, 4), (1, 5), (3, 6)] (by kernel_rfl) (by kernel_rfl) (Below.refl _ _).drew ?_
                          repeat (first | (refine wpPlan_pure rfl (fun K hK => ?_); go_simp; refine hK _ ?_; clear hK K) | (refine wpPlan_held rfl (fun K hK => ?_); go_simp; refine hK _ ?_; clear hK K))
                          refine wpPlan_last rfl (fun K hK => ?_)
                          go_wp2_with (go_at_call 24; refine (hrv.out _ (B85.out.trans (Below.refl _ _).drew)).mono ?_; rintro e w8 ⟨rfl, hb⟩; rw [eR]; have BR : Hid (Below wr.heap.size wr w8) := ((Below.refl _ _).drew).trans hb; clear hb)
                          refine hK.out _ _ ?_
                          clear hK K
                          refine wpPlan_nil ?_
                          have B86 : Hid (Below w5.heap.size w5 w8) := B85.out.trans (BR.out.mono B85.out.size)
                          have C9 := Lib.hid (C8.out.later BR.out)
                          obtain ⟨go, oo, hao, _, _, hgo, hato⟩ := Sl.at (l := C) (Sl.later C5.out B86.out) cc_len (by omega) hil
                          subst hao
                          have r1 : w8.rangeAt go (oo + fi * 257 + 1) (bc c.2) := rangeAt_sub (hato fi c HCI.out) fun j v hv => by unfold cc; rw [Nat.add_comm, List.getElem?_cons_succ]; exact hv
                          have f3 : ∀ p : Kept (fun w' => Below w8.heap.size w8 w'), (bigLoadAt 29 (.pointer (some ⟨go, oo + fi * 257 + 1, none⟩))).run Try.prog p.x = .ok (.agg (blk c.2)) p.x := fun p => ldB (rangeAt_block r1 (p.h.block _ hgo))
                          have f4 : ∀ p : Kept (fun w' => Below w8.heap.size w8 w'), (bigLoadAt 29 (.pointer (some ⟨wb.heap.size, 1, none⟩))).run Try.prog p.x = .ok (.agg (blk c.2)) p.x := fun p => ldB (o := 0 + 1) (rangeAt_sub (rangeCa (C9.out.later p.h)) fun j v hv => by unfold cc; rw [Nat.add_comm, List.getElem?_cons_succ]; exact hv)
                          have hne8 : Nonempty (Kept (fun w' => Below w8.heap.size w8 w')) := ⟨⟨w8, Below.refl _ _⟩⟩
                          have enq := neqB c.2 c.2
                          rw [blkEq_refl] at enq
                          clear r1 hato f2 g0 g1 g2 hne
                          go_wp2_with fail
                          refine wp_region_plan (fun w' => Below w8.heap.size w8 w') [(0, 0), (0, 1), (0, 2), (0, 3), (0, 4), (0, 5), (0, 6), (1, 7), (0, 8), (1, 9), (0, 10), (0, 11)] (by kernel_rfl) (by kernel_rfl) (Below.refl _ _).drew ?_
                          repeat (first | (refine wpPlan_pure rfl (fun K hK => ?_); go_simp; refine hK _ ?_; clear hK K) | (refine wpPlan_held rfl (fun K hK => ?_); go_simp; refine hK _ ?_; clear hK K))
                          refine wpPlan_nil ?_
                          go_wp2_with fail
                          exact ⟨⟨p, lg, rfl, by omega, rfl, by have := SM.out; rw [hnx.out, List.length_cons]; omega, B86.out.drew⟩, by simp [intOf] <;> omega⟩
end Go.Proofs.Ytdeeegodiacjgaa
