/- The given statement ReplayRevokes, walked. The rows' bytes are below 256. -/
import Derived.Test.YtdeeegodiacjgaaR0
import Derived.Test.YtdeeegodiacjgaaA1
import Derived.Test.YtdeeegodiacjgaaW14
namespace Go.Proofs.Ytdeeegodiacjgaa
open Go.RowKit
attribute [local go_sem ↓] loadAtB storeAtB loadAtC storeAtC buildAtC sliceAtC sliceAtB
/-- Numbers that are collected. -/
structure NI (w : World) (v : Value) (xs : List Int) (W : World) : Prop where
  bel : Below w.heap.size w W
  own : W.ownsRow w.heap.size 3 1 v xs.length (flat ic xs)
theorem NI.app {w : World} {v v' : Value} {xs : List Int} {W W' : World} {o : Obj} {x : Int} (h : NI w v xs W) (hO : W'.ownsRow w.heap.size 3 1 v' (xs.length + 1) (flat ic xs ++ ic x)) (hg : (W.alloc o).grownBy W' v.ownBlock) : NI w v' (xs ++ [x]) W' := by
  refine ⟨h.bel.trans (below_app (Below.refl _ _) h.bel.size h.own ((Below.refl _ _).alloc (Nat.le_refl _) _) hg), ?_⟩
  rw [flat_snoc, List.length_append]
  exact hO
theorem allB_snoc {l : List Tr} {i : Nat} {t : Tr} (h : l[i]? = some t) : allB (l.take (i + 1)) = allB (l.take i) ++ t.2.1.map (·.1) := by
  rw [List.take_add_one, h]
  simp [allB]
theorem allB_le (l : List Tr) (i : Nat) : (allB (l.take i)).length ≤ (allB l).length := by
  conv => rhs; rw [← List.take_append_drop i l]
  simp only [allB, List.flatMap_append, List.length_append]
  omega
theorem one_new (W : World) (b : Int) : ∀ j u, (ic b)[j]? = some u → (W.alloc (.cells #[.int .i64 b] 3)).cell? ((⟨W.heap.size, 0, none⟩ : Addr).add j) = some u := Whole.news (cs := ic b) (Whole.new W #[.int .i64 b] 3)
set_option maxRecDepth 100000 in
set_option maxHeartbeats 1000000 in
theorem replayRevokes_any (l : List Lt) (hok : OkLt l) (v : Value) (w : World) (h : Lts w v l) :
    Calls Try.prog 7 #[v] w (GPost (.bool true) w) := by
  have H := Lib.hid h
  have OK := Lib.hid hok
  clear h hok
  have hmany := Lib.hid (many19 l v)
  by_cases hm : tooMany l 1000 = true
  · go_enter Try.func7, Try.ntmps7
    go_wp2_with (first
      | (go_at_call 21; refine (awake_any _).mono ?_; rintro e w1 ⟨rfl, hw⟩; have HW := Lib.hid hw; clear hw)
      | (go_at_call 10; refine (hmany.out _ (H.out.later HW.out)).mono ?_; rintro e w2 ⟨rfl, hw⟩; have HW2 := Lib.hid hw; clear hw; rw [hm]))
    go_ret
    exact ⟨rfl, HW.out.trans (HW2.out.mono HW.out.size)⟩
  · have hm' : tooMany l 1000 = false := by simpa using hm
    have hsm : l.length ≤ 60 ∧ szs l ≤ 1000 := by
      unfold tooMany at hm'
      have := of_decide_eq_false hm'
      omega
    obtain ⟨hl60, hsz⟩ := hsm
    obtain ⟨i0, hi0, iz0, iz1, iz2⟩ := info_parts info3
    obtain ⟨j0, hj0, jz0, jz1, jz2⟩ := info_parts info55
    clear hm
    go_enter Try.func7, Try.ntmps7
    go_wp2_with (first
      | (go_at_call 21; refine (awake_any _).mono ?_; rintro e w1 ⟨rfl, hw⟩; have HW := Lib.hid hw; clear hw)
      | (go_at_call 10; refine (hmany.out _ (H.out.later HW.out)).mono ?_; rintro e w2 ⟨rfl, hw⟩; have HW2 := Lib.hid hw; clear hw; rw [hm']; have B2 : Hid (Below w.heap.size w w2) := HW.out.trans (HW2.out.mono HW.out.size))
      | (go_at_call 11; refine (short_any l hl60 hsz OK.out v w2 (H.out.later B2.out)).mono ?_; rintro e w3 ⟨v3, vs3, rfl, hs3⟩; have S3 := Lib.hid hs3; clear hs3))
    have B3 : Hid (Below w.heap.size w w3) := B2.out.trans (S3.out.bel.mono B2.out.size)
    have hcn : cpsN (shortL l) ≤ 1000 := by have := cpsN_short l; omega
    have hTl : (shortL l).length ≤ 60 := by unfold shortL; rw [List.length_mapIdx]; exact hl60
    have T3 := Lib.hid S3.out.trs
    generalize shortL l = T at hcn hTl S3 T3
    have hal : Hid ((allB T).length ≤ 1000) := by unfold Hid; rw [allB_len]; exact hcn
    obtain ⟨a3, c3, hsh⟩ := own_shape S3.out.own
    rw [S3.out.len] at hsh
    subst hsh
    obtain ⟨_, _, hsh, m1, m2⟩ := T3.out.shape
    cases hsh
    unfold maxLen at m2
    have N0 : Hid (NI w3 (.slice none 0 0) (allB (T.take 0)) w3) := ⟨Below.refl _ _, World.ownsRow_nil _ _ _ _⟩
    clear hmany HW HW2
    go_loopw [4, 5] (fun v4 v5 W => ∃ i, v5 = .int .i64 (i : Nat) ∧ i ≤ T.length ∧ NI w3 v4 (allB (T.take i)) W) (fun _ v5 _ => (T.length - intOf v5).toNat)
    case atStart => exact ⟨0, rfl, by omega, N0.out⟩
    case round =>
      obtain ⟨i, rfl, hi, hN⟩ := hrel
      have NN := Lib.hid hN
      obtain ⟨a4, c4, hsh⟩ := own_shape hN.own
      subst hsh
      clear hN
      by_cases hin : i < T.length
      · obtain ⟨t, ht⟩ : ∃ t, T[i]? = some t := ⟨_, List.getElem?_eq_getElem hin⟩
        obtain ⟨g, off, rv, hao, _, _, hg, _, d1, _, p1, _⟩ := T3.out.at ht
        subst hao
        obtain ⟨ac, cc1, hrv, m3, m4, _⟩ := p1.ex
        rw [hrv] at d1 p1
        unfold maxLen at m4
        have P1 := Lib.hid p1
        have e0 := (World.cell?_of_block (a := ⟨g, off + i * 3 + 1, none⟩) (NN.out.bel.block g hg)).trans d1
        have D1 := Lib.hid d1
        have hnx := Lib.hid (allB_snoc ht)
        have hle := Lib.hid (allB_le T (i + 1))
        have htl : Hid ((allB (T.take i)).length + t.2.1.length ≤ 1000) := by
          have h1 := hle.out
          rw [hnx.out, List.length_append, List.length_map] at h1
          have := hal.out
          unfold Hid
          omega
        have htc : t.2.1.length ≤ 1000 := by have := htl.out; omega
        have NI0 : Hid (NI w3 (.slice a4 (allB (T.take i)).length c4) (allB (T.take i) ++ (t.2.1.take 0).map (·.1)) wr) := by
          have := NN.out
          rw [List.take_zero, List.map_nil, List.append_nil]
          exact this
        have htH := Lib.hid ht
        obtain ⟨wo, hwo⟩ : ∃ wo : World, wo = wr := ⟨_, rfl⟩
        subst hwo
        clear ht p1 hrv d1
        go_wp2_with fail
        go_loopw [4, 6] (fun v4 v6 W => ∃ k, v6 = .int .i64 (k : Nat) ∧ k ≤ t.2.1.length ∧ NI w3 v4 (allB (T.take i) ++ (t.2.1.take k).map (·.1)) W) (fun _ v6 _ => (t.2.1.length - intOf v6).toNat)
        case atStart => exact ⟨0, rfl, by omega, NI0.out⟩
        case round =>
          obtain ⟨k, rfl, hk, hN⟩ := hrel
          have NK := Lib.hid hN
          have hlk : Hid ((allB (T.take i) ++ (t.2.1.take k).map (·.1)).length ≤ 1000) := by
            unfold Hid
            rw [List.length_append, List.length_map, List.length_take]
            have := htl.out
            omega
          obtain ⟨a5, c5, hsh⟩ := own_shape hN.own
          subst hsh
          clear hN
          have e1 := (World.cell?_of_block (a := ⟨g, off + i * 3 + 1, none⟩) (NK.out.bel.block g hg)).trans D1.out
          by_cases hkn : k < t.2.1.length
          · obtain ⟨gc, oc, hac, _, _, hgc, hatc⟩ := Sl.at (Sl.later P1.out NK.out.bel) cc_len (by omega) hkn
            subst hac
            obtain ⟨c, hc⟩ : ∃ c, t.2.1[k]? = some c := ⟨_, List.getElem?_eq_getElem hkn⟩
            have e2 : wr.cell? ⟨gc, oc + k * 257, none⟩ = some (.int .i64 c.1) := by
              have := hatc k c hc 0 (.int .i64 c.1) rfl
              rwa [Nat.add_zero] at this
            have hst : Hid ((t.2.1.take (k + 1)).map (·.1) = (t.2.1.take k).map (·.1) ++ [c.1]) := by unfold Hid; rw [List.take_add_one, hc]; simp
            clear hatc hc
            go_wp2_with (at_builtin; refine wpList_append_own_at _ rfl _ _ 53 rfl w3.heap.size 3 i0 (.int .i64 0) 1 8 Try.underlying53 hi0 iz0 iz1 iz2 rfl (by decide) _ _ _ rfl (NK.out.own.alloc _) ⟨wr.heap.size, 0, none⟩ 1 1 (ic c.1) rfl rfl (one_new wr c.1) (fun u hu => by simp [ic] at hu; subst hu; rfl) (by have := hlk.out; unfold maxLen; omega) (by have := hlk.out; omega) (by have := NK.out.bel.size; simp; omega) ?_; intro v7 w7 hown hgrow hx1 hx2; clear hx1 hx2; have N7 := Lib.hid (NK.out.app hown hgrow); clear hown hgrow)
            have n7 := N7.out
            rw [List.append_assoc, ← hst.out] at n7
            exact ⟨⟨k + 1, rfl, by omega, n7⟩, by simp [intOf]; omega⟩
          · obtain rfl : k = t.2.1.length := by omega
            go_wp2_with fail
            exact ⟨⟨i + 1, rfl, by omega, by have := NK.out; rw [List.take_length] at this ⊢; rw [hnx.out]; exact this⟩, by simp [intOf]; omega⟩
      · obtain rfl : i = T.length := by omega
        have nn := NN.out
        rw [List.take_length] at nn ⊢
        have NT := Lib.hid nn
        clear nn
        have hvl : vs3.length = T.length := S3.out.len
        have hov : Hid (∀ (v : Value) (w : World), Trs w v (T ++ [(1, [], allB T)]) → Calls Try.prog 14 #[v] w (fun e w' => ∃ a c, e = .returned (.slice a 0 c) ∧ Below w.heap.size w w')) := fun v w h => by
          refine (overlay_any _ ?_ v w h).mono ?_
          · have : cpsN (T ++ [(1, [], allB T)]) = cpsN T := by simp [cpsN]
            omega
          · rintro e w' ⟨u, rfl, hown, hb⟩
            rw [ov_revoked] at hown
            obtain ⟨a, c, rfl⟩ := own_shape hown
            exact ⟨a, c, rfl, hb⟩
        go_wp2_with (first
          | (at_builtin; refine wpList_append_own_at _ rfl _ _ 25 rfl w2.heap.size 55 j0 (.agg #[.int .u32 0, .slice none 0 0, .slice none 0 0]) 3 56 Try.underlying25 hj0 jz0 jz1 jz2 rfl (by decide) _ _ _ rfl ((own_later S3.out.own NT.out.bel).alloc _) ⟨wr.heap.size, 0, none⟩ 1 1 (tc (1, .slice none 0 0, .slice a4 (allB T).length c4)) rfl rfl (Whole.news (Whole.new wr _ 55)) (fun u hu => by simp [tc] at hu; rcases hu with rfl | rfl | rfl <;> rfl) (by unfold maxLen; omega) (by omega) (by have := NT.out.bel.size; have := S3.out.bel.size; simp; omega) ?_; intro v7 w7 hown hgrow _ hat; have S7 := Lib.hid (S3.out.step (x := (1, .slice none 0 0, .slice a4 (allB T).length c4)) (t := (1, [], allB T)) NT.out.bel rfl (World.ownsRow_nil _ _ _ _) NT.out.own hown hgrow hat); clear hown hgrow hat)
          | (go_at_call 14; refine (hov.out _ _ S7.out.trs).mono ?_; rintro e w8 ⟨a8, c8, rfl, hb⟩; have B8 := Lib.hid hb; clear hb))
        go_ret
        exact ⟨rfl, B2.out.trans ((S7.out.bel.trans (B8.out.mono S7.out.bel.size)).mono B2.out.size)⟩
end Go.Proofs.Ytdeeegodiacjgaa
