/- The document's Overlay, walked. The transactions have at most 100000 copies. -/
import Derived.Test.YtdeeegodiacjgaaW11
namespace Go.Proofs.Ytdeeegodiacjgaa
open Go.RowKit
attribute [local go_sem ↓] loadAtB storeAtB loadAtC storeAtC buildAtC sliceAtC sliceAtB
def stp (b : Int) (r : Bool × Cp) (d : Cp) : Bool × Cp := if d.1 = b then (true, d) else r
def stpT (b : Int) (r : Bool × Cp) (t : Tr) : Bool × Cp := if b ∈ t.2.2 then (false, (t.2.1.foldl (stp b) r).2) else t.2.1.foldl (stp b) r
def fin (l : List Tr) (b : Int) : Bool × Cp := l.foldl (stpT b) (false, zC)
def refOut (l : List Tr) (ks : List Int) : List Cp := (ks.filter fun b => (fin l b).1).map fun b => (fin l b).2
theorem fin_snoc (l : List Tr) (t : Tr) (b : Int) : fin (l ++ [t]) b = stpT b (fin l b) t := by simp [fin]
theorem stp_snoc (b : Int) (r : Bool × Cp) (cs : List Cp) (d : Cp) : (cs ++ [d]).foldl (stp b) r = stp b (cs.foldl (stp b) r) d := by simp
theorem refOut_snoc (l : List Tr) (ks : List Int) (b : Int) : refOut l (ks ++ [b]) = refOut l ks ++ if (fin l b).1 then [(fin l b).2] else [] := by
  unfold refOut
  rw [List.filter_append, List.map_append]
  cases h : (fin l b).1 <;> simp [h]
theorem refOut_len (l : List Tr) (ks : List Int) : (refOut l ks).length ≤ ks.length := by
  unfold refOut
  rw [List.length_map]
  exact List.length_filter_le _ _
/-- The slice of results. -/
structure RO (w1 : World) (vo : Value) (out : List Cp) (W : World) : Prop where
  bel : Below w1.heap.size w1 W
  own : W.ownsRow w1.heap.size 40 257 vo out.length (flat cc out)
/-- .. and the copy at hand. -/
structure RB (w1 : World) (gc : Nat) (vo : Value) (out : List Cp) (c : Cp) (W : World) : Prop where
  ro : RO w1 vo out W
  cur : Whole W gc (ca c) 40
  no : ∀ k, vo.ownBlock = some k → k ≠ gc
  gw : w1.heap.size ≤ gc
theorem RO.later {w1 : World} {vo : Value} {out : List Cp} {W W' : World} (h : RO w1 vo out W) (hb : Below W.heap.size W W') : RO w1 vo out W' := ⟨h.bel.trans (hb.mono h.bel.size), own_later h.own hb⟩
theorem RB.later {w1 : World} {gc : Nat} {vo : Value} {out : List Cp} {c : Cp} {W W' : World} (h : RB w1 gc vo out c W) (hb : Below W.heap.size W W') : RB w1 gc vo out c W' := ⟨h.ro.later hb, h.cur.later hb, h.no, h.gw⟩
theorem RO.start {w1 : World} {vo : Value} {out : List Cp} {W : World} (h : RO w1 vo out W) (c : Cp) : RB w1 W.heap.size vo out c (W.alloc (.cells (ca c) 40)) :=
  ⟨h.later ((Below.refl _ _).alloc (Nat.le_refl _) _), Whole.new _ _ _, fun k hk => by have := (h.own.lt k hk).2; omega, h.bel.size⟩
theorem RB.there {w1 : World} {gc : Nat} {vo : Value} {out : List Cp} {c : Cp} {W : World} (h : RB w1 gc vo out c W) : W.there gc 0 257 := fun j hj => by
  refine ⟨?_, h.cur.free _⟩
  rw [h.cur.cell, Array.getElem?_eq_getElem (by rw [ca_size]; omega)]
  rfl
/-- A copy stored over another. -/
@[irreducible] def putC (W : World) (g : Nat) (d : Cp) : World := W.setCells g 0 (cc d)
theorem putC_eq (W : World) (g : Nat) (d : Cp) : putC W g d = W.setCells g 0 (cc d) := by unfold putC; rfl
theorem stC' {W : World} {g : Nat} (c : Cp) (h : W.there g 0 257) : (bigStoreAt 40 (.pointer (some ⟨g, 0, none⟩)) (.agg (ca c))).run Try.prog W = .ok () (putC W g c) := by rw [putC_eq]; exact stC c h
theorem RB.put {w1 : World} {gc : Nat} {vo : Value} {out : List Cp} {c : Cp} {W : World} (h : RB w1 gc vo out c W) (d : Cp) : RB w1 gc vo out d (putC W gc d) := by
  rw [putC_eq]
  refine ⟨⟨h.ro.bel.grown (grownBy_setCells _ _ _ _) h.ro.bel.size (fun k hk => by cases hk; exact h.gw), own_apart h.ro.own (grownBy_setCells _ _ _ _) h.no⟩, ?_, h.no, h.gw⟩
  have := heap_setCells (cc d) 0 h.cur
  have e : putL (ca c) 0 (cc d) = ca d := by
    apply Array.ext'
    rw [putL_list _ _ _ (by rw [ca_size, cc_len]; omega), cc_len]
    have : (ca c).toList.length = 257 := by rw [Array.length_toList, ca_size]
    rw [List.drop_of_length_le (by omega)]
    simp [ca]
  rw [e] at this
  exact this
theorem RB.app {w1 : World} {gc : Nat} {vo v' : Value} {out : List Cp} {c d : Cp} {W W' : World} {o : Obj} (h : RB w1 gc vo out c W) (hO : W'.ownsRow w1.heap.size 40 257 v' (out.length + 1) (flat cc out ++ cc d)) (hg : (W.alloc o).grownBy W' vo.ownBlock) : RO w1 v' (out ++ [d]) W' := by
  refine ⟨h.ro.bel.trans (below_app (Below.refl _ _) h.ro.bel.size h.ro.own ((Below.refl _ _).alloc (Nat.le_refl _) _) hg), ?_⟩
  rw [flat_snoc, List.length_append]
  exact hO
theorem RB.ld {w1 : World} {gc : Nat} {vo : Value} {out : List Cp} {c : Cp} {W : World} (h : RB w1 gc vo out c W) : (bigLoadAt 40 (.pointer (some ⟨gc, 0, none⟩))).run Try.prog W = .ok (.agg (ca c)) W := ldC h.cur.rangeC
def RefPost (l : List Tr) (w : World) (e : Ending) (w' : World) : Prop := ∃ v ks, e = .returned v ∧ CS ks (bks l) ∧ w'.ownsRow w.heap.size 40 257 v (refOut l ks).length (flat cc (refOut l ks)) ∧ Below w.heap.size w w'
set_option maxRecDepth 100000 in
set_option maxHeartbeats 4000000 in
theorem refOverlay_any (l : List Tr) (hn : cpsN l ≤ 100000) (v : Value) (w : World) (h : Trs w v l) : Calls Try.prog 13 #[v] w (RefPost l w) := by
  have H := Lib.hid h
  obtain ⟨ao, cap, rfl, h1, h2⟩ := h.shape
  unfold maxLen at h2
  obtain ⟨j0, hj0, jz0, jz1, jz2⟩ := info_parts zeroC
  have hcop := Lib.hid (copied_any l hn _ w h)
  clear h
  have hzc := zcC
  go_enter Try.func13, Try.ntmps13
  go_wp2_with (go_at_call 34; refine hcop.out.mono ?_; rintro e w1 ⟨vk, ks, rfl, hcs, hci⟩; have CSH := Lib.hid hcs; have CIH := Lib.hid hci; obtain ⟨ak, kcap, rfl⟩ := own_shape hci.own; clear hcs hci)
  have hkl : ks.length ≤ 100000 := by have := CSH.out.len; rw [bks_len] at this; omega
  have KS : Hid (Ints w1 (.slice ak ks.length kcap) ks) := Sl.own CIH.out.own
  obtain ⟨_, _, hsh, hk1, hk2, _⟩ := KS.out.ex
  cases hsh
  unfold maxLen at hk2
  clear hcop
  go_loopw [3, 5] (fun v3 v5 W => ∃ i out, v5 = .int .i64 (i : Nat) ∧ i ≤ ks.length ∧ RO w1 v3 out W ∧ out = refOut l (ks.take i)) (fun _ v5 _ => (ks.length - intOf v5).toNat)
  case atStart => exact ⟨0, [], rfl, by omega, ⟨Below.refl _ _, World.ownsRow_nil _ _ _ _⟩, rfl⟩
  case round =>
    obtain ⟨i, out, rfl, hi, hR, hout⟩ := hrel
    have R0 := Lib.hid hR
    have hoH := Lib.hid hout
    have hol : out.length ≤ 100000 := by
      have := refOut_len l (ks.take i)
      rw [← hout, List.length_take] at this
      omega
    clear hR hout
    by_cases hin : i < ks.length
    · obtain ⟨gk, ok, hao, _, _, hgk, hatk⟩ := Sl.at KS.out ic_len (by omega) hin
      subst hao
      obtain ⟨b, hb⟩ : ∃ b, ks[i]? = some b := ⟨_, List.getElem?_eq_getElem hin⟩
      have d0 := range_one (hatk i b hb)
      rw [Nat.mul_one] at d0
      have D0 := Lib.hid d0
      have hgkH := Lib.hid hgk
      have hbH := Lib.hid hb
      have RZ := Lib.hid (R0.out.start zC)
      clear hatk hb d0 hgk
      go_wp2_with fail
      obtain ⟨wo, rfl⟩ : ∃ wo : World, wo = wr := ⟨_, rfl⟩
      have hgo : Hid (Nonempty Nat) := ⟨0⟩
      go_loopw [7, 8] (fun v7 v8 W => ∃ (k : Nat) (r : Bool × Cp), v8 = .int .i64 (k : Nat) ∧ k ≤ l.length ∧ v7 = .bool r.1 ∧ RB w1 wo.heap.size u3 out r.2 W ∧ r = fin (l.take k) b) (fun _ v8 _ => (l.length - intOf v8).toNat)
      case atStart => exact ⟨0, (false, zC), rfl, by omega, rfl, RZ.out, rfl⟩
      case round =>
        obtain ⟨k, ⟨hs, c⟩, rfl, hk, hv7, hR, hfin⟩ := hrel
        dsimp only at hv7 hR
        subst hv7
        have R1 := Lib.hid hR
        have hfH := Lib.hid hfin
        clear hR hfin
        have B1 : Hid (Below w.heap.size w wr) := CIH.out.bel.trans (R1.out.ro.bel.mono CIH.out.bel.size)
        by_cases hkn : k < l.length
        · obtain ⟨⟨s, cs, rs⟩, ht⟩ : ∃ t, l[k]? = some t := ⟨_, List.getElem?_eq_getElem hkn⟩
          obtain ⟨g, off, ⟨cv, rv⟩, hao, _, _, hg, b0, b1, b2, p1, p2⟩ := H.out.at ht
          subst hao
          obtain ⟨ac, cc1, rfl, x1, y1, _⟩ := p1.ex
          obtain ⟨ar, cr1, rfl, x2, y2, _⟩ := p2.ex
          unfold maxLen at y1 y2
          dsimp only at b0 b1 b2 x1 x2
          have P1 := Lib.hid p1
          have P2 := Lib.hid p2
          have hG := Lib.hid hg
          have BB1 := Lib.hid b1
          have BB2 := Lib.hid b2
          have hnext : Hid (fin (l.take (k + 1)) b = stpT b (hs, c) (s, cs, rs)) := by
            unfold Hid
            rw [List.take_add_one, ht, hfH.out]
            exact fin_snoc _ _ _
          clear ht p1 p2 hg b0 b1 b2
          go_wp2_with fail
          obtain ⟨wm, rfl⟩ : ∃ wm : World, wm = wr := ⟨_, rfl⟩
          go_loopw [7, 9] (fun v7 v9 W => ∃ (j : Nat) (r : Bool × Cp), v9 = .int .i64 (j : Nat) ∧ j ≤ cs.length ∧ v7 = .bool r.1 ∧ RB w1 wo.heap.size u3 out r.2 W ∧ r = (cs.take j).foldl (stp b) (hs, c)) (fun _ v9 _ => (cs.length - intOf v9).toNat)
          case atStart => exact ⟨0, (hs, c), rfl, by omega, rfl, R1.out, rfl⟩
          case round =>
            obtain ⟨j, ⟨h2, c2⟩, rfl, hj, hv7, hR, hfin⟩ := hrel
            dsimp only at hv7 hR
            subst hv7
            have R2 := Lib.hid hR
            have hf2 := Lib.hid hfin
            clear hR hfin
            have B2 : Hid (Below w.heap.size w wr) := CIH.out.bel.trans (R2.out.ro.bel.mono CIH.out.bel.size)
            have c1 := (World.cell?_of_block (B2.out.block g hG.out)).trans BB1.out
            by_cases hjn : j < cs.length
            · obtain ⟨gc, oc, hac, _, _, hgc, hatc⟩ := Sl.at (Sl.later P1.out B2.out) cc_len (by omega) hjn
              subst hac
              obtain ⟨⟨bb, d⟩, hcx⟩ : ∃ c, cs[j]? = some c := ⟨_, List.getElem?_eq_getElem hjn⟩
              have hrange := hatc j _ hcx
              have e0 := hrange 0 _ rfl
              rw [Nat.add_zero] at e0
              have hl0 := ldC hrange
              have hl1 : (bigLoadAt 40 (.pointer (some ⟨gc, oc + j * 257, none⟩))).run Try.prog wr.drew = .ok (.agg (ca (bb, d))) wr.drew := ldC hrange
              have e1 := (World.cell?_of_block (R2.out.ro.bel.block gk hgkH.out)).trans D0.out
              have hgg : Hid (g < wr.heap.size) := Nat.lt_of_lt_of_le hG.out B2.out.size
              have hkk : Hid (gk < wr.heap.size) := Nat.lt_of_lt_of_le hgkH.out R2.out.ro.bel.size
              have f0 : ∀ p : Kept (fun w' => Below wr.heap.size wr w'), p.x.cell? ⟨g, off + k * 3 + 1, none⟩ = some (.slice (some ⟨gc, oc, none⟩) cs.length cc1) := fun p => (World.cell?_of_block (p.h.block _ hgg.out)).trans c1
              have f1 : ∀ p : Kept (fun w' => Below wr.heap.size wr w'), p.x.cell? ⟨gc, oc + j * 257, none⟩ = some (.int .i64 bb) := fun p => (World.cell?_of_block (p.h.block _ hgc)).trans e0
              have f2 : ∀ p : Kept (fun w' => Below wr.heap.size wr w'), p.x.cell? ⟨gk, ok + i, none⟩ = some (.int .i64 b) := fun p => (World.cell?_of_block (p.h.block _ hkk.out)).trans e1
              have hne : Nonempty (Kept (fun w' => Below wr.heap.size wr w')) := ⟨⟨wr, Below.refl _ _⟩⟩
              have RD := Lib.hid (R2.out.later ((Below.refl wr.heap.size wr).drew))
              have hs2 := stC' (W := wr.drew) (g := wo.heap.size) (bb, d) RD.out.there
              have hs3 := stC' (W := wr) (g := wo.heap.size) (bb, d) R2.out.there
              have hnj : Hid ((cs.take (j + 1)).foldl (stp b) (hs, c) = stp b (h2, c2) (bb, d)) := by
                unfold Hid
                rw [List.take_add_one, hcx, hf2.out]
                exact stp_snoc _ _ _ _
              clear hatc hcx hrange
              by_cases hbb : bb = b
              · obtain rfl := hbb.symm
                have hdb : decide (b = b) = true := decide_eq_true rfl
                go_wp2_with fail
                refine wp_region_plan (fun w' => Below wr.heap.size wr w') [(0, 0), (0, 1), (0, 2), (0, 3), (1, 4), (0, 5), (0, 6), (0, 7), (1, 8), (0, 9), (0, 10), (0, 11), (1, 12), (0, 13)] (by kernel_rfl) (by kernel_rfl) (Below.refl _ _).drew ?_
                repeat (first | (refine wpPlan_pure rfl (fun K hK => ?_); go_simp; refine hK _ ?_; clear hK K) | (refine wpPlan_held rfl (fun K hK => ?_); go_simp; refine hK _ ?_; clear hK K))
                refine wpPlan_nil ?_
                go_wp2_with fail
                refine ⟨⟨j + 1, (true, (b, d)), rfl, by omega, rfl, RD.out.put (b, d), ?_⟩, by simp [intOf]; omega⟩
                rw [hnj.out]
                simp [stp]
              · have hz : (bb == b) = false := by simp [hbb]
                go_wp2_with fail
                refine wp_region_plan (fun w' => Below wr.heap.size wr w') [(0, 0), (0, 1), (0, 2), (0, 3), (1, 4), (0, 5), (0, 6), (0, 7), (1, 8), (0, 9), (0, 10), (0, 11), (1, 12), (0, 13)] (by kernel_rfl) (by kernel_rfl) (Below.refl _ _).drew ?_
                repeat (first | (refine wpPlan_pure rfl (fun K hK => ?_); go_simp; refine hK _ ?_; clear hK K) | (refine wpPlan_held rfl (fun K hK => ?_); go_simp; refine hK _ ?_; clear hK K))
                refine wpPlan_nil ?_
                go_wp2_with fail
                refine ⟨⟨j + 1, (h2, c2), rfl, by omega, rfl, RD.out, ?_⟩, by simp [intOf]; omega⟩
                rw [hnj.out]
                simp [stp, hbb]
            · obtain rfl : j = cs.length := by omega
              go_wp2_with fail
              have c2' := (World.cell?_of_block (B2.out.block g hG.out)).trans BB2.out
              have e1 := (World.cell?_of_block (R2.out.ro.bel.block gk hgkH.out)).trans D0.out
              have hgg : Hid (g < wr.heap.size) := Nat.lt_of_lt_of_le hG.out B2.out.size
              have hkk : Hid (gk < wr.heap.size) := Nat.lt_of_lt_of_le hgkH.out R2.out.ro.bel.size
              have f0 : ∀ p : Kept (fun w' => Below wr.heap.size wr w'), p.x.cell? ⟨g, off + k * 3 + 2, none⟩ = some (.slice ar rs.length cr1) := fun p => (World.cell?_of_block (p.h.block _ hgg.out)).trans c2'
              have f2 : ∀ p : Kept (fun w' => Below wr.heap.size wr w'), p.x.cell? ⟨gk, ok + i, none⟩ = some (.int .i64 b) := fun p => (World.cell?_of_block (p.h.block _ hkk.out)).trans e1
              have hne : Nonempty (Kept (fun w' => Below wr.heap.size wr w')) := ⟨⟨wr, Below.refl _ _⟩⟩
              have RD := Lib.hid (R2.out.later ((Below.refl wr.heap.size wr).drew))
              have hnm := Lib.hid (names_any rs _ b wr.drew (Sl.later P2.out (B2.out.trans (((Below.refl wr.heap.size wr).drew).mono B2.out.size))))
              have hst := hf2.out
              rw [List.take_length] at hst
              have hstH := Lib.hid hst
              clear hst
              refine wp_region_plan (fun w' => Below wr.heap.size wr w') [(0, 0), (0, 1), (0, 2), (0, 3), (1, 4), (0, 5), (0, 6), (0, 7), (1, 8), (3, 9)] (by kernel_rfl) (by kernel_rfl) (Below.refl _ _).drew ?_
              repeat (first | (refine wpPlan_pure rfl (fun K hK => ?_); go_simp; refine hK _ ?_; clear hK K) | (refine wpPlan_held rfl (fun K hK => ?_); go_simp; refine hK _ ?_; clear hK K))
              refine wpPlan_last rfl (fun K hK => ?_)
              by_cases hbr : b ∈ rs
              · go_wp2_with (go_at_call 35; refine hnm.out.mono ?_; rintro e w3 ⟨rfl, rfl⟩; rw [decide_eq_true hbr])
                refine hK.out _ _ ?_
                clear hK K
                refine wpPlan_nil ?_
                go_wp2_with fail
                refine ⟨⟨k + 1, (false, c2), rfl, by omega, rfl, RD.out, ?_⟩, by simp [intOf]; omega⟩
                rw [hnext.out]
                unfold stpT
                rw [if_pos hbr, ← hstH.out]
              · go_wp2_with (go_at_call 35; refine hnm.out.mono ?_; rintro e w3 ⟨rfl, rfl⟩; rw [decide_eq_false hbr])
                refine hK.out _ _ ?_
                clear hK K
                refine wpPlan_nil ?_
                go_wp2_with fail
                refine ⟨⟨k + 1, (h2, c2), rfl, by omega, rfl, RD.out, ?_⟩, by simp [intOf]; omega⟩
                rw [hnext.out]
                unfold stpT
                rw [if_neg hbr, ← hstH.out]
        · obtain rfl : k = l.length := by omega
          have hfin := hfH.out
          rw [List.take_length] at hfin
          have hF := Lib.hid hfin
          clear hfin
          have hsnoc : Hid (refOut l (ks.take (i + 1)) = out ++ if (fin l b).1 then [(fin l b).2] else []) := by
            unfold Hid
            rw [List.take_add_one, hbH.out, hoH.out]
            exact refOut_snoc _ _ _
          have hld := R1.out.ld
          have hbs := run_bsC c
          cases hs with
          | true =>
            go_wp2_with (at_builtin; refine wpList_append_own_at _ rfl _ _ 33 rfl w1.heap.size 40 j0 (.agg (ca (0, fun _ => 0))) 257 264 Try.underlying33 hj0 jz0 jz1 jz2 (ca_size _) (by decide) _ _ _ rfl (R1.out.ro.own.alloc _) ⟨wr.heap.size, 0, none⟩ 1 1 (cc c) rfl (by rw [cc_len]) (Whole.news (Whole.new wr (ca c) 40)) (cc_one _) (by unfold maxLen; omega) (by omega) (by have := R1.out.ro.bel.size; simp; omega) ?_; intro v3 W3 hown3 hgrow3 hx1 hx2; clear hx1 hx2; have R3 := Lib.hid (R1.out.app hown3 hgrow3); clear hown3 hgrow3)
            refine ⟨⟨i + 1, _, rfl, by omega, R3.out, ?_⟩, by simp [intOf]; omega⟩
            rw [hsnoc.out, ← hF.out]
            rfl
          | false =>
            go_wp2_with fail
            refine ⟨⟨i + 1, _, rfl, by omega, R1.out.ro, ?_⟩, by simp [intOf]; omega⟩
            rw [hsnoc.out, ← hF.out]
            simp
    · obtain rfl : i = ks.length := by omega
      go_wp2_with fail
      go_ret
      have ho := hoH.out
      rw [List.take_length] at ho
      subst ho
      exact ⟨_, ks, rfl, CSH.out, own_mono R0.out.own CIH.out.bel.size, CIH.out.bel.trans (R0.out.bel.mono CIH.out.bel.size)⟩
end Go.Proofs.Ytdeeegodiacjgaa
