/- replay.Overlay of the given program, walked. The transactions have at most 100000 copies. -/
import Derived.Test.YtdeeegodiacjgaaW7b
namespace Go.Proofs.Ytdeeegodiacjgaa
open Go.RowKit Go.Sort
attribute [local go_sem ↓] loadAtB storeAtB loadAtC storeAtC buildAtC sliceAtC sliceAtB
theorem del_permD {left : List (Int × Value)} {p : Int × Value} (hn : (left.map (·.1)).Nodup) (hp : p ∈ left) : left.Perm (p :: del left p.1) := by
  induction left with
  | nil => cases hp
  | cons q l ih =>
    rw [List.map_cons, List.nodup_cons] at hn
    by_cases e : q.1 = p.1
    · have hpq : p = q := by
        rcases List.mem_cons.1 hp with h | h
        · exact h
        · exact absurd (by rw [e]; exact List.mem_map_of_mem h) hn.1
      subst hpq
      have : del (p :: l) p.1 = l := by
        unfold del
        rw [List.filter_cons_of_neg (by simp), List.filter_eq_self]
        intro u hu
        have : u.1 ≠ p.1 := fun e' => hn.1 (by rw [← e']; exact List.mem_map_of_mem hu)
        simpa using this
      rw [this]
    · have hpl : p ∈ l := by
        rcases List.mem_cons.1 hp with h | h
        · exact absurd (by rw [h]) e
        · exact h
      have hd : del (q :: l) p.1 = q :: del l p.1 := by
        unfold del
        rw [List.filter_cons_of_pos (by simpa using e)]
      rw [hd]
      exact ((ih hn.2 hpl).cons q).trans (List.Perm.swap _ _ _)
theorem Ranging.allocD {W : World} {it bm : Nat} {m left : List (Int × Value)} (h : Ranging ik W it bm m left) (o : Obj) : Ranging ik (W.alloc o) it bm m left :=
  h.of_heap (Below.heap_alloc W o _ h.lt.1) (Below.heap_alloc W o _ h.lt.2.1)
/-- What stands in the loop that collects the map's keys. -/
structure KI (w : World) (ms : List (Int × Value)) (bm : Nat) (v : Value) (ks : List Int) (left : List (Int × Value)) (W : World) : Prop where
  rng : Ranging ik W w.heap.size bm ms left
  bel : Below w.heap.size w W
  own : W.ownsRow (w.heap.size + 1) 3 1 v ks.length (flat ic ks)
  perm : (ks ++ left.map (·.1)).Perm (ms.map (·.1))
  lt : w.heap.size < W.heap.size
theorem Chg.grownD {w w' : World} {r : Nat} (h : Chg w w' r) : w.grownBy w' (some r) := ⟨h.os, h.tape, h.output, Nat.le_of_eq h.size.symm, fun j _ hj => h.other j (fun e => hj (by rw [e]))⟩
theorem KI.app {w : World} {ms : List (Int × Value)} {bm : Nat} {v v' : Value} {ks : List Int} {left : List (Int × Value)} {W W' W5 : World} {b : Int} {x : Value} {o : Obj} (h : KI w ms bm v ks left W) (hn : (left.map (·.1)).Nodup) (hbm : bm < w.heap.size) (hr : Ranging ik W' w.heap.size bm ms (del left b)) (hc : Chg W W' w.heap.size) (hp : (b, x) ∈ left)
    (ho : W5.ownsRow (w.heap.size + 1) 3 1 v' (ks.length + 1) (flat ic ks ++ ic b)) (hg : (W'.alloc o).grownBy W5 v.ownBlock) :
    KI w ms bm v' (ks ++ [b]) (del left b) W5 ∧ W5.rangeLeft bm w.heap.size < W.rangeLeft bm w.heap.size := by
  have hrow : ∀ k, v.ownBlock = some k → w.heap.size + 1 ≤ k := fun k hk => (h.own.lt k hk).1
  have hr2 := hr.allocD o
  have hl2 := hr2.lt
  have hr5 : Ranging ik W5 w.heap.size bm ms (del left b) := hr2.of_heap (hg.block _ hl2.1 (fun e => by have := hrow _ e.symm; omega)) (hg.block _ hl2.2.1 (fun e => by have := hrow _ e.symm; omega))
  have hb : Below w.heap.size w W' := h.bel.trans (hc.below (Nat.le_refl _))
  refine ⟨⟨hr5, (hb.alloc hb.size o).grown hg (by have := hb.size; simp; omega) (fun k hk => by have := hrow k hk; omega), ?_, ?_, hr5.lt.1⟩, ?_⟩
  · rw [List.length_append, flat_snoc]; exact ho
  · rw [List.append_assoc]
    have := (del_permD hn hp).map (·.1)
    exact (this.symm.append_left ks).trans h.perm
  · rw [hr5.left_eq, h.rng.left_eq]
    exact del_length hp
theorem wpl_lookupV {P : Program} {k : TypeId} {ops : Array Oper} {rest : List Oper} {o : Oper} {a : Act} {Q : Exit → Act → World → Prop} {ν : Type} {f : ν → Value} (hk : P.underlying k = some (.int .i64)) (hg : o.guard = none) (mo xo : Operand) (T : TypeId) (hop : o.op = Op.lookup T mo xo false) (e : TypeId) (hT : P.underlying T = some (.map k e)) {z : Value} (hz : ∀ w, (zeroValue e).run P w = .ok z w) (w : World) (bm : Nat) (m : List (Int × ν)) (x : Int)
    (hm : a.eval mo = .map (some bm)) (hx : a.eval xo = .int .i64 x) (h : MapOf f w bm m) (v : Value) (hv : ((lookD m x).map f).getD z = v)
    (hK : wpList P ops Q rest (a.put o.dst v) w) : wpList P ops Q (o :: rest) a w := by
  refine wpl_lookupD hk hg mo xo T false hop e hT hz w bm m x hm hx h ?_
  subst hv
  exact hK
def zC : Cp := (0, fun _ => 0)
theorem zeroC1 : ∀ w, (zeroValue 40).run Try.prog w = .ok (.agg (ca zC)) w := fun w => by rw [run_zeroC]; rfl
def pick (m : Mp) (b : Int) : Cp := (lookD m b).getD zC
theorem pick_eq (m : Mp) (b : Int) : ((lookD m b).map cval).getD (.agg (ca zC)) = .agg (ca (pick m b)) := by
  unfold pick
  cases lookD m b <;> rfl
/-- What stands in the loop that collects the copies. -/
structure LI (ws : World) (bm : Nat) (m : Mp) (v : Value) (out : List Cp) (W : World) : Prop where
  map : MapOf cval W bm m
  bel : Below ws.heap.size ws W
  own : W.ownsRow ws.heap.size 40 257 v out.length (flat cc out)
theorem LI.app {ws : World} {bm : Nat} {m : Mp} {v v' : Value} {out : List Cp} {W W' : World} {o : Obj} {c : Cp} (h : LI ws bm m v out W) (hbm : bm < ws.heap.size) (hO : W'.ownsRow ws.heap.size 40 257 v' (out.length + 1) (flat cc out ++ cc c)) (hg : (W.alloc o).grownBy W' v.ownBlock) : LI ws bm m v' (out ++ [c]) W' := by
  have h3 : Below ws.heap.size W W' := below_app (Below.refl _ _) h.bel.size h.own ((Below.refl _ _).alloc (Nat.le_refl _) _) hg
  refine ⟨h.map.later h3 hbm, h.bel.trans h3, ?_⟩
  rw [flat_snoc, List.length_append]
  exact hO
def ovKeys (l : List Tr) : List Int := ((ovMap l).map (·.1)).mergeSort fun x y => decide (x ≤ y)
def ovOut (l : List Tr) : List Cp := (ovKeys l).map (pick (ovMap l))
def OvPost (l : List Tr) (w : World) (e : Ending) (w' : World) : Prop := ∃ v, e = .returned v ∧ w'.ownsRow w.heap.size 40 257 v (ovOut l).length (flat cc (ovOut l)) ∧ Below w.heap.size w w'
set_option maxRecDepth 100000 in
set_option maxHeartbeats 4000000 in
theorem overlay_any (l : List Tr) (hn : cpsN l ≤ 100000) (v : Value) (w : World) (h : Trs w v l) :
    Calls Try.prog 14 #[v] w (OvPost l w) := by
  have H := Lib.hid h
  obtain ⟨ao, cap, rfl, h1, h2⟩ := h.shape
  clear h
  unfold maxLen at h2
  have hmk := mk74
  have hzc := zcC
  have hst := stCnew
  have hld := ldCnew
  have hc0 := ca_zero
  go_enter Try.func14, Try.ntmps14
  go_wp2_with fail
  have V0 : Hid (OV w w.heap.size [] (w.alloc (.map #[] 0))) := ⟨MapOf.made w, Nat.le_refl _, (Below.refl _ _).alloc (Nat.le_refl _) _⟩
  have hbz : Hid (∃ bm, bm = w.heap.size) := ⟨_, rfl⟩
  obtain ⟨bm, hbm⟩ := hbz.out
  rw [← hbm] at V0
  rw [← hbm]
  have hbmH := Lib.hid hbm
  clear hbm hbz hmk
  go_loopw [18] (fun v18 W => ∃ i, v18 = .int .i64 (i : Nat) ∧ i ≤ l.length ∧ OV w bm (ovMap (l.take i)) W) (fun v18 _ => (l.length - intOf v18).toNat)
  case atStart => exact ⟨0, rfl, by omega, V0.out⟩
  case round =>
    obtain ⟨i, rfl, hi, hV⟩ := hrel
    obtain ⟨wo, rfl⟩ : ∃ wo : World, wo = wr := ⟨_, rfl⟩
    have V := Lib.hid hV
    clear hV
    by_cases hin : i < l.length
    · obtain ⟨⟨s, cs, rs⟩, ht⟩ : ∃ t, l[i]? = some t := ⟨_, List.getElem?_eq_getElem hin⟩
      obtain ⟨g, off, ⟨cv, rv⟩, rfl, _, _, hg, b0, b1, b2, p1, p2⟩ := H.out.at ht
      obtain ⟨ac, cc1, rfl, x1, y1, _⟩ := p1.ex
      obtain ⟨ak, ck1, rfl, x2, y2, _⟩ := p2.ex
      unfold maxLen at y1 y2
      dsimp only at b0 b1 b2 x1 x2
      have c0 := (World.cell?_of_block (V.out.bel.block g hg)).trans b0
      have c1 := (World.cell?_of_block (V.out.bel.block g hg)).trans b1
      have c2 := (World.cell?_of_block (V.out.bel.block g hg)).trans b2
      clear b0 b1 b2
      have P1 := Lib.hid p1
      have P2 := Lib.hid p2
      have hnext : Hid (ovMap (l.take (i + 1)) = ovStep (ovMap (l.take i)) (s, cs, rs)) := by
        unfold Hid
        rw [List.take_add_one, ht]
        exact ovMap_snoc _ _
      clear ht p1 p2
      go_wp2_with fail
      have hbo : Hid (wo.heap.size ≠ bm) := fun e => by have := V.out.map.lt; omega
      have hb1 : Hid (Below wo.heap.size wo (wo.alloc (.cells #[.int .u32 s, .slice ac cs.length cc1, .slice ak rs.length ck1] 55))) := (Below.refl _ _).alloc (Nat.le_refl _) _
      have hX : Hid (OV w bm (upds (ovMap (l.take i)) (cs.take 0)) (wo.alloc (.cells #[.int .u32 s, .slice ac cs.length cc1, .slice ak rs.length ck1] 55)) ∧ Whole (wo.alloc (.cells #[.int .u32 s, .slice ac cs.length cc1, .slice ak rs.length ck1] 55)) wo.heap.size #[.int .u32 s, .slice ac cs.length cc1, .slice ak rs.length ck1] 55) := ⟨V.out.later hb1.out, Whole.new _ _ _⟩
      go_loopw [25] (fun v25 W => ∃ k, v25 = .int .i64 (k : Nat) ∧ k ≤ cs.length ∧ OV w bm (upds (ovMap (l.take i)) (cs.take k)) W ∧ Whole W wo.heap.size #[.int .u32 s, .slice ac cs.length cc1, .slice ak rs.length ck1] 55) (fun v25 _ => (cs.length - intOf v25).toNat)
      case atStart => exact ⟨0, rfl, by omega, hX.out.1, hX.out.2⟩
      case round =>
        obtain ⟨k, rfl, hk, hV2, hW2⟩ := hrel
        have V2 := Lib.hid hV2
        have W2 := Lib.hid hW2
        clear hV2 hW2
        by_cases hkn : k < cs.length
        · obtain ⟨gc, oc, rfl, _, _, hgc, hatc⟩ := Sl.at (Sl.later P1.out V2.out.bel) cc_len (by omega) hkn
          obtain ⟨c, hc⟩ : ∃ c, cs[k]? = some c := ⟨_, List.getElem?_eq_getElem hkn⟩
          have hl0 := ldC (hatc k c hc)
          have hup : Hid (upds (ovMap (l.take i)) (cs.take (k + 1)) = updD (upds (ovMap (l.take i)) (cs.take k)) c.1 c) := by
            unfold Hid
            rw [List.take_add_one, hc]
            exact upds_snoc _ _ _
          clear hatc hc
          go_wp2_with (at_mapUpdate; refine wpl_updateD (f := cval) Try.underlying3 rfl _ _ _ 74 rfl 40 Try.underlying74 _ bm _ c.1 c rfl rfl rfl (V2.out.later ((Below.refl _ _).alloc (Nat.le_refl _) _)).map ?_; intro w3 hm3 hc3; have V3 := Lib.hid ((V2.out.later ((Below.refl _ _).alloc (Nat.le_refl _) _)).turn hm3 hc3); have W3 := Lib.hid ((W2.out.alloc (.cells (ca c) 40)).chg hc3 hbo.out); clear hm3 hc3)
          have v3 := V3.out
          rw [← hup.out] at v3
          exact ⟨⟨k + 1, rfl, by omega, v3, W3.out⟩, by simp [intOf]; omega⟩
        · obtain rfl : k = cs.length := by omega
          obtain ⟨wi, rfl⟩ : ∃ wi : World, wi = wr := ⟨_, rfl⟩
          have e2 := W2.out.cell 2
          simp at e2
          have hfull : Hid (upds (ovMap (l.take i)) (cs.take cs.length) = upds (ovMap (l.take i)) cs) := by unfold Hid; rw [List.take_length]
          rw [hfull.out] at V2
          go_wp2_with fail
          go_loopw [37] (fun v37 W => ∃ q, v37 = .int .i64 (q : Nat) ∧ q ≤ rs.length ∧ OV w bm (dels (upds (ovMap (l.take i)) cs) (rs.take q)) W) (fun v37 _ => (rs.length - intOf v37).toNat)
          case atStart => exact ⟨0, rfl, by omega, V2.out⟩
          case round =>
            obtain ⟨q, rfl, hq, hV4⟩ := hrel
            have V4 := Lib.hid hV4
            clear hV4
            by_cases hqn : q < rs.length
            · obtain ⟨gk, ok, rfl, _, _, hgk, hatk⟩ := Sl.at (Sl.later P2.out V4.out.bel) ic_len (by omega) hqn
              obtain ⟨b, hb⟩ : ∃ b, rs[q]? = some b := ⟨_, List.getElem?_eq_getElem hqn⟩
              have d0 := range_one (hatk q b hb)
              rw [Nat.mul_one] at d0
              have hdn : Hid (dels (upds (ovMap (l.take i)) cs) (rs.take (q + 1)) = delD (dels (upds (ovMap (l.take i)) cs) (rs.take q)) b) := by
                unfold Hid
                rw [List.take_add_one, hb]
                exact dels_snoc _ _ _
              clear hatk hb
              go_wp2_with (at_delete; refine wpl_deleteD (f := cval) Try.underlying3 rfl _ _ 74 3 rfl 40 Try.underlying74 _ bm _ b rfl rfl V4.out.map ?_; intro w5 hm5 hc5; have V5 := Lib.hid (V4.out.turn hm5 hc5); clear hm5 hc5)
              have v5 := V5.out
              rw [← hdn.out] at v5
              exact ⟨⟨q + 1, rfl, by omega, v5⟩, by simp [intOf]; omega⟩
            · obtain rfl : q = rs.length := by omega
              have v4 := V4.out
              rw [List.take_length] at v4
              have V5 := Lib.hid v4
              clear v4
              go_wp2_with fail
              have v5 := V5.out
              rw [show dels (upds (ovMap (l.take i)) cs) rs = ovMap (l.take (i + 1)) from hnext.out.symm] at v5
              exact ⟨⟨i + 1, rfl, by omega, v5⟩, by simp [intOf]; omega⟩
    · obtain rfl : i = l.length := by omega
      have v0 := V.out
      rw [List.take_length] at v0
      have V1 := Lib.hid v0
      clear v0
      have hmlen : Hid ((ovMap l).length ≤ 100000) := Nat.le_trans (ovMap_len l) hn
      have hnd : Hid (((lift cval (ovMap l)).map (·.1)).Nodup) := MapAt.nodup V1.out.map
      have hbw : Hid (bm < wo.heap.size) := V1.out.map.lt
      obtain ⟨i0, hi0, hz0, hz1, hz2⟩ := info_parts info3
      obtain ⟨j0, hj0, jz0, jz1, jz2⟩ := info_parts zeroC
      go_wp2_with (at_range; refine wpl_range rfl _ 74 rfl 40 Try.underlying74 _ bm (lift cval (ovMap l)) rfl V1.out.map ?_; intro W2 hr2 hb2 hz2; have R := Lib.hid hr2; have B := Lib.hid hb2; have hz := Lib.hid hz2; clear hr2 hb2 hz2; go_frame)
      go_loopw [10] (fun v10 W => ∃ ks left, KI wo (lift cval (ovMap l)) bm v10 ks left W) (fun _ W => W.rangeLeft bm wo.heap.size)
      case atStart => exact ⟨[], _, R.out, B.out, World.ownsRow_nil W2 (wo.heap.size + 1) 3 1, by simp, by rw [hz.out]; omega⟩
      case round =>
        obtain ⟨ks, left, hI⟩ := hrel
        have I := Lib.hid hI
        have hnl : Hid ((left.map (·.1)).Nodup) := hnd.out.sublist (hI.rng.sub.map _)
        have hms : Hid (wr.rangeLeft bm wo.heap.size = left.length) := hI.rng.left_eq
        have hkl : ks.length ≤ 100000 := by
          have h1 := hI.perm.length_eq
          rw [List.length_append, List.length_map, List.length_map, lift_len] at h1
          have := hmlen.out
          omega
        clear hI
        go_wp2_with (at_next; refine wpl_nextD rfl _ rfl _ wo.heap.size bm _ left rfl I.out.rng ?_ ?_)
        · intro hnil
          have hN := Lib.hid hnil
          clear hnil
          have hperm : Hid (sortI ks = ovKeys l) := by
            have := I.out.perm
            rw [hN.out, List.map_nil, List.append_nil, lift_keys] at this
            exact mergeSort_of_perm_i this
          obtain ⟨ao2, cap2, hsh⟩ := own_shape I.out.own
          subst hsh
          have hsort := Lib.hid (ints_own (wo.heap.size + 1) _ ks wr I.out.own (by omega))
          go_wp2_with (go_at_call 36; refine hsort.out.mono ?_; rintro e ws ⟨rfl, hso, hsg⟩; have SO := Lib.hid hso; have SG := Lib.hid hsg; clear hso hsg)
          obtain ⟨K, hKH, hKl⟩ : ∃ K, Hid (sortI ks = K) ∧ Hid (K.length = ks.length) := ⟨_, rfl, sortI_len ks⟩
          have SS := Lib.hid (Sl.own SO.out)
          rw [hKH.out, ← hKl.out] at SS
          obtain ⟨_, _, hsh2, hkc, hcm, _⟩ := SS.out.ex
          cases hsh2
          unfold maxLen at hcm
          rw [hKH.out] at hperm
          have hbs2 : Hid (Below w.heap.size w ws) := (V1.out.bel.trans (I.out.bel.mono V1.out.bel.size)).grown SG.out (Nat.le_trans V1.out.bel.size I.out.bel.size) (fun k hk => by have := (I.out.own.lt k hk).1; have := V1.out.bel.size; omega)
          have hbw2 : Hid (bm < ws.heap.size) := Nat.lt_of_lt_of_le I.out.rng.lt.2.1 SG.out.size
          have L0 : Hid (LI ws bm (ovMap l) (.slice none 0 0) [] ws) := by
            refine ⟨?_, Below.refl _ _, World.ownsRow_nil _ _ _ _⟩
            have := MapAt.of_heap I.out.rng.map (SG.out.block bm I.out.rng.lt.2.1 (fun e => by have := (I.out.own.lt bm e.symm).1; have := hbw.out; omega))
            exact this
          have hK1 : K.length ≤ 100000 := by have := hKl.out; omega
          rw [← hKl.out]
          clear hsort SO SG hKH
          go_loopw [12, 59] (fun v12 v59 W => ∃ i out, v59 = .int .i64 (i : Nat) ∧ i ≤ K.length ∧ LI ws bm (ovMap l) v12 out W ∧ out = (K.take i).map (pick (ovMap l))) (fun _ v59 _ => (K.length - intOf v59).toNat)
          case atStart => exact ⟨0, [], rfl, by omega, L0.out, rfl⟩
          case round =>
            obtain ⟨q, out, rfl, hq, hL, hout⟩ := hrel
            have hol : out.length = q := by rw [hout, List.length_map, List.length_take]; omega
            have L := Lib.hid hL
            have hoH := Lib.hid hout
            clear hL hout
            by_cases hqn : q < K.length
            · obtain ⟨gk, ok, rfl, _, _, hgk, hatk⟩ := Sl.at (Sl.later SS.out L.out.bel) ic_len (by omega) hqn
              obtain ⟨b, hb⟩ : ∃ b, K[q]? = some b := ⟨_, List.getElem?_eq_getElem hqn⟩
              have d0 := range_one (hatk q b hb)
              rw [Nat.mul_one] at d0
              have hbH := Lib.hid hb
              have hbs := run_bsC (pick (ovMap l) b)
              have hcl : ∀ q, K.length = q → q ≤ 100000 := fun q h => by omega
              clear hatk hb
              go_wp2_with (first
                | (at_lookup; refine wpl_lookupV (f := cval) Try.underlying3 rfl _ _ 74 rfl 40 Try.underlying74 zeroC1 _ bm (ovMap l) b rfl rfl L.out.map _ (pick_eq _ _) ?_)
                | (at_builtin; refine wpList_append_own_at _ rfl _ _ 33 rfl ws.heap.size 40 j0 (.agg (ca (0, fun _ => 0))) 257 264 Try.underlying33 hj0 jz0 jz1 jz2 (ca_size _) (by decide) _ _ _ rfl (L.out.own.alloc _) ⟨wr.heap.size, 0, none⟩ 1 1 (cc (pick (ovMap l) b)) rfl (by rw [cc_len]) (Whole.news (Whole.new wr (ca (pick (ovMap l) b)) 40)) (cc_one _) (by unfold maxLen; omega) (by omega) (by have := L.out.bel.size; simp; omega) ?_; intro v3 W3 hown3 hgrow3 _ _; have L3 := Lib.hid (L.out.app hbw2.out hown3 hgrow3); clear hown3 hgrow3))
              refine ⟨⟨q + 1, _, rfl, by omega, L3.out, ?_⟩, by simp [intOf]; omega⟩
              rw [List.take_add_one, hbH.out, hoH.out]
              simp
            · obtain rfl : q = K.length := by omega
              go_wp2_with fail
              go_ret
              have he : out = ovOut l := by rw [hoH.out, List.take_length, hperm.out]; rfl
              refine ⟨_, rfl, ?_, ?_⟩
              · rw [← he]
                exact own_mono L.out.own hbs2.out.size
              · exact hbs2.out.trans (L.out.bel.mono hbs2.out.size)
        · intro b x w3 hp hr3 hc3 hen
          have hpH := Lib.hid hp
          have hr3H := Lib.hid hr3
          have hc3H := Lib.hid hc3
          have O3 : Hid (∀ o, (w3.alloc o).ownsRow (wo.heap.size + 1) 3 1 u10 ks.length (flat ic ks)) := fun o => (own_apart I.out.own hc3.grownD (fun k hk => by have := (I.out.own.lt k hk).1; omega)).alloc o
          have hs3 : wo.heap.size < w3.heap.size := hr3.lt.1
          clear hp hr3 hc3
          go_wp2_with (at_builtin; refine wpList_append_own_at _ rfl _ _ 53 rfl (wo.heap.size + 1) 3 i0 (.int .i64 0) 1 8 Try.underlying53 hi0 hz0 hz1 hz2 rfl (by decide) _ _ _ rfl (O3.out _) ⟨w3.heap.size, 0, none⟩ 1 1 (ic b) rfl rfl (cell_one_new _ _ _) (fun u hu => by simp [ic] at hu; subst hu; rfl) (by unfold maxLen; omega) (by omega) (by simp; omega) ?_; intro v5 w5 hown hgrow _ _; have E5 := Lib.hid (I.out.app hnl.out hbw.out hr3H.out hc3H.out hpH.out hown hgrow); clear hown hgrow O3)
          exact ⟨⟨_, _, E5.out.1⟩, E5.out.2⟩
end Go.Proofs.Ytdeeegodiacjgaa
