/- Transactions told in short, as the given statements lay them. The rows' bytes are below 256; at most 1000 rows and revoked blocks. -/
import Derived.Test.YtdeeegodiacjgaaW3
import Derived.Test.YtdeeegodiacjgaaPlan
import Derived.Test.YtdeeegodiacjgaaBuild
namespace Go.Proofs.Ytdeeegodiacjgaa
open Go.RowKit
attribute [local go_sem ↓] loadAtB storeAtB loadAtC storeAtC buildAtC sliceAtC sliceAtB
def rwc (x : Rw) : List Value := [.int .i64 x.1, .int .u8 (x.2.1 : Int), .bool x.2.2]
theorem rwc_len (x : Rw) : (rwc x).length = 3 := rfl
def Rws (W : World) (v : Value) (l : List Rw) : Prop := Sl W v l.length (flat rwc l)
def rowC (x : Rw) : Cp := (x.1, rowB x)
theorem info3 : (Try.prog.info? 3).map (fun i => (i.zero, i.size, i.bytes)) = some (some (.int .i64 0), 1, 8) := by kernel_rfl
theorem ic_one (l : List Int) : ∀ u ∈ flat ic l, u.oneCell' = true := flat_one (fun x u hu => by simp [ic] at hu; subst hu; rfl) l
/-- The transaction that is built, at block g. -/
structure TB (w : World) (g : Nat) (s : Int) (cv rv : Value) (cs : List Cp) (ks : List Int) (W : World) : Prop where
  cells : Whole W g #[.int .u32 s, cv, rv] 55
  zero : Whole W w.heap.size #[.int .u32 0, .slice none 0 0, .slice none 0 0] 55
  cps : W.ownsRow (g + 1) 40 257 cv cs.length (flat cc cs)
  rvs : W.ownsRow (w.heap.size + 1) 3 1 rv ks.length (flat ic ks)
  low : ∀ k, rv.ownBlock = some k → k < g
  bel : Below w.heap.size w W
  gw : w.heap.size < g
theorem TB.later {w : World} {g : Nat} {s : Int} {cv rv : Value} {cs : List Cp} {ks : List Int} {W W' : World} (h : TB w g s cv rv cs ks W) (hb : Below W.heap.size W W') : TB w g s cv rv cs ks W' :=
  ⟨h.cells.later hb, h.zero.later hb, own_later h.cps hb, own_later h.rvs hb, h.low, h.bel.trans (hb.mono h.bel.size), h.gw⟩
theorem grownBy_setCell (w : World) (g i : Nat) (v : Value) : w.grownBy (w.setCell ⟨g, i, none⟩ v) (some g) :=
  ⟨rfl, rfl, rfl, by simp [World.setCell], fun k _ hk => heap_setCell_other w ⟨g, i, none⟩ k v (fun e => hk (by rw [e]))⟩
theorem own_apart {W W' : World} {base e size n g : Nat} {v : Value} {xs : List Value} (h : W.ownsRow base e size v n xs) (hg : W.grownBy W' (some g)) (hne : ∀ k, v.ownBlock = some k → k ≠ g) : W'.ownsRow base e size v n xs :=
  h.kept hg (by
    cases hv : v.ownBlock with
    | none => exact .inl rfl
    | some i => exact .inr (fun e => by cases e; exact hne _ hv rfl))
theorem Whole.news {W : World} {g : Nat} {cs : List Value} {t : TypeId} (h : Whole W g cs.toArray t) : ∀ j u, cs[j]? = some u → W.cell? ((⟨g, 0, none⟩ : Addr).add j) = some u := fun j u hj => by
  rw [Addr.add_mid, Nat.zero_add, h.cell j]
  simpa using hj
theorem TB.step {w : World} {g : Nat} {s : Int} {cv rv v' : Value} {cs : List Cp} {ks : List Int} {W W3 : World} {o : Obj} {c : Cp} (h : TB w g s cv rv cs ks W) (hO : W3.ownsRow (g + 1) 40 257 v' (cs.length + 1) (flat cc cs ++ cc c)) (hg : (W.alloc o).grownBy W3 cv.ownBlock) :
    TB w g s v' rv (cs ++ [c]) ks (W3.setCell ⟨g, 1, none⟩ v') := by
  have hgW : g + 1 ≤ W.heap.size := h.cells.lt
  have h3 : Below (g + 1) W W3 := below_app (Below.refl _ _) hgW h.cps ((Below.refl _ _).alloc (Nat.le_refl _) _) hg
  have hc : Whole W3 g #[.int .u32 s, cv, rv] 55 := (h3.block g (by omega)).trans h.cells
  have hz : Whole W3 w.heap.size #[.int .u32 0, .slice none 0 0, .slice none 0 0] 55 := (h3.block _ (by have := h.gw; omega)).trans h.zero
  have hr : W3.ownsRow (w.heap.size + 1) 3 1 rv ks.length (flat ic ks) := (h.rvs.alloc o).kept hg (by
    cases hv : rv.ownBlock with
    | none => exact .inl rfl
    | some j => exact .inr (fun e => by have := h.low j hv; have := (h.cps.lt j e.symm).1; omega))
  refine ⟨hc.set 1 v', hz.set_other _ _ (by have := h.gw; simp; omega), ?_, own_apart hr (grownBy_setCell _ _ _ _) (fun k hk => by have := h.low k hk; omega), h.low, (h.bel.trans (h3.mono (by have := h.gw; omega))).setCell (by have := h.gw; simp; omega) _, h.gw⟩
  rw [flat_snoc, List.length_append]
  exact own_apart hO (grownBy_setCell _ _ _ _) (fun k hk => by have := (hO.lt k hk).1; omega)
set_option maxRecDepth 100000 in
set_option maxHeartbeats 4000000 in
theorem trans_any (s : Int) (rs : List Rw) (ks : List Int) (hr : ∀ x ∈ rs, x.2.1 < 256) (hrl : rs.length ≤ 1000) (hkl : ks.length ≤ 1000) (va vk : Value) (w : World) (ha : Rws w va rs) (hk : Ints w vk ks) :
    Calls Try.prog 33 #[.int .u32 s, va, vk] w fun e w' => ∃ cv rv, e = .returned (.agg #[.int .u32 s, cv, rv]) ∧ w'.ownsRow w.heap.size 40 257 cv (rs.map rowC).length (flat cc (rs.map rowC)) ∧ w'.ownsRow w.heap.size 3 1 rv ks.length (flat ic ks) ∧ Below w.heap.size w w' := by
  have HA := Lib.hid ha
  have HK := Lib.hid hk
  have HR := Lib.hid hr
  obtain ⟨aa, acap, rfl, ha1, ha2, _⟩ := ha.ex
  obtain ⟨ak, kcap, rfl, hk1, hk2, hk3, hk4⟩ := hk.ex
  obtain ⟨i0, hi0, hz0, hz1, hz2⟩ := info_parts info3
  clear ha hk hr
  unfold maxLen at ha2 hk2
  have hbz : (w.alloc (.cells #[.int .u32 0, .slice none 0 0, .slice none 0 0] 55)).heap.size = w.heap.size + 1 := by simp
  have hlit : Hid (((w.alloc (.cells #[.int .u32 0, .slice none 0 0, .slice none 0 0] 55)).alloc (.cells #[] 3)).ownsRow (w.heap.size + 1) 3 1 (.slice (some ⟨w.heap.size + 1, 0, none⟩) 0 0) 0 []) := by
    have := World.ownsRow_lit (base := w.heap.size + 1) (e := 3) (size := 1) (w.alloc (.cells #[.int .u32 0, .slice none 0 0, .slice none 0 0] 55)) #[] 0 (by simp) (by simp [maxLen]) (by simp)
    rw [hbz] at this
    exact this
  clear hbz
  have hsrc : Hid (Sl ((w.alloc (.cells #[.int .u32 0, .slice none 0 0, .slice none 0 0] 55)).alloc (.cells #[] 3)) (.slice ak ks.length kcap) ks.length (flat ic ks)) := Sl.later HK.out (((Below.refl _ _).alloc (Nat.le_refl _) _).alloc (by simp) _)
  have hln : (flat ic ks).length = ks.length * 1 := by rw [flat_len ic_len]
  obtain ⟨j0, hj0, jz0, jz1, jz2⟩ := info_parts zeroC
  go_enter Try.func33, Try.ntmps33
  go_wp2_with (at_builtin; refine wpl_append_sl rfl _ _ 53 rfl (w.heap.size + 1) 3 i0 (.int .i64 0) 1 8 Try.underlying53 hi0 hz0 hz1 hz2 rfl (by decide) _ 0 [] rfl hlit.out _ ks.length (flat ic ks) rfl hsrc.out hln (ic_one _) (by unfold maxLen; omega) (by omega) (by simp) ?_; intro v1 W1 hown1 hgrow1; obtain ⟨ao1, cap1, rfl⟩ := own_shape hown1; have O1 := Lib.hid hown1; have B1 : Hid (Below (w.heap.size + 1) (w.alloc (.cells #[.int .u32 0, .slice none 0 0, .slice none 0 0] 55)) W1) := below_app ((Below.refl _ _).alloc (by simp) _) (by simp) hlit.out (Below.refl _ _) hgrow1; clear hown1 hgrow1)
  have T0 : Hid (TB w W1.heap.size s (.slice none 0 0) (.slice ao1 ks.length cap1) [] ks (W1.alloc (.cells #[.int .u32 s, .slice none 0 0, .slice ao1 ks.length cap1] 55))) := by
    have hO := O1.out
    rw [Nat.zero_add, List.nil_append] at hO
    have hsz := B1.out.size
    simp at hsz
    refine ⟨Whole.new _ _ _, Whole.alloc ((B1.out.block _ (by omega)).trans (Whole.new w _ 55)) _, World.ownsRow_nil _ _ _ _, hO.alloc _, fun k hk => (hO.lt k hk).2, ?_, by omega⟩
    exact ((((Below.refl _ _).alloc (Nat.le_refl _) _).trans (B1.out.mono (by omega))).alloc (by omega) _)
  generalize W1.heap.size = g at *
  clear O1 B1
  go_loopw [8] (fun v8 W => ∃ k cv cs, v8 = .int .i64 (k : Nat) ∧ k ≤ rs.length ∧ TB w g s cv (.slice ao1 ks.length cap1) cs ks W ∧ cs = (rs.take k).map rowC) (fun v8 _ => (rs.length - intOf v8).toNat)
  case atStart => exact ⟨0, _, [], rfl, by omega, T0.out, rfl⟩
  case round =>
    obtain ⟨k, cv, cs, rfl, hk, hT, hcs⟩ := hrel
    have hlen : cs.length ≤ 1000 := by rw [hcs, List.length_map, List.length_take]; omega
    have hcsH := Lib.hid hcs
    clear hcs
    have T := Lib.hid hT
    obtain ⟨ac, cc1, rfl⟩ := own_shape hT.cps
    have A2 := Lib.hid (Sl.later HA.out (hT.bel.mono (Nat.le_refl _)))
    have c1 := hT.cells.cell 1
    simp at c1
    have hgl : Hid (g < wr.heap.size) := hT.cells.lt
    clear hT
    by_cases hin : k < rs.length
    · obtain ⟨ga, oa, rfl, _, _, hga, hat⟩ := Sl.at A2.out rwc_len (by omega) hin
      obtain ⟨x, hx⟩ : ∃ x, rs[k]? = some x := ⟨_, List.getElem?_eq_getElem hin⟩
      obtain ⟨d0, d1, d2⟩ := range_three (hat k x hx)
      have hx256 := Lib.hid (HR.out x (List.mem_of_getElem? hx))
      have hxH := Lib.hid hx
      have f0 : ∀ p : Kept (fun w' => Below wr.heap.size wr w'), p.x.cell? ⟨ga, oa + k * 3, none⟩ = some (.int .i64 x.1) := fun p => (World.cell?_of_block (p.h.block _ hga)).trans d0
      have f1 : ∀ p : Kept (fun w' => Below wr.heap.size wr w'), p.x.cell? ⟨ga, oa + k * 3 + 1, none⟩ = some (.int .u8 (x.2.1 : Int)) := fun p => (World.cell?_of_block (p.h.block _ hga)).trans d1
      have f2 : ∀ p : Kept (fun w' => Below wr.heap.size wr w'), p.x.cell? ⟨ga, oa + k * 3 + 2, none⟩ = some (.bool x.2.2) := fun p => (World.cell?_of_block (p.h.block _ hga)).trans d2
      have f3 : ∀ p : Kept (fun w' => Below wr.heap.size wr w'), p.x.cell? ⟨g, 1, none⟩ = some (.slice ac cs.length cc1) := fun p => (World.cell?_of_block (p.h.block _ hgl.out)).trans c1
      have hne : Nonempty (Kept (fun w' => Below wr.heap.size wr w')) := ⟨⟨wr, Below.refl _ _⟩⟩
      have hbc := run_buildC x.1 (rowB x)
      have hbs := run_bsC (x.1, rowB x)
      clear hat d0 d1 d2 c1 hx
      go_wp2_with fail
      refine wp_region_plan (fun w' => Below wr.heap.size wr w') [(0, 0), (1, 1), (0, 2), (0, 3), (0, 4), (0, 5), (1, 6), (0, 7), (0, 8), (0, 9), (1, 10), (2, 11), (0, 12), (2, 13), (3, 14), (0, 15), (3, 16)] (by kernel_rfl) (by kernel_rfl) (Below.refl _ _).drew ?_
      repeat (first | (refine wpPlan_pure rfl (fun K hK => ?_); go_simp; refine hK _ ?_; clear hK K) | (refine wpPlan_held rfl (fun K hK => ?_); go_simp; refine hK _ ?_; clear hK K))
      refine wpPlan_turn rfl (fun K hK => ?_)
      go_wp2_with (go_at_call 12; refine (block_any x hx256.out _).mono ?_; rintro e w2 ⟨rfl, hw2⟩; have H2 : Hid (Below wr.heap.size wr w2) := ((Below.refl _ _).drew).trans hw2; clear hw2)
      refine hK.out _ _ H2.out ?_
      clear hK K
      repeat (first | (refine wpPlan_pure rfl (fun K hK => ?_); go_simp; refine hK _ ?_; clear hK K) | (refine wpPlan_held rfl (fun K hK => ?_); go_simp; refine hK _ ?_; clear hK K))
      refine wpPlan_turn rfl (fun K hK => ?_)
      go_wp2_with fail
      refine hK.out _ _ (H2.out.alloc H2.out.size _) ?_
      clear hK K
      have T2 := Lib.hid (T.out.later H2.out)
      have hgs : Hid (g + 1 ≤ w2.heap.size) := T2.out.cells.lt
      refine wpPlan_last rfl (fun K hK => ?_)
      go_wp2_with (at_builtin; refine wpList_append_own_at _ rfl _ _ 33 rfl (g + 1) 40 j0 (.agg (ca (0, fun _ => 0))) 257 264 Try.underlying33 hj0 jz0 jz1 jz2 (ca_size _) (by decide) _ _ _ rfl (T2.out.cps.alloc _) ⟨w2.heap.size, 0, none⟩ 1 1 (cc (x.1, rowB x)) rfl (by rw [cc_len]) (Whole.news (Whole.new w2 (ca (x.1, rowB x)) 40)) (cc_one _) (by unfold maxLen; omega) (by omega) (by have := hgs.out; simp; omega) ?_; intro v3 W3 hown3 hgrow3 _ _; have T3 := Lib.hid (T2.out.step hown3 hgrow3); obtain ⟨ao3, cap3, rfl⟩ := own_shape hown3; have C3 := Lib.hid (((below_app (Below.refl _ _) hgs.out T2.out.cps ((Below.refl _ _).alloc (Nat.le_refl _) _) hgrow3).block g (by omega)).trans T2.out.cells); clear hown3 hgrow3)
      refine hK.out _ _ ?_
      clear hK K
      repeat (first | (refine wpPlan_pure rfl (fun K hK => ?_); go_simp; refine hK _ ?_; clear hK K) | (refine wpPlan_held rfl (fun K hK => ?_); go_simp; refine hK _ ?_; clear hK K))
      refine wpPlan_last rfl (fun K hK => ?_)
      have e1 := Whole.cell C3.out 1
      have e2 := Whole.free C3.out 1
      simp at e1
      go_wp2_with fail
      refine hK.out _ _ ?_
      clear hK K
      refine wpPlan_nil ?_
      go_wp2_with fail
      refine ⟨⟨k + 1, _, _, rfl, by omega, T3.out, ?_⟩, by simp [intOf]; omega⟩
      rw [List.take_add_one, hxH.out, hcsH.out]
      simp [rowC]
    · obtain rfl : k = rs.length := by omega
      have hT := T.out
      have hgw := Lib.hid hT.gw
      have e0 := hT.cells.cell 0
      have e1 := hT.cells.cell 1
      have e2 := hT.cells.cell 2
      have z0 := hT.zero.cell 0
      have z1 := hT.zero.cell 1
      have z2 := hT.zero.cell 2
      have y0 := hT.zero.free 0
      have y1 := hT.zero.free 1
      have y2 := hT.zero.free 2
      simp at e0 e1 e2 z0 z1 z2
      have hZ := Lib.hid (((hT.zero.set 0 (.int .u32 s)).set 1 (.slice ac cs.length cc1)).set 2 (.slice ao1 ks.length cap1))
      have hB := Lib.hid (((hT.bel.setCell (p := ⟨w.heap.size, 0, none⟩) (Nat.le_refl _) (.int .u32 s)).setCell (p := ⟨w.heap.size, 1, none⟩) (Nat.le_refl _) (.slice ac cs.length cc1)).setCell (p := ⟨w.heap.size, 2, none⟩) (Nat.le_refl _) (.slice ao1 ks.length cap1))
      have hC : Hid (((wr.setCell ⟨w.heap.size, 0, none⟩ (.int .u32 s)).setCell ⟨w.heap.size, 1, none⟩ (.slice ac cs.length cc1)).setCell ⟨w.heap.size, 2, none⟩ (.slice ao1 ks.length cap1) |>.ownsRow (g + 1) 40 257 (.slice ac cs.length cc1) cs.length (flat cc cs)) := by
        have hne : ∀ k, (Value.slice ac cs.length cc1).ownBlock = some k → k ≠ w.heap.size := fun k hk => by have := (hT.cps.lt k hk).1; have := hT.gw; omega
        exact own_apart (own_apart (own_apart hT.cps (grownBy_setCell _ _ _ _) hne) (grownBy_setCell _ _ _ _) hne) (grownBy_setCell _ _ _ _) hne
      have hR : Hid (((wr.setCell ⟨w.heap.size, 0, none⟩ (.int .u32 s)).setCell ⟨w.heap.size, 1, none⟩ (.slice ac cs.length cc1)).setCell ⟨w.heap.size, 2, none⟩ (.slice ao1 ks.length cap1) |>.ownsRow (w.heap.size + 1) 3 1 (.slice ao1 ks.length cap1) ks.length (flat ic ks)) := by
        have hne : ∀ k, (Value.slice ao1 ks.length cap1).ownBlock = some k → k ≠ w.heap.size := fun k hk => by have := (hT.rvs.lt k hk).1; omega
        exact own_apart (own_apart (own_apart hT.rvs (grownBy_setCell _ _ _ _) hne) (grownBy_setCell _ _ _ _) hne) (grownBy_setCell _ _ _ _) hne
      clear hT
      go_wp2_with fail
      have hcs := hcsH.out
      rw [List.take_length] at hcs
      subst hcs
      refine bodyPost_ret (results_cell_row rfl _ _ w.heap.size 55 #[.int .u32 s, .slice ac (rs.map rowC).length cc1, .slice ao1 ks.length cap1] (0, 0) _ rfl (by simpa [Whole] using hZ.out) Try.underlying55 rfl (by kernel_rfl)) rfl ⟨_, _, rfl, own_mono hC.out (by have := hgw.out; omega), own_mono hR.out (by omega), hB.out⟩
end Go.Proofs.Ytdeeegodiacjgaa
