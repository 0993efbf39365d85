/- The disk's Flush and Read, walked. -/
import Derived.Test.YtbcjcfjbdjdajaaDiskB
namespace Go.Proofs.Ytbcjcfjbdjdajaa
open Go.RowKit
attribute [local go_sem ↓] loadAtB storeAtB loadAtW storeAtW buildAtW sliceAtW
theorem stWnew (w : World) (c z : Cp) : (bigStoreAt 90 (.pointer (some ⟨w.heap.size, 0, none⟩)) (.agg (ca c))).run Try.prog (w.alloc (.cells (ca z) 90)) = .ok () (w.alloc (.cells (ca c) 90)) := by
  have hW := Whole.new w (ca z) 90
  have h := stW (W := w.alloc (.cells (ca z) 90)) (g := w.heap.size) (o := 0) c (fun j hj => ⟨by rw [hW.cell (0 + j)]; simp [ca, cc_len]; omega, hW.free _⟩)
  rw [h]
  exact congrArg _ (setCells_whole w (cc z) 90 (cc c) (by rw [cc_len, cc_len]))
theorem zcW : Try.zeroCells90 = ca (0, fun _ => 0) := by kernel_rfl
theorem rangeCa {W : World} {g : Nat} {c : Cp} {t : TypeId} (h : Whole W g (ca c) t) : W.rangeAt g 0 (cc c) := by
  intro j v hv
  rw [Nat.zero_add, h.cell j]
  simpa [ca] using hv
theorem ca_head (c : Cp) : (ca c)[0]? = some (.int .i64 c.1) := by simp [ca, cc]
theorem ldB2 (w : World) (c : Cp) (t : TypeId) : (bigLoadAt 32 (.pointer (some ⟨w.heap.size, 1, none⟩))).run Try.prog (w.alloc (.cells (ca c) t)) = .ok (.agg (blk c.2)) (w.alloc (.cells (ca c) t)) := by
  have h := rangeCa (Whole.new w (ca c) t)
  refine ldB (W := w.alloc (.cells (ca c) t)) (g := w.heap.size) (o := 0 + 1) (rangeAt_sub h fun j v hv => ?_)
  unfold cc
  rw [Nat.add_comm, List.getElem?_cons_succ]
  exact hv
/-- How far the writes that wait are done. -/
structure FL (w : World) (base r gs gn : Nat) (vw : Value) (D : Dk) (i : Nat) (W : World) : Prop where
  at_ : DAt W base r gs gn vw { D with safe := overL D.safe (D.wait.take i) }
  ch : Ch (fun k => k = gs) w W
set_option maxRecDepth 100000 in
set_option maxHeartbeats 1000000 in
theorem flush_at {W : World} {base r gs gn : Nat} {vw : Value} {D : Dk} (ha : D.acts < 1000000000) (h : DAt W base r gs gn vw D) :
    Calls Try.prog 41 #[.pointer (some ⟨r, 0, none⟩)] W (DPost (.int .i64 (dRefuse D 0)) base r gs gn vw (dFlush D) W) := by
  have H := Lib.hid h
  clear h
  by_cases hr : dRefuse D 0 = 0
  · have hcall := Lib.hid (refuse_at 0 H.out)
    rw [hr] at hcall ⊢
    have hD : Hid (dFlush D = dSync D) := by unfold dFlush Hid; rw [if_pos hr]
    rw [hD.out]
    clear hr hD
    have hst := stWnew
    have hzc := zcW
    have hc0 := ca_head
    have hl1 := ldB2
    go_enter Try.func41, Try.ntmps41
    go_wp2_with (first
      | (go_at_call 35; refine hcall.out.mono ?_; rintro e w1 ⟨rfl, rfl⟩)
      | (go_at_call 47; refine (act_at ha H.out).mono ?_; rintro e w2 ⟨rfl, hd2, hc2⟩; have D2 := Lib.hid hd2; have C2 := Lib.hid hc2; clear hd2 hc2; obtain ⟨_, _, _, _, c2, _⟩ := D2.out.cells; obtain ⟨aw, kw, hsh⟩ := own_shape (show w2.ownsRow base 90 257 vw D.wait.length (flat cc D.wait) from D2.out.wait); subst hsh))
    have hst2 := stWnew
    have F0 : Hid (FL w2 base r gs gn (.slice aw D.wait.length kw) (dAct D) 0 w2) := ⟨D2.out, Ch.refl _ _⟩
    have hkw : Hid (0 < D.wait.length → kw ≤ maxLen) := fun hp => by
      rcases D2.out.wait.2 with ⟨h0, h1⟩ | ⟨g', cap', cur, hv, hb, hg, a1, a2, _⟩
      · exact absurd (show D.wait.length = 0 from h1) (by omega)
      · cases hv; exact a2
    have hw6 : D.wait.length ≤ 1000000 := H.out.ok.few
    obtain ⟨wo, rfl⟩ : ∃ wo : World, wo = w1 := ⟨_, rfl⟩
    clear c2 hst
    go_loopw [18] (fun v18 W => ∃ i, v18 = .int .i64 (i : Nat) ∧ i ≤ D.wait.length ∧ FL w2 base r gs gn (.slice aw D.wait.length kw) (dAct D) i W) (fun v18 _ => (D.wait.length - intOf v18).toNat)
    case atStart => exact ⟨0, rfl, by omega, F0.out⟩
    case round =>
      obtain ⟨i, rfl, hi, hF⟩ := hrel
      have FF := Lib.hid hF
      clear hF
      by_cases hin : i < D.wait.length
      · obtain ⟨gw, ow, hsh, k1, k2, hgw, hat⟩ := Sl.at (l := D.wait) (Sl.own FF.out.at_.wait) cc_len (by omega) hin
        subst hsh
        have k3 := hkw.out (by omega)
        unfold maxLen at k3
        obtain ⟨⟨b, x⟩, hcx⟩ : ∃ c, D.wait[i]? = some c := ⟨_, List.getElem?_eq_getElem hin⟩
        have hl0 := ldW (hat i _ hcx)
        have hrg := H.out.ok.rng _ (List.mem_of_getElem? hcx)
        obtain ⟨q, rfl⟩ : ∃ q : Nat, b = q := ⟨b.toNat, by have := hrg.1; simp at this; omega⟩
        have hq : q < D.safe.length := by have := hrg.2; simp at this; omega
        have hnext : Hid (overL D.safe (D.wait.take (i + 1)) = (overL D.safe (D.wait.take i)).set q x) := by
          unfold Hid
          rw [List.take_add_one, hcx]
          refine (overL_snoc _ _ _).trans ?_
          unfold ovPut
          rw [if_pos ⟨by simp, by rw [overL_len]; simp; omega⟩]
          rfl
        clear hrg hcx hat
        go_wp2_with fail
        have FA : Hid (FL w2 base r gs gn (.slice (some ⟨gw, ow, none⟩) D.wait.length kw) (dAct D) i (wr.alloc (.cells (ca ((q : Int), x)) 90))) := ⟨FF.out.at_.later ((Below.refl _ _).alloc (Nat.le_refl _) _), FF.out.ch.same (Ch.of_below ((Below.refl _ _).alloc (Nat.le_refl _) _))⟩
        have cA : (wr.alloc (.cells (ca ((q : Int), x)) 90)).cell? ⟨wr.heap.size, 0, none⟩ = some (.int .i64 (q : Int)) := by rw [(Whole.new wr (ca ((q : Int), x)) 90).cell 0]; exact ca_head _
        have lA := Lib.hid (fun (W' : World) (hb : Below (wr.alloc (.cells (ca ((q : Int), x)) 90)).heap.size (wr.alloc (.cells (ca ((q : Int), x)) 90)) W') => ldB (W := W') (g := wr.heap.size) (o := 0 + 1) (b := x) (rangeAt_sub (rangeCa ((Whole.new wr (ca ((q : Int), x)) 90).later hb)) fun j v hv => by unfold cc; rw [Nat.add_comm, List.getElem?_cons_succ]; exact hv))
        have szA : wr.heap.size < (wr.alloc (.cells (ca ((q : Int), x)) 90)).heap.size := by simp
        generalize hWA : wr.alloc (.cells (ca ((q : Int), x)) 90) = wa at FA cA lA szA ⊢
        obtain ⟨cs, _, c0, _, _, _, _, k5, k6, _⟩ := FA.out.at_.cells
        have e0 : (overL D.safe (D.wait.take i)).length = D.safe.length := overL_len _ _
        replace c0 : wa.cell? ⟨r, 0, none⟩ = some (.slice (some ⟨gs, 0, none⟩) D.safe.length cs) := by rw [c0]; exact congrArg (fun n => some (Value.slice (some ⟨gs, 0, none⟩) n cs)) e0
        replace k5 : D.safe.length ≤ cs := Nat.le_trans (Nat.le_of_eq e0.symm) k5
        unfold maxLen at k6
        have hlt : r < wa.heap.size := (FA.out.at_.lt r (.inl rfl)).2
        have hne : Nonempty (Kept (fun w' => Below wa.heap.size wa w')) := ⟨⟨wa, Below.refl _ _⟩⟩
        have f0 : ∀ p : Kept (fun w' => Below wa.heap.size wa w'), p.x.cell? ⟨r, 0, none⟩ = some (.slice (some ⟨gs, 0, none⟩) D.safe.length cs) := fun p => (World.cell?_of_block (p.h.block _ hlt)).trans c0
        have f1 : ∀ p : Kept (fun w' => Below wa.heap.size wa w'), p.x.cell? ⟨wr.heap.size, 0, none⟩ = some (.int .i64 (q : Int)) := fun p => (World.cell?_of_block (p.h.block _ szA)).trans cA
        have f2 : ∀ p : Kept (fun w' => Below wa.heap.size wa w'), (bigLoadAt 32 (.pointer (some ⟨wr.heap.size, 1, none⟩))).run Try.prog p.x = .ok (.agg (blk x)) p.x := fun p => lA.out p.x p.h
        have DD := Lib.hid (FA.out.at_.later ((Below.refl _ _).drew))
        obtain ⟨_, _, _, hn7, _⟩ := DD.out.obj
        have hs2 := stB x (own_there hn7 (q * 256) 256 (by show q * 256 + 256 ≤ (overL D.safe (D.wait.take i)).length * 256; rw [e0]; omega))
        have DS := Lib.hid (DD.out.safePut q (by show q < (overL D.safe (D.wait.take i)).length; rw [e0]; exact hq) x)
        have hlen : D.safe.length ≤ 2048 := H.out.ok.most
        clear hn7 c0 cA hWA e0 DD
        refine wp_region_plan (fun w' => Below wa.heap.size wa w') [(0, 0), (0, 1), (0, 2), (1, 3), (0, 4), (1, 5), (0, 6), (1, 7), (0, 8), (3, 9)] (by kernel_rfl) (by kernel_rfl) (Below.refl _ _).drew ?_
        repeat (first | (refine wpPlan_pure rfl (fun K hK => ?_); go_simp; refine hK _ ?_; clear hK K) | (refine wpPlan_held rfl (fun K hK => ?_); go_simp; refine hK _ ?_; clear hK K))
        refine wpPlan_last rfl (fun K hK => ?_)
        go_wp2_with fail
        refine hK.out _ _ ?_
        clear hK K
        refine wpPlan_nil ?_
        clear f0 f1 f2 hne hs2
        go_wp2_with fail
        refine ⟨⟨i + 1, rfl, by omega, ?_, ?_⟩, by simp [intOf]; omega⟩
        · rw [show overL (dAct D).safe ((dAct D).wait.take (i + 1)) = _ from hnext.out]
          exact DS.out
        · exact FA.out.ch.same ((Ch.of_below ((Below.refl _ _).drew)).same (Ch.cells rfl))
      · obtain rfl : i = D.wait.length := by omega
        obtain ⟨_, _, _, _, c2, _⟩ := FF.out.at_.cells
        have e2 := FF.out.at_.free 2
        go_wp2_with fail
        go_ret
        have DW := FF.out.at_.waits (xs := []) (World.grownBy.refl _ _) (World.ownsRow_nil _ _ _ _) (fun k hk => by cases hk) (fun c hc => by cases hc) (by simp)
        rw [show (dAct D).wait.take D.wait.length = D.wait from List.take_length] at DW
        refine ⟨_, rfl, DW, ?_, fun k hk => by cases hk⟩
        exact ((C2.out.mono fun k hk => .inl hk).same (FF.out.ch.mono fun k hk => .inr (.inl hk))).same (Ch.cell (.inl rfl))
  · have hcall := Lib.hid (refuse_at 0 H.out)
    have hD : Hid (dFlush D = D) := by unfold dFlush Hid; rw [if_neg hr]
    rw [hD.out]
    clear hD
    generalize dRefuse D 0 = f at hr hcall
    go_enter Try.func41, Try.ntmps41
    go_wp2_with (go_at_call 35; refine hcall.out.mono ?_; rintro e w1 ⟨rfl, rfl⟩)
    go_ret
    exact ⟨vw, rfl, H.out, Ch.refl _ _, fun k hk => .inl hk⟩
end Go.Proofs.Ytbcjcfjbdjdajaa
