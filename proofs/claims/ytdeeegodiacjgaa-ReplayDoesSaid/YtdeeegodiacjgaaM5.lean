/- The disk's Power, Image, Safe, walked, and the document's list of writes. At most 100000 copies. -/
import Derived.Test.YtdeeegodiacjgaaM4
import Derived.Test.YtdeeegodiacjgaaFork
import Derived.Test.YtdeeegodiacjgaaA0
import Derived.Test.YtdeeegodiacjgaaW14
namespace Go.Proofs.Ytdeeegodiacjgaa
open Go.RowKit
attribute [local go_sem ↓] loadAtB storeAtB loadAtC storeAtC buildAtB buildAtC sliceAtC sliceAtB
def dPower (D : Dk) (after : Int) : Dk := { D with left := max after (-1) }
theorem power_at {W : World} {base r gs gn : Nat} {vw : Value} {D : Dk} (after : Int) (ha : after < 9223372036854775808) (h : DAt W base r gs gn vw D) :
    Calls Try.prog 26 #[.pointer (some ⟨r, 0, none⟩), .int .i64 after] W (fun e w' => e = .returned (.tuple #[]) ∧ DAt w' base r gs gn vw (dPower D after) ∧ Ch (fun k => k = r) W w') := by
  have hn := Lib.hid (none_at h)
  obtain ⟨cs, cn, _, _, _, _, c4, _⟩ := h.cells
  have f4 := h.free 4
  have hok : DOk (dPower D after) := ⟨h.ok.same, h.ok.pos, h.ok.most, h.ok.rng, h.ok.few, h.ok.a0, h.ok.a1, by show -1 ≤ max after (-1); omega, by show max after (-1) < 9223372036854775808; omega⟩
  have h1 := Lib.hid (h.acted (dPower D after) hok rfl rfl rfl 4 (by decide) (.int .i64 (max after (-1))) (fun _ _ => rfl))
  clear h hok
  go_enter Try.func26, Try.ntmps26
  go_wp2_with (go_at_call 47; refine hn.out.mono ?_; rintro e w1 ⟨rfl, rfl⟩)
  exact bodyPost_end (results_none rfl _ _ _) rfl ⟨rfl, h1.out, Ch.cell rfl⟩
theorem image_at {W : World} {base r gs gn : Nat} {vw : Value} {D : Dk} (h : DAt W base r gs gn vw D) : Calls Try.prog 30 #[.pointer (some ⟨r, 0, none⟩)] W (ClPost D.now W) := by
  have hn := Lib.hid (none_at h)
  obtain ⟨cs, cn, _, c1, _⟩ := h.cells
  have hl : D.now.length ≤ 100000 := by have := h.ok.most; have := h.ok.same; omega
  obtain ⟨cs', cn', hr, _, hnow⟩ := h.obj
  have e1 : some (Value.slice (some ⟨gn, 0, none⟩) D.safe.length cn') = some (.slice (some ⟨gn, 0, none⟩) D.safe.length cn) := (hr.cell 1).symm.trans c1
  cases e1
  have hs : Hid (Sl W (.slice (some ⟨gn, 0, none⟩) D.safe.length cn) D.now.length (flat bc D.now)) := by unfold Hid; rw [h.ok.same]; exact Sl.own hnow
  have hc := Lib.hid (cloneB_any D.now hl _ W hs.out)
  clear h hr hnow
  go_enter Try.func30, Try.ntmps30
  go_wp2_with (first
    | (go_at_call 47; refine hn.out.mono ?_; rintro e w1 ⟨rfl, rfl⟩)
    | (go_at_call 37; refine hc.out.mono ?_; rintro e w2 ⟨u, rfl, hown, hb⟩; have O := Lib.hid hown; have B := Lib.hid hb; clear hown hb))
  go_ret
  exact ⟨u, rfl, O.out, B.out⟩
theorem safe_at {W : World} {base r gs gn : Nat} {vw : Value} {D : Dk} (h : DAt W base r gs gn vw D) : Calls Try.prog 31 #[.pointer (some ⟨r, 0, none⟩)] W (ClPost D.safe W) := by
  have hn := Lib.hid (none_at h)
  obtain ⟨cs, cn, c0, _⟩ := h.cells
  have hl : D.safe.length ≤ 100000 := by have := h.ok.most; omega
  obtain ⟨cs', cn', hr, hsafe, _⟩ := h.obj
  have e1 : some (Value.slice (some ⟨gs, 0, none⟩) D.safe.length cs') = some (.slice (some ⟨gs, 0, none⟩) D.safe.length cs) := (hr.cell 0).symm.trans c0
  cases e1
  have hs : Hid (Sl W (.slice (some ⟨gs, 0, none⟩) D.safe.length cs) D.safe.length (flat bc D.safe)) := Sl.own hsafe
  have hc := Lib.hid (cloneB_any D.safe hl _ W hs.out)
  clear h hr hsafe
  go_enter Try.func31, Try.ntmps31
  go_wp2_with (first
    | (go_at_call 47; refine hn.out.mono ?_; rintro e w1 ⟨rfl, rfl⟩)
    | (go_at_call 37; refine hc.out.mono ?_; rintro e w2 ⟨u, rfl, hown, hb⟩; have O := Lib.hid hown; have B := Lib.hid hb; clear hown hb))
  go_ret
  exact ⟨u, rfl, O.out, B.out⟩
def WrPost (C : List Cp) (next : Nat) (w : World) (e : Ending) (w' : World) : Prop := ∃ a c, e = .returned (.slice a (C.length + 1) c) ∧ Cps w' (.slice a (C.length + 1) c) (C ++ [(2, headB next)]) ∧ Below w.heap.size w w'
set_option maxRecDepth 100000 in
set_option maxHeartbeats 1000000 in
theorem writes_any (l : List Tr) (next : Nat) (hnx : next < 4294967296) (hcn : cpsN l ≤ 90000) (v : Value) (w : World) (h : Trs w v l) : Calls Try.prog 29 #[v, .int .u32 (next : Int)] w (WrPost (ovOut l) next w) := by
  have H := Lib.hid h
  clear h
  have hz := zcB
  have hhead := Lib.hid (rhead_any next hnx)
  have hro : Hid (∀ (v : Value) (w : World), Trs w v l → Calls Try.prog 13 #[v] w (fun e w' => ∃ a c, e = .returned (.slice a (ovOut l).length c) ∧ w'.ownsRow w.heap.size 40 257 (.slice a (ovOut l).length c) (ovOut l).length (flat cc (ovOut l)) ∧ Below w.heap.size w w')) := fun v w h => by
    refine (refOverlay_any l (by omega) v w h).mono ?_
    rintro e w' ⟨u, ks, rfl, hcs, hown, hb⟩
    rw [← out_eq hcs] at hown
    obtain ⟨a, c, rfl⟩ := own_shape hown
    exact ⟨a, c, rfl, hown, hb⟩
  have hCl : (ovOut l).length ≤ 90000 := Nat.le_trans (ovOut_le l) hcn
  generalize ovOut l = C at hro hCl
  obtain ⟨hB, hhB⟩ : ∃ B, Hid (headB next = B) := ⟨_, rfl⟩
  unfold WrPost
  rw [hhB.out]
  rw [hhB.out] at hhead
  have hbld := run_buildC 2 hB
  have hbs := run_bsC (2, hB)
  obtain ⟨j0, hj0, jz0, jz1, jz2⟩ := info_parts zeroC
  go_enter Try.func29, Try.ntmps29
  go_wp2_with (go_at_call 52; refine (hhead.out _).mono ?_; rintro e w1 ⟨rfl, hb⟩; have B1 := Lib.hid hb; clear hb; have hs := stRow hB (Whole.new w1 (blk fun _ => 0) 29))
  have B2 : Hid (Below w.heap.size w ((w1.alloc (.cells (blk fun _ => 0) 29)).setRow w1.heap.size (blk hB))) := below_setRow' (B1.out.alloc B1.out.size _) B1.out.size _
  have X2 : Hid (Whole ((w1.alloc (.cells (blk fun _ => 0) 29)).setRow w1.heap.size (blk hB)) w1.heap.size (blk hB) 29) := (Whole.new w1 (blk fun _ => 0) 29).setRow _
  clear hs
  generalize (w1.alloc (.cells (blk fun _ => 0) 29)).setRow w1.heap.size (blk hB) = w2 at B2 X2 ⊢
  have H2 := Lib.hid (H.out.later B2.out)
  have hne : Nonempty (Kept (fun w' => Below w2.heap.size w2 w')) := ⟨⟨w2, Below.refl _ _⟩⟩
  have f0 : ∀ p : Kept (fun w' => Below w2.heap.size w2 w'), (bigLoadAt 29 (.pointer (some ⟨w1.heap.size, 0, none⟩))).run Try.prog p.x = .ok (.agg (blk hB)) p.x := fun p => ldRow (X2.out.later p.h)
  refine wp_region_tree (fun w' => Below w2.heap.size w2 w') (.one 0 0 (.one 1 2 (.one 0 3 (.fork 1 4 (.one 3 5 (.one 0 6 .done)))))) (by kernel_rfl) (by kernel_rfl) (Below.refl _ _).drew ?_
  repeat (first | (refine wpT_pure rfl (fun K hK => ?_); go_simp; refine hK _ ?_; clear hK K) | (refine wpT_held rfl (fun K hK => ?_); go_simp; refine hK _ ?_; clear hK K))
  refine wpT_fork rfl rfl (fun v1 v4 w' => (∃ a c, v1 = .slice a C.length c ∧ w'.ownsRow w2.heap.size 40 257 (.slice a C.length c) C.length (flat cc C)) ∧ (∃ g, v4 = .slice (some ⟨g, 0, none⟩) 1 1 ∧ Whole w' g (ca (2, hB)) 40) ∧ Below w2.heap.size w2 w') (fun K hK => ?_) (fun K hK => ?_) ?_
  · go_wp2_with (go_at_call 13; refine (hro.out _ _ (H2.out.later (Below.refl _ _).drew)).mono ?_; rintro e w4 ⟨a, c, rfl, hown, hb⟩; have O4 : Hid (w4.ownsRow w2.heap.size 40 257 (.slice a C.length c) C.length (flat cc C)) := hown; have B4 : Hid (Below w2.heap.size w2 w4) := ((Below.refl _ _).drew).trans hb; clear hown hb)
    refine hK.out _ _ B4.out ?_
    clear hK K
    refine wpOp_fork rfl (fun K hK => ?_)
    go_wp2_with fail
    have b6 := B4.out.alloc B4.out.size (.cells (ca (2, hB)) 40)
    exact hK.out _ _ b6 ⟨_, _, rfl, ⟨_, _, rfl, O4.out.alloc _⟩, ⟨_, rfl, Whole.new w4 _ 40⟩, b6⟩
  · go_wp2_with fail
    have b5 : Hid (Below w2.heap.size w2 (w2.alloc (.cells (ca (2, hB)) 40)).drew) := ((Below.refl _ _).alloc (Nat.le_refl _) _).drew
    have l5 : Hid (Whole (w2.alloc (.cells (ca (2, hB)) 40)).drew w2.heap.size (ca (2, hB)) 40) := Whole.new w2 _ 40
    refine hK.out _ _ b5.out ?_
    clear hK K
    refine wpOp_fork rfl (fun K hK => ?_)
    go_wp2_with (go_at_call 13; refine (hro.out _ _ (H2.out.later b5.out)).mono ?_; rintro e w4 ⟨a, c, rfl, hown, hb⟩; have O4 : Hid (w4.ownsRow w2.heap.size 40 257 (.slice a C.length c) C.length (flat cc C)) := own_mono hown b5.out.size; have B4 := Lib.hid hb; clear hown hb)
    have b6 := b5.out.trans (B4.out.mono b5.out.size)
    exact hK.out _ _ b6 ⟨_, _, rfl, ⟨_, _, rfl, O4.out⟩, ⟨_, rfl, l5.out.later B4.out⟩, b6⟩
  rintro v1 v4 w6 ⟨⟨a, c, rfl, hown⟩, ⟨g, rfl, hwh⟩, hb⟩
  have O6 := Lib.hid hown
  have W6 := Lib.hid hwh
  have B6 := Lib.hid hb
  clear hown hwh hb f0 hne
  refine wpT_last rfl (fun K hK => ?_)
  go_wp2_with (at_builtin; refine wpList_append_own_at _ rfl _ _ 33 rfl w2.heap.size 40 j0 (.agg (ca (0, fun _ => 0))) 257 264 Try.underlying33 hj0 jz0 jz1 jz2 (ca_size _) (by decide) _ _ _ rfl O6.out ⟨g, 0, none⟩ 1 1 (cc (2, hB)) rfl (by rw [cc_len]) (whole_cells W6.out) (cc_one _) (by unfold maxLen; omega) (by omega) B6.out.size ?_; intro v9 w9 hown hgrow hx1 hx2; clear hx1 hx2; obtain ⟨a9, c9, hsh⟩ := own_shape hown; subst hsh; have O9 := Lib.hid hown; have B9 : Hid (Below w2.heap.size w2 w9) := B6.out.grown hgrow B6.out.size (fun k hk => (O6.out.lt k hk).1); clear hown hgrow)
  refine hK.out _ _ ?_
  clear hK K
  repeat (first | (refine wpT_pure rfl (fun K hK => ?_); go_simp; refine hK _ ?_; clear hK K) | (refine wpT_held rfl (fun K hK => ?_); go_simp; refine hK _ ?_; clear hK K))
  refine wpT_done ?_
  go_wp2_with fail
  go_ret
  refine ⟨a9, c9, rfl, ?_, B2.out.trans (B9.out.mono B2.out.size)⟩
  have := Sl.own O9.out
  unfold Cps
  rw [flat_snoc, List.length_append]
  exact this
end Go.Proofs.Ytdeeegodiacjgaa
