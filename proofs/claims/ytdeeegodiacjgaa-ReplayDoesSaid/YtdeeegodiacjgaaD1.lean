/- geo.Blocks, replay.fits at no transaction, and replay.Do at no disk, walked. -/
import Derived.Test.YtdeeegodiacjgaaHead
import Derived.Test.YtdeeegodiacjgaaW8
namespace Go.Proofs.Ytdeeegodiacjgaa
open Go.RowKit
attribute [local go_sem ↓] loadAtB storeAtB buildAtB
def gBlocks (g : Ge) : Int := if mayB g then geAll g else 0
theorem mayB_true {g : Ge} (h : mayB g = true) : (1 ≤ g.groups ∧ g.groups ≤ 4) ∧ (16 ≤ g.size ∧ g.size ≤ 512) ∧ (4 ≤ g.inodes ∧ g.inodes ≤ 64) ∧ (40 ≤ g.journal ∧ g.journal ≤ 256) ∧ g.inodes % 4 = 0 ∧ 3 + g.inodes / 4 ≤ g.size ∧ geAll g ≤ 2048 := by
  unfold mayB at h
  simp only [Bool.and_eq_true, amongB_iff, decide_eq_true_eq] at h
  obtain ⟨⟨⟨⟨⟨⟨h0, h1⟩, h2⟩, h3⟩, h4⟩, h5⟩, h6⟩ := h
  rw [Int.tmod_eq_emod_of_nonneg (by omega)] at h3
  rw [Int.tdiv_eq_ediv_of_nonneg (by omega)] at h5
  exact ⟨h0, h1, h2, h4, h3, h5, h6⟩
set_option maxRecDepth 100000 in
theorem gblocks_any (g : Ge) (w : World) : Calls Try.prog 58 #[.agg (ga g)] w (GPost (.int .i64 (gBlocks g)) w) := by
  have hmay := Lib.hid (may_any g)
  cases hm : mayB g with
  | false =>
    have hB : Hid (gBlocks g = 0) := by unfold Hid gBlocks; rw [hm]; rfl
    unfold ga at hmay ⊢
    go_enter Try.func58, Try.ntmps58
    go_wp2_with (go_at_call 40; refine (hmay.out _).mono ?_; rintro e w1 ⟨rfl, hb⟩; rw [hm]; have B1 := Lib.hid hb; clear hb)
    go_ret
    rw [hB.out]
    exact ⟨rfl, ((Below.refl _ _).alloc (Nat.le_refl _) _).trans (B1.out.mono (by simp))⟩
  | true =>
    have hB : Hid (gBlocks g = geAll g) := by unfold Hid gBlocks; rw [hm]; rfl
    have k := mayB_true hm
    have hall := Lib.hid (all_any g ⟨by omega, k.1.2⟩ ⟨by omega, k.2.1.2⟩ ⟨by omega, k.2.2.2.1.2⟩)
    have hwh := Whole.new w (ga g) 43
    have hrow : Hid (Whole (w.alloc (.cells (ga g) 43)) w.heap.size (ga g) 43) := hwh
    clear hwh
    unfold ga at hmay hall hrow ⊢
    go_enter Try.func58, Try.ntmps58
    go_wp2_with (first
      | (go_at_call 40; refine (hmay.out _).mono ?_; rintro e w1 ⟨rfl, hb⟩; rw [hm]; have B1 := Lib.hid hb; clear hb; have R1 := Lib.hid (hrow.out.later B1.out); have c0 := R1.out.cell 0; have c1 := R1.out.cell 1; have c2 := R1.out.cell 2; have c3 := R1.out.cell 3)
      | (go_at_call 55; refine (hall.out _).mono ?_; rintro e w2 ⟨rfl, hb⟩; have B2 := Lib.hid hb; clear hb))
    go_ret
    rw [hB.out]
    have b1 : Below w.heap.size w w1 := ((Below.refl _ _).alloc (Nat.le_refl _) _).trans (B1.out.mono (by simp))
    exact ⟨rfl, b1.trans (B2.out.mono b1.size)⟩
theorem sizeG : (Try.prog.info? 43).map (·.size) = some 4 := by kernel_rfl
theorem loadAtG (v : Value) : Instr.loadAt 43 v = bigLoadAt 43 v := rfl
/-- A geometry that is known whole is loaded. -/
theorem ldG {W : World} {k : Nat} {g : Ge} {t : TypeId} (h : Whole W k (ga g) t) : (bigLoadAt 43 (.pointer (some ⟨k, 0, none⟩))).run Try.prog W = .ok (.agg (ga g)) W :=
  run_bigLoad (cs := (ga g).toList) Try.underlying43 rfl sizeG (fun j v hv => by rw [Nat.zero_add, h.cell j]; simpa using hv)
attribute [local go_sem ↓] loadAtG
set_option maxRecDepth 100000 in
theorem fits_nil {W : World} {base r gs gn : Nat} {vw : Value} {D : Dk} (g : Ge) (h : DAt W base r gs gn vw D) : Calls Try.prog 42 #[.pointer (some ⟨r, 0, none⟩), .agg (ga g), .slice none 0 0] W (GPost (.bool (decide ((D.safe.length : Int) = gBlocks g))) W) := by
  have H := Lib.hid h
  clear h
  have hrow : Hid (Whole (W.alloc (.cells (ga g) 43)) W.heap.size (ga g) 43) := Whole.new W (ga g) 43
  have HA := Lib.hid (H.out.later ((Below.refl _ _).alloc (Nat.le_refl _) (.cells (ga g) 43)))
  have hgb := Lib.hid (gblocks_any g)
  have cB : Hid (Below W.heap.size W (W.alloc (.cells (ga g) 43))) := (Below.refl _ _).alloc (Nat.le_refl _) _
  obtain ⟨b, hb⟩ : ∃ b, Hid (decide ((D.safe.length : Int) = gBlocks g) = b) := ⟨_, rfl⟩
  rw [hb.out]
  go_enter Try.func42, Try.ntmps42
  go_wp2_with fail
  generalize W.alloc (.cells (ga g) 43) = wa at hrow HA cB ⊢
  have hne : Nonempty (Kept (fun w' => Below wa.heap.size wa w')) := ⟨⟨wa, Below.refl _ _⟩⟩
  have f1 : ∀ p : Kept (fun w' => Below wa.heap.size wa w'), (bigLoadAt 43 (.pointer (some ⟨W.heap.size, 0, none⟩))).run Try.prog p.x = .ok (.agg (ga g)) p.x := fun p => ldG (hrow.out.later p.h)
  refine wp_region_plan (fun w' => Below wa.heap.size wa w') [(0, 0), (1, 2), (2, 1), (3, 3), (0, 4)] (by kernel_rfl) (by kernel_rfl) (Below.refl _ _).drew ?_
  repeat (first | (refine wpPlan_pure rfl (fun K hK => ?_); go_simp; refine hK _ ?_; clear hK K) | (refine wpPlan_held rfl (fun K hK => ?_); go_simp; refine hK _ ?_; clear hK K))
  refine wpPlan_turn rfl (fun K hK => ?_)
  go_wp2_with (go_at_call 39; refine (blocks_at (HA.out.later (Below.refl _ _).drew)).mono ?_; rintro e w1 ⟨rfl, rfl⟩)
  refine hK.out _ _ ((Below.refl _ _).drew) ?_
  clear hK K
  refine wpPlan_last rfl (fun K hK => ?_)
  go_wp2_with (go_at_call 58; refine (hgb.out _).mono ?_; rintro e w2 ⟨rfl, hb2⟩; have B2 := Lib.hid hb2; clear hb2)
  refine hK.out _ _ ?_
  clear hK K
  have b2 : Hid (Below W.heap.size W w2) := cB.out.trans (((Below.refl _ _).drew.trans B2.out).mono cB.out.size)
  cases b with
  | true =>
    have he := of_decide_eq_true hb.out
    rw [← he]
    repeat (first | (refine wpPlan_pure rfl (fun K hK => ?_); go_simp; refine hK _ ?_; clear hK K) | (refine wpPlan_held rfl (fun K hK => ?_); go_simp; refine hK _ ?_; clear hK K))
    refine wpPlan_nil ?_
    go_wp2_with fail
    go_loopw [20] (fun v20 W => v20 = .int .i64 0 ∧ W = w2) (fun _ _ => 0)
    case atStart => exact ⟨rfl, rfl⟩
    case round =>
      obtain ⟨rfl, rfl⟩ := hrel
      go_wp2_with fail
      go_ret
      exact ⟨rfl, b2.out⟩
  | false =>
    have he := of_decide_eq_false hb.out
    have he2 : ((D.safe.length : Int) == gBlocks g) = false := by simpa using he
    repeat (first | (refine wpPlan_pure rfl (fun K hK => ?_); go_simp; refine hK _ ?_; clear hK K) | (refine wpPlan_held rfl (fun K hK => ?_); go_simp; refine hK _ ?_; clear hK K))
    refine wpPlan_nil ?_
    go_wp2_with fail
    go_ret
    exact ⟨rfl, b2.out⟩
end Go.Proofs.Ytdeeegodiacjgaa
