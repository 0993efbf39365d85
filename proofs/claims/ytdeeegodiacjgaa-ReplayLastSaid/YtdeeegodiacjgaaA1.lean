/- The chapter's examples (awake), walked. No condition. -/
import Derived.Test.YtdeeegodiacjgaaA0
namespace Go.Proofs.Ytdeeegodiacjgaa
open Go.RowKit
attribute [local go_sem ↓] loadAtB storeAtB loadAtC storeAtC buildAtC sliceAtC sliceAtB
theorem Calls.later {P : Program} {f : FuncId} {args : Array Value} {w : World} {p : Later w} {v : Value} (h : Calls P f args p.x (GPost v p.x)) :
    Calls P f args p.x fun e w'' => e = .returned v ∧ ∃ q : Later w, w'' = q.x :=
  h.mono fun _ w' ⟨he, hb⟩ => ⟨he, ⟨w', p.h.trans (hb.mono p.h.size)⟩, rfl⟩
set_option maxRecDepth 100000 in
set_option maxHeartbeats 1000000 in
theorem awake_any (w : World) : Calls Try.prog 21 #[] w (GPost (.bool true) w) := by
  have hz := zcB
  have hbld := run_buildC
  have hbc5 := run_bsC (5, bA)
  have hbc6 := run_bsC (6, bB)
  have hbc5b := run_bsC (5, bB)
  have lA := ldRow (WA_a w)
  have lB := ldRow ((((WA_b w).alloc (.cells (ca (5, bA)) 40)).alloc (.cells #[.int .i64 5] 3)))
  have z0 : (blk fun _ => 0)[0]? = some (.int .u8 0) := blk_get _ 0 (by omega)
  have eA := bA_set
  have eB := bB_set
  have l1 := Lib.hid (lit_one (w0 := WA w) (n := w.heap.size + 1 + 1) (by simp))
  obtain ⟨Z, hZ0, hnew0⟩ := new58
  have hZ := Lib.hid hZ0
  have hnew := Lib.hid hnew0
  clear hZ0 hnew0
  have t1 : True := trivial
  have bw0 : Hid (Below w.heap.size w (WA w)) := ((Below.refl _ _).alloc (Nat.le_refl _) _).alloc (by simp) _
  go_enter Try.func21, Try.ntmps21
  go_wp2_with (first
    | (go_at_call 14; clear t1; refine l1.out.mono ?_; rintro e w1 ⟨a1, c1, rfl, hown, hb⟩; have O1 := Lib.hid hown; have bw1 := Lib.hid hb; clear hown hb; have A1 := Lib.hid ((WA_a w).later bw1.out); have B1 := Lib.hid ((WA_b w).later bw1.out); have lA1 := ldRow A1.out; have lB1 := ldRow ((B1.out.alloc (.cells (ca (5, bA)) 40)).alloc (.cells #[.int .i64 5] 3)); have t2 : True := trivial)
    | (go_at_call 14; clear t2; refine (lit_two (w0 := w1) rfl).mono ?_; rintro e w2 ⟨a2, c2, rfl, hown, hb⟩; have O2 := Lib.hid hown; have bw2 := Lib.hid hb; clear hown hb; have A2 := Lib.hid (A1.out.later bw2.out); have B2 := Lib.hid (B1.out.later bw2.out); have lA2 := ldRow A2.out; have t3 : True := trivial)
    | (go_at_call 14; clear t3; refine (lit_three (w0 := w2) rfl).mono ?_; rintro e w3 ⟨a3, c3, rfl, hown, hb⟩; have bw3 := Lib.hid hb; clear hown hb; have B3 := Lib.hid (B2.out.later bw3.out))
    | (go_at_call 25; refine (hnew.out _).mono ?_; rintro e w4 ⟨r, gs, gn, rfl, hd, hb⟩; have D4 := Lib.hid hd; have bw4 := Lib.hid hb; clear hd hb; have G4 := Lib.hid ((Whole.new w3 #[.int .i64 1, .int .i64 16, .int .i64 4, .int .i64 40] 43).later bw4.out); have p0 := G4.out.cell 0; have p1 := G4.out.cell 1; have p2 := G4.out.cell 2; have p3 := G4.out.cell 3; have t4 : True := trivial)
    | (go_at_call 20; clear t4; refine (do_first hZ.out D4.out).mono ?_; rintro e w5 ⟨vw5, rfl, hd⟩; have D5 := Lib.hid hd; clear hd; have bw5 : Hid (Below (w3.heap.size + 1) w4 w5) := D5.out.ch.below (fun k hk => by have := (D4.out.lt k hk).1; simpa using this) (by have := bw4.out.size; simpa using this); have G5 : Hid (Whole w5 w3.heap.size #[.int .i64 1, .int .i64 16, .int .i64 4, .int .i64 40] 43) := (bw5.out.block _ (by omega)).trans G4.out; have q0 := G5.out.cell 0; have q1 := G5.out.cell 1; have q2 := G5.out.cell 2; have q3 := G5.out.cell 3; have t5 : True := trivial)
    | (go_at_call 20; clear t5; refine (do_second hZ.out D5.out.at_).mono ?_; rintro e w6 ⟨vw6, rfl, hd⟩; have D6 := Lib.hid (D5.out.trans hd); clear hd)
    | (go_at_call 45; refine (read_first hZ.out D6.out.at_).mono ?_; rintro e w7 ⟨rfl, hb⟩; have bw7 := Lib.hid hb; clear hb; have hst := stRow (headB 8) (Whole.new w7 (blk fun _ => 0) 29)))
  have b7F : Below w7.heap.size w7 ((w7.alloc (.cells (blk fun _ => 0) 29)).setRow w7.heap.size (blk (headB 8))) := below_setRow' ((Below.refl _ _).alloc (Nat.le_refl _) _) (Nat.le_refl _) _
  have xF : Whole ((w7.alloc (.cells (blk fun _ => 0) 29)).setRow w7.heap.size (blk (headB 8))) w7.heap.size (blk (headB 8)) 29 := (Whole.new w7 (blk fun _ => 0) 29).setRow _
  generalize (w7.alloc (.cells (blk fun _ => 0) 29)).setRow w7.heap.size (blk (headB 8)) = wf at b7F xF ⊢
  have bF : Hid (Below w3.heap.size w3 wf) := by
    have s4 : w3.heap.size + 1 ≤ w4.heap.size := by have := bw4.out.size; simpa using this
    have h46 : Below (w3.heap.size + 1) w4 w6 := D6.out.ch.below (fun k hk => by have := (D4.out.lt k hk).1; simpa using this) s4
    have h34 : Below w3.heap.size w3 w4 := ((Below.refl _ _).alloc (Nat.le_refl _) _).trans (bw4.out.mono (by simp))
    have h36 := h34.trans (h46.mono (by omega))
    have h37 := h36.trans (bw7.out.mono h36.size)
    exact h37.trans (b7F.mono h37.size)
  have b2F : Hid (Below w2.heap.size w2 wf) := bw3.out.trans (bF.out.mono bw3.out.size)
  have b1F : Hid (Below w1.heap.size w1 wf) := bw2.out.trans (b2F.out.mono bw2.out.size)
  have bAF : Hid (Below (WA w).heap.size (WA w) wf) := bw1.out.trans (b1F.out.mono bw1.out.size)
  have b0F : Hid (Below w.heap.size w wf) := bw0.out.trans (bAF.out.mono bw0.out.size)
  have P1 := own_later O1.out b1F.out
  have P2 := own_later O2.out b2F.out
  obtain ⟨g1, rfl, _, k1, k1'⟩ := own_some P1 (by simp)
  obtain ⟨g2, rfl, _, k2, k2'⟩ := own_some P2 (by simp)
  have r1 : Hid (wf.rangeAt g1 0 (cc (6, bB))) := by have := own_range P1; unfold Hid; simpa [flat] using this
  have r2 : Hid (wf.rangeAt g2 0 (cc (5, bB))) := by have := own_range P2; unfold Hid; simpa [flat] using this
  have l1' := (P1.lt g1 rfl).2
  have l2' := (P2.lt g2 rfl).2
  have BF := Lib.hid (B3.out.later bF.out)
  have DF := Lib.hid ((D6.out.later bw7.out).later b7F)
  unfold maxLen at k1' k2'
  clear P1 P2
  have f1 : ∀ p : Later wf, (bigLoadAt 40 (.pointer (some ⟨g1, 0, none⟩))).run Try.prog p.x = .ok (.agg (ca (6, bB))) p.x := fun p => ldC (rangeAt_block r1.out (p.h.block _ l1'))
  have f2 : ∀ p : Later wf, (bigLoadAt 40 (.pointer (some ⟨g2, 0, none⟩))).run Try.prog p.x = .ok (.agg (ca (5, bB))) p.x := fun p => ldC (rangeAt_block r2.out (p.h.block _ l2'))
  have f3 : ∀ p : Later wf, (bigLoadAt 29 (.pointer (some ⟨w.heap.size + 1, 0, none⟩))).run Try.prog p.x = .ok (.agg (blk bB)) p.x := fun p => ldRow (BF.out.later p.h)
  have h8 := head8
  have f4 : ∀ p : Later wf, p.x.cell? ⟨w7.heap.size, 4, none⟩ = some (.int .u8 4) := fun p => by rw [(xF.later p.h).cell 4, blk_get _ 4 (by omega), h8.1]; rfl
  have f8 : ∀ p : Later wf, p.x.cell? ⟨w7.heap.size, 8, none⟩ = some (.int .u8 8) := fun p => by rw [(xF.later p.h).cell 8, blk_get _ 8 (by omega), h8.2]; rfl
  have e6 := eqlC (6, bB) (6, bB)
  have e5 := eqlC (5, bB) (5, bB)
  rw [cpEq_refl] at e6 e5
  have hac : Hid (∀ p : Later wf, Calls Try.prog 28 #[.pointer (some ⟨r, 0, none⟩)] p.x (GPost (.int .i64 3) p.x)) := fun p => (acts_at (DF.out.at_.later p.h)).mono fun e w' h => ⟨h.1, by rw [h.2]; exact Below.refl _ _⟩
  clear h8 lA lB lA1 lB1 lA2 hst p0 p1 p2 p3 q0 q1 q2 q3 eA eB
  refine wp_region_later (by kernel_rfl) (by kernel_rfl) ?_
  repeat (first | go_big_quiet_step ((go_at_call 28; exact Calls.later (hac.out _))) | quiet_step ((go_at_call 28; exact Calls.later (hac.out _))))
  refine wpQuiet_nil ?_
  rintro ⟨w9, hw9⟩
  dsimp only
  go_wp2_with fail
  go_ret
  exact ⟨rfl, b0F.out.trans (hw9.mono b0F.out.size)⟩
end Go.Proofs.Ytdeeegodiacjgaa
