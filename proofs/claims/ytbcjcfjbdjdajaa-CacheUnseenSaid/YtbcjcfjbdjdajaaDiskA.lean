/- The disk's inner functions and its counts, walked: none, refuse, act, Blocks, Acts, Power. No condition but those written in each law. -/
import Derived.Test.YtbcjcfjbdjdajaaDisk
import Derived.Lib.SliceRun
namespace Go.Proofs.Ytbcjcfjbdjdajaa
open Go.RowKit
def SamePost (v : Value) (w : World) (e : Ending) (w' : World) : Prop := e = .returned v ∧ w' = w
theorem DAt.cells {W : World} {base r gs gn : Nat} {vw : Value} {D : Dk} (h : DAt W base r gs gn vw D) :
    ∃ cs cn, W.cell? ⟨r, 0, none⟩ = some (.slice (some ⟨gs, 0, none⟩) D.safe.length cs) ∧ W.cell? ⟨r, 1, none⟩ = some (.slice (some ⟨gn, 0, none⟩) D.safe.length cn) ∧ W.cell? ⟨r, 2, none⟩ = some vw ∧ W.cell? ⟨r, 3, none⟩ = some (.int .i64 D.acts) ∧ W.cell? ⟨r, 4, none⟩ = some (.int .i64 D.left) ∧
      D.safe.length ≤ cs ∧ cs ≤ maxLen ∧ D.safe.length ≤ cn ∧ cn ≤ maxLen := by
  obtain ⟨cs, cn, hr, hs, hn⟩ := h.obj
  have h1 := h.ok.pos
  have own2 : ∀ {g c : Nat} {xs : List Value}, W.ownsRow base 32 256 (.slice (some ⟨g, 0, none⟩) D.safe.length c) D.safe.length xs → D.safe.length ≤ c ∧ c ≤ maxLen := fun h => by
    rcases h.2 with ⟨h0, _⟩ | ⟨g', cap', cur, hv, hb, hg, a1, a2, _⟩
    · cases h0
    · cases hv; exact ⟨a1, a2⟩
  exact ⟨cs, cn, hr.cell 0, hr.cell 1, hr.cell 2, hr.cell 3, hr.cell 4, (own2 hs).1, (own2 hs).2, (own2 hn).1, (own2 hn).2⟩
theorem DAt.free {W : World} {base r gs gn : Nat} {vw : Value} {D : Dk} (h : DAt W base r gs gn vw D) (j : Nat) : W.frozen? ⟨r, j, none⟩ = false := by
  obtain ⟨cs, cn, hr, _⟩ := h.obj
  exact hr.free j
theorem isNil27 : ∀ (w : World) (a : Option Addr) (n c n' c' : Nat), (binOp .eql 25 (.slice a n c) (.slice none n' c')).run Try.prog w = .ok (.bool a.isNone) w := fun w a n c n' c' => Lib.run_eql_slice_nil w _ _ a n c n' c' Try.underlying25
theorem none_at {W : World} {base r gs gn : Nat} {vw : Value} {D : Dk} (h : DAt W base r gs gn vw D) : Calls Try.prog 43 #[.pointer (some ⟨r, 0, none⟩)] W (SamePost (.bool false) W) := by
  obtain ⟨cs, cn, c0, _⟩ := h.cells
  have hq := isNil27
  clear h
  go_enter Try.func43, Try.ntmps43
  go_wp2_with fail
  go_ret
  exact ⟨rfl, rfl⟩
theorem none_nil (W : World) : Calls Try.prog 43 #[.pointer none] W (SamePost (.bool true) W) := by
  go_enter Try.func43, Try.ntmps43
  go_wp2_with fail
  go_ret
  exact ⟨rfl, rfl⟩
theorem none_zero {W : World} {r n c : Nat} (c0 : W.cell? ⟨r, 0, none⟩ = some (.slice none n c)) : Calls Try.prog 43 #[.pointer (some ⟨r, 0, none⟩)] W (SamePost (.bool true) W) := by
  have hq := isNil27
  go_enter Try.func43, Try.ntmps43
  go_wp2_with fail
  go_ret
  exact ⟨rfl, rfl⟩
theorem blocks_at {W : World} {base r gs gn : Nat} {vw : Value} {D : Dk} (h : DAt W base r gs gn vw D) : Calls Try.prog 39 #[.pointer (some ⟨r, 0, none⟩)] W (SamePost (.int .i64 D.safe.length) W) := by
  obtain ⟨cs, cn, c0, _, _, _, _, h1, h2, _⟩ := h.cells
  have hc := Lib.hid (none_at h)
  clear h
  unfold maxLen at h2
  go_enter Try.func39, Try.ntmps39
  go_wp2_with (go_at_call 43; refine hc.out.mono ?_; rintro e w1 ⟨rfl, rfl⟩)
  go_ret
  exact ⟨rfl, rfl⟩
theorem blocks_nil (W : World) : Calls Try.prog 39 #[.pointer none] W (SamePost (.int .i64 0) W) := by
  have hc := Lib.hid (none_nil W)
  go_enter Try.func39, Try.ntmps39
  go_wp2_with (go_at_call 43; refine hc.out.mono ?_; rintro e w1 ⟨rfl, rfl⟩)
  go_ret
  exact ⟨rfl, rfl⟩
theorem blocks_zero {W : World} {r n c : Nat} (c0 : W.cell? ⟨r, 0, none⟩ = some (.slice none n c)) : Calls Try.prog 39 #[.pointer (some ⟨r, 0, none⟩)] W (SamePost (.int .i64 0) W) := by
  have hc := Lib.hid (none_zero c0)
  clear c0
  go_enter Try.func39, Try.ntmps39
  go_wp2_with (go_at_call 43; refine hc.out.mono ?_; rintro e w1 ⟨rfl, rfl⟩)
  go_ret
  exact ⟨rfl, rfl⟩

theorem refuse_at {W : World} {base r gs gn : Nat} {vw : Value} {D : Dk} (b : Int) (h : DAt W base r gs gn vw D) : Calls Try.prog 35 #[.pointer (some ⟨r, 0, none⟩), .int .i64 b] W (SamePost (.int .i64 (dRefuse D b)) W) := by
  obtain ⟨cs, cn, c0, _, _, _, c4, h1, h2, _⟩ := h.cells
  have hc := Lib.hid (none_at h)
  have hD : ∀ e, dRefuse D b = e → Hid (dRefuse D b = e) := fun _ h => h
  clear h
  unfold maxLen at h2
  by_cases hl : D.left = 0
  · have he := hD 30 (by unfold dRefuse; rw [if_pos hl])
    go_enter Try.func35, Try.ntmps35
    go_wp2_with (go_at_call 43; refine hc.out.mono ?_; rintro e w1 ⟨rfl, rfl⟩)
    go_ret
    rw [he.out]
    exact ⟨rfl, rfl⟩
  · by_cases hb : b < 0
    · have he := hD 2 (by unfold dRefuse; rw [if_neg hl, if_pos (.inl hb)])
      have d1 : decide (b < 0) = true := by simpa using hb
      go_enter Try.func35, Try.ntmps35
      go_wp2_with (go_at_call 43; refine hc.out.mono ?_; rintro e w1 ⟨rfl, rfl⟩)
      go_ret
      rw [he.out]
      exact ⟨rfl, rfl⟩
    · have d1 : decide (b < 0) = false := by simpa using hb
      by_cases hn : (D.safe.length : Int) ≤ b
      · have he := hD 2 (by unfold dRefuse; rw [if_neg hl, if_pos (.inr hn)])
        have d2 : decide ((D.safe.length : Int) ≤ b) = true := by simpa using hn
        go_enter Try.func35, Try.ntmps35
        go_wp2_with (go_at_call 43; refine hc.out.mono ?_; rintro e w1 ⟨rfl, rfl⟩)
        go_ret
        rw [he.out]
        exact ⟨rfl, rfl⟩
      · have he := hD 0 (by unfold dRefuse; rw [if_neg hl, if_neg (by omega)])
        have d2 : decide ((D.safe.length : Int) ≤ b) = false := by simpa using hn
        go_enter Try.func35, Try.ntmps35
        go_wp2_with (go_at_call 43; refine hc.out.mono ?_; rintro e w1 ⟨rfl, rfl⟩)
        go_ret
        rw [he.out]
        exact ⟨rfl, rfl⟩
def DPost (v : Value) (base r gs gn : Nat) (vw : Value) (D : Dk) (w : World) (e : Ending) (w' : World) : Prop :=
  ∃ vw', e = .returned v ∧ DAt w' base r gs gn vw' D ∧ Ch (Foot r gs gn vw) w w' ∧ ∀ k, vw'.ownBlock = some k → vw.ownBlock = some k ∨ w.heap.size ≤ k
def ActPost (base r gs gn : Nat) (vw : Value) (D : Dk) (w : World) (e : Ending) (w' : World) : Prop := e = .returned (.tuple #[]) ∧ DAt w' base r gs gn vw (dAct D) ∧ Ch (fun k => k = r) w w'
theorem act_at {W : World} {base r gs gn : Nat} {vw : Value} {D : Dk} (ha : D.acts < 1000000000) (h : DAt W base r gs gn vw D) : Calls Try.prog 47 #[.pointer (some ⟨r, 0, none⟩)] W (ActPost base r gs gn vw D W) := by
  obtain ⟨cs, cn, _, _, _, c3, c4, _⟩ := h.cells
  have f3 := h.free 3
  have f4 := h.free 4
  have a0 := h.ok.a0
  have l0 := h.ok.l0
  have l1 := h.ok.l1
  have w3 : IntKind.i64.wrap (D.acts + 1) = D.acts + 1 := IntWalk.i64_in _ (by omega)
  by_cases hl : 0 < D.left
  · have w4 : IntKind.i64.wrap (D.left - 1) = D.left - 1 := IntWalk.i64_in _ (by omega)
    have d1 : decide (0 < D.left) = true := by simpa using hl
    have h1 := Lib.hid (h.acted { D with acts := D.acts + 1 } ⟨h.ok.same, h.ok.pos, h.ok.most, h.ok.rng, h.ok.few, by show (0 : Int) ≤ D.acts + 1; omega, by show D.acts + 1 ≤ 1000000000; omega, h.ok.l0, h.ok.l1⟩ rfl rfl rfl 3 (by decide) (.int .i64 (D.acts + 1)) (fun _ _ => rfl))
    have h2 := Lib.hid (h1.out.acted (dAct D) (h.ok.act ha) rfl rfl rfl 4 (by decide) (.int .i64 (D.left - 1)) (fun _ _ => by unfold dAct dc; rw [if_pos hl]; rfl))
    have g4 : (W.setCell ⟨r, 3, none⟩ (.int .i64 (D.acts + 1))).cell? ⟨r, 4, none⟩ = some (.int .i64 D.left) := h1.out.cells.choose_spec.choose_spec.2.2.2.2.1
    have g5 := h1.out.free 4
    clear h
    go_enter Try.func47, Try.ntmps47
    go_wp2_with fail
    exact bodyPost_end (results_none rfl _ _ _) rfl ⟨rfl, h2.out, Ch.same (Ch.cell (F := fun k => k = r) (a := ⟨r, 3, none⟩) rfl) (Ch.cell (F := fun k => k = r) (a := ⟨r, 4, none⟩) rfl)⟩
  · have d1 : decide (0 < D.left) = false := by simpa using hl
    have h1 := Lib.hid (h.acted (dAct D) (h.ok.act ha) rfl rfl rfl 3 (by decide) (.int .i64 (D.acts + 1)) (fun _ _ => by unfold dAct dc; rw [if_neg hl]; rfl))
    have g4 : (W.setCell ⟨r, 3, none⟩ (.int .i64 (D.acts + 1))).cell? ⟨r, 4, none⟩ = some (.int .i64 D.left) := by
      have := h1.out.cells.choose_spec.choose_spec.2.2.2.2.1
      rw [show (dAct D).left = D.left from if_neg hl] at this
      exact this
    clear h
    go_enter Try.func47, Try.ntmps47
    go_wp2_with fail
    exact bodyPost_end (results_none rfl _ _ _) rfl ⟨rfl, h1.out, Ch.cell rfl⟩
end Go.Proofs.Ytbcjcfjbdjdajaa
