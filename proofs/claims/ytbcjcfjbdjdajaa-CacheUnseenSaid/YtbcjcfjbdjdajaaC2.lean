/- The cache's inner functions, New, Disk, Read, walked. The disk's power doesn't go. -/
import Derived.Test.YtbcjcfjbdjdajaaC1
namespace Go.Proofs.Ytbcjcfjbdjdajaa
open Go.RowKit
attribute [local go_sem ↓] loadAtB storeAtB loadAtH storeAtH buildAtH buildAtB
theorem CAt.cells {W : World} {c : Cf} {vw : Value} {C : Ck} (h : CAt W c vw C) : W.cell? ⟨c.rc, 0, none⟩ = some (.pointer (some ⟨c.r, 0, none⟩)) ∧ W.cell? ⟨c.rc, 1, none⟩ = some (.map (some c.hm)) ∧ W.cell? ⟨c.rc, 2, none⟩ = some (.map (some c.pm)) :=
  ⟨h.obj.cell 0, h.obj.cell 1, h.obj.cell 2⟩
theorem none_c {W : World} {c : Cf} {vw : Value} {C : Ck} (h : CAt W c vw C) : Calls Try.prog 36 #[.pointer (some ⟨c.rc, 0, none⟩)] W (SamePost (.bool false) W) := by
  obtain ⟨c0, _, _⟩ := h.cells
  clear h
  go_enter Try.func36, Try.ntmps36
  go_wp2_with fail
  go_ret
  exact ⟨rfl, rfl⟩
def cRef (C : Ck) (b : Int) : Int := if b < 0 ∨ (C.D.safe.length : Int) ≤ b then 2 else 0
theorem refuse_c {W : World} {c : Cf} {vw : Value} {C : Ck} (b : Int) (h : CAt W c vw C) : Calls Try.prog 38 #[.pointer (some ⟨c.rc, 0, none⟩), .int .i64 b] W (SamePost (.int .i64 (cRef C b)) W) := by
  obtain ⟨c0, _, _⟩ := h.cells
  have hn := Lib.hid (none_c h)
  have hb := Lib.hid (blocks_at h.disk)
  obtain ⟨n, hnn⟩ : ∃ n : Nat, n = C.D.safe.length := ⟨_, rfl⟩
  have hr : Hid (cRef C b = if b < 0 ∨ (n : Int) ≤ b then 2 else 0) := by unfold cRef Hid; rw [hnn]
  rw [← hnn] at hb
  rw [hr.out]
  clear h hr hnn
  by_cases h0 : b < 0
  · have d1 : decide (b < 0) = true := by simpa using h0
    rw [if_pos (.inl h0)]
    clear h0
    go_enter Try.func38, Try.ntmps38
    go_wp2_with (go_at_call 36; refine hn.out.mono ?_; rintro e w1 ⟨rfl, rfl⟩)
    go_ret
    exact ⟨rfl, rfl⟩
  · have d1 : decide (b < 0) = false := by simpa using h0
    by_cases h1 : (n : Int) ≤ b
    · have d2 : decide ((n : Int) ≤ b) = true := by simpa using h1
      rw [if_pos (.inr h1)]
      clear h0 h1
      go_enter Try.func38, Try.ntmps38
      go_wp2_with (first | (go_at_call 36; refine hn.out.mono ?_; rintro e w1 ⟨rfl, rfl⟩) | (go_at_call 39; refine hb.out.mono ?_; rintro e w1 ⟨rfl, rfl⟩))
      go_ret
      exact ⟨rfl, rfl⟩
    · have d2 : decide ((n : Int) ≤ b) = false := by simpa using h1
      rw [if_neg (by omega)]
      clear h0 h1
      go_enter Try.func38, Try.ntmps38
      go_wp2_with (first | (go_at_call 36; refine hn.out.mono ?_; rintro e w1 ⟨rfl, rfl⟩) | (go_at_call 39; refine hb.out.mono ?_; rintro e w1 ⟨rfl, rfl⟩))
      go_ret
      exact ⟨rfl, rfl⟩
theorem disk_c {W : World} {c : Cf} {vw : Value} {C : Ck} (h : CAt W c vw C) : Calls Try.prog 23 #[.pointer (some ⟨c.rc, 0, none⟩)] W (SamePost (.pointer (some ⟨c.r, 0, none⟩)) W) := by
  obtain ⟨c0, _, _⟩ := h.cells
  have hn := Lib.hid (none_c h)
  clear h
  go_enter Try.func23, Try.ntmps23
  go_wp2_with (go_at_call 36; refine hn.out.mono ?_; rintro e w1 ⟨rfl, rfl⟩)
  go_ret
  exact ⟨rfl, rfl⟩
theorem mk55 : ∀ w, (Instr.makeMap 55 none).run Try.prog w = .ok (.map (some w.heap.size)) (w.alloc (.map #[] 0)) := fun w => by kernel_rfl
theorem mk56 : ∀ w, (Instr.makeMap 56 none).run Try.prog w = .ok (.map (some w.heap.size)) (w.alloc (.map #[] 0)) := fun w => by kernel_rfl
def newC (D : Dk) : Ck := ⟨D, [], []⟩
/-- Where a new cache over a disk lies. -/
def newCf (base r gs gn n : Nat) : Cf := ⟨base, n + 1 + 1, r, gs, gn, n, n + 1⟩
theorem newc_at {W : World} {base r gs gn : Nat} {vw : Value} {D : Dk} (h : DAt W base r gs gn vw D) :
    Calls Try.prog 21 #[.pointer (some ⟨r, 0, none⟩)] W (fun e w' => e = .returned (.tuple #[.pointer (some ⟨W.heap.size + 1 + 1, 0, none⟩), .int .i64 0]) ∧ CAt w' (newCf base r gs gn W.heap.size) vw (newC D) ∧ Below W.heap.size W w') := by
  have H := Lib.hid h
  have hb := Lib.hid (blocks_at h)
  have hpos : 1 ≤ D.safe.length := h.ok.pos
  have hne : ((D.safe.length : Int) == 0) = false := by simp; intro e; rw [e] at hpos; simp at hpos
  have m5 := mk55
  have m6 := mk56
  clear h hpos
  go_enter Try.func21, Try.ntmps21
  go_wp2_with (go_at_call 39; refine hb.out.mono ?_; rintro e w1 ⟨rfl, rfl⟩)
  refine bodyPost_ret (results_tmp2 rfl _ _ _) rfl ⟨rfl, ?_, ?_⟩
  · have hlt : ∀ k, Foot r gs gn vw k → k < w1.heap.size := fun k hk => (H.out.lt k hk).2
    have hbel : Below w1.heap.size w1 (((w1.alloc (.map #[] 0)).alloc (.map #[] 0)).alloc (.cells #[.pointer (some ⟨r, 0, none⟩), .map (some w1.heap.size), .map (some (w1.heap.size + 1))] 58)) := (((Below.refl _ _).alloc (Nat.le_refl _) _).alloc (by simp) _).alloc (by simp; omega) _
    have m1 : MapOf hval ((w1.alloc (.map #[] 0)).alloc (.map #[] 0)) w1.heap.size ([] : HM) := (MapOf.made w1).of_heap (Below.heap_alloc _ _ _ (by simp))
    have m2 : MapOf pval ((w1.alloc (.map #[] 0)).alloc (.map #[] 0)) (w1.heap.size + 1) ([] : PM) := by
      have := MapOf.made (f := pval) (w1.alloc (.map #[] 0))
      simpa using this
    have hbase : base ≤ w1.heap.size := Nat.le_of_lt (Nat.lt_of_le_of_lt H.out.base (H.out.lt r (.inl rfl)).2)
    refine ⟨H.out.later hbel, ?_, m1.of_heap (Below.heap_alloc _ _ _ (by simp; omega)), m2.of_heap (Below.heap_alloc _ _ _ (by simp)), ?_, hbase, ?_, ?_, ?_, ?_, fun k hk => ?_⟩
    · have := Whole.new ((w1.alloc (.map #[] 0)).alloc (.map #[] 0)) (cco (newCf base r gs gn w1.heap.size)) 58
      rw [show ((w1.alloc (.map #[] 0)).alloc (.map #[] 0)).heap.size = w1.heap.size + 1 + 1 by simp] at this
      exact this
    · show base ≤ w1.heap.size + 1 + 1; omega
    · show base ≤ w1.heap.size + 1; omega
    · show w1.heap.size + 1 + 1 ≠ w1.heap.size; omega
    · show w1.heap.size + 1 + 1 ≠ w1.heap.size + 1; omega
    · show w1.heap.size ≠ w1.heap.size + 1; omega
    · have := hlt k hk
      refine ⟨?_, ?_, ?_⟩
      · show k ≠ w1.heap.size + 1 + 1; omega
      · show k ≠ w1.heap.size; omega
      · show k ≠ w1.heap.size + 1; omega
  · exact (((Below.refl _ _).alloc (Nat.le_refl _) _).alloc (by simp) _).alloc (by simp; omega) _
end Go.Proofs.Ytbcjcfjbdjdajaa
