/- The document's geometry: May, All, Blocks, walked. No condition but those written in each law. -/
import Derived.Test.YtdeeegodiacjgaaGeo
import Derived.Test.YtdeeegodiacjgaaBuild
namespace Go.Proofs.Ytdeeegodiacjgaa
open Go.RowKit
theorem mayB_ok {g : Ge} (h : mayB g = true) : (1 ≤ g.groups ∧ g.groups ≤ 4) ∧ (16 ≤ g.size ∧ g.size ≤ 512) ∧ (4 ≤ g.inodes ∧ g.inodes ≤ 64) ∧ (40 ≤ g.journal ∧ g.journal ≤ 256) ∧ g.inodes % 4 = 0 ∧ 3 + g.inodes / 4 ≤ g.size ∧ geAll g ≤ 2048 := by
  unfold mayB at h
  simp only [Bool.and_eq_true, amongB_iff, decide_eq_true_eq] at h
  obtain ⟨⟨⟨⟨⟨⟨h0, h1⟩, h2⟩, h3⟩, h4⟩, h5⟩, h6⟩ := h
  rw [Int.tmod_eq_emod_of_nonneg (by omega)] at h3
  rw [Int.tdiv_eq_ediv_of_nonneg (by omega)] at h5
  exact ⟨h0, h1, h2, h4, h3, h5, h6⟩
theorem mayB_no {g : Ge} (h : ¬ ((1 ≤ g.groups ∧ g.groups ≤ 4) ∧ (16 ≤ g.size ∧ g.size ≤ 512) ∧ (4 ≤ g.inodes ∧ g.inodes ≤ 64) ∧ (40 ≤ g.journal ∧ g.journal ≤ 256) ∧ g.inodes % 4 = 0 ∧ 3 + g.inodes / 4 ≤ g.size ∧ geAll g ≤ 2048)) : mayB g = false := by
  cases hm : mayB g with
  | false => rfl
  | true => exact absurd (mayB_ok hm) h
theorem mayB_yes {g : Ge} (h : (1 ≤ g.groups ∧ g.groups ≤ 4) ∧ (16 ≤ g.size ∧ g.size ≤ 512) ∧ (4 ≤ g.inodes ∧ g.inodes ≤ 64) ∧ (40 ≤ g.journal ∧ g.journal ≤ 256) ∧ g.inodes % 4 = 0 ∧ 3 + g.inodes / 4 ≤ g.size ∧ geAll g ≤ 2048) : mayB g = true := by
  obtain ⟨h0, h1, h2, h4, h3, h5, h6⟩ := h
  unfold mayB
  simp only [Bool.and_eq_true, amongB_iff, decide_eq_true_eq]
  rw [Int.tmod_eq_emod_of_nonneg (by omega), Int.tdiv_eq_ediv_of_nonneg (by omega)]
  exact ⟨⟨⟨⟨⟨⟨h0, h1⟩, h2⟩, h3⟩, h4⟩, h5⟩, h6⟩
set_option maxRecDepth 100000 in
set_option maxHeartbeats 1000000 in
theorem rmay_any (g : Ge) (w : World) : Calls Try.prog 48 #[.agg (ga g)] w (GPost (.bool (mayB g)) w) := by
  have hu : ∀ r, mayB g = r → Hid (mayB g = r) := fun _ h => h
  cases d0 : decide (g.groups < 1) with
  | true =>
    have he := hu false (mayB_no (by have := of_decide_eq_true d0; omega))
    clear hu
    unfold ga
    go_enter Try.func48, Try.ntmps48
    go_wp2_with fail
    go_ret
    rw [he.out]
    exact ⟨rfl, (Below.refl _ _).alloc (Nat.le_refl _) _⟩
  | false =>
    cases d1 : decide (4 < g.groups) with
    | true =>
      have he := hu false (mayB_no (by have := of_decide_eq_true d1; omega))
      clear hu
      unfold ga
      go_enter Try.func48, Try.ntmps48
      go_wp2_with fail
      go_ret
      rw [he.out]
      exact ⟨rfl, (Below.refl _ _).alloc (Nat.le_refl _) _⟩
    | false =>
      cases d2 : decide (g.size < 16) with
      | true =>
        have he := hu false (mayB_no (by have := of_decide_eq_true d2; omega))
        clear hu
        unfold ga
        go_enter Try.func48, Try.ntmps48
        go_wp2_with fail
        go_ret
        rw [he.out]
        exact ⟨rfl, (Below.refl _ _).alloc (Nat.le_refl _) _⟩
      | false =>
        cases d3 : decide (512 < g.size) with
        | true =>
          have he := hu false (mayB_no (by have := of_decide_eq_true d3; omega))
          clear hu
          unfold ga
          go_enter Try.func48, Try.ntmps48
          go_wp2_with fail
          go_ret
          rw [he.out]
          exact ⟨rfl, (Below.refl _ _).alloc (Nat.le_refl _) _⟩
        | false =>
          cases d4 : decide (g.inodes < 4) with
          | true =>
            have he := hu false (mayB_no (by have := of_decide_eq_true d4; omega))
            clear hu
            unfold ga
            go_enter Try.func48, Try.ntmps48
            go_wp2_with fail
            go_ret
            rw [he.out]
            exact ⟨rfl, (Below.refl _ _).alloc (Nat.le_refl _) _⟩
          | false =>
            cases d5 : decide (64 < g.inodes) with
            | true =>
              have he := hu false (mayB_no (by have := of_decide_eq_true d5; omega))
              clear hu
              unfold ga
              go_enter Try.func48, Try.ntmps48
              go_wp2_with fail
              go_ret
              rw [he.out]
              exact ⟨rfl, (Below.refl _ _).alloc (Nat.le_refl _) _⟩
            | false =>
              have p0 : 4 ≤ g.inodes := by have := of_decide_eq_false d4; omega
              have e2 : IntKind.i64.wrap (Int.tmod g.inodes 4) = Int.tmod g.inodes 4 := IntWalk.i64_in _ (by rw [Int.tmod_eq_emod_of_nonneg (by omega)]; omega)
              have e3 : IntKind.i64.wrap (g.inodes % 4) = g.inodes % 4 := IntWalk.i64_in _ (by omega)
              by_cases h6 : g.inodes % 4 = 0
              case neg =>
                have he := hu false (mayB_no (by omega))
                clear hu
                unfold ga
                go_enter Try.func48, Try.ntmps48
                go_wp2_with fail
                go_ret
                rw [he.out]
                exact ⟨rfl, (Below.refl _ _).alloc (Nat.le_refl _) _⟩
              case pos =>
                cases d7 : decide (g.journal < 40) with
                | true =>
                  have he := hu false (mayB_no (by have := of_decide_eq_true d7; omega))
                  clear hu
                  unfold ga
                  go_enter Try.func48, Try.ntmps48
                  go_wp2_with fail
                  go_ret
                  rw [he.out]
                  exact ⟨rfl, (Below.refl _ _).alloc (Nat.le_refl _) _⟩
                | false =>
                  cases d8 : decide (256 < g.journal) with
                  | true =>
                    have he := hu false (mayB_no (by have := of_decide_eq_true d8; omega))
                    clear hu
                    unfold ga
                    go_enter Try.func48, Try.ntmps48
                    go_wp2_with fail
                    go_ret
                    rw [he.out]
                    exact ⟨rfl, (Below.refl _ _).alloc (Nat.le_refl _) _⟩
                  | false =>
                    have r0 : (1 ≤ g.groups ∧ g.groups ≤ 4) ∧ (16 ≤ g.size ∧ g.size ≤ 512) ∧ (4 ≤ g.inodes ∧ g.inodes ≤ 64) ∧ (40 ≤ g.journal ∧ g.journal ≤ 256) := by have := of_decide_eq_false d0; have := of_decide_eq_false d1; have := of_decide_eq_false d2; have := of_decide_eq_false d3; have := of_decide_eq_false d4; have := of_decide_eq_false d5; have := of_decide_eq_false d7; have := of_decide_eq_false d8; omega
                    have t0 : Int.tdiv g.inodes 4 = g.inodes / 4 := Int.tdiv_eq_ediv_of_nonneg (by omega)
                    have e4 : IntKind.i64.wrap (Int.tdiv g.inodes 4) = Int.tdiv g.inodes 4 := IntWalk.i64_in _ (by rw [t0]; omega)
                    have e5 : IntKind.i64.wrap (3 + Int.tdiv g.inodes 4) = 3 + Int.tdiv g.inodes 4 := IntWalk.i64_in _ (by rw [t0]; omega)
                    have e6 : IntKind.i64.wrap (g.inodes / 4) = g.inodes / 4 := IntWalk.i64_in _ (by omega)
                    have e7 : IntKind.i64.wrap (3 + g.inodes / 4) = 3 + g.inodes / 4 := IntWalk.i64_in _ (by omega)
                    have hp : 0 ≤ g.groups * g.size := Int.mul_nonneg (by omega) (by omega)
                    have hq : g.groups * g.size ≤ 4 * 512 := Int.mul_le_mul (by omega) (by omega) (by omega) (by omega)
                    have w1 : IntKind.i64.wrap (g.groups * g.size) = g.groups * g.size := IntWalk.i64_in _ (by omega)
                    have w2 : IntKind.i64.wrap (2 + g.journal) = 2 + g.journal := IntWalk.i64_in _ (by omega)
                    have w3 : IntKind.i64.wrap (2 + g.journal + g.groups * g.size) = 2 + g.journal + g.groups * g.size := IntWalk.i64_in _ (by omega)
                    cases d10 : decide (3 + g.inodes / 4 ≤ g.size) with
                    | false =>
                      have he := hu false (mayB_no (by have := of_decide_eq_false d10; omega))
                      clear hu
                      unfold ga
                      go_enter Try.func48, Try.ntmps48
                      go_wp2_with fail
                      go_ret
                      rw [he.out]
                      exact ⟨rfl, (Below.refl _ _).alloc (Nat.le_refl _) _⟩
                    | true =>
                      have he : Hid (mayB g = decide (2 + g.journal + g.groups * g.size ≤ 2048)) := by
                        unfold Hid
                        have a1 := of_decide_eq_true d10
                        cases d11 : decide (2 + g.journal + g.groups * g.size ≤ 2048) with
                        | false => exact mayB_no (by have := of_decide_eq_false d11; unfold geAll; omega)
                        | true => exact mayB_yes (by have a2 := of_decide_eq_true d11; unfold geAll; omega)
                      clear hu
                      unfold ga
                      go_enter Try.func48, Try.ntmps48
                      go_wp2_with fail
                      go_ret
                      rw [he.out]
                      exact ⟨rfl, (Below.refl _ _).alloc (Nat.le_refl _) _⟩
end Go.Proofs.Ytdeeegodiacjgaa
