/- Geometries of the given program: May, all, Blocks, walked. No condition but those written in each law. -/
import Derived.Test.YtdeeegodiacjgaaRow
import Derived.Test.YtdeeegodiacjgaaChecked
namespace Go.Proofs.Ytdeeegodiacjgaa
open Go.RowKit
structure Ge where
  groups : Int
  size : Int
  inodes : Int
  journal : Int
def ga (g : Ge) : Array Value := #[.int .i64 g.groups, .int .i64 g.size, .int .i64 g.inodes, .int .i64 g.journal]
def gI (x : Int) : Prop := -9223372036854775808 ≤ x ∧ x < 9223372036854775808
def GeIn (g : Ge) : Prop := gI g.groups ∧ gI g.size ∧ gI g.inodes ∧ gI g.journal
def amongB (n a b : Int) : Bool := decide (a ≤ n) && decide (n ≤ b)
def GPost (v : Value) (w : World) (e : Ending) (w' : World) : Prop := e = .returned v ∧ Below w.heap.size w w'
theorem among_is {n a b : Int} {r : Bool} (h : amongB n a b = r) (w : World) : Calls Try.prog 54 #[.int .i64 n, .int .i64 a, .int .i64 b] w (fun e w' => e = .returned (.bool r) ∧ w' = w) := by
  subst h
  unfold amongB
  by_cases h1 : a ≤ n
  · have d1 : decide (a ≤ n) = true := by simpa using h1
    go_enter Try.func54, Try.ntmps54
    go_wp2_with fail
    go_ret
    refine ⟨?_, rfl⟩
    rw [d1]
    rfl
  · have d1 : decide (a ≤ n) = false := by simpa using h1
    go_enter Try.func54, Try.ntmps54
    go_wp2_with fail
    go_ret
    exact ⟨rfl, rfl⟩
def geAll (g : Ge) : Int := 2 + g.journal + g.groups * g.size
theorem all_any (g : Ge) (h1 : 0 ≤ g.groups ∧ g.groups ≤ 4) (h2 : 0 ≤ g.size ∧ g.size ≤ 512) (h3 : 0 ≤ g.journal ∧ g.journal ≤ 256) (w : World) : Calls Try.prog 55 #[.agg (ga g)] w (GPost (.int .i64 (geAll g)) w) := by
  have hp : 0 ≤ g.groups * g.size := Int.mul_nonneg h1.1 h2.1
  have hq : g.groups * g.size ≤ 4 * 512 := Int.mul_le_mul h1.2 h2.2 h2.1 (by omega)
  have w1 : IntKind.i64.wrap (g.groups * g.size) = g.groups * g.size := IntWalk.i64_in _ (by omega)
  have w2 : IntKind.i64.wrap (2 + g.journal) = 2 + g.journal := IntWalk.i64_in _ (by omega)
  have w3 : IntKind.i64.wrap (2 + g.journal + g.groups * g.size) = 2 + g.journal + g.groups * g.size := IntWalk.i64_in _ (by omega)
  clear h1 h2 h3 hp hq
  unfold geAll ga
  go_enter Try.func55, Try.ntmps55
  go_wp2_with fail
  go_ret
  exact ⟨rfl, (Below.refl _ _).alloc (Nat.le_refl _) _⟩
def mayB (g : Ge) : Bool := amongB g.groups 1 4 && amongB g.size 16 512 && amongB g.inodes 4 64 && decide (Int.tmod g.inodes 4 = 0) && amongB g.journal 40 256 && decide (3 + Int.tdiv g.inodes 4 ≤ g.size) && decide (geAll g ≤ 2048)
theorem amongB_iff {n a b : Int} : amongB n a b = true ↔ a ≤ n ∧ n ≤ b := by simp [amongB]
set_option maxRecDepth 100000 in
set_option maxHeartbeats 1000000 in
theorem may_any (g : Ge) (w : World) : Calls Try.prog 40 #[.agg (ga g)] w (GPost (.bool (mayB g)) w) := by
  have hu : ∀ r, mayB g = r → Hid (mayB g = r) := fun _ h => h
  cases h0 : amongB g.groups 1 4 with
  | false =>
    have he := hu false (by unfold mayB; rw [h0]; simp)
    unfold ga
    go_enter Try.func40, Try.ntmps40
    go_wp2_with (go_at_call 54; refine (among_is rfl _).mono ?_; rintro e w' ⟨rfl, rfl⟩; (first | rw [h0]))
    go_ret
    rw [he.out]
    exact ⟨rfl, (Below.refl _ _).alloc (Nat.le_refl _) _⟩
  | true =>
    cases h1 : amongB g.size 16 512 with
    | false =>
      have he := hu false (by unfold mayB; rw [h0, h1]; simp)
      unfold ga
      go_enter Try.func40, Try.ntmps40
      go_wp2_with (go_at_call 54; refine (among_is rfl _).mono ?_; rintro e w' ⟨rfl, rfl⟩; (first | rw [h0] | rw [h1]))
      go_ret
      rw [he.out]
      exact ⟨rfl, (Below.refl _ _).alloc (Nat.le_refl _) _⟩
    | true =>
      cases h2 : amongB g.inodes 4 64 with
      | false =>
        have he := hu false (by unfold mayB; rw [h0, h1, h2]; simp)
        unfold ga
        go_enter Try.func40, Try.ntmps40
        go_wp2_with (go_at_call 54; refine (among_is rfl _).mono ?_; rintro e w' ⟨rfl, rfl⟩; (first | rw [h0] | rw [h1] | rw [h2]))
        go_ret
        rw [he.out]
        exact ⟨rfl, (Below.refl _ _).alloc (Nat.le_refl _) _⟩
      | true =>
        cases h3 : decide (Int.tmod g.inodes 4 = 0) with
        | false =>
          have he := hu false (by unfold mayB; rw [h0, h1, h2, h3]; simp)
          obtain ⟨p1, p2⟩ := amongB_iff.1 h2
          have e2 : IntKind.i64.wrap (Int.tmod g.inodes 4) = Int.tmod g.inodes 4 := IntWalk.i64_in _ (by rw [Int.tmod_eq_emod_of_nonneg (by omega)]; omega)
          have e3 : ¬ g.inodes % 4 = 0 := by rw [← Int.tmod_eq_emod_of_nonneg (by omega)]; exact of_decide_eq_false h3
          unfold ga
          go_enter Try.func40, Try.ntmps40
          go_wp2_with (go_at_call 54; refine (among_is rfl _).mono ?_; rintro e w' ⟨rfl, rfl⟩; (first | rw [h0] | rw [h1] | rw [h2]))
          go_ret
          rw [he.out]
          exact ⟨rfl, (Below.refl _ _).alloc (Nat.le_refl _) _⟩
        | true =>
          cases h4 : amongB g.journal 40 256 with
          | false =>
            have he := hu false (by unfold mayB; rw [h0, h1, h2, h3, h4]; simp)
            obtain ⟨p1, p2⟩ := amongB_iff.1 h2
            have e2 : IntKind.i64.wrap (Int.tmod g.inodes 4) = Int.tmod g.inodes 4 := IntWalk.i64_in _ (by rw [Int.tmod_eq_emod_of_nonneg (by omega)]; omega)
            have e3 : Int.tmod g.inodes 4 = 0 := of_decide_eq_true h3
            unfold ga
            go_enter Try.func40, Try.ntmps40
            go_wp2_with (go_at_call 54; refine (among_is rfl _).mono ?_; rintro e w' ⟨rfl, rfl⟩; (first | rw [h0] | rw [h1] | rw [h2] | rw [h4]))
            go_ret
            rw [he.out]
            exact ⟨rfl, (Below.refl _ _).alloc (Nat.le_refl _) _⟩
          | true =>
            cases h5 : decide (3 + Int.tdiv g.inodes 4 ≤ g.size) with
            | false =>
              have he := hu false (by unfold mayB; rw [h0, h1, h2, h3, h4, h5]; simp)
              obtain ⟨q1, q2⟩ := amongB_iff.1 h2
              have e0 : IntKind.i64.wrap (Int.tdiv g.inodes 4) = Int.tdiv g.inodes 4 := IntWalk.i64_in _ (by rw [Int.tdiv_eq_ediv_of_nonneg (by omega)]; omega)
              have e1 : IntKind.i64.wrap (3 + Int.tdiv g.inodes 4) = 3 + Int.tdiv g.inodes 4 := IntWalk.i64_in _ (by rw [Int.tdiv_eq_ediv_of_nonneg (by omega)]; omega)
              obtain ⟨p1, p2⟩ := amongB_iff.1 h2
              have e2 : IntKind.i64.wrap (Int.tmod g.inodes 4) = Int.tmod g.inodes 4 := IntWalk.i64_in _ (by rw [Int.tmod_eq_emod_of_nonneg (by omega)]; omega)
              have e3 : Int.tmod g.inodes 4 = 0 := of_decide_eq_true h3
              unfold ga
              go_enter Try.func40, Try.ntmps40
              go_wp2_with (go_at_call 54; refine (among_is rfl _).mono ?_; rintro e w' ⟨rfl, rfl⟩; (first | rw [h0] | rw [h1] | rw [h2] | rw [h4]))
              go_ret
              rw [he.out]
              exact ⟨rfl, (Below.refl _ _).alloc (Nat.le_refl _) _⟩
            | true =>
              cases h6 : decide (geAll g ≤ 2048) with
              | false =>
                have he := hu false (by unfold mayB; rw [h0, h1, h2, h3, h4, h5, h6]; simp)
                obtain ⟨q1, q2⟩ := amongB_iff.1 h2
                have e0 : IntKind.i64.wrap (Int.tdiv g.inodes 4) = Int.tdiv g.inodes 4 := IntWalk.i64_in _ (by rw [Int.tdiv_eq_ediv_of_nonneg (by omega)]; omega)
                have e1 : IntKind.i64.wrap (3 + Int.tdiv g.inodes 4) = 3 + Int.tdiv g.inodes 4 := IntWalk.i64_in _ (by rw [Int.tdiv_eq_ediv_of_nonneg (by omega)]; omega)
                obtain ⟨p1, p2⟩ := amongB_iff.1 h2
                have e2 : IntKind.i64.wrap (Int.tmod g.inodes 4) = Int.tmod g.inodes 4 := IntWalk.i64_in _ (by rw [Int.tmod_eq_emod_of_nonneg (by omega)]; omega)
                have e3 : Int.tmod g.inodes 4 = 0 := of_decide_eq_true h3
                have b0 := amongB_iff.1 h0
                have b1 := amongB_iff.1 h1
                have b4 := amongB_iff.1 h4
                have hall := Lib.hid (all_any g ⟨by omega, b0.2⟩ ⟨by omega, b1.2⟩ ⟨by omega, b4.2⟩)
                unfold ga at hall ⊢
                go_enter Try.func40, Try.ntmps40
                go_wp2_with (first | (go_at_call 54; refine (among_is rfl _).mono ?_; rintro e w' ⟨rfl, rfl⟩; (first | rw [h0] | rw [h1] | rw [h2] | rw [h4])) | (go_at_call 55; refine (hall.out _).mono ?_; rintro e w' ⟨rfl, hb⟩; have B := Lib.hid hb; clear hb))
                go_ret
                rw [he.out]
                exact ⟨rfl, ((Below.refl _ _).alloc (Nat.le_refl _) _).trans (B.out.mono (by simp))⟩
              | true =>
                have he := hu true (by unfold mayB; rw [h0, h1, h2, h3, h4, h5, h6]; rfl)
                obtain ⟨q1, q2⟩ := amongB_iff.1 h2
                have e0 : IntKind.i64.wrap (Int.tdiv g.inodes 4) = Int.tdiv g.inodes 4 := IntWalk.i64_in _ (by rw [Int.tdiv_eq_ediv_of_nonneg (by omega)]; omega)
                have e1 : IntKind.i64.wrap (3 + Int.tdiv g.inodes 4) = 3 + Int.tdiv g.inodes 4 := IntWalk.i64_in _ (by rw [Int.tdiv_eq_ediv_of_nonneg (by omega)]; omega)
                obtain ⟨p1, p2⟩ := amongB_iff.1 h2
                have e2 : IntKind.i64.wrap (Int.tmod g.inodes 4) = Int.tmod g.inodes 4 := IntWalk.i64_in _ (by rw [Int.tmod_eq_emod_of_nonneg (by omega)]; omega)
                have e3 : Int.tmod g.inodes 4 = 0 := of_decide_eq_true h3
                have b0 := amongB_iff.1 h0
                have b1 := amongB_iff.1 h1
                have b4 := amongB_iff.1 h4
                have hall := Lib.hid (all_any g ⟨by omega, b0.2⟩ ⟨by omega, b1.2⟩ ⟨by omega, b4.2⟩)
                unfold ga at hall ⊢
                go_enter Try.func40, Try.ntmps40
                go_wp2_with (first | (go_at_call 54; refine (among_is rfl _).mono ?_; rintro e w' ⟨rfl, rfl⟩; (first | rw [h0] | rw [h1] | rw [h2] | rw [h4])) | (go_at_call 55; refine (hall.out _).mono ?_; rintro e w' ⟨rfl, hb⟩; have B := Lib.hid hb; clear hb))
                go_ret
                rw [he.out]
                exact ⟨rfl, ((Below.refl _ _).alloc (Nat.le_refl _) _).trans (B.out.mono (by simp))⟩
end Go.Proofs.Ytdeeegodiacjgaa
