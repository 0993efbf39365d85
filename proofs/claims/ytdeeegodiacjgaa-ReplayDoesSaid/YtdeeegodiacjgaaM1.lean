/- The document's rule of what lies outside of the journal, and of sequence numbers, walked. A geometry that may be. -/
import Derived.Test.YtdeeegodiacjgaaGeoL
import Derived.Test.YtdeeegodiacjgaaD1
namespace Go.Proofs.Ytdeeegodiacjgaa
open Go.RowKit
def outB (g : Ge) (b : Int) : Bool := decide (0 ≤ b) && decide (b < gBlk g) && (decide (b < 2) || decide (2 + g.journal ≤ b))
theorem seq_any (s : Nat) (w : World) : Calls Try.prog 50 #[.int .u32 (s : Int)] w (fun e w' => e = .returned (.bool (numB s)) ∧ w' = w) := by
  by_cases h1 : 1 ≤ s
  · have d1 : decide ((1 : Int) ≤ (s : Int)) = true := by simp; omega
    have d2 : decide ((s : Int) ≤ 2147483648) = decide (s ≤ 2147483648) := by congr 1; exact propext (by omega)
    have d3 : decide (1 ≤ s) = true := by simpa using h1
    go_enter Try.func50, Try.ntmps50
    go_wp2_with fail
    go_ret
    refine ⟨?_, rfl⟩
    unfold numB
    first | (rw [d3]; rfl) | (rw [d3, ← d2]; rfl) | (simp only [d3, d2]; rfl)
  · have d1 : decide ((1 : Int) ≤ (s : Int)) = false := by simp; omega
    have d3 : decide (1 ≤ s) = false := by simpa using h1
    go_enter Try.func50, Try.ntmps50
    go_wp2_with fail
    go_ret
    refine ⟨?_, rfl⟩
    unfold numB
    rw [d3]
    rfl
set_option maxRecDepth 100000 in
set_option maxHeartbeats 1000000 in
theorem rout_any (g : Ge) (b : Int) (hm : mayB g = true) (w : World) : Calls Try.prog 51 #[.agg (ga g), .int .i64 b] w (GPost (.bool (outB g b)) w) := by
  have hbl := Lib.hid (rblocks_any g)
  have k := (mayB_ok hm).2.2.2.1
  have hu : ∀ r, outB g b = r → Hid (outB g b = r) := fun _ h => h
  have wJ : IntKind.i64.wrap (2 + g.journal) = 2 + g.journal := IntWalk.i64_in _ (by omega)
  have hrow : Hid (Whole (w.alloc (.cells (ga g) 43)) w.heap.size (ga g) 43) := Whole.new w (ga g) 43
  have hB0 : Hid (Below w.heap.size w (w.alloc (.cells (ga g) 43))) := (Below.refl _ _).alloc (Nat.le_refl _) _
  unfold outB at hu
  obtain ⟨n, hn⟩ : ∃ n, Hid (gBlk g = n) := ⟨_, rfl⟩
  rw [hn.out] at hbl hu
  unfold ga at hbl hrow hB0 ⊢
  clear k hm
  cases d1 : decide (0 ≤ b) with
  | false =>
    have he := hu false (by rw [d1]; rfl)
    go_enter Try.func51, Try.ntmps51
    go_wp2_with (go_at_call 49; refine (hbl.out _).mono ?_; rintro e w1 ⟨rfl, hb⟩; have B1 := Lib.hid hb; clear hb)
    go_ret
    unfold outB
    rw [hn.out, he.out]
    exact ⟨rfl, hB0.out.trans (B1.out.mono hB0.out.size)⟩
  | true =>
    cases d2 : decide (b < n) with
    | false =>
      have he := hu false (by rw [d1, d2]; rfl)
      go_enter Try.func51, Try.ntmps51
      go_wp2_with (go_at_call 49; refine (hbl.out _).mono ?_; rintro e w1 ⟨rfl, hb⟩; have B1 := Lib.hid hb; clear hb)
      go_ret
      unfold outB
      rw [hn.out, he.out]
      exact ⟨rfl, hB0.out.trans (B1.out.mono hB0.out.size)⟩
    | true =>
      cases d3 : decide (b < 2) with
      | true =>
        have he := hu true (by rw [d1, d2, d3]; rfl)
        go_enter Try.func51, Try.ntmps51
        go_wp2_with (go_at_call 49; refine (hbl.out _).mono ?_; rintro e w1 ⟨rfl, hb⟩; have B1 := Lib.hid hb; clear hb)
        go_ret
        unfold outB
        rw [hn.out, he.out]
        exact ⟨rfl, hB0.out.trans (B1.out.mono hB0.out.size)⟩
      | false =>
        have he := hu (decide (2 + g.journal ≤ b)) (by rw [d1, d2, d3]; rfl)
        go_enter Try.func51, Try.ntmps51
        go_wp2_with (go_at_call 49; refine (hbl.out _).mono ?_; rintro e w1 ⟨rfl, hb⟩; have B1 := Lib.hid hb; clear hb; have R1 := Lib.hid (hrow.out.later B1.out); have c3 := R1.out.cell 3)
        go_ret
        unfold outB
        rw [hn.out, he.out]
        exact ⟨rfl, hB0.out.trans (B1.out.mono hB0.out.size)⟩
end Go.Proofs.Ytdeeegodiacjgaa
