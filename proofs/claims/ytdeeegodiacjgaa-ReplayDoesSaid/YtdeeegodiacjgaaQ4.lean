/- scan.Outside, walked; replay.fits at any disk. -/
import Derived.Test.YtdeeegodiacjgaaQ3
import Derived.Test.YtdeeegodiacjgaaM3
namespace Go.Proofs.Ytdeeegodiacjgaa
open Go.RowKit Go.Shelf
attribute [local go_sem] Oper.semAt_some
theorem outN (G S I J : Nat) (hm : mayB ⟨G, S, 4 * (I : Int), J⟩ = true) (b : Int) : outB ⟨G, S, 4 * (I : Int), J⟩ b = (decide (0 ≤ b) && decide (b < (2 + J + G * S : Nat)) && (decide (b < 2) || decide (2 + (J : Int) ≤ b))) := by
  unfold outB gBlk
  rw [hm]
  unfold geAll
  push_cast
  rfl
set_option maxRecDepth 100000 in
theorem outside_nat (G S I J : Nat) (k1 : G ≤ 4) (k2 : S ≤ 512) (k3 : I ≤ 16) (k4 : J ≤ 256) (k5 : 3 + I ≤ S) (hm : mayB ⟨G, S, 4 * (I : Int), J⟩ = true) (b : Int) (w : World) :
    Calls Try.prog 59 #[.agg #[.int .i64 G, .int .i64 S, .int .i64 (4 * (I : Int)), .int .i64 J], .int .i64 b] w (GPost (.bool (outB ⟨G, S, 4 * (I : Int), J⟩ b)) w) := by
  obtain ⟨k, hk, hC⟩ := what_any G S I J k1 k2 k3 k4 k5 hm b (w.alloc (.cells #[.int .i64 G, .int .i64 S, .int .i64 (4 * (I : Int)), .int .i64 J] 43))
  have hCH := Lib.hid hC
  have hB0 : Hid (Below w.heap.size w (w.alloc (.cells #[.int .i64 G, .int .i64 S, .int .i64 (4 * (I : Int)), .int .i64 J] 43))) := (Below.refl _ _).alloc (Nat.le_refl _) _
  have ho : outB ⟨G, S, 4 * (I : Int), J⟩ b = (!(k == 0) && !(k == 3)) := by
    rw [outN G S I J hm]
    generalize ((2 + J + G * S : Nat) : Int) = n at hk ⊢
    rcases hk with ⟨rfl, h⟩ | ⟨rfl, h⟩ | ⟨h0, h3, h1, h2⟩
    · by_cases c1 : 0 ≤ b
      · have c2 : ¬ b < n := fun c => h ⟨c1, c⟩
        simp [c2]
      · simp [c1]
    · have c1 : ¬ b < 2 := by omega
      have c2 : ¬ 2 + (J : Int) ≤ b := by omega
      simp [c1, c2]
    · have c1 := h1.1
      have c2 := h1.2
      have c3 : b < 2 ∨ 2 + (J : Int) ≤ b := by omega
      have e0 : (k == 0) = false := by simpa using h0
      have e3 : (k == 3) = false := by simpa using h3
      rw [e0, e3]
      simp [c1, c2, c3]
  rw [ho]
  clear hC hk ho hm
  obtain ⟨bo, hbo⟩ : ∃ bo, bo = (!(k == 0) && !(k == 3)) := ⟨_, rfl⟩
  rw [← hbo]
  by_cases e0 : k = 0
  · subst e0
    have hbo' : bo = false := hbo
    subst hbo'
    clear hbo
    go_enter Try.func59, Try.ntmps59
    go_wp2_with (go_at_call 67; refine hCH.out.mono ?_; rintro e w1 ⟨a, c, rfl, hb⟩; have B1 := Lib.hid hb; clear hb)
    go_ret
    exact ⟨rfl, hB0.out.trans (B1.out.mono hB0.out.size)⟩
  · by_cases e3 : k = 3
    · subst e3
      have hbo' : bo = false := hbo
      subst hbo'
      clear hbo
      go_enter Try.func59, Try.ntmps59
      go_wp2_with (go_at_call 67; refine hCH.out.mono ?_; rintro e w1 ⟨a, c, rfl, hb⟩; have B1 := Lib.hid hb; clear hb)
      go_ret
      exact ⟨rfl, hB0.out.trans (B1.out.mono hB0.out.size)⟩
    · have f0 : (k == 0) = false := by simpa using e0
      have f3 : (k == 3) = false := by simpa using e3
      have hbo' : bo = true := by rw [hbo, f0, f3]; rfl
      subst hbo'
      clear hbo
      go_enter Try.func59, Try.ntmps59
      go_wp2_with (go_at_call 67; refine hCH.out.mono ?_; rintro e w1 ⟨a, c, rfl, hb⟩; have B1 := Lib.hid hb; clear hb)
      all_goals first | (exfalso; omega) | skip
      go_ret
      exact ⟨by first | rfl | simp [e3, e0], hB0.out.trans (B1.out.mono hB0.out.size)⟩
theorem outside_any (g : Ge) (hm : mayB g = true) (b : Int) (w : World) : Calls Try.prog 59 #[.agg (ga g), .int .i64 b] w (GPost (.bool (outB g b)) w) := by
  obtain ⟨h1, h2, h3, h4, h5, h6, h7⟩ := mayB_true hm
  obtain ⟨G, S, N, J⟩ := g
  simp only at h1 h2 h3 h4 h5 h6
  obtain ⟨G, rfl⟩ : ∃ n : Nat, G = n := ⟨G.toNat, by omega⟩
  obtain ⟨S, rfl⟩ : ∃ n : Nat, S = n := ⟨S.toNat, by omega⟩
  obtain ⟨J, rfl⟩ : ∃ n : Nat, J = n := ⟨J.toNat, by omega⟩
  obtain ⟨I, rfl⟩ : ∃ n : Nat, N = 4 * (n : Int) := ⟨(N / 4).toNat, by omega⟩
  exact outside_nat G S I J (by omega) (by omega) (by omega) (by omega) (by omega) hm b w
theorem fits_all (g : Ge) (l : List Tr) (v : Value) {W : World} {base r gs gn : Nat} {vw : Value} {D : Dk} (h : DAt W base r gs gn vw D) (ht : Trs W v l) :
    Calls Try.prog 42 #[.pointer (some ⟨r, 0, none⟩), .agg (ga g), v] W (GPost (.bool (fitsB D g l)) W) := fits_any g (fun hm b w => outside_any g hm b w) l v h ht
end Go.Proofs.Ytdeeegodiacjgaa
