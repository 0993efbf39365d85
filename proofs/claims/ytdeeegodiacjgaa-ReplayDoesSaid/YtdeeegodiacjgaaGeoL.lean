/- The document's list of what each block is: its length, walked. No condition. -/
import Derived.Test.YtdeeegodiacjgaaGeoR
namespace Go.Proofs.Ytdeeegodiacjgaa
open Go.RowKit
theorem zeroT : (Try.prog.info? 110).map (fun i => (i.zero, i.size, i.bytes)) = some (some (.agg #[.int .u8 0, .int .i64 0, .int .i64 0, .int .i64 0]), 4, 32) := by kernel_rfl
/-- The list that is built. -/
structure AL (wb : World) (v : Value) (n : Nat) (W : World) : Prop where
  bel : Below wb.heap.size wb W
  own : ∃ xs, W.ownsRow wb.heap.size 110 4 v n xs
theorem AL.app {wb : World} {v v' : Value} {n m : Nat} {W W' : World} {o : Obj} {xs ys : List Value} (h : AL wb v n W) (hx : W.ownsRow wb.heap.size 110 4 v n xs) (hO : W'.ownsRow wb.heap.size 110 4 v' (n + m) (xs ++ ys)) (hg : (W.alloc o).grownBy W' v.ownBlock) : AL wb v' (n + m) W' :=
  ⟨h.bel.trans (below_app (Below.refl _ _) h.bel.size hx ((Below.refl _ _).alloc (Nat.le_refl _) _) hg), _, hO⟩
theorem things_at {W : World} {cs : List Value} {t : TypeId} : ∀ j u, cs[j]? = some u → (W.alloc (.cells cs.toArray t)).cell? ((⟨W.heap.size, 0, none⟩ : Addr).add j) = some u := fun j u hj => by
  rw [Addr.add_mid, Nat.zero_add, (Whole.new W cs.toArray t).cell j]
  simpa using hj
def gBlk (g : Ge) : Int := if mayB g then geAll g else 0
def LenPost (n : Int) (w : World) (e : Ending) (w' : World) : Prop := ∃ (a : Option Addr) (m c : Nat), (m : Int) = n ∧ e = .returned (.slice a m c) ∧ Below w.heap.size w w'
def th (k : Int) (a b c : Int) : List Value := [.int .u8 k, .int .i64 a, .int .i64 b, .int .i64 c]
theorem th_one (k a b c : Int) : ∀ u ∈ th k a b c, u.oneCell' = true := fun u hu => by
  simp [th] at hu
  rcases hu with rfl | rfl | rfl | rfl <;> rfl
theorem th2_one (k a b c k' a' b' c' : Int) : ∀ u ∈ th k a b c ++ th k' a' b' c', u.oneCell' = true := fun u hu => by
  rcases List.mem_append.1 hu with h | h
  · exact th_one _ _ _ _ u h
  · exact th_one _ _ _ _ u h
set_option maxRecDepth 100000 in
set_option maxHeartbeats 2000000 in
theorem all_len (g : Ge) (w : World) : Calls Try.prog 62 #[.agg (ga g)] w (LenPost (gBlk g) w) := by
  have hmay := Lib.hid (rmay_any g)
  have hrow : Hid (Whole (w.alloc (.cells (ga g) 43)) w.heap.size (ga g) 43) := Whole.new w (ga g) 43
  have hB0 : Hid (Below w.heap.size w (w.alloc (.cells (ga g) 43))) := (Below.refl _ _).alloc (Nat.le_refl _) _
  cases hm : mayB g with
  | false =>
    have hB : Hid (gBlk g = 0) := by unfold Hid gBlk; rw [hm]; rfl
    unfold ga at hmay hrow hB0 ⊢
    go_enter Try.func62, Try.ntmps62
    go_wp2_with (go_at_call 48; refine (hmay.out _).mono ?_; rintro e w1 ⟨rfl, hb⟩; rw [hm]; have B1 := Lib.hid hb; clear hb)
    go_ret
    rw [hB.out]
    exact ⟨none, 0, 0, rfl, rfl, hB0.out.trans (B1.out.mono hB0.out.size)⟩
  | true =>
    have hB : Hid (gBlk g = geAll g) := by unfold Hid gBlk; rw [hm]; rfl
    have k := mayB_ok hm
    obtain ⟨gg, gs, gi, gj⟩ := g
    simp only at k
    obtain ⟨G, rfl⟩ : ∃ G : Nat, gg = G := ⟨gg.toNat, by omega⟩
    obtain ⟨S, rfl⟩ : ∃ S : Nat, gs = S := ⟨gs.toNat, by omega⟩
    obtain ⟨I, rfl⟩ : ∃ I : Nat, gi = 4 * (I : Int) := ⟨(gi / 4).toNat, by omega⟩
    obtain ⟨J, rfl⟩ : ∃ J : Nat, gj = J := ⟨gj.toNat, by omega⟩
    have k1 : G ≤ 4 := by omega
    have k2 : S ≤ 512 := by omega
    have k3 : I ≤ 16 := by omega
    have k4 : J ≤ 256 := by omega
    have k5 : 3 + I ≤ S := by omega
    have hall : Hid (geAll ⟨G, S, 4 * (I : Int), J⟩ = ((2 + J + G * S : Nat) : Int)) := by unfold Hid geAll; push_cast; rfl
    clear k
    obtain ⟨j0, hj0, jz0, jz1, jz2⟩ := info_parts zeroT
    unfold ga at hmay hrow hB0 ⊢
    go_enter Try.func62, Try.ntmps62
    go_wp2_with (go_at_call 48; refine (hmay.out _).mono ?_; rintro e w1 ⟨rfl, hb⟩; rw [hm]; have B1 := Lib.hid hb; clear hb)
    have RG : Hid (Whole w1 w.heap.size #[.int .i64 G, .int .i64 S, .int .i64 (4 * (I : Int)), .int .i64 J] 43) := hrow.out.later B1.out
    have Bw1 : Hid (Below w.heap.size w w1) := hB0.out.trans (B1.out.mono hB0.out.size)
    have A0 : Hid (AL w1 (.slice (some ⟨w1.heap.size, 0, none⟩) 2 2) 2 (w1.alloc (.cells #[.int .u8 1, .int .i64 0, .int .i64 0, .int .i64 0, .int .u8 2, .int .i64 0, .int .i64 0, .int .i64 0] 110))) :=
      ⟨(Below.refl _ _).alloc (Nat.le_refl _) _, _, World.ownsRow_lit w1 _ 2 (Nat.le_refl _) (by simp [maxLen]) (by simp)⟩
    clear hmay hrow hB0 B1
    go_loopw [3, 4] (fun v3 v4 W => ∃ i, v4 = .int .i64 (i : Nat) ∧ i ≤ J ∧ AL w1 v3 (2 + i) W) (fun _ v4 _ => ((J : Int) - intOf v4).toNat)
    case atStart => exact ⟨0, rfl, by omega, A0.out⟩
    case round =>
      obtain ⟨i, rfl, hi, hA⟩ := hrel
      have AA := Lib.hid hA
      have RR := Lib.hid (RG.out.later AA.out.bel)
      have c3 := RR.out.cell 3
      obtain ⟨xs, hx⟩ := hA.own
      obtain ⟨a3, q3, hsh⟩ := own_shape hx
      subst hsh
      have HX := Lib.hid hx
      clear hx hA
      by_cases hin : i < J
      · go_wp2_with (at_builtin; refine wpList_append_own_at _ rfl _ _ 98 rfl w1.heap.size 110 j0 (.agg #[.int .u8 0, .int .i64 0, .int .i64 0, .int .i64 0]) 4 32 Try.underlying98 hj0 jz0 jz1 jz2 rfl (by decide) _ _ _ rfl (HX.out.alloc _) ⟨wr.heap.size, 0, none⟩ 1 1 _ rfl rfl (things_at (cs := [_, _, _, _])) (fun u hu => by simp at hu; rcases hu with rfl | rfl | rfl | rfl <;> rfl) (by unfold maxLen; omega) (by omega) (by have := AA.out.bel.size; simp; omega) ?_; intro v9 w9 hown hgrow hx1 hx2; clear hx1 hx2; have N9 := Lib.hid (AA.out.app HX.out hown hgrow); clear hown hgrow)
        exact ⟨⟨i + 1, rfl, by omega, N9.out⟩, by simp [intOf]; omega⟩
      · obtain rfl : i = J := by omega
        clear HX
        go_wp2_with fail
        obtain ⟨wp, hwp⟩ : ∃ wp : World, wp = wr := ⟨_, rfl⟩
        subst hwp
        go_loopw [3, 5, 6] (fun v3 v5 v6 W => ∃ (r : Nat) (z : Int), v6 = .int .i64 (r : Nat) ∧ r ≤ G ∧ v5 = .int .i64 z ∧ AL w1 v3 (2 + i + r * S) W) (fun _ _ v6 _ => ((G : Int) - intOf v6).toNat)
        case atStart => exact ⟨0, 1, rfl, by omega, rfl, by simpa using AA.out⟩
        case round =>
          obtain ⟨r, z, rfl, hr, rfl, hA⟩ := hrel
          have AB := Lib.hid hA
          have RB := Lib.hid (RG.out.later AB.out.bel)
          have c0 := RB.out.cell 0
          obtain ⟨xs, hx⟩ := hA.own
          obtain ⟨a3, q3, hsh⟩ := own_shape hx
          subst hsh
          have HX := Lib.hid hx
          have hrS : r * S ≤ 4 * 512 := Nat.mul_le_mul (by omega) k2
          clear hx hA
          by_cases hrn : r < G
          · go_wp2_with (at_builtin; refine wpList_append_own_at _ rfl _ _ 98 rfl w1.heap.size 110 j0 (.agg #[.int .u8 0, .int .i64 0, .int .i64 0, .int .i64 0]) 4 32 Try.underlying98 hj0 jz0 jz1 jz2 rfl (by decide) _ _ _ rfl (HX.out.alloc _) ⟨wr.heap.size, 0, none⟩ 2 2 _ rfl rfl (things_at (cs := [_, _, _, _, _, _, _, _])) (fun u hu => by simp at hu; rcases hu with rfl | rfl | rfl | rfl | rfl | rfl | rfl | rfl <;> rfl) (by unfold maxLen; omega) (by omega) (by have := AB.out.bel.size; simp; omega) ?_; intro v9 w9 hown hgrow hx1 hx2; clear hx1 hx2; have N9 := Lib.hid (AB.out.app HX.out hown hgrow); clear hown hgrow)
            clear HX c0 AB RB
            have S0 : Hid (AL w1 v9 (2 + i + r * S + 2 + 0) w9) := N9.out
            go_loopw [3, 5, 7] (fun v3 v5 v7 W => ∃ (k : Nat) (z : Int), v7 = .int .i64 (4 * (k : Int)) ∧ k ≤ I ∧ v5 = .int .i64 z ∧ AL w1 v3 (2 + i + r * S + 2 + k) W) (fun _ _ v7 _ => (4 * (I : Int) - intOf v7).toNat)
            case atStart => exact ⟨0, z, rfl, by omega, rfl, S0.out⟩
            case round =>
              obtain ⟨k, z2, rfl, hk, rfl, hA⟩ := hrel
              have AC := Lib.hid hA
              have RC := Lib.hid (RG.out.later AC.out.bel)
              have c2 := RC.out.cell 2
              obtain ⟨xs, hx⟩ := hA.own
              obtain ⟨a3, q3, hsh⟩ := own_shape hx
              subst hsh
              have HX := Lib.hid hx
              clear hx hA
              by_cases hkn : k < I
              · have o1 : 4 * (k : Int) < 4 * (I : Int) := by omega
                have o2 : IntKind.i64.wrap (4 * (k : Int) + 4) = 4 * ((k + 1 : Nat) : Int) := by rw [IntWalk.i64_in _ (by omega)]; omega
                have o3 : IntKind.i64.wrap (k : Int) = (k : Int) := IntWalk.i64_in _ (by omega)
                have o4 : IntKind.i64.wrap (2 + (k : Int)) = 2 + (k : Int) := IntWalk.i64_in _ (by omega)
                go_wp2_with (at_builtin; refine wpList_append_own_at _ rfl _ _ 98 rfl w1.heap.size 110 j0 (.agg #[.int .u8 0, .int .i64 0, .int .i64 0, .int .i64 0]) 4 32 Try.underlying98 hj0 jz0 jz1 jz2 rfl (by decide) _ _ _ rfl (HX.out.alloc _) ⟨wr.heap.size, 0, none⟩ 1 1 _ rfl rfl (things_at (cs := [_, _, _, _])) (fun u hu => by simp at hu; rcases hu with rfl | rfl | rfl | rfl <;> rfl) (by unfold maxLen; omega) (by omega) (by have := AC.out.bel.size; simp; omega) ?_; intro v9 w9 hown hgrow hx1 hx2; clear hx1 hx2; have NC := Lib.hid (AC.out.app HX.out hown hgrow); clear hown hgrow)
                exact ⟨⟨k + 1, _, rfl, by omega, rfl, NC.out⟩, by simp [intOf]; omega⟩
              · obtain rfl : k = I := by omega
                have o3 : IntKind.i64.wrap (k : Int) = (k : Int) := IntWalk.i64_in _ (by omega)
                have o4 : IntKind.i64.wrap (2 + (k : Int)) = 2 + (k : Int) := IntWalk.i64_in _ (by omega)
                have ND : Hid (AL w1 (.slice a3 (2 + i + r * S + 2 + k) q3) (2 + i + r * S + 2 + k + 0) wr) := AC.out
                clear HX
                go_wp2_with fail
                obtain ⟨wq, hwq⟩ : ∃ wq : World, wq = wr := ⟨_, rfl⟩
                subst hwq
                go_loopw [3, 8] (fun v3 v8 W => ∃ (m : Nat), v8 = .int .i64 ((2 + k + m : Nat) : Int) ∧ 2 + k + m ≤ S ∧ AL w1 v3 (2 + i + r * S + 2 + k + m) W) (fun _ v8 _ => ((S : Int) - intOf v8).toNat)
                case atStart => exact ⟨0, by simp, by omega, ND.out⟩
                case round =>
                  obtain ⟨m, rfl, hm2, hA⟩ := hrel
                  have AC := Lib.hid hA
                  have RC := Lib.hid (RG.out.later AC.out.bel)
                  have c1 := RC.out.cell 1
                  obtain ⟨xs, hx⟩ := hA.own
                  obtain ⟨a3, q3, hsh⟩ := own_shape hx
                  subst hsh
                  have HX := Lib.hid hx
                  clear hx hA
                  obtain ⟨e, he⟩ : ∃ e : Nat, 2 + k + m = e := ⟨_, rfl⟩
                  rw [he]
                  by_cases hmn : e < S
                  · have o5 : IntKind.i64.wrap ((e : Int) + 1) = ((2 + k + (m + 1) : Nat) : Int) := by rw [IntWalk.i64_in _ (by omega)]; omega
                    go_wp2_with (at_builtin; refine wpList_append_own_at _ rfl _ _ 98 rfl w1.heap.size 110 j0 (.agg #[.int .u8 0, .int .i64 0, .int .i64 0, .int .i64 0]) 4 32 Try.underlying98 hj0 jz0 jz1 jz2 rfl (by decide) _ _ _ rfl (HX.out.alloc _) ⟨wr.heap.size, 0, none⟩ 1 1 _ rfl rfl (things_at (cs := [_, _, _, _])) (fun u hu => by simp at hu; rcases hu with rfl | rfl | rfl | rfl <;> rfl) (by unfold maxLen; omega) (by omega) (by have := AC.out.bel.size; simp; omega) ?_; intro v9 w9 hown hgrow hx1 hx2; clear hx1 hx2; have NC := Lib.hid (AC.out.app HX.out hown hgrow); clear hown hgrow)
                    exact ⟨⟨m + 1, rfl, by omega, NC.out⟩, by simp [intOf]; omega⟩
                  · have o6 : ¬ (e : Int) < (S : Int) := by omega
                    have o7 : IntKind.i64.wrap ((r : Int) + 1) = ((r + 1 : Nat) : Int) := by rw [IntWalk.i64_in _ (by omega)]; omega
                    have hlen : 2 + i + r * S + 2 + k + m = 2 + i + (r + 1) * S := by rw [Nat.add_mul]; omega
                    clear HX
                    go_wp2_with fail
                    refine ⟨⟨r + 1, _, rfl, by omega, rfl, ?_⟩, by simp [intOf]; omega⟩
                    have := AC.out
                    rw [hlen] at this ⊢
                    exact this
          · obtain rfl : r = G := by omega
            go_wp2_with fail
            go_ret
            rw [hB.out, hall.out]
            exact ⟨_, _, _, rfl, rfl, Bw1.out.trans (AB.out.bel.mono Bw1.out.size)⟩
set_option maxRecDepth 100000 in
theorem rblocks_any (g : Ge) (w : World) : Calls Try.prog 49 #[.agg (ga g)] w (GPost (.int .i64 (gBlk g)) w) := by
  have hall := Lib.hid (all_len g)
  have hB0 : Hid (Below w.heap.size w (w.alloc (.cells (ga g) 43))) := (Below.refl _ _).alloc (Nat.le_refl _) _
  unfold ga at hall hB0 ⊢
  go_enter Try.func49, Try.ntmps49
  go_wp2_with (go_at_call 62; refine (hall.out _).mono ?_; rintro e w1 ⟨a, m, c, hn, rfl, hb⟩; have B1 := Lib.hid hb; have HN := Lib.hid hn; clear hb hn)
  go_ret
  rw [← HN.out]
  exact ⟨rfl, hB0.out.trans (B1.out.mono hB0.out.size)⟩
end Go.Proofs.Ytdeeegodiacjgaa
