/- The document's table: Sorted, walked. The list has at most 400 numbers. -/
import Derived.Test.YtlnfjcbhicdceaaQ6
import Derived.Laws.AppendOwnNone
namespace Go.Proofs.Ytlnfjcbhicdceaa
open Go.RowKit
theorem iv_one (l : List Int) : ∀ u ∈ iv l, u.oneCell' = true := by
  intro u hu
  obtain ⟨x, _, rfl⟩ := List.mem_map.1 hu
  rfl
theorem iv_len (l : List Int) : (iv l).length = l.length := by simp [iv]
theorem iv_app (a b : List Int) : iv (a ++ b) = iv a ++ iv b := by simp [iv]
theorem own_src {W : World} {base n cap g : Nat} {out : List Int} (h : W.ownsRow base 3 1 (.slice (some ⟨g, 0, none⟩) n cap) out.length (iv out)) (a m : Nat) : ∀ j u, (iv ((out.drop a).take m))[j]? = some u → W.cell? ((⟨g, a, none⟩ : Addr).add j) = some u := by
  intro j u hj
  have hc := @World.ownsRow.cells _ _ _ _ _ _ _ h g rfl (a + j) u (by
    unfold iv at hj ⊢
    rw [List.getElem?_map] at hj ⊢
    cases hd : ((out.drop a).take m)[j]? with
    | none => rw [hd] at hj; cases hj
    | some y =>
      rw [hd] at hj
      rw [List.getElem?_take] at hd
      split at hd
      · rw [List.getElem?_drop] at hd
        rw [hd]; exact hj
      · cases hd)
  have ea : ∀ (a j : Nat), (⟨g, a, none⟩ : Addr).add j = ⟨g, a + j, none⟩ := fun a j => by unfold Addr.add; split <;> simp_all
  rw [ea] at hc ⊢
  rwa [Nat.zero_add] at hc
theorem own_src0 {W : World} {base n cap g : Nat} {out : List Int} (h : W.ownsRow base 3 1 (.slice (some ⟨g, 0, none⟩) n cap) out.length (iv out)) (m : Nat) : ∀ j u, (iv (out.take m))[j]? = some u → W.cell? ((⟨g, 0, none⟩ : Addr).add j) = some u := by
  have := own_src h 0 m
  simpa using this
theorem own_src1 {W : World} {base n cap g : Nat} {out : List Int} (h : W.ownsRow base 3 1 (.slice (some ⟨g, 0, none⟩) n cap) out.length (iv out)) (a : Nat) : ∀ j u, (iv (out.drop a))[j]? = some u → W.cell? ((⟨g, a, none⟩ : Addr).add j) = some u := by
  have := own_src h a (out.drop a).length
  rwa [List.take_length] at this
set_option maxRecDepth 100000 in
set_option maxHeartbeats 4000000 in
theorem sorted_any (l : List Int) (hl : l.length ≤ 400) (v : Value) (w : World) (h : IntsAt w v l) :
    Calls Try.prog 29 #[v] w fun e w' => ∃ v', e = .returned v' ∧ w'.ownsRow w.heap.size 3 1 v' (sortS l).length (iv (sortS l)) ∧ Below w.heap.size w w' := by
  have H := Lib.hid h
  obtain ⟨ao, cap, rfl, _⟩ := h.ex
  clear h
  obtain ⟨i0, hi0, hz0, hz1, hz2⟩ := info_parts info3
  go_enter Try.func29, Try.ntmps29
  go_wp2_with fail
  go_loopw [3, 4, 5, 6] (fun v3 v4 _ _ W => ∃ i, v4 = .int .i64 (i : Nat) ∧ i ≤ l.length ∧ Below w.heap.size w W ∧ W.ownsRow w.heap.size 3 1 v3 (sortS (l.take i)).length (iv (sortS (l.take i)))) (fun _ v4 _ _ _ => (l.length - intOf v4).toNat)
  case atStart => exact ⟨0, rfl, by omega, Below.refl _ _, by simpa [sortS, iv] using World.ownsRow_nil _ w.heap.size 3 1⟩
  case round =>
    obtain ⟨i, rfl, hi, hbl, hown⟩ := hrel
    obtain ⟨wo, rfl⟩ : ∃ wo : World, wo = wr := ⟨_, rfl⟩
    have HB := Lib.hid hbl
    have HO := Lib.hid hown
    have HL := Lib.hid (H.out.later hbl)
    obtain ⟨_, _, el, A2⟩ := HL.out.ex
    cases el
    clear hbl
    by_cases hin : i < l.length
    · obtain ⟨gl, rfl, a1, a2, hgl, a4⟩ := A2 (by omega)
      obtain ⟨x, hx⟩ : ∃ x, l[i]? = some x := ⟨_, List.getElem?_eq_getElem hin⟩
      have hsn : Hid (sortS (l.take (i + 1)) = insS (sortS (l.take i)) x) := by
        unfold Hid
        rw [List.take_add_one, hx]; exact sortS_snoc _ _
      have f0 := a4 i x hx
      have hlen : (sortS (l.take i)).length ≤ 400 := by
        have h1 := sortS_len (l.take i)
        rw [List.length_take] at h1
        omega
      have hCw : Hid (w.heap.size ≤ wo.heap.size) := HB.out.size
      clear A2 a4 hx
      generalize sortS (l.take i) = out at *
      rcases hown.2 with ⟨hv, h0⟩ | ⟨g3, cap3, cur, hv, hb3, hg3, h31, h32, _⟩
      · subst hv
        obtain rfl : out = [] := List.eq_nil_of_length_eq_zero h0
        clear hown h0
        have hfin : Hid (insS [] x = [x]) := by unfold Hid insS; simp
        go_wp2_with fail
        go_loopw [5] (fun v5 W => W = wo ∧ v5 = .int .i64 0) (fun _ _ => 0)
        case atStart => exact ⟨rfl, rfl⟩
        case round =>
          obtain ⟨rfl, rfl⟩ := hrel
          go_wp2_with fail
          refine wp_region_later (by kernel_rfl) (by kernel_rfl) ?_
          repeat (first | go_big_quiet_step (fail) | quiet_step (fail))
          refine wpQuiet_nil ?_
          rintro ⟨W8, hW8⟩
          dsimp only
          go_wp2_with fail
          refine wp_region_later (by kernel_rfl) (by kernel_rfl) ?_
          repeat (first | go_big_quiet_step (fail) | quiet_step (fail))
          refine wpQuiet_nil ?_
          rintro ⟨W9, hW9⟩
          dsimp only
          have B9 := Lib.hid (HB.out.trans ((hW8.trans (hW9.mono hW8.size)).mono HB.out.size))
          have g0 : W9.cell? ⟨gl, i, none⟩ = some (.int .i64 x) := (World.cell?_of_block ((hW8.trans (hW9.mono hW8.size)).block gl hgl)).trans f0
          clear hW8 hW9
          have hC9 : Hid (w.heap.size ≤ W9.heap.size) := B9.out.size
          have tok1 : True := trivial
          go_wp2_with (first
            | (at_builtin; have _t := tok1; refine wpList_append_own_none rfl _ _ 34 rfl W9.heap.size 3 i0 1 Try.underlying34 hi0 (.slice none 0 0) 0 [] rfl (World.ownsRow_nil _ _ _ _) rfl ?_; clear tok1)
            | (at_builtin; refine wpList_append_own_at _ rfl _ _ 34 rfl W9.heap.size 3 i0 (.int .i64 0) 1 8 Try.underlying34 hi0 hz0 hz1 hz2 rfl (by decide) (.slice none 0 0) 0 [] rfl (World.ownsRow_nil _ _ _ _) ⟨W9.heap.size, 0, none⟩ 1 1 [.int .i64 x] rfl rfl (cell_one_new _ _ _) (fun x hx => by simp at hx; subst hx; rfl) (by unfold maxLen; omega) (by omega) (by simp) ?_; intro v1 W1 hown1 hgrow1 _ _; have O1 := Lib.hid hown1; have B1 : Hid (Below W9.heap.size W9 W1) := below_app (Below.refl _ _) (Nat.le_refl _) (World.ownsRow_nil W9 W9.heap.size 3 1) ((Below.refl _ _).alloc (Nat.le_refl _) _) hgrow1; clear hown1 hgrow1)
            | (at_builtin; refine wpList_append_own_none rfl _ _ 34 rfl W9.heap.size 3 i0 1 Try.underlying34 hi0 v1 1 [.int .i64 x] rfl O1.out rfl ?_))
          refine ⟨⟨i + 1, rfl, by omega, B9.out.trans (B1.out.mono B9.out.size), ?_⟩, by simp [intOf]; omega⟩
          rw [hsn.out, hfin.out]
          exact own_mono O1.out B9.out.size
      · subst hv
        have hg3lt : g3 < wo.heap.size := (Array.getElem?_eq_some_iff.1 hg3).1
        clear hown hg3
        go_wp2_with fail
        go_loopw [5] (fun v5 W => ∃ j, v5 = .int .i64 (j : Nat) ∧ j ≤ out.length ∧ Below wo.heap.size wo W ∧ ∀ k y, k < j → out[k]? = some y → y < x) (fun v5 _ => (out.length - intOf v5).toNat)
        case atStart => exact ⟨0, rfl, by omega, Below.refl _ _, fun k y hk => by omega⟩
        case round =>
          obtain ⟨j, rfl, hj, hbx, hlow⟩ := hrel
          have HX := Lib.hid hbx
          have HLo := Lib.hid hlow
          have hgl2 := Nat.lt_of_lt_of_le hgl hbx.size
          have hg32 := Nat.lt_of_lt_of_le hg3lt hbx.size
          have g0 := (World.cell?_of_block (hbx.block gl hgl)).trans f0
          have q0 : ∀ q : Later wr, q.x.cell? ⟨gl, i, none⟩ = some (.int .i64 x) := fun q => (World.cell?_of_block (q.h.block gl hgl2)).trans g0
          clear hbx hlow
          by_cases hjo : j < out.length
          · obtain ⟨y, hy⟩ : ∃ y, out[j]? = some y := ⟨_, List.getElem?_eq_getElem hjo⟩
            have e0 : wr.cell? ⟨g3, j, none⟩ = some (.int .i64 y) := by
              have := own_src0 (own_later HO.out HX.out) out.length j (.int .i64 y) (by rw [List.take_length]; unfold iv; rw [List.getElem?_map, hy]; rfl)
              have ea : (⟨g3, 0, none⟩ : Addr).add j = ⟨g3, j, none⟩ := by unfold Addr.add; split <;> simp_all
              rwa [ea] at this
            have q1 : ∀ q : Later wr, q.x.cell? ⟨g3, j, none⟩ = some (.int .i64 y) := fun q => (World.cell?_of_block (q.h.block g3 hg32)).trans e0
            have hyH := Lib.hid hy
            clear hy
            by_cases hyx : y < x
            · go_wp2_with fail
              refine wp_region_later (by kernel_rfl) (by kernel_rfl) ?_
              repeat (first | go_big_quiet_step (fail) | quiet_step (fail))
              refine wpQuiet_nil ?_
              rintro ⟨W9, hW9⟩
              dsimp only
              have H9 := Lib.hid hW9
              clear hW9 q0 q1
              go_wp2_with fail
              refine ⟨⟨j + 1, rfl, by omega, HX.out.trans (H9.out.mono HX.out.size), fun k z hk hz => ?_⟩, by simp [intOf]; omega⟩
              by_cases hkj : k = j
              · subst hkj
                have := hyH.out
                rw [hz] at this
                cases this
                exact hyx
              · exact HLo.out k z (by omega) hz
            · have htw : (out.takeWhile fun y => decide (y < x)).length = j := tw_at (by omega) HLo.out (fun z hz => by have := hyH.out; rw [hz] at this; cases this; exact hyx)
              by_cases hye : y = x
              · subst hye
                have hfin : Hid (insS out y = out) := by unfold Hid insS; rw [htw, if_pos hyH.out]
                clear htw
                go_wp2_with fail
                refine wp_region_later (by kernel_rfl) (by kernel_rfl) ?_
                repeat (first | go_big_quiet_step (fail) | quiet_step (fail))
                refine wpQuiet_nil ?_
                rintro ⟨W9, hW9⟩
                dsimp only
                have H9 := Lib.hid hW9
                clear hW9 q0 q1
                go_wp2_with fail
                have hg4 := Nat.lt_of_lt_of_le hgl2 H9.out.size
                have g1 := (World.cell?_of_block (H9.out.block gl hgl2)).trans g0
                have q0 : ∀ q : Later W9, q.x.cell? ⟨gl, i, none⟩ = some (.int .i64 y) := fun q => (World.cell?_of_block (q.h.block gl hg4)).trans g1
                have hg5 := Nat.lt_of_lt_of_le hg32 H9.out.size
                have e1 := (World.cell?_of_block (H9.out.block g3 hg32)).trans e0
                have q1 : ∀ q : Later W9, q.x.cell? ⟨g3, j, none⟩ = some (.int .i64 y) := fun q => (World.cell?_of_block (q.h.block g3 hg5)).trans e1
                refine wp_region_later (by kernel_rfl) (by kernel_rfl) ?_
                repeat (first | go_big_quiet_step (fail) | quiet_step (fail))
                refine wpQuiet_nil ?_
                rintro ⟨W10, hW10⟩
                dsimp only
                have H10 := Lib.hid (H9.out.trans (hW10.mono H9.out.size))
                clear hW10 q0 q1
                go_wp2_with fail
                refine ⟨⟨i + 1, rfl, by omega, HB.out.trans ((HX.out.trans (H10.out.mono HX.out.size)).mono HB.out.size), ?_⟩, by simp [intOf]; omega⟩
                rw [hsn.out, hfin.out]
                exact own_later HO.out (HX.out.trans (H10.out.mono HX.out.size))
              · have hfin : Hid (insS out x = out.take j ++ [x] ++ out.drop j) := by unfold Hid insS; rw [htw, if_neg (by rw [hyH.out]; intro e; cases e; exact hye rfl)]
                clear htw
                have hjc : ¬ j = cap3 := by omega
                go_wp2_with fail
                refine wp_region_later (by kernel_rfl) (by kernel_rfl) ?_
                repeat (first | go_big_quiet_step (fail) | quiet_step (fail))
                refine wpQuiet_nil ?_
                rintro ⟨W9, hW9⟩
                dsimp only
                have H9 := Lib.hid hW9
                clear hW9 q0 q1
                go_wp2_with fail
                have hg4 := Nat.lt_of_lt_of_le hgl2 H9.out.size
                have g1 := (World.cell?_of_block (H9.out.block gl hgl2)).trans g0
                have q0 : ∀ q : Later W9, q.x.cell? ⟨gl, i, none⟩ = some (.int .i64 x) := fun q => (World.cell?_of_block (q.h.block gl hg4)).trans g1
                have hg5 := Nat.lt_of_lt_of_le hg32 H9.out.size
                have e1 := (World.cell?_of_block (H9.out.block g3 hg32)).trans e0
                have q1 : ∀ q : Later W9, q.x.cell? ⟨g3, j, none⟩ = some (.int .i64 y) := fun q => (World.cell?_of_block (q.h.block g3 hg5)).trans e1
                refine wp_region_later (by kernel_rfl) (by kernel_rfl) ?_
                repeat (first | go_big_quiet_step (fail) | quiet_step (fail))
                refine wpQuiet_nil ?_
                rintro ⟨W10, hW10⟩
                dsimp only
                have H10 := Lib.hid (H9.out.trans (hW10.mono H9.out.size))
                clear hW10 q0 q1
                have B10 := Lib.hid (HX.out.trans (H10.out.mono HX.out.size))
                have hgA := Nat.lt_of_lt_of_le hgl B10.out.size
                have hgB := Nat.lt_of_lt_of_le hg3lt B10.out.size
                have OO := Lib.hid (own_later HO.out B10.out)
                have x0 := (World.cell?_of_block (B10.out.block gl hgl)).trans f0
                have tok1 : True := trivial
                have tok2 : True := trivial
                go_wp2_with (first
                  | (at_builtin; have _t := tok1; refine wpList_append_own_at _ rfl _ _ 34 rfl W10.heap.size 3 i0 (.int .i64 0) 1 8 Try.underlying34 hi0 hz0 hz1 hz2 rfl (by decide) (.slice none 0 0) 0 [] rfl (World.ownsRow_nil _ _ _ _) ⟨g3, 0, none⟩ j cap3 (iv (out.take j)) rfl (by rw [iv_len, List.length_take]; omega) (own_src0 OO.out j) (iv_one _) (by unfold maxLen; omega) (by omega) (Nat.le_refl _) ?_; intro v1 W1 hown1 hgrow1 _ _; clear tok1; have O1 := Lib.hid hown1; have B1 : Hid (Below W10.heap.size W10 W1) := below_app (Below.refl _ _) (Nat.le_refl _) (World.ownsRow_nil W10 W10.heap.size 3 1) (Below.refl _ _) hgrow1; have x1 := (World.cell?_of_block (B1.out.block gl hgA)).trans x0; have hS1 : Hid (W10.heap.size ≤ W1.heap.size) := B1.out.size; clear hown1 hgrow1)
                  | (at_builtin; have _t := tok2; refine wpList_append_own_at _ rfl _ _ 34 rfl W10.heap.size 3 i0 (.int .i64 0) 1 8 Try.underlying34 hi0 hz0 hz1 hz2 rfl (by decide) v1 _ _ rfl (O1.out.alloc _) ⟨W1.heap.size, 0, none⟩ 1 1 [.int .i64 x] rfl rfl (cell_one_new _ _ _) (fun x hx => by simp at hx; subst hx; rfl) (by unfold maxLen; omega) (by omega) (by have := hS1.out; simp; omega) ?_; intro v2 W2 hown2 hgrow2 _ _; clear tok2; have O2 := Lib.hid hown2; have B2 : Hid (Below W10.heap.size W10 W2) := below_app B1.out hS1.out O1.out ((Below.refl _ _).alloc (Nat.le_refl _) _) hgrow2; have hS2 : Hid (W10.heap.size ≤ W2.heap.size) := B2.out.size; have OO2 := Lib.hid (own_later OO.out B2.out); clear hown2 hgrow2)
                  | (at_builtin;  refine wpList_append_own_at _ rfl _ _ 34 rfl W10.heap.size 3 i0 (.int .i64 0) 1 8 Try.underlying34 hi0 hz0 hz1 hz2 rfl (by decide) v2 _ _ rfl O2.out ⟨g3, j, none⟩ (out.length - j) (cap3 - j) (iv (out.drop j)) rfl (by rw [iv_len, List.length_drop]; omega) (own_src1 OO2.out j) (iv_one _) (by unfold maxLen; omega) (by omega) hS2.out ?_; intro v3 W3 hown3 hgrow3 _ _; have O3 := Lib.hid hown3; have B3 : Hid (Below W10.heap.size W10 W3) := below_app B2.out hS2.out O2.out (Below.refl _ _) hgrow3; clear hown3 hgrow3))
                refine ⟨⟨i + 1, rfl, by omega, HB.out.trans ((B10.out.trans (B3.out.mono B10.out.size)).mono HB.out.size), ?_⟩, by simp [intOf]; omega⟩
                have hO3 := O3.out
                rw [hsn.out, hfin.out, iv_app, iv_app]
                have hln : (out.take j ++ [x] ++ out.drop j).length = 0 + j + 1 + (out.length - j) := by simp; omega
                rw [hln]
                exact own_mono hO3 (Nat.le_trans HB.out.size B10.out.size)
          · obtain rfl : j = out.length := by omega
            have htw : (out.takeWhile fun y => decide (y < x)).length = out.length := tw_at (by omega) HLo.out (fun z hz => by rw [List.getElem?_eq_none (by omega)] at hz; cases hz)
            have hfin : Hid (insS out x = out.take out.length ++ [x] ++ out.drop out.length) := by unfold Hid insS; rw [htw, if_neg (by rw [List.getElem?_eq_none (by omega)]; intro e; cases e)]
            clear htw
            by_cases hjc : out.length = cap3
            · subst hjc
              go_wp2_with fail
              refine wp_region_later (by kernel_rfl) (by kernel_rfl) ?_
              repeat (first | go_big_quiet_step (fail) | quiet_step (fail))
              refine wpQuiet_nil ?_
              rintro ⟨W9, hW9⟩
              dsimp only
              have H9 := Lib.hid hW9
              clear hW9 q0 
              go_wp2_with fail
              have hg4 := Nat.lt_of_lt_of_le hgl2 H9.out.size
              have g1 := (World.cell?_of_block (H9.out.block gl hgl2)).trans g0
              have q0 : ∀ q : Later W9, q.x.cell? ⟨gl, i, none⟩ = some (.int .i64 x) := fun q => (World.cell?_of_block (q.h.block gl hg4)).trans g1
              refine wp_region_later (by kernel_rfl) (by kernel_rfl) ?_
              repeat (first | go_big_quiet_step (fail) | quiet_step (fail))
              refine wpQuiet_nil ?_
              rintro ⟨W10, hW10⟩
              dsimp only
              have H10 := Lib.hid (H9.out.trans (hW10.mono H9.out.size))
              clear hW10 q0 
              have B10 := Lib.hid (HX.out.trans (H10.out.mono HX.out.size))
              have hgA := Nat.lt_of_lt_of_le hgl B10.out.size
              have hgB := Nat.lt_of_lt_of_le hg3lt B10.out.size
              have OO := Lib.hid (own_later HO.out B10.out)
              have x0 := (World.cell?_of_block (B10.out.block gl hgl)).trans f0
              have tok1 : True := trivial
              have tok2 : True := trivial
              go_wp2_with (first
                | (at_builtin; have _t := tok1; refine wpList_append_own_at _ rfl _ _ 34 rfl W10.heap.size 3 i0 (.int .i64 0) 1 8 Try.underlying34 hi0 hz0 hz1 hz2 rfl (by decide) (.slice none 0 0) 0 [] rfl (World.ownsRow_nil _ _ _ _) ⟨g3, 0, none⟩ out.length out.length (iv (out.take out.length)) rfl (by rw [iv_len, List.length_take]; omega) (own_src0 OO.out out.length) (iv_one _) (by unfold maxLen; omega) (by omega) (Nat.le_refl _) ?_; intro v1 W1 hown1 hgrow1 _ _; clear tok1; have O1 := Lib.hid hown1; have B1 : Hid (Below W10.heap.size W10 W1) := below_app (Below.refl _ _) (Nat.le_refl _) (World.ownsRow_nil W10 W10.heap.size 3 1) (Below.refl _ _) hgrow1; have x1 := (World.cell?_of_block (B1.out.block gl hgA)).trans x0; have hS1 : Hid (W10.heap.size ≤ W1.heap.size) := B1.out.size; clear hown1 hgrow1)
                | (at_builtin; have _t := tok2; refine wpList_append_own_at _ rfl _ _ 34 rfl W10.heap.size 3 i0 (.int .i64 0) 1 8 Try.underlying34 hi0 hz0 hz1 hz2 rfl (by decide) v1 _ _ rfl (O1.out.alloc _) ⟨W1.heap.size, 0, none⟩ 1 1 [.int .i64 x] rfl rfl (cell_one_new _ _ _) (fun x hx => by simp at hx; subst hx; rfl) (by unfold maxLen; omega) (by omega) (by have := hS1.out; simp; omega) ?_; intro v2 W2 hown2 hgrow2 _ _; clear tok2; have O2 := Lib.hid hown2; have B2 : Hid (Below W10.heap.size W10 W2) := below_app B1.out hS1.out O1.out ((Below.refl _ _).alloc (Nat.le_refl _) _) hgrow2; have hS2 : Hid (W10.heap.size ≤ W2.heap.size) := B2.out.size; have OO2 := Lib.hid (own_later OO.out B2.out); clear hown2 hgrow2)
                | (at_builtin;  refine wpList_append_own_at _ rfl _ _ 34 rfl W10.heap.size 3 i0 (.int .i64 0) 1 8 Try.underlying34 hi0 hz0 hz1 hz2 rfl (by decide) v2 _ _ rfl O2.out ⟨g3, 0, none⟩ 0 0 [] rfl rfl (fun j u hj => by simp at hj) (fun u hu => by simp at hu) (by unfold maxLen; omega) (by omega) hS2.out ?_; intro v3 W3 hown3 hgrow3 _ _; have O3 := Lib.hid hown3; have B3 : Hid (Below W10.heap.size W10 W3) := below_app B2.out hS2.out O2.out (Below.refl _ _) hgrow3; clear hown3 hgrow3))
              refine ⟨⟨i + 1, rfl, by omega, HB.out.trans ((B10.out.trans (B3.out.mono B10.out.size)).mono HB.out.size), ?_⟩, by simp [intOf]; omega⟩
              have hO3 := O3.out
              rw [hsn.out, hfin.out, iv_app, iv_app]
              have hln : (out.take out.length ++ [x] ++ out.drop out.length).length = 0 + out.length + 1 + 0 := by simp
              rw [show iv (out.drop out.length) = [] by rw [List.drop_length]; rfl]
              rw [hln]
              exact own_mono hO3 (Nat.le_trans HB.out.size B10.out.size)
            · go_wp2_with fail
              refine wp_region_later (by kernel_rfl) (by kernel_rfl) ?_
              repeat (first | go_big_quiet_step (fail) | quiet_step (fail))
              refine wpQuiet_nil ?_
              rintro ⟨W9, hW9⟩
              dsimp only
              have H9 := Lib.hid hW9
              clear hW9 q0 
              go_wp2_with fail
              have hg4 := Nat.lt_of_lt_of_le hgl2 H9.out.size
              have g1 := (World.cell?_of_block (H9.out.block gl hgl2)).trans g0
              have q0 : ∀ q : Later W9, q.x.cell? ⟨gl, i, none⟩ = some (.int .i64 x) := fun q => (World.cell?_of_block (q.h.block gl hg4)).trans g1
              refine wp_region_later (by kernel_rfl) (by kernel_rfl) ?_
              repeat (first | go_big_quiet_step (fail) | quiet_step (fail))
              refine wpQuiet_nil ?_
              rintro ⟨W10, hW10⟩
              dsimp only
              have H10 := Lib.hid (H9.out.trans (hW10.mono H9.out.size))
              clear hW10 q0 
              have B10 := Lib.hid (HX.out.trans (H10.out.mono HX.out.size))
              have hgA := Nat.lt_of_lt_of_le hgl B10.out.size
              have hgB := Nat.lt_of_lt_of_le hg3lt B10.out.size
              have OO := Lib.hid (own_later HO.out B10.out)
              have x0 := (World.cell?_of_block (B10.out.block gl hgl)).trans f0
              have tok1 : True := trivial
              have tok2 : True := trivial
              go_wp2_with (first
                | (at_builtin; have _t := tok1; refine wpList_append_own_at _ rfl _ _ 34 rfl W10.heap.size 3 i0 (.int .i64 0) 1 8 Try.underlying34 hi0 hz0 hz1 hz2 rfl (by decide) (.slice none 0 0) 0 [] rfl (World.ownsRow_nil _ _ _ _) ⟨g3, 0, none⟩ out.length cap3 (iv (out.take out.length)) rfl (by rw [iv_len, List.length_take]; omega) (own_src0 OO.out out.length) (iv_one _) (by unfold maxLen; omega) (by omega) (Nat.le_refl _) ?_; intro v1 W1 hown1 hgrow1 _ _; clear tok1; have O1 := Lib.hid hown1; have B1 : Hid (Below W10.heap.size W10 W1) := below_app (Below.refl _ _) (Nat.le_refl _) (World.ownsRow_nil W10 W10.heap.size 3 1) (Below.refl _ _) hgrow1; have x1 := (World.cell?_of_block (B1.out.block gl hgA)).trans x0; have hS1 : Hid (W10.heap.size ≤ W1.heap.size) := B1.out.size; clear hown1 hgrow1)
                | (at_builtin; have _t := tok2; refine wpList_append_own_at _ rfl _ _ 34 rfl W10.heap.size 3 i0 (.int .i64 0) 1 8 Try.underlying34 hi0 hz0 hz1 hz2 rfl (by decide) v1 _ _ rfl (O1.out.alloc _) ⟨W1.heap.size, 0, none⟩ 1 1 [.int .i64 x] rfl rfl (cell_one_new _ _ _) (fun x hx => by simp at hx; subst hx; rfl) (by unfold maxLen; omega) (by omega) (by have := hS1.out; simp; omega) ?_; intro v2 W2 hown2 hgrow2 _ _; clear tok2; have O2 := Lib.hid hown2; have B2 : Hid (Below W10.heap.size W10 W2) := below_app B1.out hS1.out O1.out ((Below.refl _ _).alloc (Nat.le_refl _) _) hgrow2; have hS2 : Hid (W10.heap.size ≤ W2.heap.size) := B2.out.size; have OO2 := Lib.hid (own_later OO.out B2.out); clear hown2 hgrow2)
                | (at_builtin;  refine wpList_append_own_at _ rfl _ _ 34 rfl W10.heap.size 3 i0 (.int .i64 0) 1 8 Try.underlying34 hi0 hz0 hz1 hz2 rfl (by decide) v2 _ _ rfl O2.out ⟨g3, out.length, none⟩ 0 (cap3 - out.length) [] rfl rfl (fun j u hj => by simp at hj) (fun u hu => by simp at hu) (by unfold maxLen; omega) (by omega) hS2.out ?_; intro v3 W3 hown3 hgrow3 _ _; have O3 := Lib.hid hown3; have B3 : Hid (Below W10.heap.size W10 W3) := below_app B2.out hS2.out O2.out (Below.refl _ _) hgrow3; clear hown3 hgrow3))
              refine ⟨⟨i + 1, rfl, by omega, HB.out.trans ((B10.out.trans (B3.out.mono B10.out.size)).mono HB.out.size), ?_⟩, by simp [intOf]; omega⟩
              have hO3 := O3.out
              rw [hsn.out, hfin.out, iv_app, iv_app]
              have hln : (out.take out.length ++ [x] ++ out.drop out.length).length = 0 + out.length + 1 + 0 := by simp
              rw [show iv (out.drop out.length) = [] by rw [List.drop_length]; rfl]
              rw [hln]
              exact own_mono hO3 (Nat.le_trans HB.out.size B10.out.size)
    · obtain rfl : i = l.length := by omega
      obtain ⟨ao3, cap3, rfl⟩ := own_shape hown
      clear hown
      go_wp2_with fail
      go_ret
      have := HO.out
      rw [List.take_length] at this
      exact ⟨.slice ao3 (sortS l).length cap3, by simp, this, HB.out⟩
end Go.Proofs.Ytlnfjcbhicdceaa
