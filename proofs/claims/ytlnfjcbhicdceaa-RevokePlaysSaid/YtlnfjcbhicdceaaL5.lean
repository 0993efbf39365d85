/- quernref11.Same at slices of ints, and quernlaw13.awake. Conditions are written in each. -/
import Derived.Test.YtlnfjcbhicdceaaL4
namespace Go.Proofs.Ytlnfjcbhicdceaa
open Go.RowKit
/-- A slice that holds these numbers. -/
structure IntsAt (W : World) (v : Value) (l : List Int) : Prop where
  ex : ∃ ao cap, v = .slice ao l.length cap ∧ (0 < l.length → ∃ g, ao = some ⟨g, 0, none⟩ ∧ l.length ≤ cap ∧ cap ≤ maxLen ∧ g < W.heap.size ∧ ∀ i y, l[i]? = some y → W.cell? ⟨g, i, none⟩ = some (.int .i64 y))
theorem IntsAt.own {W : World} {base : Nat} {v : Value} {l : List Int} (h : W.ownsRow base 3 1 v l.length (iv l)) : IntsAt W v l := by
  obtain ⟨ao, cap, rfl⟩ := own_shape h
  exact ⟨ao, cap, rfl, fun hp => own_ints h hp⟩
theorem IntsAt.later {W W' : World} {v : Value} {l : List Int} (h : IntsAt W v l) (hb : Below W.heap.size W W') : IntsAt W' v l := by
  obtain ⟨ao, cap, h1, h2⟩ := h.ex
  refine ⟨ao, cap, h1, fun hp => ?_⟩
  obtain ⟨g, e, h3, h4, h5, h6⟩ := h2 hp
  exact ⟨g, e, h3, h4, Nat.lt_of_lt_of_le h5 hb.size, fun i y hy => (World.cell?_of_block (hb.block g h5)).trans (h6 i y hy)⟩
set_option maxRecDepth 100000 in
theorem same_any (a c : List Int) (va vc : Value) (w : World) (hla : a.length ≤ 1000) (ha : IntsAt w va a) (hc : IntsAt w vc c) :
    Calls Try.prog 18 #[va, vc] w fun e w' => e = .returned (.bool (decide (a = c))) ∧ Below w.heap.size w w' := by
  have HA := Lib.hid ha
  have HC := Lib.hid hc
  obtain ⟨aa, acap, rfl, _⟩ := ha.ex
  obtain ⟨ac, ccap, rfl, _⟩ := hc.ex
  clear ha hc
  by_cases hlen : a.length = c.length
  · have d0 : ((a.length : Int) != (c.length : Int)) = false := by simp; omega
    have hlH := Lib.hid hlen
    go_enter Try.func18, Try.ntmps18
    go_wp2_with fail
    go_loopw [5] (fun v5 W => Below w.heap.size w W ∧ ∃ i, v5 = .int .i64 (i : Nat) ∧ i ≤ a.length ∧ a.take i = c.take i) (fun v5 _ => (a.length - intOf v5).toNat)
    case atStart => exact ⟨Below.refl _ _, 0, rfl, by omega, by simp⟩
    case round =>
      obtain ⟨hb, i, rfl, hi, he⟩ := hrel
      have HB := Lib.hid hb
      have HE := Lib.hid he
      obtain ⟨_, _, ea, A2⟩ := (HA.out.later hb).ex
      obtain ⟨_, _, ec, C2⟩ := (HC.out.later hb).ex
      cases ea
      cases ec
      clear hb he
      by_cases hin : i < a.length
      · obtain ⟨ga, rfl, a1, a2, a3, a4⟩ := A2 (by omega)
        obtain ⟨gc, rfl, c1, c2, c3, c4⟩ := C2 (by have := hlH.out; omega)
        obtain ⟨x, hx⟩ : ∃ x, a[i]? = some x := ⟨_, List.getElem?_eq_getElem hin⟩
        obtain ⟨y, hy⟩ : ∃ y, c[i]? = some y := ⟨_, List.getElem?_eq_getElem (by have := hlH.out; omega)⟩
        have f0 := a4 i x hx
        have f1 := c4 i y hy
        have hxH := Lib.hid hx
        have hyH := Lib.hid hy
        have hic : i < c.length := by have := hlH.out; omega
        have q0 : ∀ q : Later wr, q.x.cell? ⟨ga, i, none⟩ = some (.int .i64 x) := fun q => (World.cell?_of_block (q.h.block ga a3)).trans f0
        have q1 : ∀ q : Later wr, q.x.cell? ⟨gc, i, none⟩ = some (.int .i64 y) := fun q => (World.cell?_of_block (q.h.block gc c3)).trans f1
        clear a4 c4 hx hy A2 C2 f0 f1
        by_cases hxy : x = y
        · have dz : (x != y) = false := by simp [hxy]
          go_wp2_with fail
          refine wp_region_later (by kernel_rfl) (by kernel_rfl) ?_
          repeat (first | go_big_quiet_step (fail) | quiet_step (fail))
          refine wpQuiet_nil ?_
          rintro ⟨W9, hW9⟩
          dsimp only
          have H9 := Lib.hid hW9
          clear hW9 q0 q1
          go_wp2_with fail
          refine ⟨⟨HB.out.trans (H9.out.mono HB.out.size), i + 1, rfl, by omega, ?_⟩, by simp [intOf]; omega⟩
          rw [List.take_add_one, List.take_add_one, HE.out, hxH.out, hyH.out, hxy]
        · have dz : (x != y) = true := by simp [hxy]
          go_wp2_with fail
          refine wp_region_later (by kernel_rfl) (by kernel_rfl) ?_
          repeat (first | go_big_quiet_step (fail) | quiet_step (fail))
          refine wpQuiet_nil ?_
          rintro ⟨W9, hW9⟩
          dsimp only
          have H9 := Lib.hid hW9
          clear hW9 q0 q1
          go_wp2_with fail
          go_ret
          refine ⟨?_, HB.out.trans (H9.out.mono HB.out.size)⟩
          have : ¬ a = c := by
            rintro rfl
            have h1 := hxH.out
            rw [hyH.out] at h1
            cases h1
            exact hxy rfl
          rw [decide_eq_false this]
          rfl
      · obtain rfl : i = a.length := by omega
        have heq : a = c := by
          have h1 := HE.out
          rw [List.take_length, hlH.out, List.take_length] at h1
          exact h1
        subst heq
        go_wp2_with fail
        go_ret
        exact ⟨by simp, HB.out⟩
  · have d0 : ((a.length : Int) != (c.length : Int)) = true := by simp; omega
    have hne : ¬ a = c := fun e => hlen (by rw [e])
    have hneH := Lib.hid hne
    go_enter Try.func18, Try.ntmps18
    go_wp2_with fail
    go_ret
    exact ⟨by rw [decide_eq_false hneH.out]; rfl, Below.refl _ _⟩
def aw1 : M := upd1 [] 5 3
def aw2 : M := upd1 aw1 5 7
def aw3 : M := upd1 aw2 9 7
def aw4 : M := del1 aw3 5 7
theorem aw3_of : ofS aw3 7 = [5, 9] := by
  unfold ofS
  have h : ofL aw3 7 = [5, 9] := by decide
  rw [h]
  exact List.mergeSort_of_pairwise (by decide)
theorem aw_pos3 : ∀ p ∈ aw3, 0 ≤ p.1.1 ∧ 0 ≤ p.1.2 := by decide
theorem aw_pos4 : ∀ p ∈ aw4, 0 ≤ p.1.1 ∧ 0 ≤ p.1.2 := by decide
theorem rev_u (g bm : Nat) (m : M) (b s : Int) (hs : ∀ p ∈ m, 0 ≤ p.1.1 ∧ 0 ≤ p.1.2) (w : World) (h : Tab w g bm m) :
    Calls Try.prog 11 #[.pointer (some ⟨g, 0, none⟩), .int .i64 b, .int .u32 s] w fun e w' => e = .returned (.bool (revSet (keys m) b s)) ∧ Below w.heap.size w w' :=
  rev_s g bm m b s _ hs w h rfl
/-- A table of the call's own, at work. -/
structure Own (w : World) (g bm : Nat) (m : M) (W : World) : Prop where
  tab : Tab W g bm m
  bel : Below w.heap.size w W
  hm : w.heap.size ≤ bm
theorem Own.later {w W W' : World} {g bm : Nat} {m : M} (h : Own w g bm m W) (hb : Below W.heap.size W W') : Own w g bm m W' :=
  ⟨h.tab.later hb h.tab.lt.1 h.tab.lt.2, h.bel.trans (hb.mono h.bel.size), h.hm⟩
theorem Own.turn {w W W' : World} {g bm : Nat} {m m' : M} (h : Own w g bm m W) (hT : Tab W' g bm m') (hg : W.grownBy W' (some bm)) : Own w g bm m' W' :=
  ⟨hT, h.bel.grown hg h.bel.size (fun j hj => by cases hj; exact h.hm), h.hm⟩
theorem two_at (W : World) : IntsAt (W.alloc (.cells #[.int .i64 5, .int .i64 9] 3)) (.slice (some ⟨W.heap.size, 0, none⟩) 2 2) [5, 9] := by
  refine ⟨_, 2, rfl, fun _ => ⟨_, rfl, by simp, by simp [maxLen], by simp, fun i y hy => ?_⟩⟩
  match i, hy with
  | 0, hy => simp at hy; subst hy; simp
  | 1, hy => simp at hy; subst hy; simp
set_option maxRecDepth 100000 in
theorem awake_any (w : World) : Calls Try.prog 23 #[] w fun e w' => e = .returned (.bool true) ∧ Below w.heap.size w w' := by
  have r1 : revSet (keys aw3) 5 7 = true := by decide
  have r2 : revSet (keys aw3) 5 4 = true := by decide
  have r3 : revSet (keys aw3) 5 8 = false := by decide
  have r4 : revSet (keys aw4) 5 4 = false := by decide
  have r5 : revSet (keys aw4) 5 3 = true := by decide
  go_enter Try.func23, Try.ntmps23
  go_wp2_with (first
    | (go_at_call 14; refine (new_tab _).mono ?_; rintro e w1 ⟨g, bm, rfl, hT, hg, hbm, hB⟩; have T : Hid (Own w g bm [] w1) := ⟨hT, hB, hbm⟩; clear hT hB)
    | (go_at_call 20; refine (add_tab g bm _ _ _ _ T.out.tab).mono ?_; rintro e w2 ⟨rfl, hT, hgr⟩; first | (replace T : Hid (Own w g bm aw1 w2) := T.out.turn hT hgr) | (replace T : Hid (Own w g bm aw2 w2) := T.out.turn hT hgr) | (replace T : Hid (Own w g bm aw3 w2) := T.out.turn hT hgr); clear hT hgr)
    | (go_at_call 21; refine (cancel_tab g bm _ _ _ _ T.out.tab).mono ?_; rintro e w2 ⟨rfl, hT, hgr⟩; replace T : Hid (Own w g bm aw4 w2) := T.out.turn hT hgr; clear hT hgr)
    | (go_at_call 11; refine (rev_u g bm aw3 _ _ aw_pos3 _ T.out.tab).mono ?_; rintro e w2 ⟨rfl, hw⟩; replace T := Lib.hid (T.out.later hw); clear hw)
    | (go_at_call 11; refine (rev_u g bm aw4 _ _ aw_pos4 _ T.out.tab).mono ?_; rintro e w2 ⟨rfl, hw⟩; replace T := Lib.hid (T.out.later hw); clear hw)
    | (go_at_call 13; refine (of_tab g bm aw3 (by decide) _ _ T.out.tab).mono ?_; rintro e w3 ⟨vo, rfl, ho, hw⟩; replace T := Lib.hid (T.out.later hw); rw [aw3_of] at ho; have IA := Lib.hid (IntsAt.own ho); clear hw ho)
    | (go_at_call 18; refine (same_any [5, 9] [5, 9] _ _ _ (by decide) (IA.out.later ((Below.refl _ _).alloc (Nat.le_refl _) _)) (two_at _)).mono ?_; rintro e w5 ⟨rfl, hw⟩; replace T := Lib.hid ((T.out.later ((Below.refl _ _).alloc (Nat.le_refl _) _)).later hw); clear hw)
    | (go_at_call 12; refine (len_c g bm aw3 3 (by decide) _ T.out.tab).mono ?_; rintro e w2 ⟨rfl, rfl⟩))
  go_ret
  exact ⟨rfl, T.out.bel⟩
end Go.Proofs.Ytlnfjcbhicdceaa
