/- geo.What, walked: the kind that it tells. A geometry that may be. -/
import Derived.Test.YtdeeegodiacjgaaQ2
namespace Go.Proofs.Ytdeeegodiacjgaa
open Go.RowKit Go.Shelf
attribute [local go_sem] Oper.semAt_some
set_option maxRecDepth 100000 in
set_option maxHeartbeats 2000000 in
theorem what_any (G S I J : Nat) (k1 : G ≤ 4) (k2 : S ≤ 512) (k3 : I ≤ 16) (k4 : J ≤ 256) (k5 : 3 + I ≤ S) (hm : mayB ⟨G, S, 4 * (I : Int), J⟩ = true) (bb : Int) (w : World) :
    ∃ k : Int, (k = 0 ∧ ¬ (0 ≤ bb ∧ bb < (2 + J + G * S : Nat)) ∨ k = 3 ∧ (2 ≤ bb ∧ bb < 2 + J) ∨ k ≠ 0 ∧ k ≠ 3 ∧ (0 ≤ bb ∧ bb < (2 + J + G * S : Nat)) ∧ ¬ (2 ≤ bb ∧ bb < 2 + J)) ∧
      Calls Try.prog 67 #[.agg #[.int .i64 G, .int .i64 S, .int .i64 (4 * (I : Int)), .int .i64 J], .int .i64 bb] w (WhPost k w) := by
  have hmay := Lib.hid (may_any ⟨G, S, 4 * (I : Int), J⟩)
  have hall := Lib.hid (all_any ⟨G, S, 4 * (I : Int), J⟩ ⟨by simp, by simp; omega⟩ ⟨by simp, by simp; omega⟩ ⟨by simp, by simp; omega⟩)
  have hN : geAll ⟨G, S, 4 * (I : Int), J⟩ = ((2 + J + G * S : Nat) : Int) := by unfold geAll; push_cast; rfl
  have hGS : G * S ≤ 4 * 512 := Nat.mul_le_mul k1 k2
  rw [hN] at hall
  rw [hm] at hmay
  unfold ga at hmay hall
  simp only at hmay hall
  obtain ⟨N, hNN⟩ : ∃ N : Nat, 2 + J + G * S = N := ⟨_, rfl⟩
  rw [hNN] at hall ⊢
  have hNb : N ≤ 2400 := by omega
  clear hN hm
  have W0 : Hid (WB w G S I J 0 0 0 ((((w.alloc (.cells #[.int .i64 G, .int .i64 S, .int .i64 (4 * (I : Int)), .int .i64 J] 43)).alloc (.cells #[.int .u8 0] 5)).alloc (.cells #[.int .i64 0] 3)).alloc (.cells #[.int .i64 0] 3))) := by
    refine ⟨(((Whole.new w _ _).alloc _).alloc _).alloc _, ?_, ?_, ?_, ((((Below.refl _ _).alloc (Nat.le_refl _) _).alloc (by simp) _).alloc (by simp; omega) _).alloc (by simp; omega) _⟩
    · have := Whole.new (w.alloc (.cells #[.int .i64 G, .int .i64 S, .int .i64 (4 * (I : Int)), .int .i64 J] 43)) #[.int .u8 0] 5
      rw [World.size_alloc] at this
      exact (this.alloc _).alloc _
    · have := Whole.new ((w.alloc (.cells #[.int .i64 G, .int .i64 S, .int .i64 (4 * (I : Int)), .int .i64 J] 43)).alloc (.cells #[.int .u8 0] 5)) #[.int .i64 0] 3
      rw [World.size_alloc, World.size_alloc] at this
      exact this.alloc _
    · have := Whole.new (((w.alloc (.cells #[.int .i64 G, .int .i64 S, .int .i64 (4 * (I : Int)), .int .i64 J] 43)).alloc (.cells #[.int .u8 0] 5)).alloc (.cells #[.int .i64 0] 3)) #[.int .i64 0] 3
      rw [World.size_alloc, World.size_alloc, World.size_alloc] at this
      exact this
  have wN : IntKind.i64.wrap ((N : Int) - 1) = (N : Int) - 1 := IntWalk.i64_in _ (by omega)
  have hin : ∀ r, amongB bb 0 ((N : Int) - 1) = r → Hid (∀ w, Calls Try.prog 54 #[.int .i64 bb, .int .i64 0, .int .i64 ((N : Int) - 1)] w (fun e w' => e = .returned (.bool r) ∧ w' = w)) := fun r h w => among_is h w
  cases hi : amongB bb 0 ((N : Int) - 1) with
  | false =>
    have hamo := hin _ hi
    refine ⟨0, .inl ⟨rfl, fun hc => by have := amongB_iff.2 (show (0 : Int) ≤ bb ∧ bb ≤ (N : Int) - 1 by omega); rw [hi] at this; cases this⟩, ?_⟩
    refine calls_marks Try.func67 rfl ?_
    simp only [Try.ntmps67, List.size_toArray, List.length_cons, List.length_nil, Nat.reduceAdd, Nat.reduceSub, Array.replicate_succ, Array.replicate_zero, List.push_toArray, List.append_toArray, List.nil_append, List.cons_append]
    go_wp2_with (first
      | (go_at_call 40; refine (hmay.out _).mono ?_; rintro e w1 ⟨rfl, hb⟩; have W1 := Lib.hid (W0.out.later hb); clear hb; have c0 := W1.out.box.cell 0; have c1 := W1.out.box.cell 1; have c2 := W1.out.box.cell 2; have c3 := W1.out.box.cell 3)
      | (go_at_call 55; refine (hall.out _).mono ?_; rintro e w2 ⟨rfl, hb⟩; have W2 := Lib.hid (W1.out.later hb); clear hb)
      | (go_at_call 54; refine (hamo.out _).mono ?_; rintro e w3 ⟨rfl, rfl⟩; have p1 := W2.out.r1.cell 0; have p2 := W2.out.r2.cell 0; have p3 := W2.out.r3.cell 0; have q1 := W2.out.r1.free 0; have q2 := W2.out.r2.free 0; have q3 := W2.out.r3.free 0; have y0 := W2.out.box.cell 0; have y1 := W2.out.box.cell 1; have y2 := W2.out.box.cell 2; have y3 := W2.out.box.cell 3))
    have WE := W2.out.put (k' := 0) (a' := 0) (b' := 0)
    exact bodyPostM_ret0 rfl (results_cell3 rfl _ _ (w.heap.size + 1) (w.heap.size + 2) (w.heap.size + 3) 0 0 0 rfl rfl rfl (WE.r1.cell 0) (WE.r2.cell 0) (WE.r3.cell 0)) ⟨0, 0, rfl, WE.bel⟩
  | true =>
    have hamo := hin _ hi
    obtain ⟨i1, i2⟩ := amongB_iff.1 hi
    clear hi hin
    by_cases b0 : bb = 0
    · subst b0
      refine ⟨1, .inr (.inr ⟨by decide, by decide, by omega, by omega⟩), ?_⟩
      refine calls_marks Try.func67 rfl ?_
      simp only [Try.ntmps67, List.size_toArray, List.length_cons, List.length_nil, Nat.reduceAdd, Nat.reduceSub, Array.replicate_succ, Array.replicate_zero, List.push_toArray, List.append_toArray, List.nil_append, List.cons_append]
      go_wp2_with (first
        | (go_at_call 40; refine (hmay.out _).mono ?_; rintro e w1 ⟨rfl, hb⟩; have W1 := Lib.hid (W0.out.later hb); clear hb; have c0 := W1.out.box.cell 0; have c1 := W1.out.box.cell 1; have c2 := W1.out.box.cell 2; have c3 := W1.out.box.cell 3)
        | (go_at_call 55; refine (hall.out _).mono ?_; rintro e w2 ⟨rfl, hb⟩; have W2 := Lib.hid (W1.out.later hb); clear hb)
        | (go_at_call 54; refine (hamo.out _).mono ?_; rintro e w3 ⟨rfl, rfl⟩; have p1 := W2.out.r1.cell 0; have p2 := W2.out.r2.cell 0; have p3 := W2.out.r3.cell 0; have q1 := W2.out.r1.free 0; have q2 := W2.out.r2.free 0; have q3 := W2.out.r3.free 0; have y0 := W2.out.box.cell 0; have y1 := W2.out.box.cell 1; have y2 := W2.out.box.cell 2; have y3 := W2.out.box.cell 3))
      have WE := W2.out.put (k' := 1) (a' := 0) (b' := 0)
      exact bodyPostM_ret0 rfl (results_cell3 rfl _ _ (w.heap.size + 1) (w.heap.size + 2) (w.heap.size + 3) 1 0 0 rfl rfl rfl (WE.r1.cell 0) (WE.r2.cell 0) (WE.r3.cell 0)) ⟨0, 0, rfl, WE.bel⟩
    · by_cases b1 : bb = 1
      · subst b1
        refine ⟨2, .inr (.inr ⟨by decide, by decide, by omega, by omega⟩), ?_⟩
        refine calls_marks Try.func67 rfl ?_
        simp only [Try.ntmps67, List.size_toArray, List.length_cons, List.length_nil, Nat.reduceAdd, Nat.reduceSub, Array.replicate_succ, Array.replicate_zero, List.push_toArray, List.append_toArray, List.nil_append, List.cons_append]
        go_wp2_with (first
          | (go_at_call 40; refine (hmay.out _).mono ?_; rintro e w1 ⟨rfl, hb⟩; have W1 := Lib.hid (W0.out.later hb); clear hb; have c0 := W1.out.box.cell 0; have c1 := W1.out.box.cell 1; have c2 := W1.out.box.cell 2; have c3 := W1.out.box.cell 3)
          | (go_at_call 55; refine (hall.out _).mono ?_; rintro e w2 ⟨rfl, hb⟩; have W2 := Lib.hid (W1.out.later hb); clear hb)
          | (go_at_call 54; refine (hamo.out _).mono ?_; rintro e w3 ⟨rfl, rfl⟩; have p1 := W2.out.r1.cell 0; have p2 := W2.out.r2.cell 0; have p3 := W2.out.r3.cell 0; have q1 := W2.out.r1.free 0; have q2 := W2.out.r2.free 0; have q3 := W2.out.r3.free 0; have y0 := W2.out.box.cell 0; have y1 := W2.out.box.cell 1; have y2 := W2.out.box.cell 2; have y3 := W2.out.box.cell 3))
        have WE := W2.out.put (k' := 2) (a' := 0) (b' := 0)
        exact bodyPostM_ret0 rfl (results_cell3 rfl _ _ (w.heap.size + 1) (w.heap.size + 2) (w.heap.size + 3) 2 0 0 rfl rfl rfl (WE.r1.cell 0) (WE.r2.cell 0) (WE.r3.cell 0)) ⟨0, 0, rfl, WE.bel⟩
      · have n0 : (bb == 0) = false := by simpa using b0
        have n1 : (bb == 1) = false := by simpa using b1
        have wJ : IntKind.i64.wrap (2 + (J : Int)) = 2 + (J : Int) := IntWalk.i64_in _ (by omega)
        cases dJ : decide (bb < 2 + (J : Int)) with
        | true =>
          have wb : IntKind.i64.wrap (bb - 2) = bb - 2 := IntWalk.i64_in _ (by omega)
          have hbJ := of_decide_eq_true dJ
          refine ⟨3, .inr (.inl ⟨rfl, by omega, by omega⟩), ?_⟩
          refine calls_marks Try.func67 rfl ?_
          simp only [Try.ntmps67, List.size_toArray, List.length_cons, List.length_nil, Nat.reduceAdd, Nat.reduceSub, Array.replicate_succ, Array.replicate_zero, List.push_toArray, List.append_toArray, List.nil_append, List.cons_append]
          go_wp2_with (first
            | (go_at_call 40; refine (hmay.out _).mono ?_; rintro e w1 ⟨rfl, hb⟩; have W1 := Lib.hid (W0.out.later hb); clear hb; have c0 := W1.out.box.cell 0; have c1 := W1.out.box.cell 1; have c2 := W1.out.box.cell 2; have c3 := W1.out.box.cell 3)
            | (go_at_call 55; refine (hall.out _).mono ?_; rintro e w2 ⟨rfl, hb⟩; have W2 := Lib.hid (W1.out.later hb); clear hb)
            | (go_at_call 54; refine (hamo.out _).mono ?_; rintro e w3 ⟨rfl, rfl⟩; have p1 := W2.out.r1.cell 0; have p2 := W2.out.r2.cell 0; have p3 := W2.out.r3.cell 0; have q1 := W2.out.r1.free 0; have q2 := W2.out.r2.free 0; have q3 := W2.out.r3.free 0; have y0 := W2.out.box.cell 0; have y1 := W2.out.box.cell 1; have y2 := W2.out.box.cell 2; have y3 := W2.out.box.cell 3))
          have WE := W2.out.put (k' := 3) (a' := 0) (b' := (bb - 2))
          exact bodyPostM_ret0 rfl (results_cell3 rfl _ _ (w.heap.size + 1) (w.heap.size + 2) (w.heap.size + 3) 3 0 (bb - 2) rfl rfl rfl (WE.r1.cell 0) (WE.r2.cell 0) (WE.r3.cell 0)) ⟨0, (bb - 2), rfl, WE.bel⟩
        | false =>
          have hbJ := of_decide_eq_false dJ
          obtain ⟨c, hc⟩ : ∃ c : Nat, bb = 2 + (J : Int) + c := ⟨(bb - 2 - J).toNat, by omega⟩
          have hcS : c < G * S := by omega
          have wb : IntKind.i64.wrap (bb - (2 + (J : Int))) = (c : Int) := by rw [IntWalk.i64_in _ (by omega)]; omega
          have hS0 : ((S : Int) == 0) = false := by simp; omega
          have hS1 : ¬ (S : Int) = 0 := by omega
          have hS2 : ¬ S = 0 := by omega
          obtain ⟨q, hq⟩ : ∃ q, c / S = q := ⟨_, rfl⟩
          obtain ⟨r, hr⟩ : ∃ r, c % S = r := ⟨_, rfl⟩
          have hrS : r < S := by rw [← hr]; exact Nat.mod_lt _ (by omega)
          have hql : q ≤ c := by rw [← hq]; exact Nat.div_le_self _ _
          have e1 : Int.tdiv (c : Int) (S : Int) = (q : Int) := by rw [← hq]; rfl
          have e2 : Int.tmod (c : Int) (S : Int) = (r : Int) := by rw [← hr]; rfl
          have e3 : (c : Int) / (S : Int) = (q : Int) := by rw [← hq]; simp
          have e4 : (c : Int) % (S : Int) = (r : Int) := by rw [← hr]; simp
          have w5 : IntKind.i64.wrap (q : Int) = (q : Int) := IntWalk.i64_in _ (by omega)
          have w6 : IntKind.i64.wrap (r : Int) = (r : Int) := IntWalk.i64_in _ (by omega)
          suffices hX : ∀ k : Int, (k = 4 ∨ k = 5 ∨ k = 6 ∨ k = 7) → (r < 1 ∧ k = 4 ∨ r = 1 ∧ k = 5 ∨ 2 ≤ r ∧ r < 2 + I ∧ k = 6 ∨ 2 + I ≤ r ∧ k = 7) → Calls Try.prog 67 #[.agg #[.int .i64 G, .int .i64 S, .int .i64 (4 * (I : Int)), .int .i64 J], .int .i64 bb] w (WhPost k w) by
            have hk : ∃ k : Int, (k = 4 ∨ k = 5 ∨ k = 6 ∨ k = 7) ∧ (r < 1 ∧ k = 4 ∨ r = 1 ∧ k = 5 ∨ 2 ≤ r ∧ r < 2 + I ∧ k = 6 ∨ 2 + I ≤ r ∧ k = 7) := by
              rcases Nat.lt_or_ge r 1 with h | h
              · exact ⟨4, by omega, by omega⟩
              · rcases Nat.lt_or_ge r 2 with h' | h'
                · exact ⟨5, by omega, by omega⟩
                · rcases Nat.lt_or_ge r (2 + I) with h'' | h''
                  · exact ⟨6, by omega, by omega⟩
                  · exact ⟨7, by omega, by omega⟩
            obtain ⟨k, hk1, hk2⟩ := hk
            exact ⟨k, .inr (.inr ⟨by omega, by omega, by omega, by omega⟩), hX k hk1 hk2⟩
          intro k hk1 hk2
          have HK := Lib.hid hk2
          have HK1 := Lib.hid hk1
          clear hk1 hk2 hc dJ
          exact what_tail G S I J N c q r k1 k2 k3 k4 k5 bb w k HK hNb hrS hmay hall hamo wN W0 n0 n1 b0 b1 wJ hbJ wb hS0 hS1 hS2 hq hr e1 e2 e3 e4 w5 w6
end Go.Proofs.Ytdeeegodiacjgaa
