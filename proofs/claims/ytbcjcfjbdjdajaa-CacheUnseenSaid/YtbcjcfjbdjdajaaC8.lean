/- One thing after the other is evicted, walked; laws on what is dirty and clean behind a store or a deletion. -/
import Derived.Test.YtbcjcfjbdjdajaaC7
namespace Go.Proofs.Ytbcjcfjbdjdajaa
open Go.RowKit
def evN (C : Ck) : Nat → List Int × Ck
  | 0 => ([], C)
  | k + 1 => (if (cEv (evN C k).2 0).1.2 then (evN C k).1 ++ [(cEv (evN C k).2 0).1.1] else (evN C k).1, (cEv (evN C k).2 0).2)
theorem cEv_sub (C : Ck) (n : Int) : (∀ p ∈ (cEv C n).2.has, p ∈ C.has) ∧ (cEv C n).2.has.length ≤ C.has.length := by
  unfold cEv
  split
  · exact ⟨fun p hp => (List.mem_filter.1 hp).1, delD_len _ _⟩
  · exact ⟨fun p hp => hp, Nat.le_refl _⟩
theorem evN_sub (C : Ck) : ∀ k, (∀ p ∈ (evN C k).2.has, p ∈ C.has) ∧ (evN C k).2.has.length ≤ C.has.length ∧ (evN C k).1.length ≤ k
  | 0 => ⟨fun p hp => hp, Nat.le_refl _, Nat.le_refl _⟩
  | k + 1 => by
    obtain ⟨h1, h2, h3⟩ := evN_sub C k
    obtain ⟨e1, e2⟩ := cEv_sub (evN C k).2 0
    refine ⟨fun p hp => h1 p (e1 p hp), Nat.le_trans e2 h2, ?_⟩
    show (if (cEv (evN C k).2 0).1.2 then (evN C k).1 ++ [(cEv (evN C k).2 0).1.1] else (evN C k).1).length ≤ k + 1
    split
    · rw [List.length_append, List.length_singleton]; omega
    · omega
set_option maxRecDepth 100000 in
set_option maxHeartbeats 1000000 in
theorem evicted_c {W : World} {c : Cf} {vw : Value} {C : Ck} (hwf : ∀ p ∈ C.has, wf64 p.1) (hn : C.has.length ≤ 1000000) (h : CAt W c vw C) :
    Calls Try.prog 16 #[.pointer (some ⟨c.rc, 0, none⟩)] W (fun e w' => ∃ a k, e = .returned (.slice a (evN C 64).1.length k) ∧ w'.ownsRow W.heap.size 3 1 (.slice a (evN C 64).1.length k) (evN C 64).1.length (flat ic (evN C 64).1) ∧ CS c vw W vw w' (evN C 64).2) := by
  have H := Lib.hid h
  have hev := Lib.hid (fun (i : Nat) (w : World) (hw : CAt w c vw (evN C i).2) => ev_c 0 (fun p hp => hwf p ((evN_sub C i).1 p hp)) (Nat.le_trans (evN_sub C i).2.1 hn) hw)
  have hlen := Lib.hid (fun i => (evN_sub C i).2.2)
  have hst : Hid (∀ i, evN C (i + 1) = (if (cEv (evN C i).2 0).1.2 then (evN C i).1 ++ [(cEv (evN C i).2 0).1.1] else (evN C i).1, (cEv (evN C i).2 0).2)) := fun i => rfl
  obtain ⟨i0, hi0, hz0, hz1, hz2⟩ := info_parts info3
  have hlt := Lib.hid h.lt
  have hrcl := h.obj.lt
  have z0 : Hid (evN C 0 = ([], C)) := rfl
  clear h hwf hn
  go_enter Try.func16, Try.ntmps16
  go_wp2_with fail
  have S0 : Hid (CS c vw W vw W (evN C 0).2) := by unfold Hid; rw [z0.out]; exact CS.refl H.out
  have O0 : Hid (W.ownsRow W.heap.size 3 1 (.slice none 0 0) (evN C 0).1.length (flat ic (evN C 0).1)) := by unfold Hid; rw [z0.out]; exact World.ownsRow_nil _ _ _ _
  go_loopw [3, 4] (fun v3 v4 W' => ∃ i, v4 = .int .i64 (i : Nat) ∧ i ≤ 64 ∧ CS c vw W vw W' (evN C i).2 ∧ W'.ownsRow W.heap.size 3 1 v3 (evN C i).1.length (flat ic (evN C i).1)) (fun _ v4 _ => (64 - intOf v4).toNat)
  case atStart => exact ⟨0, rfl, by omega, S0.out, O0.out⟩
  case round =>
    obtain ⟨i, rfl, hi, hS, hO⟩ := hrel
    have SH := Lib.hid hS
    have OH := Lib.hid hO
    clear hS hO S0 O0 z0
    by_cases hin : i < 64
    · have hc := Lib.hid (hev.out i wr SH.out.at_)
      have hs := Lib.hid (hst.out i)
      have hl := Lib.hid (hlen.out i)
      obtain ⟨⟨⟨b, ok⟩, D⟩, hr⟩ : ∃ r, Hid (cEv (evN C i).2 0 = r) := ⟨_, rfl⟩
      rw [hr.out] at hc hs
      have wi : IntKind.i64.wrap ((i : Int) + 1) = (i : Int) + 1 := IntWalk.i64_in _ (by omega)
      cases ok with
      | false =>
        go_wp2_with (go_at_call 22; refine hc.out.mono ?_; rintro e w4 ⟨rfl, hs4⟩; have S4 := Lib.hid (SH.out.trans hs4); have O4 := Lib.hid (own_ch OH.out hs4.ch (fun q hq f => by have := (OH.out.lt q hq).1; have := (hlt.out q f).2; omega)); clear hs4)
        refine ⟨⟨i + 1, rfl, by omega, ?_⟩, by simp [intOf]; omega⟩
        rw [hs.out, if_neg (by simp)]
        exact ⟨S4.out, O4.out⟩
      | true =>
        go_wp2_with (first
          | (go_at_call 22; refine hc.out.mono ?_; rintro e w4 ⟨rfl, hs4⟩; have S4 := Lib.hid (SH.out.trans hs4); have O4 := Lib.hid (own_ch OH.out hs4.ch (fun q hq f => by have := (OH.out.lt q hq).1; have := (hlt.out q f).2; omega)); clear hs4)
          | (at_builtin; refine wpList_append_own_at _ rfl _ _ 28 rfl W.heap.size 3 i0 (.int .i64 0) 1 8 Try.underlying28 hi0 hz0 hz1 hz2 rfl (by decide) _ _ _ rfl (O4.out.alloc _) ⟨w4.heap.size, 0, none⟩ 1 1 (ic b) rfl rfl (cell_one_new _ _ _) (fun u hu => by simp [ic] at hu; subst hu; rfl) (by have := hl.out; unfold maxLen; omega) (by have := hl.out; omega) (by have := S4.out.ch.size; simp; omega) ?_; intro v6 w6 hown hgrow _ _; have O6 := Lib.hid hown; have G6 : Hid (Ch (fun k => (u3).ownBlock = some k) w4 w6) := (Ch.of_below ((Below.refl w4.heap.size w4).alloc (Nat.le_refl _) _)).same (Ch.of_grown hgrow fun k hk => hk); clear hown hgrow))
        refine ⟨⟨i + 1, rfl, by omega, ?_, ?_⟩, by simp [intOf]; omega⟩
        · rw [hs.out]
          have hfar : ∀ k, (u3).ownBlock = some k → W.heap.size ≤ k := fun k hk => (O4.out.lt k hk).1
          exact ⟨S4.out.at_.ch G6.out (fun k hk e => by
              have := hfar k e
              rcases hk with hk | hk
              · have := (hlt.out k hk).2; omega
              · omega), S4.out.ch.trans G6.out (fun k hk => .inr (hfar k hk)), S4.out.own⟩
        · rw [hs.out, if_pos trivial, List.length_append, flat_snoc]
          exact O6.out
    · obtain rfl : i = 64 := by omega
      go_wp2_with fail
      go_ret
      obtain ⟨a, k, rfl⟩ := own_shape OH.out
      exact ⟨a, k, rfl, OH.out, SH.out⟩
end Go.Proofs.Ytbcjcfjbdjdajaa
