/- quernlaw13.RevokeDrops returns true. The argument is a slice of records whose numbers are in range. -/
import Derived.Test.YtlnfjcbhicdceaaL2
namespace Go.Proofs.Ytlnfjcbhicdceaa
open Go.RowKit
def revSet (ks : List K) (b s : Int) : Bool := ks.any fun x => decide (x.1 = b) && decide (s ≤ x.2)
theorem revSet_snoc (ks : List K) (x : K) (b s : Int) : revSet (ks ++ [x]) b s = (revSet ks b s || (decide (x.1 = b) && decide (s ≤ x.2))) := by simp [revSet]
theorem revSet_perm {a c : List K} (h : a.Perm c) (b s : Int) : revSet a b s = revSet c b s := by
  unfold revSet
  rw [Bool.eq_iff_iff, List.any_eq_true, List.any_eq_true]
  exact ⟨fun ⟨x, hx, e⟩ => ⟨x, h.mem_iff.1 hx, e⟩, fun ⟨x, hx, e⟩ => ⟨x, h.mem_iff.2 hx, e⟩⟩
theorem rev_eq {m : M} {b best s : Int} {found : Bool} (h : LastIs m b best found) : (found && decide (s ≤ best)) = revSet (keys m) b s := by
  rw [Bool.eq_iff_iff]
  unfold revSet
  rw [List.any_eq_true]
  simp only [Bool.and_eq_true, decide_eq_true_eq]
  constructor
  · rintro ⟨hf, hs⟩
    obtain ⟨p, hp, h1, h2⟩ := h.one hf
    exact ⟨p.1, List.mem_map_of_mem hp, h1, by omega⟩
  · rintro ⟨x, hx, h1, h2⟩
    obtain ⟨p, hp, rfl⟩ := List.mem_map.1 hx
    obtain ⟨h3, h4⟩ := h.all p hp (by simp) h1
    exact ⟨h3, by omega⟩
theorem rev_s (g bm : Nat) (m : M) (b s : Int) (r : Bool) (hs : ∀ p ∈ m, 0 ≤ p.1.1 ∧ 0 ≤ p.1.2) (w : World) (h : Tab w g bm m) (hr : revSet (keys m) b s = r) :
    Calls Try.prog 11 #[.pointer (some ⟨g, 0, none⟩), .int .i64 b, .int .u32 s] w fun e w' => e = .returned (.bool r) ∧ Below w.heap.size w w' :=
  (rev_tab g bm m b s hs w h).mono fun e w' ⟨x, f, he, h1, hb⟩ => by
    rw [rev_eq h1, hr] at he
    exact ⟨he, hb⟩
theorem len_c (g bm : Nat) (m : M) (k : Nat) (hk : m.length = k) (w : World) (h : Tab w g bm m) :
    Calls Try.prog 12 #[.pointer (some ⟨g, 0, none⟩)] w fun e w' => e = .returned (.int .i64 (k : Nat)) ∧ w' = w := by
  subst hk; exact len_tab g bm m w h
theorem keys_dropped (m : M) (s : Int) : keys (dropped m s) = (keys m).filter fun x => decide (s < x.2) := by
  unfold keys dropped
  rw [List.filter_map]
  rfl
theorem ofL_dropped (m : M) (s : Int) : ofL (dropped m s) s = [] := by
  unfold ofL dropped
  rw [List.filter_filter, List.map_eq_nil_iff, List.filter_eq_nil_iff]
  intro p _
  simp
  omega
/-- What stands behind Drop. -/
structure DD (l : List R3) (w : World) (g bm B : Nat) (v : Value) (m : M) (W : World) : Prop where
  tab : Tab W g bm m
  own : W.ownsRow B 28 3 v (refRun l).length (flat3 (refRun l))
  bel : Below w.heap.size w W
  hg : w.heap.size ≤ g ∧ g < B
  hm : w.heap.size ≤ bm ∧ bm < B
  hB : B ≤ W.heap.size
theorem DD.later {l : List R3} {w : World} {g bm B : Nat} {v : Value} {m : M} {W W' : World} (h : DD l w g bm B v m W) (hb : Below W.heap.size W W') : DD l w g bm B v m W' :=
  ⟨h.tab.later hb h.tab.lt.1 h.tab.lt.2, own_later h.own hb, h.bel.trans (hb.mono h.bel.size), h.hg, h.hm, Nat.le_trans h.hB hb.size⟩
theorem DD.turn {l : List R3} {w : World} {g bm B : Nat} {v : Value} {m m' : M} {W W' : World} (h : DD l w g bm B v m W) (hT : Tab W' g bm m') (hg : W.grownBy W' (some bm)) : DD l w g bm B v m' W' :=
  ⟨hT, h.own.kept hg (by
    cases hv : v.ownBlock with
    | none => exact .inl rfl
    | some j => exact .inr (fun e => by have := (h.own.lt j hv).1; cases e; have := h.hm; omega)), h.bel.grown hg h.bel.size (fun j hj => by cases hj; exact h.hm.1), h.hg, h.hm, Nat.le_trans h.hB hg.size⟩
theorem LD.dd {l : List R3} {w : World} {g bm B : Nat} {v : Value} {m : M} {W : World} (h : LD l w g bm B v m W) : DD l w g bm B v m W := ⟨h.tab, h.own, h.bel, h.hg, h.hm, h.hB⟩
def over (ml : List K) (d : Int) : List K := ml.filter fun x => decide (d < x.2)
theorem over_snoc (ml : List K) (x : K) (d : Int) : over (ml ++ [x]) d = if d < x.2 then over ml d ++ [x] else over ml d := by
  unfold over
  rw [List.filter_append]
  by_cases h : d < x.2
  · simp [h]
  · simp [h]
set_option maxRecDepth 100000 in
theorem revokeDrops_walk (l : List R3) (hok : OkR l) (v : Value) (d b s : Int) (w : World) (h : Recs w v l) :
    Calls Try.prog 8 #[v, .int .u32 d, .int .i64 b, .int .u32 s] w fun e w' => e = .returned (.bool true) ∧ Below w.heap.size w w' := by
  have HR := Lib.hid h
  have hokH := Lib.hid hok
  obtain ⟨ao, cap, hv, _⟩ := h.ex
  clear h hok
  by_cases hl : l.length ≤ 200
  · go_enter Try.func8, Try.ntmps8
    subst hv
    have d0 : decide ((200 : Int) < (l.length : Int)) = false := by simp; omega
    go_wp2_with (first
      | (go_at_call 9; refine (laid_c l hl hokH.out _ _ HR.out).mono ?_; rintro e w1 ⟨g, bm, B, v, m, rfl, hI⟩; have I := Lib.hid hI; clear hI)
      | (go_at_call 22; refine (drop_tab g bm m d _ I.out.tab).mono ?_; rintro e w2 ⟨rfl, hT, hgr⟩; have D := Lib.hid (I.out.dd.turn hT hgr); clear hT hgr))
    obtain ⟨ao2, cap2, rfl⟩ := own_shape I.out.own
    have hrl := run_len l
    go_loopw [11, 12, 13] (fun v11 v12 v13 W => W = w2 ∧ ∃ i r, v11 = .int .i64 ((over ((refRun l).take i) d).length : Nat) ∧ v12 = .bool r ∧ revSet (over ((refRun l).take i) d) b s = r ∧ v13 = .int .i64 (i : Nat) ∧ i ≤ (refRun l).length) (fun _ _ v13 _ => ((refRun l).length - intOf v13).toNat)
    case atStart => exact ⟨rfl, 0, false, by simp [over], rfl, by simp [over, revSet], rfl, by omega⟩
    case round =>
      obtain ⟨rfl, i, r, rfl, rfl, hr, rfl, hi⟩ := hrel
      have HRv := Lib.hid hr
      have hoL : (over ((refRun l).take i) d).length ≤ 200 := by
        have h1 : (over ((refRun l).take i) d).length ≤ ((refRun l).take i).length := List.length_filter_le _ _
        rw [List.length_take] at h1
        omega
      clear hr
      by_cases hin : i < (refRun l).length
      · obtain ⟨gv, rfl, hc1, hc2, hgv, hcs⟩ := own_cells D.out.own (by omega)
        obtain ⟨⟨yb, ys⟩, hy⟩ : ∃ y, (refRun l)[i]? = some y := ⟨_, List.getElem?_eq_getElem hin⟩
        obtain ⟨c0, c1, c2⟩ := hcs i _ hy
        have htk : Hid (over ((refRun l).take (i + 1)) d = if d < ys then over ((refRun l).take i) d ++ [(yb, ys)] else over ((refRun l).take i) d) := by
          unfold Hid
          rw [List.take_add_one, hy]; exact over_snoc _ _ _
        clear hcs hy
        by_cases hd : d < ys
        · have htk2 : Hid (over ((refRun l).take (i + 1)) d = over ((refRun l).take i) d ++ [(yb, ys)]) := by unfold Hid; rw [htk.out, if_pos hd]
          cases r with
          | true =>
            go_wp2_with fail
            refine ⟨⟨trivial, i + 1, true, ?_, rfl, ?_, rfl, by omega⟩, by simp [intOf]; omega⟩
            · rw [htk2.out, List.length_append]; rfl
            · rw [htk2.out, revSet_snoc, HRv.out]; rfl
          | false =>
            by_cases hyb : yb = b
            · by_cases hsy : s ≤ ys
              · go_wp2_with fail
                refine ⟨⟨trivial, i + 1, true, ?_, rfl, ?_, rfl, by omega⟩, by simp [intOf]; omega⟩
                · rw [htk2.out, List.length_append]; rfl
                · rw [htk2.out, revSet_snoc, HRv.out]; simp [hyb, hsy]
              · go_wp2_with fail
                refine ⟨⟨trivial, i + 1, false, ?_, rfl, ?_, rfl, by omega⟩, by simp [intOf]; omega⟩
                · rw [htk2.out, List.length_append]; rfl
                · rw [htk2.out, revSet_snoc, HRv.out]; simp; omega
            · go_wp2_with fail
              refine ⟨⟨trivial, i + 1, false, ?_, rfl, ?_, rfl, by omega⟩, by simp [intOf]; omega⟩
              · rw [htk2.out, List.length_append]; rfl
              · rw [htk2.out, revSet_snoc, HRv.out]; simp [hyb]
        · have htk2 : Hid (over ((refRun l).take (i + 1)) d = over ((refRun l).take i) d) := by unfold Hid; rw [htk.out, if_neg hd]
          go_wp2_with fail
          refine ⟨⟨trivial, i + 1, r, ?_, rfl, ?_, rfl, by omega⟩, by simp [intOf]; omega⟩
          · rw [htk2.out]
          · rw [htk2.out, HRv.out]
      · obtain rfl : i = (refRun l).length := by omega
        have hpk : (keys (dropped m d)).Perm (over (refRun l) d) := by
          rw [keys_dropped]
          exact I.out.perm.filter _
        have hpos : Hid (∀ p ∈ dropped m d, 0 ≤ p.1.1 ∧ 0 ≤ p.1.2) := fun p hp => keys_pos I.out.perm (run_pos hokH.out) p (List.mem_filter.1 hp).1
        have hlen : Hid ((dropped m d).length = (over ((refRun l).take (refRun l).length) d).length) := by
          unfold Hid
          rw [List.take_length, ← hpk.length_eq]; simp [keys]
        have hm1000 : (dropped m d).length ≤ 1000 := by rw [hlen.out]; omega
        have hrs : Hid (revSet (keys (dropped m d)) b s = r) := by
          unfold Hid
          rw [revSet_perm hpk, ← HRv.out, List.take_length]
        have hof : Hid (ofS (dropped m d) d = []) := by
          unfold Hid ofS
          rw [ofL_dropped]; simp
        cases r
        all_goals
          go_wp2_with (first
            | (go_at_call 12; refine (len_c g bm _ _ hlen.out _ D.out.tab).mono ?_; rintro e w3 ⟨rfl, rfl⟩)
            | (go_at_call 11; refine (rev_s g bm _ b s _ hpos.out _ D.out.tab hrs.out).mono ?_; rintro e w4 ⟨rfl, hw4⟩; have D4 := Lib.hid (D.out.later hw4); clear hw4)
            | (go_at_call 13; refine (of_tab g bm _ hm1000 d _ D4.out.tab).mono ?_; rintro e w5 ⟨vo, rfl, ho, hw5⟩; have D5 := Lib.hid (D4.out.later hw5); rw [hof.out] at ho; obtain ⟨ao5, cap5, rfl⟩ := own_shape ho; clear hw5 ho)
            | (go_at_call 20; refine (add_tab g bm _ (-1) s _ D5.out.tab).mono ?_; rintro e w6 ⟨rfl, hT, hgr⟩; have D6 := Lib.hid (D5.out.turn hT hgr); clear hT hgr))
          go_ret
          exact ⟨rfl, D6.out.bel⟩
  · go_enter Try.func8, Try.ntmps8
    subst hv
    have d0 : decide ((200 : Int) < (l.length : Int)) = true := by simp; omega
    go_wp2_with fail
    go_ret
    exact ⟨rfl, Below.refl _ _⟩
end Go.Proofs.Ytlnfjcbhicdceaa
