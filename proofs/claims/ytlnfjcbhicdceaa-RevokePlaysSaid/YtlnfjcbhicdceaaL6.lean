/- quernlaw13.RevokeDown returns true. The argument is a slice of calls whose numbers are in range. -/
import Derived.Test.YtlnfjcbhicdceaaL5
namespace Go.Proofs.Ytlnfjcbhicdceaa
open Go.RowKit
abbrev A3 := Int × Int × Int
/-- A slice of calls that was handed in: kind, block, number. -/
structure Acts (W : World) (v : Value) (l : List A3) : Prop where
  ex : ∃ ao cap, v = .slice ao l.length cap ∧ l.length ≤ cap ∧ cap ≤ maxLen ∧ (0 < l.length → ∃ A off, ao = some ⟨A, off, none⟩ ∧ ∀ i r, l[i]? = some r → W.cell? ⟨A, off + i * 3, none⟩ = some (.int .u8 r.1) ∧ W.cell? ⟨A, off + i * 3 + 1, none⟩ = some (.int .i64 r.2.1) ∧ W.cell? ⟨A, off + i * 3 + 2, none⟩ = some (.int .u32 r.2.2))
def OkA (l : List A3) : Prop := ∀ r ∈ l, (0 ≤ r.1 ∧ r.1 ≤ 255) ∧ 0 ≤ r.2.2 ∧ r.2.2 ≤ 4294967295
/-- The table's records are in range. -/
def PosM (m : M) : Prop := ∀ p ∈ m, 0 ≤ p.1.1 ∧ 0 ≤ p.1.2 ∧ p.1.2 ≤ 4294967295
theorem PosM.keys {m : M} (h : PosM m) : ∀ p ∈ m, 0 ≤ p.1.1 ∧ 0 ≤ p.1.2 := fun p hp => ⟨(h p hp).1, (h p hp).2.1⟩
theorem PosM.upd {m : M} (h : PosM m) (b : Int) {s : Int} (h0 : 0 ≤ s) (h1 : s ≤ 4294967295) : PosM (upd1 m b s) := by
  unfold upd1
  split
  · exact h
  · rename_i hb
    unfold Ytlnfjcbhicdceaa.upd
    split
    · intro p hp
      obtain ⟨q, hq, e⟩ := List.mem_map.1 hp
      split at e
      · subst e; exact ⟨by simp; omega, h0, h1⟩
      · subst e; exact h q hq
    · intro p hp
      rcases List.mem_append.1 hp with h2 | h2
      · exact h p h2
      · simp at h2; subst h2; exact ⟨by simp; omega, h0, h1⟩
theorem PosM.del {m : M} (h : PosM m) (b s : Int) : PosM (del1 m b s) := by
  unfold del1
  split
  · exact h
  · exact fun p hp => h p (mem_del.1 hp).1
theorem PosM.drop {m : M} (h : PosM m) (s : Int) : PosM (dropped m s) := fun p hp => h p (List.mem_filter.1 hp).1
theorem revSet_mono {ks : List K} {b s t : Int} (h : s ≤ t) (hr : revSet ks b t = true) : revSet ks b s = true := by
  unfold revSet at *
  rw [List.any_eq_true] at *
  obtain ⟨x, hx, e⟩ := hr
  simp only [Bool.and_eq_true, decide_eq_true_eq] at e
  exact ⟨x, hx, by simp only [Bool.and_eq_true, decide_eq_true_eq]; exact ⟨e.1, by omega⟩⟩
theorem revSet_drop (m : M) (b s : Int) : revSet (keys (dropped m (s - 1))) b s = revSet (keys m) b s := by
  rw [keys_dropped, Bool.eq_iff_iff]
  unfold revSet
  rw [List.any_eq_true, List.any_eq_true]
  constructor
  · rintro ⟨x, hx, e⟩; exact ⟨x, (List.mem_filter.1 hx).1, e⟩
  · rintro ⟨x, hx, e⟩
    refine ⟨x, List.mem_filter.2 ⟨hx, ?_⟩, e⟩
    simp only [Bool.and_eq_true, decide_eq_true_eq] at e
    simp
    omega
theorem last_range {m : M} (h : PosM m) {b best : Int} {found : Bool} (hL : LastIs m b best found) : 0 ≤ best ∧ best ≤ 4294967295 := by
  cases found with
  | false => have := hL.none rfl; omega
  | true =>
    obtain ⟨p, hp, _, e⟩ := hL.one rfl
    have := h p hp
    omega
set_option maxRecDepth 100000 in
set_option maxHeartbeats 8000000 in
theorem revokeDown_walk (l : List A3) (hok : OkA l) (v : Value) (b s t : Int) (hs : 0 ≤ s ∧ s ≤ 4294967295) (ht : 0 ≤ t ∧ t ≤ 4294967295) (w : World) (h : Acts w v l) :
    Calls Try.prog 7 #[v, .int .i64 b, .int .u32 s, .int .u32 t] w fun e w' => e = .returned (.bool true) ∧ Below w.heap.size w w' := by
  have hokH := Lib.hid hok
  obtain ⟨ao, cap, rfl, hlc, hcm, hcell⟩ := h.ex
  have hcH := Lib.hid hcell
  clear h hok hcell
  by_cases hl : l.length ≤ 200
  · have d0 : decide ((200 : Int) < (l.length : Int)) = false := by simp; omega
    go_enter Try.func7, Try.ntmps7
    go_wp2_with (go_at_call 14; refine (new_tab _).mono ?_; rintro e w1 ⟨g, bm, rfl, hT, hg, hbm, hB⟩; have T : Hid (Own w g bm [] w1) := ⟨hT, hB, hbm⟩; clear hT hB)
    go_loopw [10] (fun v10 W => ∃ i m, v10 = .int .i64 (i : Nat) ∧ i ≤ l.length ∧ Own w g bm m W ∧ PosM m) (fun v10 _ => (l.length - intOf v10).toNat)
    case atStart => exact ⟨0, [], rfl, by omega, T.out, by simp [PosM]⟩
    case round =>
      obtain ⟨i, m, rfl, hi, hO, hP⟩ := hrel
      have HO := Lib.hid hO
      have HP := Lib.hid hP
      clear hO hP
      by_cases hin : i < l.length
      · obtain ⟨A, off, rfl, hc⟩ := hcH.out (by omega)
        obtain ⟨⟨kd, ab, sq⟩, hr⟩ : ∃ r, l[i]? = some r := ⟨_, List.getElem?_eq_getElem hin⟩
        obtain ⟨a0, a1, a2⟩ := hc i _ hr
        have hrg := hokH.out _ (List.mem_of_getElem? hr)
        obtain ⟨⟨hk0, hk1⟩, hs0, hs1⟩ := hrg
        simp only at hk0 hk1 hs0 hs1
        have hA : A < w.heap.size := World.block_lt_of_cell? w _ a0
        have keep : Hid (∀ W, Below w.heap.size w W → W.cell? ⟨A, off + i * 3, none⟩ = some (.int .u8 kd) ∧ W.cell? ⟨A, off + i * 3 + 1, none⟩ = some (.int .i64 ab) ∧ W.cell? ⟨A, off + i * 3 + 2, none⟩ = some (.int .u32 sq)) := fun W hb =>
          ⟨(World.cell?_of_block (hb.block A hA)).trans a0, (World.cell?_of_block (hb.block A hA)).trans a1, (World.cell?_of_block (hb.block A hA)).trans a2⟩
        clear a0 a1 a2 hc hr
        obtain ⟨a0, a1, a2⟩ := keep.out _ HO.out.bel
        have q1 : ∀ q : Later wr, q.x.cell? ⟨A, off + i * 3 + 1, none⟩ = some (.int .i64 ab) := fun q => (keep.out _ (HO.out.bel.trans (q.h.mono HO.out.bel.size))).2.1
        have q2 : ∀ q : Later wr, q.x.cell? ⟨A, off + i * 3 + 2, none⟩ = some (.int .u32 sq) := fun q => (keep.out _ (HO.out.bel.trans (q.h.mono HO.out.bel.size))).2.2
        have hkind : kd.tmod 4 = 0 ∨ kd.tmod 4 = 1 ∨ kd.tmod 4 = 2 ∨ kd.tmod 4 = 3 := by
          rw [Int.tmod_eq_emod_of_nonneg hk0]; omega
        rcases hkind with hkd | hkd | hkd | hkd
        all_goals
          go_wp2_with (go_at_call 22; refine (drop_tab g bm m sq _ HO.out.tab).mono ?_; rintro e W8 ⟨rfl, hT8, hg8⟩; have H8 : Hid (∃ m', Own w g bm m' W8 ∧ PosM m') := ⟨_, HO.out.turn hT8 hg8, HP.out.drop _⟩; clear hT8 hg8)
          try
            refine wp_region_head 11 (by kernel_rfl) (by kernel_rfl) ?_
            simp only [List.take_succ_cons, List.take_zero, List.drop_succ_cons, List.drop_zero]
            repeat (first | go_big_quiet_step (fail) | quiet_step (fail))
            refine wpQuiet_nil ?_
            rintro ⟨W7, hW7⟩
            dsimp only
            have O7 := Lib.hid (HO.out.later hW7)
            clear hW7
            go_wp2_with (first
              | (go_at_call 20; refine (add_tab g bm m ab sq _ O7.out.tab).mono ?_; rintro e W8 ⟨rfl, hT8, hg8⟩; have H8 : Hid (∃ m', Own w g bm m' W8 ∧ PosM m') := ⟨_, O7.out.turn hT8 hg8, HP.out.upd ab hs0 hs1⟩; clear hT8 hg8)
              | (go_at_call 21; refine (cancel_tab g bm m ab sq _ O7.out.tab).mono ?_; rintro e W8 ⟨rfl, hT8, hg8⟩; have H8 : Hid (∃ m', Own w g bm m' W8 ∧ PosM m') := ⟨_, O7.out.turn hT8 hg8, HP.out.del ab sq⟩; clear hT8 hg8))
          obtain ⟨m', O', P'⟩ := H8.out
          exact ⟨⟨i + 1, m', rfl, by omega, O', P'⟩, by simp [intOf]; omega⟩
      · have O := HO
        obtain ⟨hs0, hs1⟩ := hs
        obtain ⟨ht0, ht1⟩ := ht
        by_cases hst : s < t
        · have hlo : revSet (keys m) b t = true → revSet (keys m) b s = true := fun e => revSet_mono (by omega) e
          cases hwas : revSet (keys m) b t
          all_goals
            first | have hlo2 := hlo hwas | skip
            clear hlo
            go_wp2_with (first
              | (go_at_call 11; refine (rev_u g bm m _ _ HP.out.keys _ O.out.tab).mono ?_; rintro e w4 ⟨rfl, hw⟩; replace O := Lib.hid (O.out.later hw); clear hw))
            refine (last_tab g bm m b HP.out.keys _ O.out.tab).mono ?_
            rintro e w5 ⟨best, found, rfl, hL, hw⟩
            replace O := Lib.hid (O.out.later hw)
            obtain ⟨hb0, hb1⟩ := last_range HP.out hL
            have hrev : Hid (∀ x, revSet (keys m) b x = (found && decide (x ≤ best))) := fun x => (rev_eq hL).symm
            clear hw hL
            have hdrop : revSet (keys (dropped m (t - 1))) b t = revSet (keys m) b t := revSet_drop m b t
            rw [hwas] at hdrop
            have hbest : found = true → revSet (keys m) b best = true := fun e => by rw [hrev.out, e]; simp
            have hnext : revSet (keys m) b (best + 1) = false := by rw [hrev.out]; simp; omega
            have hzero : found = false → revSet (keys m) b 0 = false := fun e => by rw [hrev.out, e]; rfl
            have hcase : (found = true ∧ best < 4294967295) ∨ (found = true ∧ ¬ best < 4294967295) ∨ found = false := by
              cases found <;> simp <;> omega
            by_cases hpos : 0 < t
            all_goals
              rcases hcase with ⟨hf, hbm2⟩ | ⟨hf, hbm2⟩ | hf
              all_goals
                subst hf
                first | have hbest2 := hbest rfl | skip
                first | have hzero2 := hzero rfl | skip
                clear hbest hzero
                go_wp2_with (first
                  | (go_at_call 11; refine (rev_u g bm m _ _ HP.out.keys _ O.out.tab).mono ?_; rintro e w6 ⟨rfl, hw⟩; replace O := Lib.hid (O.out.later hw); clear hw)
                  | (go_at_call 22; refine (drop_tab g bm m (t - 1) _ O.out.tab).mono ?_; rintro e w7 ⟨rfl, hT8, hg8⟩; replace O := Lib.hid (O.out.turn hT8 hg8); clear hT8 hg8)
                  | (go_at_call 11; refine (rev_u g bm (dropped m (t - 1)) _ _ (HP.out.drop _).keys _ O.out.tab).mono ?_; rintro e w6 ⟨rfl, hw⟩; replace O := Lib.hid (O.out.later hw); clear hw)
                  | (go_at_call 23; refine (awake_any _).mono ?_; rintro e w8 ⟨rfl, hw⟩; have HW := Lib.hid (O.out.later hw); clear hw))
                all_goals (go_ret; exact ⟨rfl, HW.out.bel⟩)
        · have hlo : revSet (keys m) b s = true → revSet (keys m) b t = true := fun e => revSet_mono (by omega) e
          cases hwas : revSet (keys m) b s
          all_goals
            first | have hlo2 := hlo hwas | skip
            clear hlo
            go_wp2_with (first
              | (go_at_call 11; refine (rev_u g bm m _ _ HP.out.keys _ O.out.tab).mono ?_; rintro e w4 ⟨rfl, hw⟩; replace O := Lib.hid (O.out.later hw); clear hw))
            refine (last_tab g bm m b HP.out.keys _ O.out.tab).mono ?_
            rintro e w5 ⟨best, found, rfl, hL, hw⟩
            replace O := Lib.hid (O.out.later hw)
            obtain ⟨hb0, hb1⟩ := last_range HP.out hL
            have hrev : Hid (∀ x, revSet (keys m) b x = (found && decide (x ≤ best))) := fun x => (rev_eq hL).symm
            clear hw hL
            have hdrop : revSet (keys (dropped m (s - 1))) b s = revSet (keys m) b s := revSet_drop m b s
            rw [hwas] at hdrop
            have hbest : found = true → revSet (keys m) b best = true := fun e => by rw [hrev.out, e]; simp
            have hnext : revSet (keys m) b (best + 1) = false := by rw [hrev.out]; simp; omega
            have hzero : found = false → revSet (keys m) b 0 = false := fun e => by rw [hrev.out, e]; rfl
            have hcase : (found = true ∧ best < 4294967295) ∨ (found = true ∧ ¬ best < 4294967295) ∨ found = false := by
              cases found <;> simp <;> omega
            by_cases hpos : 0 < s
            all_goals
              rcases hcase with ⟨hf, hbm2⟩ | ⟨hf, hbm2⟩ | hf
              all_goals
                subst hf
                first | have hbest2 := hbest rfl | skip
                first | have hzero2 := hzero rfl | skip
                clear hbest hzero
                go_wp2_with (first
                  | (go_at_call 11; refine (rev_u g bm m _ _ HP.out.keys _ O.out.tab).mono ?_; rintro e w6 ⟨rfl, hw⟩; replace O := Lib.hid (O.out.later hw); clear hw)
                  | (go_at_call 22; refine (drop_tab g bm m (s - 1) _ O.out.tab).mono ?_; rintro e w7 ⟨rfl, hT8, hg8⟩; replace O := Lib.hid (O.out.turn hT8 hg8); clear hT8 hg8)
                  | (go_at_call 11; refine (rev_u g bm (dropped m (s - 1)) _ _ (HP.out.drop _).keys _ O.out.tab).mono ?_; rintro e w6 ⟨rfl, hw⟩; replace O := Lib.hid (O.out.later hw); clear hw)
                  | (go_at_call 23; refine (awake_any _).mono ?_; rintro e w8 ⟨rfl, hw⟩; have HW := Lib.hid (O.out.later hw); clear hw))
                all_goals (go_ret; exact ⟨rfl, HW.out.bel⟩)
  · have d0 : decide ((200 : Int) < (l.length : Int)) = true := by simp; omega
    go_enter Try.func7, Try.ntmps7
    go_wp2_with (go_at_call 23; refine (awake_any _).mono ?_; rintro e w2 ⟨rfl, hw⟩; have HW := Lib.hid hw; clear hw)
    go_ret
    exact ⟨rfl, HW.out⟩
end Go.Proofs.Ytlnfjcbhicdceaa
