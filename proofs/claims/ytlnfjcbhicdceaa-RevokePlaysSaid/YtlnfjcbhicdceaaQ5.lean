/- The document's table: Last, Revoked. The table holds at most 400 records, whose numbers are not negative. -/
import Derived.Test.YtlnfjcbhicdceaaQ3
namespace Go.Proofs.Ytlnfjcbhicdceaa
open Go.RowKit
/-- What Last tells of a list of records. -/
structure LastK (ml : List K) (b best : Int) (found : Bool) : Prop where
  rev : ∀ s, (found && decide (s ≤ best)) = revSet ml b s
  none : found = false → best = 0
theorem LastK.start (b : Int) : LastK [] b 0 false := ⟨fun s => by simp [revSet], fun _ => rfl⟩
theorem LastK.skip {ml : List K} {b best : Int} {found : Bool} {x : K} (h : LastK ml b best found) (hx : ¬ x.1 = b) : LastK (ml ++ [x]) b best found :=
  ⟨fun s => by rw [revSet_snoc, ← h.rev]; simp [hx], h.none⟩
theorem LastK.up {ml : List K} {b best : Int} {found : Bool} {x : K} (h : LastK ml b best found) (hx : x.1 = b) (h2 : best < x.2) : LastK (ml ++ [x]) b x.2 true :=
  ⟨fun s => by
    rw [revSet_snoc, ← h.rev, Bool.eq_iff_iff]
    simp [hx]
    intro _ h3
    omega, fun e => by cases e⟩
theorem LastK.keep {ml : List K} {b best : Int} {found : Bool} {x : K} (h : LastK ml b best found) (hx : x.1 = b) (h0 : 0 ≤ x.2) (h2 : x.2 ≤ best) : LastK (ml ++ [x]) b best true :=
  ⟨fun s => by
    rw [revSet_snoc, ← h.rev, Bool.eq_iff_iff]
    cases found with
    | true => simp [hx]; omega
    | false => have := h.none rfl; simp [hx]; omega, fun e => by cases e⟩
theorem LastK.same {m : M} {ml : List K} {b x y : Int} {f g : Bool} (h1 : LastIs m b x f) (h2 : LastK ml b y g) (hp : (keys m).Perm ml) (hx : 0 ≤ x) (hy : 0 ≤ y) : x = y ∧ f = g := by
  have hr : ∀ s, (f && decide (s ≤ x)) = (g && decide (s ≤ y)) := fun s => by rw [rev_eq h1, h2.rev, revSet_perm hp]
  have hfg : f = g := by have := hr 0; simpa [hx, hy] using this
  subst hfg
  refine ⟨?_, rfl⟩
  cases f with
  | false => rw [h1.none rfl, h2.none rfl]
  | true =>
    have a := hr x
    have c := hr y
    simp at a c
    omega
def RLastPost (ml : List K) (b : Int) (w : World) (e : Ending) (w' : World) : Prop := ∃ best found, e = .returned (.tuple #[.int .u32 best, .bool found]) ∧ LastK ml b best found ∧ 0 ≤ best ∧ w = w'
set_option maxRecDepth 100000 in
theorem rlast_any (r B : Nat) (v : Value) (ml : List K) (hlm : ml.length ≤ 400) (hpos : Pos ml) (b : Int) (w : World) (h : RT w r B v ml) :
    Calls Try.prog 16 #[.pointer (some ⟨r, 0, none⟩), .int .i64 b] w (RLastPost ml b w) := by
  have H := Lib.hid h
  obtain ⟨ao, cap, rfl⟩ := own_shape h.own
  have t0 := h.cell
  have t1 := h.free
  have hposH := Lib.hid hpos
  clear h hpos
  go_enter Try.func16, Try.ntmps16
  go_wp2_with fail
  go_loop [6, 7, 8] (fun v6 v7 v8 => ∃ j best found, v8 = .int .i64 (j : Nat) ∧ v6 = .int .u32 best ∧ v7 = .bool found ∧ j ≤ ml.length ∧ 0 ≤ best ∧ LastK (ml.take j) b best found) (fun _ _ v8 => (ml.length - intOf v8).toNat)
  case atStart => exact ⟨0, 0, false, rfl, rfl, rfl, by omega, by omega, by simpa using LastK.start b⟩
  case round =>
    obtain ⟨j, best, found, rfl, rfl, rfl, hj, hb0, hL⟩ := hrel
    have HL := Lib.hid hL
    clear hL
    by_cases hjn : j < ml.length
    · obtain ⟨gv, rfl, hc1, hc2, _, hgv, hcs⟩ := own_recs2 H.out.own (by omega)
      obtain ⟨⟨yb, ys⟩, hy⟩ : ∃ y, ml[j]? = some y := ⟨_, List.getElem?_eq_getElem hjn⟩
      have hys0 : 0 ≤ ys := (hposH.out _ (List.mem_of_getElem? hy)).2
      have htk : Hid (ml.take (j + 1) = ml.take j ++ [(yb, ys)]) := by
        unfold Hid
        rw [List.take_add_one, hy]; rfl
      obtain ⟨c0, c1⟩ := hcs j _ hy
      clear hcs hy
      by_cases hyb : yb = b
      · subst hyb
        by_cases hd : best < ys
        · go_wp2_with fail
          exact ⟨⟨j + 1, _, _, rfl, rfl, rfl, by omega, hys0, by rw [htk.out]; exact HL.out.up rfl hd⟩, by simp [intOf]; omega⟩
        · go_wp2_with fail
          exact ⟨⟨j + 1, _, _, rfl, rfl, rfl, by omega, hb0, by rw [htk.out]; exact HL.out.keep rfl hys0 (by simp; omega)⟩, by simp [intOf]; omega⟩
      · go_wp2_with fail
        exact ⟨⟨j + 1, _, _, rfl, rfl, rfl, by omega, hb0, by rw [htk.out]; exact HL.out.skip hyb⟩, by simp [intOf]; omega⟩
    · obtain rfl : j = ml.length := by omega
      go_wp2_with fail
      refine bodyPost_ret (results_tmp2 rfl _ _ _) rfl ⟨best, found, rfl, ?_, hb0, rfl⟩
      have := HL.out
      rwa [List.take_length] at this
set_option maxRecDepth 100000 in
theorem rrev_any (r B : Nat) (v : Value) (ml : List K) (hlm : ml.length ≤ 400) (b s : Int) (w : World) (h : RT w r B v ml) :
    Calls Try.prog 17 #[.pointer (some ⟨r, 0, none⟩), .int .i64 b, .int .u32 s] w fun e w' => e = .returned (.bool (revSet ml b s)) ∧ w = w' := by
  have H := Lib.hid h
  obtain ⟨ao, cap, rfl⟩ := own_shape h.own
  have t0 := h.cell
  have t1 := h.free
  clear h
  go_enter Try.func17, Try.ntmps17
  go_wp2_with fail
  go_loop [7] (fun v7 => ∃ j, v7 = .int .i64 (j : Nat) ∧ j ≤ ml.length ∧ revSet (ml.take j) b s = false) (fun v7 => (ml.length - intOf v7).toNat)
  case atStart => exact ⟨0, rfl, by omega, by simp [revSet]⟩
  case round =>
    obtain ⟨j, rfl, hj, hL⟩ := hrel
    have HL := Lib.hid hL
    clear hL
    by_cases hjn : j < ml.length
    · obtain ⟨gv, rfl, hc1, hc2, _, hgv, hcs⟩ := own_recs2 H.out.own (by omega)
      obtain ⟨⟨yb, ys⟩, hy⟩ : ∃ y, ml[j]? = some y := ⟨_, List.getElem?_eq_getElem hjn⟩
      have htk : Hid (revSet (ml.take (j + 1)) b s = (decide (yb = b) && decide (s ≤ ys))) := by
        unfold Hid
        rw [List.take_add_one, hy]
        show revSet (ml.take j ++ [(yb, ys)]) b s = _
        rw [revSet_snoc, HL.out]; simp
      have hall : Hid (yb = b → s ≤ ys → revSet ml b s = true) := fun e1 e2 => by
        unfold revSet
        rw [List.any_eq_true]
        exact ⟨_, List.mem_of_getElem? hy, by simp [e1, e2]⟩
      obtain ⟨c0, c1⟩ := hcs j _ hy
      clear hcs hy
      by_cases hyb : yb = b
      · subst hyb
        by_cases hd : s ≤ ys
        · go_wp2_with fail
          go_ret
          have hr := hall.out (by simp) hd
          simp [hr]
        · go_wp2_with fail
          exact ⟨⟨j + 1, rfl, by omega, by rw [htk.out]; simp; omega⟩, by simp [intOf]; omega⟩
      · go_wp2_with fail
        exact ⟨⟨j + 1, rfl, by omega, by rw [htk.out]; simp [hyb]⟩, by simp [intOf]; omega⟩
    · obtain rfl : j = ml.length := by omega
      have hfin := HL.out
      rw [List.take_length] at hfin
      have HF := Lib.hid hfin
      clear hfin
      go_wp2_with fail
      go_ret
      have hr := HF.out
      simp [hr]
end Go.Proofs.Ytlnfjcbhicdceaa
