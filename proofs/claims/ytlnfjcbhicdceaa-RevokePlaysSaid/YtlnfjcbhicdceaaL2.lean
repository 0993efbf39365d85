/- quernlaw13.RevokeLast returns true. The argument is a slice of records whose numbers are in range. -/
import Derived.Test.YtlnfjcbhicdceaaL1
namespace Go.Proofs.Ytlnfjcbhicdceaa
open Go.RowKit
theorem LastIs.unique {m : M} {b x y : Int} {f f' : Bool} (h : LastIs m b x f) (k : LastIs m b y f') : x = y ∧ f = f' := by
  have hf : f = f' := by
    cases f with
    | true =>
      obtain ⟨p, hp, hb, _⟩ := h.one rfl
      exact (k.all p hp (by simp) hb).1.symm
    | false =>
      cases f' with
      | false => rfl
      | true =>
        obtain ⟨p, hp, hb, _⟩ := k.one rfl
        have := (h.all p hp (by simp) hb).1
        cases this
  subst hf
  refine ⟨?_, rfl⟩
  cases f with
  | true =>
    obtain ⟨p, hp, hb, e⟩ := h.one rfl
    obtain ⟨q, hq, hb', e'⟩ := k.one rfl
    have h1 := (k.all p hp (by simp) hb).2
    have h2 := (h.all q hq (by simp) hb').2
    omega
  | false => rw [h.none rfl, k.none rfl]
/-- The same of a list of keys. -/
structure RefLast (ml : List K) (b best : Int) (found : Bool) : Prop where
  all : ∀ x ∈ ml, x.1 = b → found = true ∧ x.2 ≤ best
  one : found = true → ∃ x ∈ ml, x.1 = b ∧ x.2 = best
  none : found = false → best = 0
theorem RefLast.toTab {m : M} {ml : List K} {b best : Int} {found : Bool} (hp : (keys m).Perm ml) (h : RefLast ml b best found) : LastIs m b best found := by
  refine ⟨fun p h1 _ h3 => h.all p.1 (hp.mem_iff.1 (List.mem_map_of_mem h1)) h3, fun e => ?_, h.none⟩
  obtain ⟨x, hx, h1, h2⟩ := h.one e
  obtain ⟨p, hp', rfl⟩ := List.mem_map.1 (hp.mem_iff.2 hx)
  exact ⟨p, hp', h1, h2⟩
theorem RefLast.nil (b : Int) : RefLast [] b 0 false := ⟨fun x h => (by cases h), fun h => (by cases h), fun _ => rfl⟩
theorem RefLast.skip {ml : List K} {b best : Int} {found : Bool} {x : K} (h : RefLast ml b best found) (hx : x.1 = b → found = true ∧ x.2 ≤ best) : RefLast (ml ++ [x]) b best found := by
  refine ⟨fun y hy hb => ?_, fun e => ?_, h.none⟩
  · rcases List.mem_append.1 hy with h1 | h1
    · exact h.all y h1 hb
    · simp at h1; subst h1; exact hx hb
  · obtain ⟨y, hy, h1, h2⟩ := h.one e
    exact ⟨y, by simp [hy], h1, h2⟩
theorem RefLast.take {ml : List K} {b best : Int} {found : Bool} {x : K} (h : RefLast ml b best found) (hb : x.1 = b) (hgt : found = true → best < x.2) : RefLast (ml ++ [x]) b x.2 true := by
  refine ⟨fun y hy hb' => ⟨rfl, ?_⟩, fun _ => ⟨x, by simp, hb, rfl⟩, fun e => by cases e⟩
  rcases List.mem_append.1 hy with h1 | h1
  · obtain ⟨h2, h3⟩ := h.all y h1 hb'
    have := hgt h2
    omega
  · simp at h1; subst h1; omega
theorem last_c (g bm : Nat) (m : M) (b best : Int) (found : Bool) (hs : ∀ p ∈ m, 0 ≤ p.1.1 ∧ 0 ≤ p.1.2) (w : World) (h : Tab w g bm m) (hL : LastIs m b best found) :
    Calls Try.prog 10 #[.pointer (some ⟨g, 0, none⟩), .int .i64 b] w fun e w' => e = .returned (.tuple #[.int .u32 best, .bool found]) ∧ Below w.heap.size w w' :=
  (last_tab g bm m b hs w h).mono fun e w' ⟨x, f, he, h1, hb⟩ => by
    obtain ⟨rfl, rfl⟩ := hL.unique h1
    exact ⟨he, hb⟩
theorem rev_c (g bm : Nat) (m : M) (b s best : Int) (found : Bool) (hs : ∀ p ∈ m, 0 ≤ p.1.1 ∧ 0 ≤ p.1.2) (w : World) (h : Tab w g bm m) (hL : LastIs m b best found) :
    Calls Try.prog 11 #[.pointer (some ⟨g, 0, none⟩), .int .i64 b, .int .u32 s] w fun e w' => e = .returned (.bool (found && decide (s ≤ best))) ∧ Below w.heap.size w w' :=
  (rev_tab g bm m b s hs w h).mono fun e w' ⟨x, f, he, h1, hb⟩ => by
    obtain ⟨rfl, rfl⟩ := hL.unique h1
    exact ⟨he, hb⟩
theorem keys_pos {m : M} {ml : List K} (hp : (keys m).Perm ml) (h : Pos ml) : ∀ p ∈ m, 0 ≤ p.1.1 ∧ 0 ≤ p.1.2 := fun p hp' => h p.1 (hp.mem_iff.1 (List.mem_map_of_mem hp'))
/-- The table and the list, when all records are laid. -/
structure LD (l : List R3) (w : World) (g bm B : Nat) (v : Value) (m : M) (W : World) : Prop where
  tab : Tab W g bm m
  perm : (keys m).Perm (refRun l)
  own : W.ownsRow B 28 3 v (refRun l).length (flat3 (refRun l))
  bel : Below w.heap.size w W
  hg : w.heap.size ≤ g ∧ g < B
  hm : w.heap.size ≤ bm ∧ bm < B
  hB : B ≤ W.heap.size
theorem LD.later {l : List R3} {w : World} {g bm B : Nat} {v : Value} {m : M} {W W' : World} (h : LD l w g bm B v m W) (hb : Below W.heap.size W W') : LD l w g bm B v m W' :=
  ⟨h.tab.later hb h.tab.lt.1 h.tab.lt.2, h.perm, own_later h.own hb, h.bel.trans (hb.mono h.bel.size), h.hg, h.hm, Nat.le_trans h.hB hb.size⟩
theorem LD.len {l : List R3} {w : World} {g bm B : Nat} {v : Value} {m : M} {W : World} (h : LD l w g bm B v m W) : m.length = (refRun l).length := by
  rw [← h.perm.length_eq]; simp [keys]
theorem LI3.all {l : List R3} {w : World} {g bm B : Nat} {v : Value} {m : M} {W : World} (h : LI3 l w g bm B v l.length m W) : LD l w g bm B v m W := by
  obtain ⟨h1, h2, h3, h4, h5, h6, h7⟩ := h
  rw [List.take_length] at h2 h3
  exact ⟨h1, h2, h3, h4, h5, h6, h7⟩
theorem laid_c (l : List R3) (hl : l.length ≤ 200) (hok : OkR l) (v : Value) (w : World) (h : Recs w v l) :
    Calls Try.prog 9 #[v] w fun e w' => ∃ g bm B v m, e = .returned (.tuple #[.pointer (some ⟨g, 0, none⟩), v]) ∧ LD l w g bm B v m w' :=
  (laid_any l hl hok v w h).mono fun _ _ ⟨g, bm, B, v, m, he, hI⟩ => ⟨g, bm, B, v, m, he, hI.all⟩
theorem run_len (l : List R3) : (refRun l).length ≤ l.length := by
  have := refRun_len l l.length
  rwa [List.take_length] at this
theorem run_pos {l : List R3} (h : OkR l) : Pos (refRun l) := by
  have := refRun_pos h l.length
  rwa [List.take_length] at this
set_option maxRecDepth 100000 in
theorem revokeLast_walk (l : List R3) (hok : OkR l) (v : Value) (b s : Int) (w : World) (h : Recs w v l) :
    Calls Try.prog 3 #[v, .int .i64 b, .int .u32 s] w fun e w' => e = .returned (.bool true) ∧ Below w.heap.size w w' := by
  have HR := Lib.hid h
  have hokH := Lib.hid hok
  obtain ⟨ao, cap, hv, _⟩ := h.ex
  clear h hok
  by_cases hl : l.length ≤ 200
  · go_enter Try.func3, Try.ntmps3
    subst hv
    have d0 : decide ((200 : Int) < (l.length : Int)) = false := by simp; omega
    go_wp2_with (go_at_call 9; refine (laid_c l hl hokH.out _ _ HR.out).mono ?_; rintro e w1 ⟨g, bm, B, v, m, rfl, hI⟩; have I := Lib.hid hI; clear hI)
    obtain ⟨ao2, cap2, rfl⟩ := own_shape I.out.own
    have hrl := run_len l
    go_loopw [9, 10, 11] (fun v9 v10 v11 W => W = w1 ∧ ∃ i last ok, v9 = .int .u32 last ∧ v10 = .bool ok ∧ v11 = .int .i64 (i : Nat) ∧ i ≤ (refRun l).length ∧ RefLast ((refRun l).take i) b last ok) (fun _ _ v11 _ => ((refRun l).length - intOf v11).toNat)
    case atStart => exact ⟨rfl, 0, 0, false, rfl, rfl, rfl, by omega, RefLast.nil b⟩
    case round =>
      obtain ⟨rfl, i, last, ok, rfl, rfl, rfl, hi, hL⟩ := hrel
      have HL := Lib.hid hL
      clear hL
      by_cases hin : i < (refRun l).length
      · obtain ⟨gv, rfl, hc1, hc2, hgv, hcs⟩ := own_cells I.out.own (by omega)
        obtain ⟨⟨yb, ys⟩, hy⟩ : ∃ y, (refRun l)[i]? = some y := ⟨_, List.getElem?_eq_getElem hin⟩
        obtain ⟨c0, c1, c2⟩ := hcs i _ hy
        have htk : Hid ((refRun l).take (i + 1) = (refRun l).take i ++ [(yb, ys)]) := by
          unfold Hid
          rw [List.take_add_one, hy]; rfl
        clear hcs hy
        by_cases hyb : yb = b
        · cases ok with
          | false =>
            go_wp2_with fail
            refine ⟨⟨trivial, i + 1, ys, true, rfl, rfl, rfl, by omega, ?_⟩, by simp [intOf]; omega⟩
            rw [htk.out]
            exact HL.out.take hyb (fun e => by cases e)
          | true =>
            by_cases hgt : last < ys
            · go_wp2_with fail
              refine ⟨⟨trivial, i + 1, ys, true, rfl, rfl, rfl, by omega, ?_⟩, by simp [intOf]; omega⟩
              rw [htk.out]
              exact HL.out.take hyb (fun _ => hgt)
            · go_wp2_with fail
              refine ⟨⟨trivial, i + 1, last, true, rfl, rfl, rfl, by omega, ?_⟩, by simp [intOf]; omega⟩
              rw [htk.out]
              exact HL.out.skip (fun _ => ⟨rfl, by simp; omega⟩)
        · go_wp2_with fail
          refine ⟨⟨trivial, i + 1, last, ok, rfl, rfl, rfl, by omega, ?_⟩, by simp [intOf]; omega⟩
          rw [htk.out]
          exact HL.out.skip (fun e => absurd e hyb)
      · obtain rfl : i = (refRun l).length := by omega
        have HT : Hid (LastIs m b last ok) := by
          have := HL.out
          rw [List.take_length] at this
          exact this.toTab I.out.perm
        have hpos := Lib.hid (keys_pos I.out.perm (run_pos hokH.out))
        have hlen := I.out.len
        cases ok
        all_goals
          go_wp2_with (first
            | (go_at_call 10; refine (last_c g bm m b _ _ hpos.out _ I.out.tab HT.out).mono ?_; rintro e w2 ⟨rfl, hw2⟩; have I2 := Lib.hid (I.out.later hw2); clear hw2)
            | (go_at_call 11; refine (rev_c g bm m b s _ _ hpos.out _ I2.out.tab HT.out).mono ?_; rintro e w3 ⟨rfl, hw3⟩; have I3 := Lib.hid (I2.out.later hw3); clear hw3)
            | (go_at_call 12; refine (len_tab g bm m _ I3.out.tab).mono ?_; rintro e w4 ⟨rfl, rfl⟩))
          go_ret
          exact ⟨rfl, I3.out.bel⟩
  · go_enter Try.func3, Try.ntmps3
    subst hv
    have d0 : decide ((200 : Int) < (l.length : Int)) = true := by simp; omega
    go_wp2_with fail
    go_ret
    exact ⟨rfl, Below.refl _ _⟩
end Go.Proofs.Ytlnfjcbhicdceaa
