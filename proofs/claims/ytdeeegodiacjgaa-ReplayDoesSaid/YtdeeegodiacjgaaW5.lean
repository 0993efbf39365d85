/- How many transactions are told in short: is there more than is gone through? No condition but that on sizes. -/
import Derived.Test.YtdeeegodiacjgaaW4
import Derived.IntWalk
namespace Go.Proofs.Ytdeeegodiacjgaa
open Go.RowKit
/-- A transaction told in short, as it is handed in. -/
abbrev Lt := Int × List Rw × List Int × Int
abbrev Lv := Int × Value × Value × Int
def lc (x : Lv) : List Value := [.int .i64 x.1, x.2.1, x.2.2.1, .int .i64 x.2.2.2]
theorem lc_len (x : Lv) : (lc x).length = 4 := rfl
structure Lts (W : World) (v : Value) (l : List Lt) : Prop where
  ex : ∃ vs : List Lv, vs.length = l.length ∧ Sl W v vs.length (flat lc vs) ∧ ∀ (i : Nat) (x : Lv) (t : Lt), vs[i]? = some x → l[i]? = some t → Rws W x.2.1 t.2.1 ∧ Ints W x.2.2.1 t.2.2.1
theorem Lts.later {W W' : World} {v : Value} {l : List Lt} (h : Lts W v l) (hb : Below W.heap.size W W') : Lts W' v l := by
  obtain ⟨vs, h1, h2, h3⟩ := h.ex
  exact ⟨vs, h1, h2.later hb, fun i x t hx ht => ⟨Sl.later (h3 i x t hx ht).1 hb, Sl.later (h3 i x t hx ht).2 hb⟩⟩
theorem Lts.shape {W : World} {v : Value} {l : List Lt} (h : Lts W v l) : ∃ ao cap, v = .slice ao l.length cap ∧ l.length ≤ cap ∧ cap ≤ maxLen := by
  obtain ⟨vs, h1, h2, _⟩ := h.ex
  obtain ⟨ao, cap, e, h3, h4, _⟩ := h2.ex
  rw [h1] at e h3
  exact ⟨ao, cap, e, h3, h4⟩
theorem Lts.at {W : World} {ao : Option Addr} {cap : Nat} {l : List Lt} (h : Lts W (.slice ao l.length cap) l) {i : Nat} {t : Lt} (ht : l[i]? = some t) :
    ∃ (g off : Nat) (rv kv : Value), ao = some ⟨g, off, none⟩ ∧ l.length ≤ cap ∧ cap ≤ maxLen ∧ g < W.heap.size ∧ W.cell? ⟨g, off + i * 4 + 1, none⟩ = some rv ∧ W.cell? ⟨g, off + i * 4 + 2, none⟩ = some kv ∧ Rws W rv t.2.1 ∧ Ints W kv t.2.2.1 := by
  obtain ⟨vs, h1, h2, h3⟩ := h.ex
  rw [← h1] at h2
  have hi : i < vs.length := by rw [h1]; exact (List.getElem?_eq_some_iff.1 ht).1
  obtain ⟨g, off, e, h4, h5, h6, hat⟩ := Sl.at h2 lc_len (by omega) hi
  obtain ⟨x, hx⟩ : ∃ x, vs[i]? = some x := ⟨_, List.getElem?_eq_getElem hi⟩
  have hr := hat i x hx
  have hT := h3 i x t hx ht
  rw [← h1]
  exact ⟨g, off, x.2.1, x.2.2.1, e, h4, h5, h6, hr 1 _ rfl, hr 2 _ rfl, hT.1, hT.2⟩
def sz (t : Lt) : Nat := t.2.1.length + t.2.2.1.length
def szs (l : List Lt) : Nat := (l.map sz).sum
theorem szs_snoc (l : List Lt) (t : Lt) : szs (l ++ [t]) = szs l + sz t := by simp [szs]
theorem szs_take {l : List Lt} {k : Nat} {t : Lt} (h : l[k]? = some t) : szs (l.take (k + 1)) = szs (l.take k) + sz t := by
  rw [List.take_add_one, h]; exact szs_snoc _ _
theorem szs_take_le (l : List Lt) (k : Nat) : szs (l.take k) ≤ szs l := by
  have h : szs l = szs (l.take k) + szs (l.drop k) := by
    conv => lhs; rw [← List.take_append_drop k l]
    unfold szs
    rw [List.map_append, List.sum_append]
  omega
def tooMany (l : List Lt) (most : Nat) : Bool := decide (60 < l.length ∨ most < szs l)
set_option maxRecDepth 100000 in
theorem many_any (l : List Lt) (most : Nat) (hm : most ≤ 100000) (v : Value) (w : World) (h : Lts w v l) :
    Calls Try.prog 32 #[v, .int .i64 (most : Int)] w fun e w' => e = .returned (.bool (tooMany l most)) ∧ Below w.heap.size w w' := by
  have H := Lib.hid h
  obtain ⟨ao, cap, rfl, h1, h2⟩ := h.shape
  clear h
  unfold maxLen at h2
  by_cases hl : l.length ≤ 60
  · have d0 : decide ((60 : Int) < (l.length : Int)) = false := by simp; omega
    go_enter Try.func32, Try.ntmps32
    go_wp2_with fail
    go_loopw [5, 6] (fun v5 v6 W => Below w.heap.size w W ∧ ∃ i left : Nat, v6 = .int .i64 (i : Nat) ∧ v5 = .int .i64 (left : Int) ∧ i ≤ l.length ∧ left + szs (l.take i) = most) (fun _ v6 _ => (l.length - intOf v6).toNat)
    case atStart => exact ⟨Below.refl _ _, 0, most, rfl, rfl, by omega, by simp [szs]⟩
    case round =>
      obtain ⟨hb, i, left, rfl, rfl, hi, hs⟩ := hrel
      have HB := Lib.hid hb
      have A2 := Lib.hid (H.out.later hb)
      have hS := Lib.hid hs
      have hleft : left ≤ 100000 := by omega
      clear hb hs
      by_cases hin : i < l.length
      · obtain ⟨t, ht⟩ : ∃ t, l[i]? = some t := ⟨_, List.getElem?_eq_getElem hin⟩
        obtain ⟨g, off, rv, kv, rfl, _, _, hg, c1, c2, p1, p2⟩ := A2.out.at ht
        obtain ⟨ar, cr, rfl, r1, r2, _⟩ := p1.ex
        obtain ⟨ak, ck, rfl, k1, k2, _⟩ := p2.ex
        unfold maxLen at r2 k2
        have htk := Lib.hid (szs_take ht)
        have hall := Lib.hid (szs_take_le l (i + 1))
        have q1 : ∀ q : Later wr, q.x.cell? ⟨g, off + i * 4 + 1, none⟩ = some (.slice ar t.2.1.length cr) := fun q => (World.cell?_of_block (q.h.block _ hg)).trans c1
        have q2 : ∀ q : Later wr, q.x.cell? ⟨g, off + i * 4 + 2, none⟩ = some (.slice ak t.2.2.1.length ck) := fun q => (World.cell?_of_block (q.h.block _ hg)).trans c2
        have hsz : Hid (sz t = t.2.1.length + t.2.2.1.length) := rfl
        clear ht c1 c2 p1 p2
        generalize t.2.1.length = rn at *
        generalize t.2.2.1.length = kn at *
        by_cases hA : left < rn
        · have e1 : decide ((left : Int) < (rn : Int)) = true := by simp; omega
          have hfin : Hid (tooMany l most = true) := by
            unfold Hid tooMany
            have := hall.out
            have := htk.out
            have := hsz.out
            have := hS.out
            simp; omega
          go_wp2_with fail
          refine wp_region_later (by kernel_rfl) (by kernel_rfl) ?_
          repeat (first | go_big_quiet_step (fail) | quiet_step (fail))
          refine wpQuiet_nil ?_
          rintro ⟨W9, hW9⟩
          dsimp only
          have H9 := Lib.hid hW9
          clear hW9 q1 q2
          go_wp2_with fail
          go_ret
          exact ⟨by rw [hfin.out]; rfl, HB.out.trans (H9.out.mono HB.out.size)⟩
        · have e1 : decide ((left : Int) < (rn : Int)) = false := by simp; omega
          have w1 : IntKind.i64.wrap ((left : Int) - (rn : Int)) = (left : Int) - (rn : Int) := IntWalk.i64_in _ (by omega)
          by_cases hB : left - rn < kn
          · have e2 : decide ((left : Int) - (rn : Int) < (kn : Int)) = true := by simp; omega
            have hfin : Hid (tooMany l most = true) := by
              unfold Hid tooMany
              have := hall.out
              have := htk.out
              have := hsz.out
              have := hS.out
              simp; omega
            go_wp2_with fail
            refine wp_region_later (by kernel_rfl) (by kernel_rfl) ?_
            repeat (first | go_big_quiet_step (fail) | quiet_step (fail))
            refine wpQuiet_nil ?_
            rintro ⟨W9, hW9⟩
            dsimp only
            have H9 := Lib.hid hW9
            clear hW9 q1 q2 w1
            go_wp2_with fail
            go_ret
            exact ⟨by rw [hfin.out]; rfl, HB.out.trans (H9.out.mono HB.out.size)⟩
          · have e2 : decide ((left : Int) - (rn : Int) < (kn : Int)) = false := by simp; omega
            have w2 : IntKind.i64.wrap ((left : Int) - (rn : Int) - (kn : Int)) = (left : Int) - (rn : Int) - (kn : Int) := IntWalk.i64_in _ (by omega)
            go_wp2_with fail
            refine wp_region_later (by kernel_rfl) (by kernel_rfl) ?_
            repeat (first | go_big_quiet_step (fail) | quiet_step (fail))
            refine wpQuiet_nil ?_
            rintro ⟨W9, hW9⟩
            dsimp only
            have H9 := Lib.hid hW9
            have q3 : ∀ q : Later W9, q.x.cell? ⟨g, off + i * 4 + 1, none⟩ = some (.slice ar rn cr) := fun q => q1 ⟨q.x, hW9.trans (q.h.mono hW9.size)⟩
            have q4 : ∀ q : Later W9, q.x.cell? ⟨g, off + i * 4 + 2, none⟩ = some (.slice ak kn ck) := fun q => q2 ⟨q.x, hW9.trans (q.h.mono hW9.size)⟩
            clear hW9 q1 q2
            go_wp2_with fail
            refine wp_region_later (by kernel_rfl) (by kernel_rfl) ?_
            repeat (first | go_big_quiet_step (fail) | quiet_step (fail))
            refine wpQuiet_nil ?_
            rintro ⟨W10, hW10⟩
            dsimp only
            have H10 := Lib.hid (H9.out.trans (hW10.mono H9.out.size))
            clear hW10 q3 q4 w1 w2
            go_wp2_with fail
            refine ⟨⟨HB.out.trans (H10.out.mono HB.out.size), i + 1, left - rn - kn, rfl, ?_, by omega, ?_⟩, by simp [intOf]; omega⟩
            · congr 1; omega
            · have := htk.out
              have := hsz.out
              have := hS.out
              omega
      · obtain rfl : i = l.length := by omega
        have hfin : Hid (tooMany l most = false) := by
          unfold Hid tooMany
          have := hS.out
          rw [List.take_length] at this
          simp; omega
        go_wp2_with fail
        go_ret
        exact ⟨by rw [hfin.out]; rfl, HB.out⟩
  · have d0 : decide ((60 : Int) < (l.length : Int)) = true := by simp; omega
    have hfin : Hid (tooMany l most = true) := by unfold Hid tooMany; simp; omega
    go_enter Try.func32, Try.ntmps32
    go_wp2_with fail
    go_ret
    exact ⟨by rw [hfin.out]; rfl, Below.refl _ _⟩
theorem many19 (l : List Lt) (v : Value) (w : World) (h : Lts w v l) :
    Calls Try.prog 10 #[v] w fun e w' => e = .returned (.bool (tooMany l 1000)) ∧ Below w.heap.size w w' := by
  have H := Lib.hid h
  obtain ⟨ao, cap, rfl, h1, h2⟩ := h.shape
  clear h
  go_enter Try.func10, Try.ntmps10
  go_wp2_with (go_at_call 32; refine (many_any l 1000 (by omega) _ _ H.out).mono ?_; rintro e w1 ⟨rfl, hw⟩; have HW := Lib.hid hw; clear hw)
  go_ret
  exact ⟨rfl, HW.out⟩
end Go.Proofs.Ytdeeegodiacjgaa
