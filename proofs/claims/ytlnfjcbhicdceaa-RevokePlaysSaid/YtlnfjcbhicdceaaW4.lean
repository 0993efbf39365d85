/- The table of revoked blocks: Of of the given program. The table holds a map of at most 1000 records. -/
import Derived.Test.YtlnfjcbhicdceaaW3
import Derived.Test.YtlnfjcbhicdceaaSort
import Derived.Sort.OwnSortedInts
import Derived.Lib.SlKeysI
namespace Go.Proofs.Ytlnfjcbhicdceaa
open Go.RowKit Go.Sort
attribute [local go_sem] rk
theorem info3 : (Try.prog.info? 3).map (fun i => (i.zero, i.size, i.bytes)) = some (some (.int .i64 0), 1, 8) := by kernel_rfl
/-- The blocks that have a record with the number, as they come. -/
def ofL (m : M) (s : Int) : List Int := (m.filter fun p => decide (p.1.2 = s)).map (·.1.1)
def ofS (m : M) (s : Int) : List Int := (ofL m s).mergeSort fun x y => decide (x ≤ y)
theorem del_perm {left : M} {p : (Int × Int) × Value} (hn : (left.map (·.1)).Nodup) (hp : p ∈ left) : left.Perm (p :: del left p.1) := by
  induction left with
  | nil => cases hp
  | cons q l ih =>
    rw [List.map_cons, List.nodup_cons] at hn
    by_cases e : q.1 = p.1
    · have hpq : p = q := by
        rcases List.mem_cons.1 hp with h | h
        · exact h
        · exact absurd (by rw [e]; exact List.mem_map_of_mem h) hn.1
      subst hpq
      have : del (p :: l) p.1 = l := by
        unfold del
        rw [List.filter_cons_of_neg (by simp), List.filter_eq_self]
        intro u hu
        have : u.1 ≠ p.1 := fun e' => hn.1 (by rw [← e']; exact List.mem_map_of_mem hu)
        simpa using this
      rw [this]
    · have hpl : p ∈ l := by
        rcases List.mem_cons.1 hp with h | h
        · exact absurd (by rw [h]) e
        · exact h
      have hd : del (q :: l) p.1 = q :: del l p.1 := by
        unfold del
        rw [List.filter_cons_of_pos (by simpa using e)]
      rw [hd]
      exact ((ih hn.2 hpl).cons q).trans (List.Perm.swap _ _ _)
theorem ofL_perm {a b : M} (h : a.Perm b) (s : Int) : (ofL a s).Perm (ofL b s) := (h.filter _).map _
theorem ofL_yes {left : M} {p : (Int × Int) × Value} {s : Int} (hn : (left.map (·.1)).Nodup) (hp : p ∈ left) (hs : p.1.2 = s) : (ofL left s).Perm (p.1.1 :: ofL (del left p.1) s) := by
  have h := ofL_perm (del_perm hn hp) s
  have e : ofL (p :: del left p.1) s = p.1.1 :: ofL (del left p.1) s := by unfold ofL; rw [List.filter_cons_of_pos (by simpa using hs)]; rfl
  rwa [e] at h
theorem ofL_no {left : M} {p : (Int × Int) × Value} {s : Int} (hn : (left.map (·.1)).Nodup) (hp : p ∈ left) (hs : ¬ p.1.2 = s) : (ofL left s).Perm (ofL (del left p.1) s) := by
  have h := ofL_perm (del_perm hn hp) s
  have e : ofL (p :: del left p.1) s = ofL (del left p.1) s := by unfold ofL; rw [List.filter_cons_of_neg (by simpa using hs)]
  rwa [e] at h
theorem ofL_len (m : M) (s : Int) : (ofL m s).length ≤ m.length := by unfold ofL; rw [List.length_map]; exact List.length_filter_le _ _
def iv (l : List Int) : List Value := l.map (Value.int .i64)
/-- What stands in the loop. -/
structure OI (m : M) (s : Int) (bm it : Nat) (w : World) (v : Value) (ks : List Int) (left : M) (W : World) : Prop where
  rng : Ranging rk W it bm m left
  bel : Below w.heap.size w W
  own : W.ownsRow (it + 1) 3 1 v ks.length (iv ks)
  perm : (ks ++ ofL left s).Perm (ofL m s)
  lt : it < W.heap.size
theorem ownsRow_chg {W W' : World} {base e size n r : Nat} {v : Value} {xs : List Value} (h : W.ownsRow base e size v n xs) (hc : Chg W W' r) (hr : r < base) : W'.ownsRow base e size v n xs :=
  h.kept hc.grown (by
    cases hv : v.ownBlock with
    | none => exact .inl rfl
    | some k => exact .inr (fun e => by have := (h.lt k hv).1; cases e; omega))
theorem cell_one_new1 (w : World) (o : Obj) (x : Value) (t : TypeId) : ∀ j u, [x][j]? = some u → ((w.alloc o).alloc (.cells #[x] t)).cell? ((⟨w.heap.size + 1, 0, none⟩ : Addr).add j) = some u := by
  have := cell_one_new (w.alloc o) x t
  rw [World.size_alloc] at this
  exact this
theorem iv_snoc (ks : List Int) (x : Int) : iv (ks ++ [x]) = iv ks ++ [.int .i64 x] := by simp [iv]
theorem OI.app {m : M} {s : Int} {bm : Nat} {w W W' W5 : World} {v v' : Value} {ks : List Int} {left : M} {p : (Int × Int) × Value} {o o2 : Obj} (h : OI m s bm w.heap.size w v ks left W) (hn : (left.map (·.1)).Nodup) (hbm : bm < w.heap.size) (hr : Ranging rk W' w.heap.size bm m (del left p.1)) (hc : Chg W W' w.heap.size) (hp : p ∈ left) (hs : p.1.2 = s)
    (ho : W5.ownsRow (w.heap.size + 1) 3 1 v' (ks.length + 1) (iv ks ++ [.int .i64 p.1.1])) (hg : ((W'.alloc o).alloc o2).grownBy W5 v.ownBlock) :
    (∃ ks left, OI m s bm w.heap.size w v' ks left W5) ∧ W5.rangeLeft bm w.heap.size < W.rangeLeft bm w.heap.size := by
  have hrow : ∀ k, v.ownBlock = some k → w.heap.size + 1 ≤ k := fun k hk => (h.own.lt k hk).1
  have hr2 := (hr.alloc o).alloc o2
  have hl2 := hr2.lt
  have hr5 : Ranging rk W5 w.heap.size bm m (del left p.1) := hr2.of_heap (hg.block _ hl2.1 (fun e => by have := hrow _ e.symm; omega)) (hg.block _ hl2.2.1 (fun e => by have := hrow _ e.symm; omega))
  have hb : Below w.heap.size w W' := h.bel.trans (hc.below (Nat.le_refl _))
  have hb2 := (hb.alloc hb.size o).alloc (by simp; have := hb.size; omega) o2
  refine ⟨⟨ks ++ [p.1.1], del left p.1, hr5, hb2.grown hg hb2.size (fun k hk => by have := hrow k hk; omega), ?_, ?_, hr5.lt.1⟩, ?_⟩
  · rw [List.length_append, iv_snoc]; exact ho
  · rw [List.append_assoc]
    exact ((ofL_yes hn hp hs).symm.append_left ks).trans h.perm
  · rw [hr5.left_eq, h.rng.left_eq]
    exact del_length hp
theorem OI.pass {m : M} {s : Int} {bm : Nat} {w W W' : World} {v : Value} {ks : List Int} {left : M} {p : (Int × Int) × Value} {o : Obj} (h : OI m s bm w.heap.size w v ks left W) (hn : (left.map (·.1)).Nodup) (hr : Ranging rk W' w.heap.size bm m (del left p.1)) (hc : Chg W W' w.heap.size) (hp : p ∈ left) (hs : ¬ p.1.2 = s) :
    (∃ ks left, OI m s bm w.heap.size w v ks left (W'.alloc o)) ∧ (W'.alloc o).rangeLeft bm w.heap.size < W.rangeLeft bm w.heap.size := by
  have hr2 := hr.alloc o
  have hb : Below w.heap.size w W' := h.bel.trans (hc.below (Nat.le_refl _))
  refine ⟨⟨ks, del left p.1, hr2, hb.alloc hb.size o, (ownsRow_chg h.own hc (by omega)).alloc o, ?_, hr2.lt.1⟩, ?_⟩
  · exact ((ofL_no hn hp hs).symm.append_left ks).trans h.perm
  · rw [hr2.left_eq, h.rng.left_eq]
    exact del_length hp
def OfPost (m : M) (s : Int) (w : World) (e : Ending) (w' : World) : Prop := ∃ v, e = .returned v ∧ w'.ownsRow w.heap.size 3 1 v (ofS m s).length (iv (ofS m s)) ∧ Below w.heap.size w w'
set_option maxRecDepth 100000 in
theorem of_tab (g bm : Nat) (m : M) (hm : m.length ≤ 1000) (s : Int) (w : World) (h : Tab w g bm m) :
    Calls Try.prog 13 #[.pointer (some ⟨g, 0, none⟩), .int .u32 s] w (OfPost m s w) := by
  have c1 := h.cell
  have H := Lib.hid h
  have hlt := Lib.hid h.lt
  have hnd := Lib.hid h.map.nodup
  clear h
  obtain ⟨i0, hi0, hz0, hz1, hz2⟩ := info_parts info3
  go_enter Try.func13, Try.ntmps13
  go_wp2_with (first
      | (go_at_call 24; refine (refuse_tab g bm m _ _ H.out).mono ?_; rintro e w1 ⟨rfl, rfl⟩; rw [if_neg (by omega)])
      | (at_range; refine wpl_range rfl _ 48 rfl 3 Try.underlying48 _ bm m rfl H.out.map ?_; intro w2 hr2 hb2 hz2; have R := Lib.hid hr2; have B := Lib.hid hb2; have hz := Lib.hid hz2; clear hr2 hb2 hz2; go_frame))
  go_loopw [5] (fun v W => ∃ ks left, OI m s bm w1.heap.size w1 v ks left W) (fun _ W => W.rangeLeft bm w1.heap.size)
  case atStart =>
    exact ⟨[], m, R.out, B.out, World.ownsRow_nil _ _ _ _, by simp, by rw [hz.out]; omega⟩
  case round =>
    obtain ⟨ks, left, hI⟩ := hrel
    have hIH := Lib.hid hI
    have hnl : (left.map (·.1)).Nodup := hnd.out.sublist (hI.rng.sub.map _)
    have hnlH := Lib.hid hnl
    have hms : Hid (wr.rangeLeft bm w1.heap.size = left.length) := hI.rng.left_eq
    have hkl : ks.length ≤ 1000 := by
      have := hI.perm.length_eq
      rw [List.length_append] at this
      have := ofL_len m s
      omega
    clear hI hnl
    go_wp2_with (at_next; refine wpl_next_rk rfl _ rfl _ w1.heap.size bm _ left rfl hIH.out.rng ?_ ?_)
    · intro hnil
      have hN := Lib.hid hnil
      clear hnil
      have hperm : (ofS m s) = ks.mergeSort fun x y => decide (x ≤ y) := by
        have := hIH.out.perm
        rw [hN.out] at this
        simp only [ofL, List.filter_nil, List.map_nil, List.append_nil] at this
        exact (mergeSort_of_perm_i this).symm
      have hpH := Lib.hid hperm
      have hlenS : (ks.mergeSort fun x y => decide (x ≤ y)).length = ks.length := List.length_mergeSort ks
      rcases hIH.out.own.2 with ⟨hv, hk0⟩ | ⟨r, cap, cur, hv, hbase, hb, h1, h2, h3, h4⟩
      · subst hv
        obtain rfl : ks = [] := List.eq_nil_of_length_eq_zero hk0
        clear hperm
        go_wp2_with (go_at_call 25; refine (Try.slices_Sort_int_none none 0 _).mono ?_; rintro e w' ⟨rfl, rfl⟩)
        go_ret
        refine ⟨_, rfl, ?_, hIH.out.bel⟩
        rw [hpH.out, show ([] : List Int).mergeSort (fun x y => decide (x ≤ y)) = [] by simp]
        exact World.ownsRow_nil _ w1.heap.size 3 1
      · subst hv
        have hH : Holds (Value.int .i64) wr r 0 ks.toArray := holds_of_blockI hb (by simpa [iv] using h4)
        have hgl : r < wr.heap.size := (Array.getElem?_eq_some_iff.1 hb).1
        have hsort := Try.slices_Sort_int r 0 cap ks wr hH hgl (by omega)
        clear hperm hH
        go_wp2_with (go_at_call 25; refine hsort.mono ?_; rintro e w' ⟨rfl, nn, os, rfl⟩)
        go_ret
        have hg := grownBy_sortedI (w := wr) (g := r) (n := nn) (os := os) (ks.mergeSort fun x y => decide (x ≤ y)).toArray
        have hro := ownsRow_sortedI (n := nn) (os := os) (ts := ks.mergeSort fun x y => decide (x ≤ y)) hlenS (show w1.heap.size ≤ r by omega) hb h1 h2 h3
        refine ⟨_, rfl, ?_, hIH.out.bel.grown hg hIH.out.bel.size (fun k hk => by cases hk; omega)⟩
        rw [hpH.out, hlenS]
        exact hro
    · intro b t x w3 hp hr3 hc3 hen
      have hpH := Lib.hid hp
      have hr3H := Lib.hid hr3
      have hc3H := Lib.hid hc3
      have O3 : Hid (∀ o, (w3.alloc o).ownsRow (w1.heap.size + 1) 3 1 u5 ks.length (iv ks)) := fun o => (ownsRow_chg hIH.out.own hc3 (by omega)).alloc o
      have hs3 : w1.heap.size < w3.heap.size := hr3.lt.1
      clear hp hr3 hc3
      by_cases hts : t = s
      · subst hts
        go_wp2_with (at_builtin; refine wpList_append_own_at _ rfl _ _ 34 rfl (w1.heap.size + 1) 3 i0 (.int .i64 0) 1 8 Try.underlying34 hi0 hz0 hz1 hz2 rfl (by decide) _ _ _ rfl ((O3.out _).alloc _) ⟨w3.heap.size + 1, 0, none⟩ 1 1 [.int .i64 b] rfl rfl (cell_one_new1 _ _ _ _) (fun x hx => by simp at hx; subst hx; rfl) (by unfold maxLen; omega) (by omega) (by simp; omega) ?_; intro v' w5 hown hgrow _ _; have E5 := Lib.hid (hIH.out.app hnlH.out hlt.out.2 hr3H.out hc3H.out hpH.out rfl hown hgrow); clear hown hgrow O3)
        exact E5.out
      · go_wp2
        exact hIH.out.pass hnlH.out hr3H.out hc3H.out hpH.out hts
end Go.Proofs.Ytlnfjcbhicdceaa
