/- The document's table: Of; and a call at both tables. The table holds at most 400 records. -/
import Derived.Test.YtlnfjcbhicdceaaQ7
import Derived.Deep.RegionHeld3
namespace Go.Proofs.Ytlnfjcbhicdceaa
open Go.RowKit
def ROfPost (ml : List K) (s : Int) (w : World) (e : Ending) (w' : World) : Prop := ∃ v, e = .returned v ∧ w'.ownsRow w.heap.size 3 1 v (sortS (numL ml s)).length (iv (sortS (numL ml s))) ∧ Below w.heap.size w w'
theorem numL_len (ml : List K) (s : Int) : (numL ml s).length ≤ ml.length := by unfold numL; rw [List.length_map]; exact List.length_filter_le _ _
set_option maxRecDepth 100000 in
theorem rof_any (r B : Nat) (v : Value) (ml : List K) (hlm : ml.length ≤ 400) (s : Int) (w : World) (h : RT w r B v ml) :
    Calls Try.prog 19 #[.pointer (some ⟨r, 0, none⟩), .int .u32 s] w (ROfPost ml s w) := by
  have H := Lib.hid h
  obtain ⟨ao, cap, rfl⟩ := own_shape h.own
  clear h
  obtain ⟨i0, hi0, hz0, hz1, hz2⟩ := info_parts info3
  go_enter Try.func19, Try.ntmps19
  go_wp2_with fail
  go_loopw [5, 6] (fun v5 v6 W => ∃ j, v6 = .int .i64 (j : Nat) ∧ j ≤ ml.length ∧ Below w.heap.size w W ∧ W.ownsRow w.heap.size 3 1 v5 (numL (ml.take j) s).length (iv (numL (ml.take j) s))) (fun _ v6 _ => (ml.length - intOf v6).toNat)
  case atStart => exact ⟨0, rfl, by omega, Below.refl _ _, by simpa [numL, iv] using World.ownsRow_nil _ w.heap.size 3 1⟩
  case round =>
    obtain ⟨j, rfl, hj, hbl, hown⟩ := hrel
    have HX := Lib.hid hbl
    have HO := Lib.hid hown
    have HR := Lib.hid (H.out.later hbl)
    have t0 := HR.out.cell
    have hS : Hid (w.heap.size ≤ wr.heap.size) := hbl.size
    clear hbl hown
    have hlenS : (numL (ml.take j) s).length ≤ 400 := by
      have h1 := numL_len (ml.take j) s
      rw [List.length_take] at h1
      omega
    by_cases hjn : j < ml.length
    · obtain ⟨gv, rfl, hc1, hc2, _, hgv, hcs⟩ := own_recs2 HR.out.own (by omega)
      obtain ⟨⟨yb, ys⟩, hy⟩ : ∃ y, ml[j]? = some y := ⟨_, List.getElem?_eq_getElem hjn⟩
      have htk : Hid (numL (ml.take (j + 1)) s = if ys = s then numL (ml.take j) s ++ [yb] else numL (ml.take j) s) := by
        unfold Hid
        rw [List.take_add_one, hy]; exact numL_snoc _ _ _
      obtain ⟨c0, c1⟩ := hcs j _ hy
      clear hcs hy
      by_cases hd : ys = s
      · subst hd
        go_wp2_with (at_builtin; refine wpList_append_own_at _ rfl _ _ 34 rfl w.heap.size 3 i0 (.int .i64 0) 1 8 Try.underlying34 hi0 hz0 hz1 hz2 rfl (by decide) _ _ _ rfl (HO.out.alloc _) ⟨wr.heap.size, 0, none⟩ 1 1 [.int .i64 yb] rfl rfl (cell_one_new _ _ _) (fun x hx => by simp at hx; subst hx; rfl) (by unfold maxLen; omega) (by omega) (by have := hS.out; simp; omega) ?_; intro v' W10 hown hgrow _ _; have O10 := Lib.hid hown; have B10 : Hid (Below w.heap.size w W10) := below_app HX.out hS.out HO.out ((Below.refl _ _).alloc (Nat.le_refl _) _) hgrow; clear hown hgrow)
        refine ⟨⟨j + 1, rfl, by omega, B10.out, ?_⟩, by simp [intOf]; omega⟩
        rw [htk.out, if_pos (by simp), List.length_append, iv_snoc]
        exact O10.out
      · go_wp2_with fail
        refine ⟨⟨j + 1, rfl, by omega, HX.out, ?_⟩, by simp [intOf]; omega⟩
        rw [htk.out, if_neg hd]
        exact HO.out
    · obtain rfl : j = ml.length := by omega
      have hown := HO.out
      rw [List.take_length] at hown hlenS
      have HI := Lib.hid (IntsAt.own hown)
      clear hown
      go_wp2_with (go_at_call 29; refine (sorted_any _ hlenS _ _ HI.out).mono ?_; rintro e w3 ⟨v3, rfl, ho, hw⟩; have O3 := Lib.hid ho; have B3 := Lib.hid (HX.out.trans (hw.mono hS.out)); clear ho hw)
      go_ret
      exact ⟨_, rfl, own_mono O3.out hS.out, B3.out⟩
/-- Both tables, at work. -/
structure PR (w : World) (g bm r B : Nat) (m : M) (v : Value) (ml : List K) (W : World) : Prop where
  tab : Tab W g bm m
  rt : RT W r B v ml
  bel : Below w.heap.size w W
  hbm : w.heap.size ≤ bm ∧ bm < B ∧ bm ≠ r
  hr : w.heap.size ≤ r ∧ g ≠ r
  hB : B ≤ W.heap.size
theorem PR.later {w : World} {g bm r B : Nat} {m : M} {v : Value} {ml : List K} {W W' : World} (h : PR w g bm r B m v ml W) (hb : Below W.heap.size W W') : PR w g bm r B m v ml W' :=
  ⟨h.tab.later hb h.tab.lt.1 h.tab.lt.2, h.rt.later hb, h.bel.trans (hb.mono h.bel.size), h.hbm, h.hr, Nat.le_trans h.hB hb.size⟩
theorem PR.turnT {w : World} {g bm r B : Nat} {m m' : M} {v : Value} {ml : List K} {W W' : World} (h : PR w g bm r B m v ml W) (hT : Tab W' g bm m') (hg : W.grownBy W' (some bm)) : PR w g bm r B m' v ml W' := by
  have hrl : r < W.heap.size := World.block_lt_of_cell? W _ h.rt.cell
  have hne : some r ≠ some bm := fun e => h.hbm.2.2 (by cases e; rfl)
  refine ⟨hT, ⟨hg.cell h.rt.cell hne, (World.frozen?_of_block (hg.block r hrl hne)).trans h.rt.free, h.rt.own.kept hg ?_, h.rt.lt⟩, h.bel.grown hg h.bel.size (fun k hk => by cases hk; exact h.hbm.1), h.hbm, h.hr, Nat.le_trans h.hB hg.size⟩
  cases hv : v.ownBlock with
  | none => exact .inl rfl
  | some j => exact .inr (fun e => by have := (h.rt.own.lt j hv).1; cases e; have := h.hbm.2.1; omega)
theorem PR.turnR {w : World} {g bm r B : Nat} {m : M} {v v' : Value} {ml ml' : List K} {W W' : World} (h : PR w g bm r B m v ml W) (hT : RT W' r B v' ml') (hg : W.grownBy W' (some r)) : PR w g bm r B m v' ml' W' := by
  have hgne : some g ≠ some r := fun e => h.hr.2 (by cases e; rfl)
  have hbne : some bm ≠ some r := fun e => h.hbm.2.2 (by cases e; rfl)
  exact ⟨⟨hg.cell h.tab.cell hgne, h.tab.map.of_heap (hg.block bm h.tab.lt.2 hbne), h.tab.ne⟩, hT, h.bel.grown hg h.bel.size (fun k hk => by cases hk; exact h.hr.1), h.hbm, h.hr, Nat.le_trans h.hB hg.size⟩
theorem add_perm {m : M} {ml : List K} {b s : Int} (hp : (keys m).Perm ml) (hn : (keys m).Nodup) (hpos : Pos ml) : (keys (upd1 m b s)).Perm (refAdd ml b s) := by
  have := step_perm (r := (b, s, false)) hp hn hpos
  unfold tabStep refStep at this
  unfold refAdd
  by_cases hb : b < 0
  · have h0 : ¬ 0 ≤ b := by omega
    have hx : (b, s) ∉ ml := fun h => by have := (hpos _ h).1; simp at this; omega
    rw [if_pos hb]
    simpa [h0, strike_none hx] using this
  · have h0 : 0 ≤ b := by omega
    rw [if_neg hb]
    simpa [h0] using this
theorem del_perm2 {m : M} {ml : List K} {b s : Int} (hp : (keys m).Perm ml) (hn : (keys m).Nodup) (hpos : Pos ml) : (keys (del1 m b s)).Perm (refDel ml b s) := by
  have := step_perm (r := (b, s, true)) hp hn hpos
  unfold tabStep refStep at this
  unfold refDel
  by_cases hb : b < 0
  · have hx : (b, s) ∉ ml := fun h => by have := (hpos _ h).1; simp at this; omega
    rw [if_pos hb]
    simpa [strike_none hx] using this
  · rw [if_neg hb]
    simpa using this
theorem refAdd_pos {ml : List K} {b s : Int} (hpos : Pos ml) (hs : 0 ≤ s) : Pos (refAdd ml b s) := by
  unfold refAdd
  split
  · exact hpos
  · intro x hx
    rcases List.mem_append.1 hx with h | h
    · exact hpos x (mem_strike.1 h).1
    · simp at h; subst h; exact ⟨by simp; omega, hs⟩
theorem refDel_pos {ml : List K} {b s : Int} (hpos : Pos ml) : Pos (refDel ml b s) := by
  unfold refDel
  split
  · exact hpos
  · exact fun x hx => hpos x (mem_strike.1 hx).1
theorem over_pos {ml : List K} {s : Int} (hpos : Pos ml) : Pos (over ml s) := fun x hx => hpos x (List.mem_filter.1 hx).1
theorem refAdd_len (ml : List K) (b s : Int) : (refAdd ml b s).length ≤ ml.length + 1 := by
  have h : (strike ml (b, s)).length ≤ ml.length := List.length_filter_le _ _
  unfold refAdd
  split
  · omega
  · rw [List.length_append]; simp; omega
theorem refDel_len (ml : List K) (b s : Int) : (refDel ml b s).length ≤ ml.length + 1 := by
  have h : (strike ml (b, s)).length ≤ ml.length := List.length_filter_le _ _
  unfold refDel
  split <;> omega
theorem over_len (ml : List K) (s : Int) : (over ml s).length ≤ ml.length + 1 := by
  have h : (over ml s).length ≤ ml.length := List.length_filter_le _ _
  omega
/-- Both hold the same records. -/
structure PS (w : World) (g bm r B n : Nat) (W : World) : Prop where
  ex : ∃ m v ml, PR w g bm r B m v ml W ∧ (keys m).Perm ml ∧ Pos ml ∧ ml.length ≤ n
def DoesPost (w : World) (g bm r B n : Nat) (e : Ending) (W : World) : Prop := e = .returned (.bool true) ∧ PS w g bm r B n W
set_option maxRecDepth 100000 in
set_option maxHeartbeats 4000000 in
theorem does_any (w0 : World) (g bm r B n : Nat) (hn : n ≤ 300) (kd ab sq : Int) (hk : 0 ≤ kd ∧ kd ≤ 255) (hs : 0 ≤ sq ∧ sq ≤ 4294967295) (W : World) (h : PS w0 g bm r B n W) :
    Calls Try.prog 15 #[.pointer (some ⟨g, 0, none⟩), .pointer (some ⟨r, 0, none⟩), .agg #[.int .u8 kd, .int .i64 ab, .int .u32 sq]] W (DoesPost w0 g bm r B (n + 1)) := by
  obtain ⟨m, v, ml, hP, hperm, hpos, hlen⟩ := h.ex
  obtain ⟨hk0, hk1⟩ := hk
  have hnd : (keys m).Nodup := hP.tab.map.nodup
  have hAdd : Hid (∀ W', PR w0 g bm r B (upd1 m ab sq) v (refAdd ml ab sq) W' → True) := fun _ _ => trivial
  have hA1 := Lib.hid (add_perm (b := ab) (s := sq) hperm hnd hpos)
  have hA2 := Lib.hid (del_perm2 (b := ab) (s := sq) hperm hnd hpos)
  have hA3 : Hid ((keys (dropped m sq)).Perm (over ml sq)) := by unfold Hid; rw [keys_dropped]; exact hperm.filter _
  have hposH := Lib.hid hpos
  have hlm : ml.length ≤ 400 := by omega
  have P := Lib.hid hP
  clear hP hperm hpos h hAdd hnd
  have hkind : kd.tmod 4 = 0 ∨ kd.tmod 4 = 1 ∨ kd.tmod 4 = 2 ∨ kd.tmod 4 = 3 := by
    rw [Int.tmod_eq_emod_of_nonneg hk0]; omega
  have hBW : Hid (B ≤ W.heap.size) := P.out.hB
  have n1 : some W.heap.size ≠ some bm := fun e => by have := hBW.out; have := P.out.hbm.2.1; cases e; omega
  have n2 : some W.heap.size ≠ some r := fun e => by have := hBW.out; have := P.out.rt.lt; cases e; omega
  have N1 := Lib.hid n1
  have N2 := Lib.hid n2
  clear n1 n2
  rcases hkind with hkd | hkd | hkd | hkd
  · go_enter Try.func15, Try.ntmps15
    go_wp2_with fail
    have P0 : Hid (PR w0 g bm r B m v ml (W.alloc (.cells #[.int .u8 kd, .int .i64 ab, .int .u32 sq] 45)).drew) := P.out.later (((Below.refl _ _).alloc (Nat.le_refl _) _).drew)
    have s1 : (W.alloc (.cells #[.int .u8 kd, .int .i64 ab, .int .u32 sq] 45)).drew.cell? ⟨W.heap.size, 1, none⟩ = some (.int .i64 ab) := by simp
    have s2 : (W.alloc (.cells #[.int .u8 kd, .int .i64 ab, .int .u32 sq] 45)).drew.cell? ⟨W.heap.size, 2, none⟩ = some (.int .u32 sq) := by simp
    go_region_held3 (fun w' => w'.cell? ⟨W.heap.size, 1, none⟩ = some (.int .i64 ab) ∧ w'.cell? ⟨W.heap.size, 2, none⟩ = some (.int .u32 sq))
      (first | exact ⟨s1, s2⟩ | go_keep)
      (first
        | (go_at_call 20; refine (add_tab g bm m ab sq _ P0.out.tab).mono ?_; rintro e w2 ⟨rfl, hT, hgr⟩; replace P0 := Lib.hid (P0.out.turnT hT hgr); replace s1 := hgr.cell s1 N1.out; replace s2 := hgr.cell s2 N1.out; clear hT hgr)
        | (go_at_call 28; refine (radd_any r B v ml hlm ab sq _ P0.out.rt P0.out.hB).mono ?_; rintro e w2 ⟨rfl, ⟨v2, hT⟩, hgr⟩; replace P0 := Lib.hid (P0.out.turnR hT hgr); replace s1 := hgr.cell s1 N2.out; replace s2 := hgr.cell s2 N2.out; clear hT hgr))
    all_goals
      go_wp2_with fail
      go_ret
      refine ⟨by simp, ⟨_, _, _, P0.out, hA1.out, refAdd_pos hposH.out hs.1, by have := refAdd_len ml ab sq; omega⟩⟩
  · go_enter Try.func15, Try.ntmps15
    go_wp2_with fail
    have P0 : Hid (PR w0 g bm r B m v ml (W.alloc (.cells #[.int .u8 kd, .int .i64 ab, .int .u32 sq] 45)).drew) := P.out.later (((Below.refl _ _).alloc (Nat.le_refl _) _).drew)
    have s1 : (W.alloc (.cells #[.int .u8 kd, .int .i64 ab, .int .u32 sq] 45)).drew.cell? ⟨W.heap.size, 1, none⟩ = some (.int .i64 ab) := by simp
    have s2 : (W.alloc (.cells #[.int .u8 kd, .int .i64 ab, .int .u32 sq] 45)).drew.cell? ⟨W.heap.size, 2, none⟩ = some (.int .u32 sq) := by simp
    go_region_held3 (fun w' => w'.cell? ⟨W.heap.size, 1, none⟩ = some (.int .i64 ab) ∧ w'.cell? ⟨W.heap.size, 2, none⟩ = some (.int .u32 sq))
      (first | exact ⟨s1, s2⟩ | go_keep)
      (first
        | (go_at_call 20; refine (add_tab g bm m ab sq _ P0.out.tab).mono ?_; rintro e w2 ⟨rfl, hT, hgr⟩; replace P0 := Lib.hid (P0.out.turnT hT hgr); replace s1 := hgr.cell s1 N1.out; replace s2 := hgr.cell s2 N1.out; clear hT hgr)
        | (go_at_call 28; refine (radd_any r B v ml hlm ab sq _ P0.out.rt P0.out.hB).mono ?_; rintro e w2 ⟨rfl, ⟨v2, hT⟩, hgr⟩; replace P0 := Lib.hid (P0.out.turnR hT hgr); replace s1 := hgr.cell s1 N2.out; replace s2 := hgr.cell s2 N2.out; clear hT hgr))
    all_goals
      go_wp2_with fail
      go_ret
      refine ⟨by simp, ⟨_, _, _, P0.out, hA1.out, refAdd_pos hposH.out hs.1, by have := refAdd_len ml ab sq; omega⟩⟩
  · go_enter Try.func15, Try.ntmps15
    go_wp2_with fail
    have P0 : Hid (PR w0 g bm r B m v ml (W.alloc (.cells #[.int .u8 kd, .int .i64 ab, .int .u32 sq] 45)).drew) := P.out.later (((Below.refl _ _).alloc (Nat.le_refl _) _).drew)
    have s1 : (W.alloc (.cells #[.int .u8 kd, .int .i64 ab, .int .u32 sq] 45)).drew.cell? ⟨W.heap.size, 1, none⟩ = some (.int .i64 ab) := by simp
    have s2 : (W.alloc (.cells #[.int .u8 kd, .int .i64 ab, .int .u32 sq] 45)).drew.cell? ⟨W.heap.size, 2, none⟩ = some (.int .u32 sq) := by simp
    go_region_held3 (fun w' => w'.cell? ⟨W.heap.size, 1, none⟩ = some (.int .i64 ab) ∧ w'.cell? ⟨W.heap.size, 2, none⟩ = some (.int .u32 sq))
      (first | exact ⟨s1, s2⟩ | go_keep)
      (first
        | (go_at_call 21; refine (cancel_tab g bm m ab sq _ P0.out.tab).mono ?_; rintro e w2 ⟨rfl, hT, hgr⟩; replace P0 := Lib.hid (P0.out.turnT hT hgr); replace s1 := hgr.cell s1 N1.out; replace s2 := hgr.cell s2 N1.out; clear hT hgr)
        | (go_at_call 26; refine (rcancel_any r B v ml hlm ab sq _ P0.out.rt P0.out.hB).mono ?_; rintro e w2 ⟨rfl, ⟨v2, hT⟩, hgr⟩; replace P0 := Lib.hid (P0.out.turnR hT hgr); replace s1 := hgr.cell s1 N2.out; replace s2 := hgr.cell s2 N2.out; clear hT hgr))
    all_goals
      go_wp2_with fail
      go_ret
      refine ⟨by simp, ⟨_, _, _, P0.out, hA2.out, refDel_pos hposH.out, by have := refDel_len ml ab sq; omega⟩⟩
  · go_enter Try.func15, Try.ntmps15
    have P0 : Hid (PR w0 g bm r B m v ml (W.alloc (.cells #[.int .u8 kd, .int .i64 ab, .int .u32 sq] 45))) := P.out.later ((Below.refl _ _).alloc (Nat.le_refl _) _)
    have s2 : (W.alloc (.cells #[.int .u8 kd, .int .i64 ab, .int .u32 sq] 45)).cell? ⟨W.heap.size, 2, none⟩ = some (.int .u32 sq) := by simp
    have S2 := Lib.hid s2
    clear s2
    go_wp2_with (first
      | (go_at_call 22; refine (drop_tab g bm m sq _ P0.out.tab).mono ?_; rintro e w2 ⟨rfl, hT, hgr⟩; replace P0 := Lib.hid (P0.out.turnT hT hgr); have s2 := hgr.cell S2.out N1.out; clear hT hgr)
      | (go_at_call 27; refine (rdrop_any r B v ml hlm sq _ P0.out.rt P0.out.hB).mono ?_; rintro e w3 ⟨rfl, ⟨v2, hT⟩, hgr⟩; replace P0 := Lib.hid (P0.out.turnR hT hgr); clear hT hgr))
    go_ret
    refine ⟨rfl, ⟨_, _, _, P0.out, hA3.out, over_pos hposH.out, by have := over_len ml sq; omega⟩⟩
end Go.Proofs.Ytlnfjcbhicdceaa
