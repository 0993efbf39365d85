/- The records laid by the given laws: the table and the list beside it. The argument is a slice of at most 200 records whose numbers are in range. -/
import Derived.Test.YtlnfjcbhicdceaaP1
namespace Go.Proofs.Ytlnfjcbhicdceaa
open Go.RowKit
theorem info28 : (Try.prog.info? 28).map (fun i => (i.zero, i.size, i.bytes)) = some (some (.agg #[.int .i64 0, .int .u32 0, .bool false]), 3, 16) := by kernel_rfl
/-- A slice of records that was handed in. -/
structure Recs (W : World) (v : Value) (l : List R3) : Prop where
  ex : ∃ ao cap, v = .slice ao l.length cap ∧ l.length ≤ cap ∧ cap ≤ maxLen ∧ (0 < l.length → ∃ A off, ao = some ⟨A, off, none⟩ ∧ ∀ i r, l[i]? = some r → W.cell? ⟨A, off + i * 3, none⟩ = some (.int .i64 r.1) ∧ W.cell? ⟨A, off + i * 3 + 1, none⟩ = some (.int .u32 r.2.1) ∧ W.cell? ⟨A, off + i * 3 + 2, none⟩ = some (.bool r.2.2))
theorem Recs.later {W W' : World} {v : Value} {l : List R3} (h : Recs W v l) (hb : Below W.heap.size W W') : Recs W' v l := by
  obtain ⟨ao, cap, h1, h2, h3, h4⟩ := h.ex
  refine ⟨ao, cap, h1, h2, h3, fun hl => ?_⟩
  obtain ⟨A, off, e, hc⟩ := h4 hl
  refine ⟨A, off, e, fun i r hr => ?_⟩
  obtain ⟨c0, c1, c2⟩ := hc i r hr
  have hA : A < W.heap.size := World.block_lt_of_cell? W _ c0
  have hbk := hb.block A hA
  exact ⟨(World.cell?_of_block hbk).trans c0, (World.cell?_of_block hbk).trans c1, (World.cell?_of_block hbk).trans c2⟩
/-- What stands between two records. -/
structure LI3 (l : List R3) (w : World) (g bm B : Nat) (v : Value) (k : Nat) (m : M) (W : World) : Prop where
  tab : Tab W g bm m
  perm : (keys m).Perm (refRun (l.take k))
  own : W.ownsRow B 28 3 v (refRun (l.take k)).length (flat3 (refRun (l.take k)))
  bel : Below w.heap.size w W
  hg : w.heap.size ≤ g ∧ g < B
  hm : w.heap.size ≤ bm ∧ bm < B
  hB : B ≤ W.heap.size
theorem LI3.later {l : List R3} {w : World} {g bm B : Nat} {v : Value} {k : Nat} {m : M} {W W' : World} (h : LI3 l w g bm B v k m W) (hb : Below W.heap.size W W') : LI3 l w g bm B v k m W' :=
  ⟨h.tab.later hb h.tab.lt.1 h.tab.lt.2, h.perm, h.own.kept (row := none) ⟨hb.os, hb.tape, hb.output, hb.size, fun k hk _ => hb.block k hk⟩ (by cases v.ownBlock <;> simp), h.bel.trans (hb.mono h.bel.size), h.hg, h.hm, Nat.le_trans h.hB hb.size⟩
/-- A record of the call's own. -/
structure Rec (W : World) (x : Nat) (b s : Int) : Prop where
  c0 : W.cell? ⟨x, 0, none⟩ = some (.int .i64 b)
  c1 : W.cell? ⟨x, 1, none⟩ = some (.int .u32 s)
  c2 : W.cell? ⟨x, 2, none⟩ = some (.bool false)
theorem Rec.lt {W : World} {x : Nat} {b s : Int} (h : Rec W x b s) : x < W.heap.size := World.block_lt_of_cell? W _ h.c0
theorem Rec.of_heap {W W' : World} {x : Nat} {b s : Int} (h : Rec W x b s) (e : W'.heap[x]? = W.heap[x]?) : Rec W' x b s := ⟨(World.cell?_of_block e).trans h.c0, (World.cell?_of_block e).trans h.c1, (World.cell?_of_block e).trans h.c2⟩
theorem Rec.later {W W' : World} {x : Nat} {b s : Int} (h : Rec W x b s) (hb : Below W.heap.size W W') : Rec W' x b s := h.of_heap (hb.block x h.lt)
theorem Rec.new (W : World) (b s : Int) (t : TypeId) : Rec (W.alloc (.cells #[.int .i64 b, .int .u32 s, .bool false] t)) W.heap.size b s := ⟨by simp, by simp, by simp⟩
/-- What stands behind the table's turn. -/
structure HI (l : List R3) (w : World) (g bm B x : Nat) (v : Value) (k : Nat) (r : R3) (m : M) (W : World) : Prop where
  tab : Tab W g bm m
  perm : (keys m).Perm (refStep (refRun (l.take k)) r)
  own : W.ownsRow B 28 3 v (refRun (l.take k)).length (flat3 (refRun (l.take k)))
  rc : Rec W x r.1 r.2.1
  bel : Below w.heap.size w W
  hg : w.heap.size ≤ g ∧ g < B
  hm : w.heap.size ≤ bm ∧ bm < B
  hB : B ≤ W.heap.size
theorem HI.later {l : List R3} {w : World} {g bm B x : Nat} {v : Value} {k : Nat} {r : R3} {m : M} {W W' : World} (h : HI l w g bm B x v k r m W) (hb : Below W.heap.size W W') : HI l w g bm B x v k r m W' :=
  ⟨h.tab.later hb h.tab.lt.1 h.tab.lt.2, h.perm, h.own.kept (row := none) ⟨hb.os, hb.tape, hb.output, hb.size, fun k hk _ => hb.block k hk⟩ (by cases v.ownBlock <;> simp), h.rc.later hb, h.bel.trans (hb.mono h.bel.size), h.hg, h.hm, Nat.le_trans h.hB hb.size⟩
theorem LI3.turn {l : List R3} (hok : OkR l) {w : World} {g bm B x : Nat} {v : Value} {k : Nat} {r : R3} {m : M} {W W' : World} (h : LI3 l w g bm B v k m W) (hx : Rec W x r.1 r.2.1) (hxB : B ≤ x) (hT : Tab W' g bm (tabStep m r)) (hg : W.grownBy W' (some bm)) : HI l w g bm B x v k r (tabStep m r) W' :=
  ⟨hT, step_perm h.perm h.tab.map.nodup (refRun_pos hok k), h.own.kept hg (by
    cases hv : v.ownBlock with
    | none => exact .inl rfl
    | some j => exact .inr (fun e => by have := (h.own.lt j hv).1; cases e; have := h.hm; omega)),
    hx.of_heap (hg.block x hx.lt (fun e => by cases e; have := h.hm; omega)), h.bel.grown hg h.bel.size (fun j hj => by cases hj; exact h.hm.1), h.hg, h.hm, Nat.le_trans h.hB hg.size⟩
theorem own_shape {W : World} {base e size n : Nat} {v : Value} {xs : List Value} (h : W.ownsRow base e size v n xs) : ∃ ao cap, v = .slice ao n cap := by
  rcases h.2 with ⟨rfl, rfl⟩ | ⟨g, cap, cur, rfl, _⟩
  · exact ⟨none, 0, rfl⟩
  · exact ⟨_, cap, rfl⟩
theorem own_cells {W : World} {base : Nat} {ml : List K} {ao : Option Addr} {n cap : Nat} (h : W.ownsRow base 28 3 (.slice ao n cap) ml.length (flat3 ml)) (hpos : 0 < ml.length) :
    ∃ gv, ao = some ⟨gv, 0, none⟩ ∧ n ≤ cap ∧ cap ≤ maxLen ∧ gv < W.heap.size ∧ ∀ i y, ml[i]? = some y → W.cell? ⟨gv, i * 3, none⟩ = some (.int .i64 y.1) ∧ W.cell? ⟨gv, i * 3 + 1, none⟩ = some (.int .u32 y.2) ∧ W.cell? ⟨gv, i * 3 + 2, none⟩ = some (.bool false) := by
  have hc := @World.ownsRow.cells _ _ _ _ _ _ _ h
  rcases h.2 with ⟨hv, h0⟩ | ⟨g, cap', cur, hv, hb, hg, h1, h2, _⟩
  · omega
  · cases hv
    refine ⟨g, rfl, h1, h2, (Array.getElem?_eq_some_iff.1 hg).1, fun i y hy => ?_⟩
    obtain ⟨f0, f1, f2⟩ := flat3_get hy
    have ea : ∀ j, (⟨g, 0, none⟩ : Addr).add j = ⟨g, j, none⟩ := fun j => by unfold Addr.add; split <;> simp_all
    have hc' := hc (g := g) rfl
    exact ⟨by rw [← ea]; exact hc' _ _ f0, by rw [← ea]; exact hc' _ _ f1, by rw [← ea]; exact hc' _ _ f2⟩
theorem own_later {W W' : World} {base e size n : Nat} {v : Value} {xs : List Value} (h : W.ownsRow base e size v n xs) (hb : Below W.heap.size W W') : W'.ownsRow base e size v n xs :=
  h.kept (row := none) ⟨hb.os, hb.tape, hb.output, hb.size, fun k hk _ => hb.block k hk⟩ (by cases v.ownBlock <;> simp)
theorem own_mono {W : World} {base base' e size n : Nat} {v : Value} {xs : List Value} (h : W.ownsRow base e size v n xs) (hb : base' ≤ base) : W.ownsRow base' e size v n xs := by
  refine ⟨h.1, ?_⟩
  rcases h.2 with hn | ⟨g, cap, cur, h1, h2, rest⟩
  · exact .inl hn
  · exact .inr ⟨g, cap, cur, h1, by omega, rest⟩
theorem cell_three_new (w : World) (a b c : Value) (t : TypeId) : ∀ j u, [a, b, c][j]? = some u → (w.alloc (.cells #[a, b, c] t)).cell? ((⟨w.heap.size, 0, none⟩ : Addr).add j) = some u := by
  intro j u hj
  match j, hj with
  | 0, hj => simp at hj; subst hj; simp [Addr.add]
  | 1, hj => simp at hj; subst hj; simp [Addr.add]
  | 2, hj => simp at hj; subst hj; simp [Addr.add]
  | j + 3, hj => simp at hj
theorem HI.next {l : List R3} {w : World} {g bm B x C : Nat} {v v' : Value} {k : Nat} {r : R3} {m : M} {W : World} (h : HI l w g bm B x v k r m W) (hr : l[k]? = some r) (ho : W.ownsRow C 28 3 v' (refStep (refRun (l.take k)) r).length (flat3 (refStep (refRun (l.take k)) r))) (hBC : B ≤ C) : LI3 l w g bm B v' (k + 1) m W := by
  have e : refRun (l.take (k + 1)) = refStep (refRun (l.take k)) r := by rw [take_snoc hr, refRun_snoc]
  exact ⟨h.tab, by rw [e]; exact h.perm, by rw [e]; exact own_mono ho hBC, h.bel, h.hg, h.hm, h.hB⟩
theorem ref_yes (ml : List K) (b s : Int) (h : 0 ≤ b) : refStep ml (b, s, false) = strike ml (b, s) ++ [(b, s)] := by simp [refStep, h]
theorem ref_neg (ml : List K) (b s : Int) (h : ¬ 0 ≤ b) : refStep ml (b, s, false) = strike ml (b, s) := by simp [refStep, h]
theorem ref_cancel (ml : List K) (b s : Int) : refStep ml (b, s, true) = strike ml (b, s) := by simp [refStep]
/-- An append to what is the call's own, behind a row's block. -/
theorem below_app {C : Nat} {W0 W W1 W' : World} {v : Value} {e size n : Nat} {xs : List Value} (hb : Below C W0 W) (hC : C ≤ W.heap.size) (ho : W.ownsRow C e size v n xs) (hW : Below W.heap.size W W1) (hg : W1.grownBy W' v.ownBlock) : Below C W0 W' :=
  (hb.trans (hW.mono hC)).grown hg (Nat.le_trans hC hW.size) (fun k hk => (ho.lt k hk).1)
theorem neq28 (b s b' s' : Int) : ∀ w, (binOp .neq 28 (.agg #[.int .i64 b, .int .u32 s, .bool false]) (.agg #[.int .i64 b', .int .u32 s', .bool false])).run Try.prog w = .ok (.bool (decide ((b, s) ≠ (b', s')))) w := by
  intro w
  have hf : (Try.prog.fieldsOf 28).toList = [{ name := "Block", type := 3, offset := 0, embedded := false, tag := "", pkgPath := "", byteOffset := 0 }, { name := "Seq", type := 23, offset := 1, embedded := false, tag := "", pkgPath := "", byteOffset := 8 }, { name := "Cancel", type := 4, offset := 2, embedded := false, tag := "", pkgPath := "", byteOffset := 12 }] := by kernel_rfl
  rw [run_neq_struct, show (10000 : Nat) = 9999 + 1 from rfl, run_equalIn_struct w 9999 28 _ _ (by kernel_rfl) (by kernel_rfl), hf]
  have e3 : ∀ (a b : Int) (w : World), (Op.equalIn 9999 3 (.int .i64 a) (.int .i64 b)).run Try.prog w = .ok (a == b) w := fun a b w => run_equalIn_int w 9998 3 _ _ _ _ Try.underlying3
  have e23 : ∀ (a b : Int) (w : World), (Op.equalIn 9999 23 (.int .u32 a) (.int .u32 b)).run Try.prog w = .ok (a == b) w := fun a b w => run_equalIn_int w 9998 23 _ _ _ _ Try.underlying23
  have e4 : ∀ (a b : Bool) (w : World), (Op.equalIn 9999 4 (.bool a) (.bool b)).run Try.prog w = .ok (a == b) w := fun a b w => run_equalIn_bool w 9998 4 _ _ Try.underlying4
  simp [Op.eqFields, part, isAgg, run_underlying Try.underlying3, run_underlying Try.underlying23, run_underlying Try.underlying4, e3, e23, e4]
  by_cases h1 : b = b'
  · subst h1
    by_cases h2 : s = s'
    · subst h2; simp
    · simp [h2]
  · simp [h1]
def LaidPost (l : List R3) (w : World) (e : Ending) (w' : World) : Prop := ∃ g bm B v m, e = .returned (.tuple #[.pointer (some ⟨g, 0, none⟩), v]) ∧ LI3 l w g bm B v l.length m w'
set_option maxRecDepth 100000 in
theorem laid_any (l : List R3) (hl : l.length ≤ 200) (hok : OkR l) (v : Value) (w : World) (h : Recs w v l) :
    Calls Try.prog 9 #[v] w (LaidPost l w) := by
  obtain ⟨ao, cap, rfl, hlc, hcm, hcell⟩ := h.ex
  have HR := Lib.hid h
  have hcH := Lib.hid hcell
  have hokH := Lib.hid hok
  clear h hcell hok
  obtain ⟨i0, hi0, hz0, hz1, hz2⟩ := info_parts info28
  go_enter Try.func9, Try.ntmps9
  go_wp2_with (go_at_call 14; refine (new_tab _).mono ?_; rintro e w1 ⟨g, bm, rfl, hT, hg, hbm, hB⟩; have T := Lib.hid hT; have Bl := Lib.hid hB; clear hT hB)
  go_loopw [5, 6] (fun v5 v6 W => ∃ k m, v6 = .int .i64 (k : Nat) ∧ k ≤ l.length ∧ LI3 l w g bm w1.heap.size v5 k m W) (fun _ v6 _ => (l.length - intOf v6).toNat)
  case atStart =>
    exact ⟨0, [], rfl, by omega, ⟨T.out, by simp [keys, refRun], World.ownsRow_nil _ _ _ _, Bl.out, ⟨hg, T.out.lt.1⟩, ⟨hbm, T.out.lt.2⟩, Nat.le_refl _⟩⟩
  case round =>
    obtain ⟨k, m, rfl, hk, hI⟩ := hrel
    have hIH := Lib.hid hI
    clear hI
    obtain ⟨ao5, cap5, rfl⟩ := own_shape hIH.out.own
    have hlen := refRun_len l k
    by_cases hkl : k < l.length
    · obtain ⟨A, off, rfl, hc⟩ := hcH.out (by omega)
      obtain ⟨⟨b, s, c⟩, hr⟩ : ∃ r, l[k]? = some r := ⟨_, List.getElem?_eq_getElem hkl⟩
      have hrH := Lib.hid hr
      obtain ⟨a0, a1, a2⟩ := hc k _ hr
      have hA : A < w.heap.size := World.block_lt_of_cell? w _ a0
      have keep : Hid (∀ W, Below w.heap.size w W → W.cell? ⟨A, off + k * 3, none⟩ = some (.int .i64 b) ∧ W.cell? ⟨A, off + k * 3 + 1, none⟩ = some (.int .u32 s) ∧ W.cell? ⟨A, off + k * 3 + 2, none⟩ = some (.bool c)) := fun W hb =>
        ⟨(World.cell?_of_block (hb.block A hA)).trans a0, (World.cell?_of_block (hb.block A hA)).trans a1, (World.cell?_of_block (hb.block A hA)).trans a2⟩
      clear a0 a1 a2 hc hr
      obtain ⟨a0, a1, a2⟩ := keep.out _ hIH.out.bel
      have hb6 : Below w.heap.size w (wr.alloc (.cells #[.int .i64 0, .int .u32 0, .bool false] 28)) := hIH.out.bel.alloc hIH.out.bel.size _
      obtain ⟨a3, a4, a5⟩ := keep.out _ hb6
      clear hb6
      go_wp2_with fail
      go_region
      clear a0 a1 a2 a3 a4 a5
      have I6 : Hid (LI3 l w g bm w1.heap.size (.slice ao5 (refRun (l.take k)).length cap5) k m (wr.alloc (.cells #[.int .i64 b, .int .u32 s, .bool false] 28)).drew) := hIH.out.later (((Below.refl _ _).alloc (Nat.le_refl _) _).drew)
      have X6 : Hid (Rec (wr.alloc (.cells #[.int .i64 b, .int .u32 s, .bool false] 28)).drew wr.heap.size b s) := (Rec.new wr b s 28).later (Below.refl _ _).drew
      generalize (wr.alloc (.cells #[.int .i64 b, .int .u32 s, .bool false] 28)).drew = W6 at I6 X6 ⊢
      have hxB := hIH.out.hB
      generalize wr.heap.size = x at X6 hxB ⊢
      obtain ⟨a0, a1, a2⟩ := keep.out _ I6.out.bel
      cases c
      all_goals
        go_wp2_with fail
        have q0 : ∀ q : Later W6, q.x.cell? ⟨A, off + k * 3, none⟩ = some (.int .i64 b) := fun q => (keep.out _ (I6.out.bel.trans (q.h.mono I6.out.bel.size))).1
        have q1 : ∀ q : Later W6, q.x.cell? ⟨A, off + k * 3 + 1, none⟩ = some (.int .u32 s) := fun q => (keep.out _ (I6.out.bel.trans (q.h.mono I6.out.bel.size))).2.1
        refine wp_region_head 11 (by kernel_rfl) (by kernel_rfl) ?_
        simp only [List.take_succ_cons, List.take_zero, List.drop_succ_cons, List.drop_zero]
        repeat (first | go_big_quiet_step (fail) | quiet_step (fail))
        refine wpQuiet_nil ?_
        rintro ⟨W7, hW7⟩
        dsimp only
        have I7 := Lib.hid (I6.out.later hW7)
        have X7 := Lib.hid (X6.out.later hW7)
        clear q0 q1 hW7
        go_wp2_with (first
          | (go_at_call 20; refine (add_tab g bm m b s _ I7.out.tab).mono ?_; rintro e W8 ⟨rfl, hT8, hg8⟩; have H8 : Hid (HI l w g bm w1.heap.size x (.slice ao5 (refRun (l.take k)).length cap5) k (b, s, false) (tabStep m (b, s, false)) W8) := I7.out.turn (r := (b, s, false)) hokH.out X7.out hxB hT8 hg8; clear hT8 hg8)
          | (go_at_call 21; refine (cancel_tab g bm m b s _ I7.out.tab).mono ?_; rintro e W8 ⟨rfl, hT8, hg8⟩; have H8 : Hid (HI l w g bm w1.heap.size x (.slice ao5 (refRun (l.take k)).length cap5) k (b, s, true) (tabStep m (b, s, true)) W8) := I7.out.turn (r := (b, s, true)) hokH.out X7.out hxB hT8 hg8; clear hT8 hg8))
        go_loopw [8, 9] (fun v8 v9 W => ∃ j, v9 = .int .i64 (j : Nat) ∧ j ≤ (refRun (l.take k)).length ∧ Below W8.heap.size W8 W ∧ W.ownsRow W8.heap.size 28 3 v8 (strike ((refRun (l.take k)).take j) (b, s)).length (flat3 (strike ((refRun (l.take k)).take j) (b, s)))) (fun _ v9 _ => ((refRun (l.take k)).length - intOf v9).toNat)
        case atStart => exact ⟨0, rfl, by omega, Below.refl _ _, by simpa [strike, flat3] using World.ownsRow_nil W8 W8.heap.size 28 3⟩
        case round =>
          obtain ⟨j, rfl, hj, hbl, hown⟩ := hrel
          have HB := Lib.hid hbl
          have HO := Lib.hid hown
          have HW := Lib.hid (H8.out.later hbl)
          clear hbl hown
          by_cases hjn : j < (refRun (l.take k)).length
          · obtain ⟨gv, rfl, hc1, hc2, hgv, hcs⟩ := own_cells HW.out.own (by omega)
            obtain ⟨⟨yb, ys⟩, hy⟩ : ∃ y, (refRun (l.take k))[j]? = some y := ⟨_, List.getElem?_eq_getElem hjn⟩
            have hyH := Lib.hid hy
            obtain ⟨c0, c1, c2⟩ := hcs j _ hy
            clear hcs hy
            have nq := neq28 yb ys b s
            have hlenS : (strike ((refRun (l.take k)).take j) (b, s)).length ≤ 200 := by
              have h1 : (strike ((refRun (l.take k)).take j) (b, s)).length ≤ ((refRun (l.take k)).take j).length := List.length_filter_le _ _
              rw [List.length_take] at h1
              omega
            have hst := Lib.hid (strike_take (x := (b, s)) hyH.out)
            by_cases hyx : (yb, ys) = (b, s)
            · have nq2 : decide ((yb, ys) ≠ (b, s)) = false := by simpa using hyx
              rw [nq2] at nq
              go_wp2_with fail
              have p0 : ∀ q : Later wr, q.x.cell? ⟨gv, j * 3, none⟩ = some (.int .i64 yb) := fun q => (World.cell?_of_block (q.h.block gv hgv)).trans c0
              have p1 : ∀ q : Later wr, q.x.cell? ⟨gv, j * 3 + 1, none⟩ = some (.int .u32 ys) := fun q => (World.cell?_of_block (q.h.block gv hgv)).trans c1
              have p2 : ∀ q : Later wr, q.x.cell? ⟨gv, j * 3 + 2, none⟩ = some (.bool false) := fun q => (World.cell?_of_block (q.h.block gv hgv)).trans c2
              have r0 : ∀ q : Later wr, q.x.cell? ⟨x, 0, none⟩ = some (.int .i64 b) := fun q => (HW.out.rc.later q.h).c0
              have r1 : ∀ q : Later wr, q.x.cell? ⟨x, 1, none⟩ = some (.int .u32 s) := fun q => (HW.out.rc.later q.h).c1
              have r2 : ∀ q : Later wr, q.x.cell? ⟨x, 2, none⟩ = some (.bool false) := fun q => (HW.out.rc.later q.h).c2
              refine wp_region_later (by kernel_rfl) (by kernel_rfl) ?_
              repeat (first | go_big_quiet_step (fail) | quiet_step (fail))
              refine wpQuiet_nil ?_
              rintro ⟨W9, hW9⟩
              dsimp only
              clear p0 p1 p2 r0 r1 r2 c0 c1 c2
              have hWH := Lib.hid hW9
              clear hW9
              go_wp2_with fail
              refine ⟨⟨j + 1, rfl, by omega, HB.out.trans (hWH.out.mono HB.out.size), ?_⟩, by simp [intOf]; omega⟩
              rw [hst.out, if_pos hyx]
              exact own_later HO.out hWH.out
            · have nq2 : decide ((yb, ys) ≠ (b, s)) = true := decide_eq_true hyx
              rw [nq2] at nq
              go_wp2_with fail
              have p0 : ∀ q : Later wr, q.x.cell? ⟨gv, j * 3, none⟩ = some (.int .i64 yb) := fun q => (World.cell?_of_block (q.h.block gv hgv)).trans c0
              have p1 : ∀ q : Later wr, q.x.cell? ⟨gv, j * 3 + 1, none⟩ = some (.int .u32 ys) := fun q => (World.cell?_of_block (q.h.block gv hgv)).trans c1
              have p2 : ∀ q : Later wr, q.x.cell? ⟨gv, j * 3 + 2, none⟩ = some (.bool false) := fun q => (World.cell?_of_block (q.h.block gv hgv)).trans c2
              have r0 : ∀ q : Later wr, q.x.cell? ⟨x, 0, none⟩ = some (.int .i64 b) := fun q => (HW.out.rc.later q.h).c0
              have r1 : ∀ q : Later wr, q.x.cell? ⟨x, 1, none⟩ = some (.int .u32 s) := fun q => (HW.out.rc.later q.h).c1
              have r2 : ∀ q : Later wr, q.x.cell? ⟨x, 2, none⟩ = some (.bool false) := fun q => (HW.out.rc.later q.h).c2
              refine wp_region_later (by kernel_rfl) (by kernel_rfl) ?_
              repeat (first | go_big_quiet_step (fail) | quiet_step (fail))
              refine wpQuiet_nil ?_
              rintro ⟨W9, hW9⟩
              dsimp only
              clear p0 p1 p2 r0 r1 r2
              have hWH := Lib.hid hW9
              clear hW9
              have HO9 := Lib.hid (own_later HO.out hWH.out)
              have e0 := (World.cell?_of_block (hWH.out.block gv hgv)).trans c0
              have e1 := (World.cell?_of_block (hWH.out.block gv hgv)).trans c1
              have e2 := (World.cell?_of_block (hWH.out.block gv hgv)).trans c2
              have hC9 := Lib.hid (Nat.le_trans HB.out.size hWH.out.size)
              go_wp2_with (at_builtin; refine wpList_append_own_at _ rfl _ _ 22 rfl W8.heap.size 28 i0 (.agg #[.int .i64 0, .int .u32 0, .bool false]) 3 16 Try.underlying22 hi0 hz0 hz1 hz2 rfl (by decide) _ _ _ rfl (HO9.out.alloc _) ⟨W9.heap.size, 0, none⟩ 1 1 [.int .i64 yb, .int .u32 ys, .bool false] rfl rfl (cell_three_new _ _ _ _ _) (fun x hx => by simp at hx; rcases hx with rfl | rfl | rfl <;> rfl) (by unfold maxLen; omega) (by omega) (by have := hC9.out; simp; omega) ?_; intro v' W10 hown hgrow _ _; have O10 := Lib.hid hown; have B10 : Hid (Below W8.heap.size W8 W10) := below_app (HB.out.trans (hWH.out.mono HB.out.size)) hC9.out HO9.out ((Below.refl _ _).alloc (Nat.le_refl _) _) hgrow; clear hown hgrow)
              refine ⟨⟨j + 1, rfl, by omega, B10.out, ?_⟩, by simp [intOf]; omega⟩
              rw [hst.out, if_neg hyx, List.length_append, flat3_snoc]
              exact O10.out
          · obtain rfl : j = (refRun (l.take k)).length := by omega
            have HF : Hid (wr.ownsRow W8.heap.size 28 3 u8 (strike (refRun (l.take k)) (b, s)).length (flat3 (strike (refRun (l.take k)) (b, s)))) := by
              have := HO.out
              rwa [List.take_length] at this
            obtain ⟨a0, a1, a2⟩ := keep.out _ HW.out.bel
            obtain ⟨r0, r1, r2⟩ := HW.out.rc
            have hlenF : (strike (refRun (l.take k)) (b, s)).length ≤ 200 := by
              have h1 : (strike (refRun (l.take k)) (b, s)).length ≤ (refRun (l.take k)).length := List.length_filter_le _ _
              omega
            have hC8 := Lib.hid HB.out.size
            have hBC := Lib.hid H8.out.hB
            by_cases hb0 : 0 ≤ b
            · go_wp2_with (at_builtin; refine wpList_append_own_at _ rfl _ _ 22 rfl W8.heap.size 28 i0 (.agg #[.int .i64 0, .int .u32 0, .bool false]) 3 16 Try.underlying22 hi0 hz0 hz1 hz2 rfl (by decide) _ _ _ rfl (HF.out.alloc _) ⟨wr.heap.size, 0, none⟩ 1 1 [.int .i64 b, .int .u32 s, .bool false] rfl rfl (cell_three_new _ _ _ _ _) (fun x hx => by simp at hx; rcases hx with rfl | rfl | rfl <;> rfl) (by unfold maxLen; omega) (by omega) (by have := hC8.out; simp; omega) ?_; intro v' W10 hown hgrow _ _; have O10 := Lib.hid hown; have B10 : Hid (Below W8.heap.size W8 W10) := below_app HB.out hC8.out HF.out ((Below.refl _ _).alloc (Nat.le_refl _) _) hgrow; clear hown hgrow)
              first
                | exact ⟨⟨k + 1, _, rfl, by omega, HW.out.next hrH.out (by rw [ref_cancel]; exact HF.out) hBC.out⟩, by simp [intOf]; omega⟩
                | exact ⟨⟨k + 1, _, rfl, by omega, (H8.out.later B10.out).next hrH.out (by rw [ref_yes _ _ _ hb0, List.length_append, flat3_snoc]; exact O10.out) hBC.out⟩, by simp [intOf]; omega⟩
            · go_wp2_with fail
              first
                | exact ⟨⟨k + 1, _, rfl, by omega, HW.out.next hrH.out (by rw [ref_cancel]; exact HF.out) hBC.out⟩, by simp [intOf]; omega⟩
                | exact ⟨⟨k + 1, _, rfl, by omega, HW.out.next hrH.out (by rw [ref_neg _ _ _ hb0]; exact HF.out) hBC.out⟩, by simp [intOf]; omega⟩
    · obtain rfl : k = l.length := by omega
      go_wp2_with fail
      refine bodyPost_ret (results_tmp2 rfl _ _ _) rfl ⟨g, bm, w1.heap.size, _, m, rfl, hIH.out⟩
end Go.Proofs.Ytlnfjcbhicdceaa
