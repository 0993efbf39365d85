/- geo.What, walked: the kind that it tells. A geometry that may be. -/
import Derived.Test.YtdeeegodiacjgaaQ1
import Derived.Test.YtdeeegodiacjgaaFork
namespace Go.Proofs.Ytdeeegodiacjgaa
open Go.RowKit Go.Shelf
attribute [local go_sem] Oper.semAt_some
theorem results_cell3 {fn : Func} {p q r : Tmp} (h : fn.results = #[.cell p 5, .cell q 3, .cell r 3]) (tmps : Array Value) (w : World) (g1 g2 g3 : Nat) (k a b : Int)
    (h1 : tmps.getD p undef = .pointer (some ⟨g1, 0, none⟩)) (h2 : tmps.getD q undef = .pointer (some ⟨g2, 0, none⟩)) (h3 : tmps.getD r undef = .pointer (some ⟨g3, 0, none⟩))
    (c1 : w.cell? ⟨g1, 0, none⟩ = some (.int .u8 k)) (c2 : w.cell? ⟨g2, 0, none⟩ = some (.int .i64 a)) (c3 : w.cell? ⟨g3, 0, none⟩ = some (.int .i64 b)) : (results fn tmps).run Try.prog w = .ok (.tuple #[.int .u8 k, .int .i64 a, .int .i64 b]) w := by
  have h1' : tmps[p]?.getD undef = .pointer (some ⟨g1, 0, none⟩) := by simpa using h1
  have h2' : tmps[q]?.getD undef = .pointer (some ⟨g2, 0, none⟩) := by simpa using h2
  have h3' : tmps[r]?.getD undef = .pointer (some ⟨g3, 0, none⟩) := by simpa using h3
  have a5 : (isAgg 5).run Try.prog w = .ok false w := by unfold isAgg; rw [Sem.run_bind, run_underlying Try.underlying5 w]; rfl
  have a3 : (isAgg 3).run Try.prog w = .ok false w := by unfold isAgg; rw [Sem.run_bind, run_underlying Try.underlying3 w]; rfl
  simp [results, h, h1', h2', h3', asAddr, loadVar, Sem.run_bind, a5, a3, c1, c2, c3, go_sem]
theorem whole_n' {w : World} {n : Nat} (hn : w.heap.size = n) (cs : Array Value) (t : TypeId) : Whole (w.alloc (.cells cs t)) n cs t := by subst hn; exact Whole.new w cs t
def WhPost (k : Int) (w : World) (e : Ending) (w' : World) : Prop := ∃ a b : Int, e = .returned (.tuple #[.int .u8 k, .int .i64 a, .int .i64 b]) ∧ Below w.heap.size w w'
theorem bodyPostM_ret0 {P : Program} {fn : Func} {R : Ending → World → Prop} {a : Act} {w : World} {v : Value} (hd : a.defers = [])
    (hr : (results fn a.tmps).run P w = .ok v w) (hR : R (.returned v) w) : bodyPostM Fence.wide 9 P fn R .ret a w := by
  show LeavesInM Fence.wide 9 P fn a.tmps R a.defers .returning w
  rw [hd]
  exact ⟨v, hr, hR⟩
theorem calls_marks {P : Program} {f : FuncId} {fn : Func} {c : Code} {args : Array Value} {w : World} {R : Ending → World → Prop} (hf : P.funcs[f]? = some fn) (hb : fn.body = some c)
    (h : c.wp P (bodyPostM Fence.wide 9 P fn R) { tmps := args ++ Array.replicate (fn.ntmps - args.size) undef, defers := [] } w) : Calls P f args w R :=
  (callsIn_wide (n := 9)).1 (callsIn_of_wp_marks hf hb trivial (wpIn_wide.2 h) rfl)
/-- The geometry's box and the three results. -/
structure WB (w : World) (G S I J : Nat) (k a b : Int) (W : World) : Prop where
  box : Whole W w.heap.size #[.int .i64 G, .int .i64 S, .int .i64 (4 * (I : Int)), .int .i64 J] 43
  r1 : Whole W (w.heap.size + 1) #[.int .u8 k] 5
  r2 : Whole W (w.heap.size + 2) #[.int .i64 a] 3
  r3 : Whole W (w.heap.size + 3) #[.int .i64 b] 3
  bel : Below w.heap.size w W
theorem WB.later {w : World} {G S I J : Nat} {k a b : Int} {W W' : World} (h : WB w G S I J k a b W) (hb : Below W.heap.size W W') : WB w G S I J k a b W' :=
  ⟨h.box.later hb, h.r1.later hb, h.r2.later hb, h.r3.later hb, h.bel.trans (hb.mono h.bel.size)⟩
theorem WB.put {w : World} {G S I J : Nat} {k a b k' a' b' : Int} {W : World} (h : WB w G S I J k a b W) : WB w G S I J k' a' b' (((W.setCell ⟨w.heap.size + 1, 0, none⟩ (.int .u8 k')).setCell ⟨w.heap.size + 2, 0, none⟩ (.int .i64 a')).setCell ⟨w.heap.size + 3, 0, none⟩ (.int .i64 b')) := by
  refine ⟨((h.box.set_other _ _ (by simp)).set_other _ _ (by simp)).set_other _ _ (by simp), ((h.r1.set 0 _).set_other _ _ (by simp)).set_other _ _ (by simp), ((h.r2.set_other _ _ (by simp)).set 0 _).set_other _ _ (by simp), ((h.r3.set_other _ _ (by simp)).set_other _ _ (by simp)).set 0 _, ?_⟩
  exact ((h.bel.setCell (by simp) _).setCell (by simp) _).setCell (by simp) _
/-- What stands while the parts are told. -/
structure WQ (w : World) (G S I J : Nat) (k a b : Int) (q r g7 g8 Bs : Nat) (W : World) : Prop where
  wb : WB w G S I J k a b W
  z7 : Whole W g7 #[.int .i64 (q : Int)] 3
  z8 : Whole W g8 #[.int .i64 (r : Int)] 3
  bs : Bs < W.heap.size
theorem Whole.kept {W W' : World} {row : Option Nat} {g : Nat} {cs : Array Value} {t : TypeId} (h : Whole W g cs t) (hg : W.grownBy W' row) (hr : ∀ r, row = some r → ∃ o : Obj, W.heap[r]? = some o ∧ o.isCells = false) : Whole W' g cs t :=
  (grownBy_keeps_cells hg hr h rfl).trans h
theorem WQ.kept {w : World} {G S I J : Nat} {k a b : Int} {q r g7 g8 Bs B : Nat} (hB : w.heap.size ≤ B) {W W' : World} {row : Option Nat} (h : WQ w G S I J k a b q r g7 g8 Bs W) (hg : W.grownBy W' row)
    (hr : ∀ r, row = some r → B ≤ r ∧ ∃ o : Obj, W.heap[r]? = some o ∧ o.isCells = false) : WQ w G S I J k a b q r g7 g8 Bs W' := by
  have hr' : ∀ r, row = some r → ∃ o : Obj, W.heap[r]? = some o ∧ o.isCells = false := fun r e => (hr r e).2
  exact ⟨⟨h.wb.box.kept hg hr', h.wb.r1.kept hg hr', h.wb.r2.kept hg hr', h.wb.r3.kept hg hr', h.wb.bel.grown hg h.wb.bel.size (fun k e => Nat.le_trans hB (hr k e).1)⟩, h.z7.kept hg hr', h.z8.kept hg hr', Nat.lt_of_lt_of_le h.bs hg.size⟩
theorem WQ.later {w : World} {G S I J : Nat} {k a b : Int} {q r g7 g8 Bs : Nat} {W W' : World} (h : WQ w G S I J k a b q r g7 g8 Bs W) (hb : Below W.heap.size W W') : WQ w G S I J k a b q r g7 g8 Bs W' :=
  ⟨h.wb.later hb, h.z7.later hb, h.z8.later hb, Nat.lt_of_lt_of_le h.bs hb.size⟩
def NoP (r : Nat) (pre : List Pt) : Prop := ∀ y ∈ pre, ¬ ((r : Int) < y.2.1)
def IxQ (w : World) (G S I J q r g7 g8 Bs : Nat) (c : Code) (pre : List Pt) (W : World) : Prop := c = .ret ∧ ∃ p y, pre = p ++ [y] ∧ (∀ z ∈ p, ¬ ((r : Int) < z.2.1)) ∧ (r : Int) < y.2.1 ∧ WQ w G S I J y.2.2 q r q r g7 g8 Bs W
theorem pts_last {I S : Nat} {p : List Pt} {y : Pt} {k : Nat} (hk : k ≤ 4) (h : p ++ [y] = (pts I S).take k) :
    (p = [] ∧ y = (0, 1, 4)) ∨ (p = [(0, 1, 4)] ∧ y = (1, 2, 5)) ∨ (p = [(0, 1, 4), (1, 2, 5)] ∧ y = (2, 2 + (I : Int), 6)) ∨ (p = [(0, 1, 4), (1, 2, 5), (2, 2 + (I : Int), 6)] ∧ y = (2 + (I : Int), (S : Int), 7)) := by
  have h4 : k = 0 ∨ k = 1 ∨ k = 2 ∨ k = 3 ∨ k = 4 := by omega
  rcases h4 with rfl | rfl | rfl | rfl | rfl
  · simp at h
  · have h' : p ++ [y] = [] ++ [(0, 1, 4)] := h
    obtain ⟨rfl, h2⟩ := List.append_inj' h' rfl
    simp at h2
    exact .inl ⟨rfl, h2⟩
  · have h' : p ++ [y] = [(0, 1, 4)] ++ [(1, 2, 5)] := h
    obtain ⟨rfl, h2⟩ := List.append_inj' h' rfl
    simp at h2
    exact .inr (.inl ⟨rfl, h2⟩)
  · have h' : p ++ [y] = [(0, 1, 4), (1, 2, 5)] ++ [(2, 2 + (I : Int), 6)] := h
    obtain ⟨rfl, h2⟩ := List.append_inj' h' rfl
    simp at h2
    exact .inr (.inr (.inl ⟨rfl, h2⟩))
  · have h' : p ++ [y] = [(0, 1, 4), (1, 2, 5), (2, 2 + (I : Int), 6)] ++ [(2 + (I : Int), (S : Int), 7)] := h
    obtain ⟨rfl, h2⟩ := List.append_inj' h' rfl
    simp at h2
    exact .inr (.inr (.inr ⟨rfl, h2⟩))
theorem wp_rangeFuncH {P : Program} {α : Type} {g : Operand} {ps : Array Tmp} {assign body : Code} {Q : Exit → Act → World → Prop} {a : Act} {w : World}
    {gf : Nat} {lb : Array Value} (hg : a.eval g = .func (.func gf) #[] lb) (eg : ∀ args w, (callFunc gf args).run P w = .ok (.enter gf args) w)
    {encs : α → Array Value} {Kp : World → World → Prop} {S Sp : List α → Prop} {N : Nat} {w0 : World} (hseq : SeqStopsK Fence.wide 8 P gf lb encs Kp S Sp N w0)
    (hKt : ∀ {A B C : World}, Kp A B → Kp B C → Kp A C) (hKb : ∀ (W : World) (l : Nat) (o o' : Obj), w.heap.size ≤ l → W.heap[l]? = some o → o.isCells = false → o.isWalk = false → Kp W (W.putObj l o')) (hb0 : Below w0.heap.size w0 w) (hps : ∀ x, (encs x).size = ps.size)
    (I : List α → World → Prop) (Ix : Code → List α → World → Prop) (hI : OwnFrom w.heap.size I) (hIx : ∀ c, OwnFrom w.heap.size (Ix c)) (h0 : I [] w) (Ax : α → Act → World → Prop) (hAx : ∀ x a', OwnFrom w.heap.size (fun (_ : Unit) W => Ax x a' W))
    (hassign : ∀ (l : Nat) (pre : List α) (x : α) (W : World) (K : Act → World → Prop), I pre W → (∀ a' W', KeepsFrom w.heap.size W W' → Kp W W' → I pre W' → Ax x a' W' → K a' W') →
      assign.wpIn (Fence.wide.inRound l) 7 P (Exit.then K (fun _ _ _ => False)) { tmps := (ps.zip (encs x)).foldl (fun t (p, v) => t.setIfInBounds p v) a.tmps, defers := [] } W)
    (hbody : ∀ (l : Nat) (pre : List α) (x : α) (a' : Act) (W : World), w.heap.size ≤ l → (∃ r, W.heap[l]? = some (.loop r)) → I pre W → Ax x a' W → pre.length < N → body.wpIn (Fence.wide.inRound l) 7 P (ownPostG w.heap.size Kp I Ix (pre ++ [x]) W) a' W)
    (hdone : ∀ (D : Nat) (xs : List α) (W : World), w.heap.size ≤ D → S xs → I xs W → W.heap[D]? = some (.deferred (some [])) → Q .normal { a with defers := { target := .collected D, args := #[] } :: a.defers } W)
    (hstop : ∀ (D : Nat) (c : Code) (pre : List α) (W : World), w.heap.size ≤ D → Sp pre → Ix c pre W → W.heap[D]? = some (.deferred (some [])) → c.wp P Q { a with defers := { target := .collected D, args := #[] } :: a.defers } W) :
    (Code.rangeFunc g ps assign body).wp P Q a w :=
  wpIn_wide.1 (wpIn_rangeFunc_ownH (F := Fence.wide) (n := 9) rfl (by omega) hg trivial eg hseq hKt hKb hb0 hps I Ix hI hIx h0 Ax hAx hassign hbody hdone (fun D c pre W h1 h2 h3 h4 => wpIn_wide.2 (hstop D c pre W h1 h2 h3 h4)))
/-- A function's end behind one range over a function. -/
theorem bodyPostM_ret {P : Program} {fn : Func} {R : Ending → World → Prop} {a : Act} {w w0 : World} {D : Nat} {v : Value} (hd : a.defers = [{ target := .collected D, args := #[] }])
    (hK : w.heap[D]? = some (.deferred (some []))) (hr : (results fn a.tmps).run P (w.putObj D (.deferred none)) = .ok v (w.putObj D (.deferred none)))
    (hb : Below w0.heap.size w0 w) (hD : w0.heap.size ≤ D) (hR : ∀ w', Below w0.heap.size w0 w' → R (.returned v) w') : bodyPostM Fence.wide 9 P fn R .ret a w := by
  show LeavesInM Fence.wide 9 P fn a.tmps R a.defers .returning w
  rw [hd]
  refine ⟨by simp, .inl ⟨_, _, rfl, run_takeDeferred hK, ?_⟩⟩
  exact ⟨v, hr, hR _ (hb.trans (belowK_b (w := w0) (Nat.le_refl _) w D _ _ hD hK rfl rfl))⟩

set_option maxRecDepth 100000 in
set_option maxHeartbeats 2000000 in
theorem what_tail (G S I J N c q r : Nat) (k1 : G ≤ 4) (k2 : S ≤ 512) (k3 : I ≤ 16) (k4 : J ≤ 256) (k5 : 3 + I ≤ S) (bb : Int) (w : World) (k : Int)
    (HK : Hid (r < 1 ∧ k = 4 ∨ r = 1 ∧ k = 5 ∨ 2 ≤ r ∧ r < 2 + I ∧ k = 6 ∨ 2 + I ≤ r ∧ k = 7)) (hNb : N ≤ 2400) (hrS : r < S)
    (hmay : Hid (∀ w, Calls Try.prog 40 #[.agg #[.int .i64 G, .int .i64 S, .int .i64 (4 * (I : Int)), .int .i64 J]] w fun e w' => e = .returned (.bool true) ∧ Below w.heap.size w w'))
    (hall : Hid (∀ w, Calls Try.prog 55 #[.agg #[.int .i64 G, .int .i64 S, .int .i64 (4 * (I : Int)), .int .i64 J]] w fun e w' => e = .returned (.int .i64 (N : Int)) ∧ Below w.heap.size w w'))
    (hamo : Hid (∀ w, Calls Try.prog 54 #[.int .i64 bb, .int .i64 0, .int .i64 ((N : Int) - 1)] w (fun e w' => e = .returned (.bool true) ∧ w' = w)))
    (wN : IntKind.i64.wrap ((N : Int) - 1) = (N : Int) - 1)
    (W0 : Hid (WB w G S I J 0 0 0 ((((w.alloc (.cells #[.int .i64 G, .int .i64 S, .int .i64 (4 * (I : Int)), .int .i64 J] 43)).alloc (.cells #[.int .u8 0] 5)).alloc (.cells #[.int .i64 0] 3)).alloc (.cells #[.int .i64 0] 3))))
    (n0 : (bb == 0) = false) (n1 : (bb == 1) = false) (b0 : ¬ bb = 0) (b1 : ¬ bb = 1) (wJ : IntKind.i64.wrap (2 + (J : Int)) = 2 + (J : Int)) (hbJ : ¬ (bb < 2 + (J : Int)))
    (wb : IntKind.i64.wrap (bb - (2 + (J : Int))) = (c : Int)) (hS0 : ((S : Int) == 0) = false) (hS1 : ¬ (S : Int) = 0) (hS2 : ¬ S = 0)
    (hq : c / S = q) (hr : c % S = r) (e1 : Int.tdiv (c : Int) (S : Int) = (q : Int)) (e2 : Int.tmod (c : Int) (S : Int) = (r : Int)) (e3 : (c : Int) / (S : Int) = (q : Int)) (e4 : (c : Int) % (S : Int) = (r : Int))
    (w5 : IntKind.i64.wrap (q : Int) = (q : Int)) (w6 : IntKind.i64.wrap (r : Int) = (r : Int)) :
    Calls Try.prog 67 #[.agg #[.int .i64 G, .int .i64 S, .int .i64 (4 * (I : Int)), .int .i64 J], .int .i64 bb] w (WhPost k w) := by
  refine calls_marks Try.func67 rfl ?_
  simp only [Try.ntmps67, List.size_toArray, List.length_cons, List.length_nil, Nat.reduceAdd, Nat.reduceSub, Array.replicate_succ, Array.replicate_zero, List.push_toArray, List.append_toArray, List.nil_append, List.cons_append]
  go_wp2_with (first
    | (go_at_call 40; refine (hmay.out _).mono ?_; rintro e w1 ⟨rfl, hb⟩; have W1 := Lib.hid (W0.out.later hb); clear hb; have c0 := W1.out.box.cell 0; have c1 := W1.out.box.cell 1; have c2 := W1.out.box.cell 2; have c3 := W1.out.box.cell 3)
    | (go_at_call 55; refine (hall.out _).mono ?_; rintro e w2 ⟨rfl, hb⟩; have W2 := Lib.hid (W1.out.later hb); clear hb)
    | (go_at_call 54; refine (hamo.out _).mono ?_; rintro e w3 ⟨rfl, rfl⟩; have p1 := W2.out.r1.cell 0; have p2 := W2.out.r2.cell 0; have p3 := W2.out.r3.cell 0; have q1 := W2.out.r1.free 0; have q2 := W2.out.r2.free 0; have q3 := W2.out.r3.free 0; have y0 := W2.out.box.cell 0; have y1 := W2.out.box.cell 1; have y2 := W2.out.box.cell 2; have y3 := W2.out.box.cell 3))
  have W3 := W2
  clear c0 c1 c2 c3 p1 p2 p3 q1 q2 q3 y0 y1 y2 y3 W1 W2
  have hne : Nonempty (Kept (fun w' => Below w3.heap.size w3 w')) := ⟨⟨w3, Below.refl _ _⟩⟩
  have f1 : ∀ p : Kept (fun w' => Below w3.heap.size w3 w'), p.x.cell? ⟨w.heap.size, 1, none⟩ = some (.int .i64 S) := fun p => (W3.out.box.later p.h).cell 1
  refine wp_region_tree (fun w' => Below w3.heap.size w3 w') (.one 0 0 (.one 0 1 (.one 1 2 (.one 0 3 (.one 0 4 (.one 0 5 (.one 1 6 (.one 0 7 (.fork 8 9 (.one 2 10 (.one 3 11 .done))))))))))) (by kernel_rfl) (by kernel_rfl) (Below.refl _ _).drew ?_
  repeat (first | (refine wpT_pure rfl (fun K hK => ?_); go_simp; refine hK _ ?_; clear hK K) | (refine wpT_held rfl (fun K hK => ?_); go_simp; refine hK _ ?_; clear hK K))
  refine wpT_fork rfl rfl (fun v7 v8 W => ∃ g7 g8, v7 = .pointer (some ⟨g7, 0, none⟩) ∧ v8 = .pointer (some ⟨g8, 0, none⟩) ∧ g7 ≠ g8 ∧ w3.heap.size ≤ g7 ∧ w3.heap.size ≤ g8 ∧ Whole W g7 #[.int .i64 0] 3 ∧ Whole W g8 #[.int .i64 0] 3 ∧ Below w3.heap.size w3 W) (fun K hK => ?_) (fun K hK => ?_) ?_
  · go_wp2_with fail
    have b5 : Hid (Below w3.heap.size w3 (w3.alloc (.cells #[.int .i64 0] 3)).drew) := ((Below.refl _ _).alloc (Nat.le_refl _) _).drew
    have l5 : Hid (Whole (w3.alloc (.cells #[.int .i64 0] 3)).drew w3.heap.size #[.int .i64 0] 3) := Whole.new w3 _ 3
    refine hK.out _ _ b5.out ?_
    clear hK K
    refine wpOp_fork rfl (fun K hK => ?_)
    go_wp2_with fail
    have b6 := b5.out.alloc b5.out.size (.cells #[.int .i64 0] 3)
    exact hK.out _ _ b6 ⟨_, _, rfl, w3.heap.size, _, rfl, rfl, by simp [World.drew], Nat.le_refl _, by simp [World.drew], l5.out.alloc _, whole_n' (by simp [World.drew]) _ 3, b6⟩
  · go_wp2_with fail
    have b5 : Hid (Below w3.heap.size w3 (w3.alloc (.cells #[.int .i64 0] 3)).drew) := ((Below.refl _ _).alloc (Nat.le_refl _) _).drew
    have l5 : Hid (Whole (w3.alloc (.cells #[.int .i64 0] 3)).drew w3.heap.size #[.int .i64 0] 3) := Whole.new w3 _ 3
    refine hK.out _ _ b5.out ?_
    clear hK K
    refine wpOp_fork rfl (fun K hK => ?_)
    go_wp2_with fail
    have b6 := b5.out.alloc b5.out.size (.cells #[.int .i64 0] 3)
    exact hK.out _ _ b6 ⟨_, _, rfl, _, w3.heap.size, rfl, rfl, by simp [World.drew], by simp [World.drew], Nat.le_refl _, whole_n' (by simp [World.drew]) _ 3, l5.out.alloc _, b6⟩
  rintro v7 v8 w6 ⟨g7, g8, rfl, rfl, hg78, hg7, hg8, hw7, hw8, hb6⟩
  have X7 := Lib.hid hw7
  have X8 := Lib.hid hw8
  have B6 := Lib.hid hb6
  have h7c := hw7.cell 0
  have h7f := hw7.free 0
  have h8c := (hw8.set_other ⟨g7, 0, none⟩ (.int .i64 (q : Int)) (fun e => hg78 e.symm)).cell 0
  have h8f := (hw8.set_other ⟨g7, 0, none⟩ (.int .i64 (q : Int)) (fun e => hg78 e.symm)).free 0
  clear hw7 hw8 hb6 f1 hne
  refine wpT_turn rfl (fun K hK => ?_)
  go_wp2_with fail
  refine hK.out _ _ (B6.out.setCell (by simpa using hg7) _) ?_
  clear hK K
  refine wpT_last rfl (fun K hK => ?_)
  go_wp2_with fail
  refine hK.out _ _ ?_
  clear hK K
  refine wpT_done ?_
  have Z7 : Hid (Whole ((w6.setCell ⟨g7, 0, none⟩ (.int .i64 (q : Int))).setCell ⟨g8, 0, none⟩ (.int .i64 (r : Int))) g7 #[.int .i64 (q : Int)] 3) := (X7.out.set 0 _).set_other _ _ hg78
  have Z8 : Hid (Whole ((w6.setCell ⟨g7, 0, none⟩ (.int .i64 (q : Int))).setCell ⟨g8, 0, none⟩ (.int .i64 (r : Int))) g8 #[.int .i64 (r : Int)] 3) := (X8.out.set_other _ _ (fun e => hg78 e.symm)).set 0 _
  have BZ : Hid (Below w3.heap.size w3 ((w6.setCell ⟨g7, 0, none⟩ (.int .i64 (q : Int))).setCell ⟨g8, 0, none⟩ (.int .i64 (r : Int)))) := (B6.out.setCell (by simpa using hg7) _).setCell (by simpa using hg8) _
  clear X7 X8 B6 h7c h7f h8c h8f
  generalize (w6.setCell ⟨g7, 0, none⟩ (.int .i64 (q : Int))).setCell ⟨g8, 0, none⟩ (.int .i64 (r : Int)) = w7 at Z7 Z8 BZ ⊢
  have W7 := Lib.hid (W3.out.later BZ.out)
  have y0 := W7.out.box.cell 0
  have y1 := W7.out.box.cell 1
  have y2 := W7.out.box.cell 2
  have y3 := W7.out.box.cell 3
  have hpf : Hid (∀ w, Calls Try.prog 81 #[.agg #[.int .i64 G, .int .i64 S, .int .i64 (4 * (I : Int)), .int .i64 J]] w fun e w' => e = .returned (.func (.func 90) #[] #[.pointer (some ⟨w.heap.size, 0, none⟩)]) ∧ w.alloc (.cells #[.int .i64 G, .int .i64 S, .int .i64 (4 * (I : Int)), .int .i64 J] 43) = w') := fun w => parts_fn ⟨G, S, 4 * (I : Int), J⟩ w
  go_wp2_with (go_at_call 81; refine (hpf.out _).mono ?_; rintro e w8 ⟨rfl, rfl⟩)
  have Q7 : Hid (WQ w G S I J 0 0 0 q r g7 g8 w7.heap.size (w7.alloc (.cells #[.int .i64 G, .int .i64 S, .int .i64 (4 * (I : Int)), .int .i64 J] 43))) := by
    have := WB.later W7.out ((Below.refl _ _).alloc (Nat.le_refl _) (.cells #[.int .i64 G, .int .i64 S, .int .i64 (4 * (I : Int)), .int .i64 J] 43))
    exact ⟨this, Z7.out.alloc _, Z8.out.alloc _, by simp⟩
  have hBx : Whole (w7.alloc (.cells #[.int .i64 G, .int .i64 S, .int .i64 (4 * (I : Int)), .int .i64 J] 43)) w7.heap.size #[.int .i64 G, .int .i64 S, .int .i64 (4 * (I : Int)), .int .i64 J] 43 := Whole.new _ _ _
  have l3 : w.heap.size + 3 < w3.heap.size := W3.out.r3.lt
  have l7 : w3.heap.size ≤ w7.heap.size := BZ.out.size
  have lq7 : g7 < w7.heap.size := Z7.out.lt
  have lq8 : g8 < w7.heap.size := Z8.out.lt
  clear hpf y0 y1 y2 y3 W7 Z7 Z8 BZ
  refine wp_rangeFuncH (gf := 90) (lb := #[.pointer (some ⟨w7.heap.size, 0, none⟩)]) rfl (enters_of Try.func90 (by kernel_rfl) rfl)
    (parts_stops 8 (by omega) G S I J k2 k3 w7.heap.size _ hBx) KBlk.trans (kblk_b (by simp)) (Below.refl _ _) (fun _ => rfl)
    (fun pre W => NoP r pre ∧ WQ w G S I J 0 0 0 q r g7 g8 w7.heap.size W)
    (fun c pre W => IxQ w G S I J q r g7 g8 w7.heap.size c pre W)
    (fun pre W W' row h hg hr => ⟨h.1, h.2.kept (by have := Q7.out.wb.bel.size; exact this) hg hr⟩)
    (fun c pre W W' row h hg hr => by obtain ⟨h1, p, y, h2, h3, h4, h5⟩ := h; exact ⟨h1, p, y, h2, h3, h4, h5.kept (by have := Q7.out.wb.bel.size; exact this) hg hr⟩)
    ⟨(fun y h => absurd h (by simp)), Q7.out⟩
    (fun x a' W => ∃ n9, a' = { tmps := #[.agg #[.int .i64 G, .int .i64 S, .int .i64 (4 * (I : Int)), .int .i64 J], .int .i64 c, .pointer (some ⟨w.heap.size, 0, none⟩), undef, .pointer (some ⟨w.heap.size + 1, 0, none⟩), .pointer (some ⟨w.heap.size + 1 + 1, 0, none⟩), .pointer (some ⟨w.heap.size + 1 + 1 + 1, 0, none⟩), .pointer (some ⟨g7, 0, none⟩), .pointer (some ⟨g8, 0, none⟩), .pointer (some ⟨n9, 0, none⟩), .bool false, .agg #[.int .i64 G, .int .i64 S, .int .i64 (4 * (I : Int)), .int .i64 J], .bool true, .bool false, .bool false, .int .i64 bb, .agg #[.int .i64 G, .int .i64 S, .int .i64 (4 * (I : Int)), .int .i64 J], .int .i64 N, .int .i64 ((N : Int) - 1), .bool true, .bool false, .bool false, .bool false, .int .i64 bb, .bool false, .bool false, .int .i64 bb, .bool false, .bool (decide (bb < 2 + (J : Int))), .int .i64 bb, .pointer (some ⟨w.heap.size, 3, none⟩), .int .i64 J, .int .i64 (2 + (J : Int)), .bool (decide (bb < 2 + (J : Int))), undef, undef, .int .i64 bb, .pointer (some ⟨w.heap.size, 3, none⟩), .int .i64 J, .int .i64 (2 + (J : Int)), .int .i64 c, .int .i64 c, .pointer (some ⟨w.heap.size, 1, none⟩), .int .i64 S, .int .i64 q, .int .i64 c, .pointer (some ⟨w.heap.size, 1, none⟩), .int .i64 S, .int .i64 r, .agg #[.int .i64 G, .int .i64 S, .int .i64 (4 * (I : Int)), .int .i64 J], .func (.func 90) #[] #[.pointer (some ⟨w7.heap.size, 0, none⟩)], .agg #[.int .i64 x.1, .int .i64 x.2.1, .int .u8 x.2.2], undef, undef, undef, undef, undef, undef, undef, undef], defers := [] } ∧ Whole W n9 #[.int .i64 x.1, .int .i64 x.2.1, .int .u8 x.2.2] 129 ∧ w7.heap.size < n9)
    (fun x a' _ W W' row h hg hr => by obtain ⟨n9, h1, h2, h3⟩ := h; exact ⟨n9, h1, h2.kept hg (fun r e => (hr r e).2), h3⟩) ?assign ?body ?done ?stop
  case assign =>
    rintro l pre ⟨x1, x2, x3⟩ W K ⟨hpre, hW⟩ hK
    simp only [ptv] at hK ⊢
    have HP := Lib.hid hpre
    have HW := Lib.hid hW
    have hKH := Lib.hid hK
    clear hpre hW hK
    gi_wp2
    have hsz := HW.out.bs
    refine hKH.out _ _ (KeepsFrom.of_grownBy (World.grownBy_alloc W _ none) (by simp)) (KBlk.alloc _ _ _) ⟨HP.out, HW.out.later ((Below.refl _ _).alloc (Nat.le_refl _) _)⟩ ⟨W.heap.size, rfl, Whole.new _ _ _, hsz⟩
  case body =>
    rintro l pre ⟨x1, x2, x3⟩ a' W hl0 hl1 ⟨hpre, hW⟩ ⟨n9, rfl, hw9, hn9⟩ hlen
    have HP := Lib.hid hpre
    have HW := Lib.hid hW
    have c7 := hW.z7.cell 0
    have c8 := hW.z8.cell 0
    have c90 := hw9.cell 0
    have c91 := hw9.cell 1
    have c92 := hw9.cell 2
    have r1 := hW.wb.r1.free 0
    have r2 := hW.wb.r2.free 0
    have r3 := hW.wb.r3.free 0
    have e1 := hW.wb.r1.cell 0
    have e2 := hW.wb.r2.cell 0
    have e3 := hW.wb.r3.cell 0
    have hW' : WQ w G S I J 0 0 0 q r g7 g8 w7.heap.size W.drew := HW.out.later ((Below.refl _ _).drew)
    have n17 : g7 ≠ w.heap.size + 1 := by omega
    have n18 : g8 ≠ w.heap.size + 1 := by omega
    have n28 : g8 ≠ w.heap.size + 1 + 1 := by omega
    have n27 : g7 ≠ w.heap.size + 1 + 1 := by omega
    have A7 := hW'.z7.set_other ⟨w.heap.size + 1, 0, none⟩ (.int .u8 x3) n17
    have A8 := hW'.z8.set_other ⟨w.heap.size + 1, 0, none⟩ (.int .u8 x3) n18
    have B8 := A8.set_other ⟨w.heap.size + 1 + 1, 0, none⟩ (.int .i64 (q : Int)) n28
    have A2 := hW'.wb.r2.set_other ⟨w.heap.size + 1, 0, none⟩ (.int .u8 x3) (by simp)
    have A3 := hW'.wb.r3.set_other ⟨w.heap.size + 1, 0, none⟩ (.int .u8 x3) (by simp)
    have B3 := A3.set_other ⟨w.heap.size + 1 + 1, 0, none⟩ (.int .i64 (q : Int)) (by simp)
    have f1 := A7.cell 0
    have f2 := A8.cell 0
    have f3 := B8.cell 0
    have f4 := A2.cell 0
    have f5 := A2.free 0
    have f6 := B3.cell 0
    have f7 := B3.free 0
    clear A7 A8 B8 A2 A3 B3 hW'
    have FIN : Hid ((∀ B, KeepsFrom B W (((W.setCell ⟨w.heap.size + 1, 0, none⟩ (.int .u8 x3)).setCell ⟨w.heap.size + 2, 0, none⟩ (.int .i64 (q : Int))).setCell ⟨w.heap.size + 3, 0, none⟩ (.int .i64 (r : Int))).drew) ∧
        WQ w G S I J x3 q r q r g7 g8 w7.heap.size (((W.setCell ⟨w.heap.size + 1, 0, none⟩ (.int .u8 x3)).setCell ⟨w.heap.size + 2, 0, none⟩ (.int .i64 (q : Int))).setCell ⟨w.heap.size + 3, 0, none⟩ (.int .i64 (r : Int))).drew) := by
      refine ⟨fun B => ((((KeepsOthers.setCell _ _ _).trans (KeepsOthers.setCell _ _ _)).trans (KeepsOthers.setCell _ _ _)).trans (KeepsOthers.drew _)).from _, ?_⟩
      have h := HW.out
      have hwb := h.wb.put (k' := x3) (a' := q) (b' := r)
      exact WQ.later ⟨hwb, ((h.z7.set_other _ _ (by simp; omega)).set_other _ _ (by simp; omega)).set_other _ _ (by simp; omega), ((h.z8.set_other _ _ (by simp; omega)).set_other _ _ (by simp; omega)).set_other _ _ (by simp; omega), by have := h.bs; simpa using this⟩ (Below.refl _ _).drew
    have HPO : Hid (∀ y ∈ pre, ¬ ((r : Int) < y.2.1)) := HP.out
    clear hpre
    gi_wp2
    · gi_region
      all_goals (gi_wp2; exact ⟨FIN.out.1 _, by rfl, pre, (x1, x2, x3), rfl, fun y hy => by have := HPO.out y hy; omega, by assumption, FIN.out.2⟩)
    · refine ⟨KeepsFrom.refl _ _, KBlk.refl _ _, ?_, HW.out⟩
      unfold NoP
      intro y hy
      rcases List.mem_append.1 hy with h | h
      · have := HPO.out y h; omega
      · simp at h; subst h; simp; omega
  case done =>
    rintro D xs W hD rfl ⟨hpre, hW⟩ hK
    exact absurd (show (r : Int) < (S : Int) by omega) (hpre (2 + (I : Int), (S : Int), 7) (by simp [pts]))
  case stop =>
    rintro D cc pre W hD ⟨j, hj, hpj⟩ ⟨rfl, p, y, rfl, hp, hy, hW⟩ hK
    have hyk : y.2.2 = k := by
      rcases pts_last hj hpj with ⟨rfl, rfl⟩ | ⟨rfl, rfl⟩ | ⟨rfl, rfl⟩ | ⟨rfl, rfl⟩
      all_goals (simp at hp hy; have hk := HK.out; simp; omega)
    rw [hyk] at hW
    have HW := Lib.hid hW
    have HKK := Lib.hid hK
    clear hW hK
    go_wp2
    have hD' : w.heap.size + 3 < D := by have := Q7.out.z7.lt; omega
    refine bodyPostM_ret (w0 := w) rfl HKK.out (results_cell3 rfl _ _ (w.heap.size + 1) (w.heap.size + 2) (w.heap.size + 3) k q r rfl rfl rfl ?_ ?_ ?_) HW.out.wb.bel (by omega) fun w' hw' => ⟨q, r, rfl, hw'⟩
    · exact (World.cell?_of_block (World.putObj_heap_other (by simp; omega))).trans (HW.out.wb.r1.cell 0)
    · exact (World.cell?_of_block (World.putObj_heap_other (by simp; omega))).trans (HW.out.wb.r2.cell 0)
    · exact (World.cell?_of_block (World.putObj_heap_other (by simp; omega))).trans (HW.out.wb.r3.cell 0)
end Go.Proofs.Ytdeeegodiacjgaa
