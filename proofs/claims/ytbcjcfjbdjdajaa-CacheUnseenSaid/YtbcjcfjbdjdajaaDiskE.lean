/- slices.Clone at blocks, and the disk's Load and New, walked. Lists of at most 100000 blocks; 1 to 2048 for a disk. -/
import Derived.Test.YtbcjcfjbdjdajaaDiskD
namespace Go.Proofs.Ytbcjcfjbdjdajaa
open Go.RowKit
attribute [local go_sem ↓] loadAtB storeAtB buildAtB sliceAtB
set_option maxRecDepth 100000 in
theorem zagg_size : (Value.agg (blk fun _ => 0)).cells.size = 256 := by
  rw [show (Value.agg (blk fun _ => 0)).cells = blk fun _ => 0 from rfl]
  exact blk_size _
theorem flat_bc_one (l : List Blk) : ∀ u ∈ flat bc l, u.oneCell' = true := flat_one bc_one l
def ClPost (l : List Blk) (w : World) (e : Ending) (w' : World) : Prop := ∃ v, e = .returned v ∧ w'.ownsRow w.heap.size 32 256 v l.length (flat bc l) ∧ Below w.heap.size w w'
set_option maxRecDepth 100000 in
theorem cloneB_any (l : List Blk) (hl : l.length ≤ 100000) (v : Value) (w : World) (h : Sl w v l.length (flat bc l)) : Calls Try.prog 44 #[v] w (ClPost l w) := by
  have H := Lib.hid h
  obtain ⟨ao, cap, rfl, h1, h2, h3, h4⟩ := h.ex
  unfold maxLen at h2
  have hb0 := run_bsB0
  have hq := isNil27
  obtain ⟨j0, hj0, jz0, jz1, jz2⟩ := info_parts zeroB
  have hln : (flat bc l).length = l.length * 256 := flat_len bc_len l
  cases ao with
  | none =>
    obtain rfl := h4 rfl
    obtain rfl : l = [] := List.eq_nil_of_length_eq_zero (by omega)
    clear h h3 h4
    go_enter Try.func44, Try.ntmps44
    go_wp2_with fail
    go_ret
    exact ⟨_, rfl, World.ownsRow_nil _ _ _ _, Below.refl _ _⟩
  | some ad =>
    have hlit : Hid ((w.alloc (.cells #[] 32)).ownsRow w.heap.size 32 256 (.slice (some ⟨w.heap.size, 0, none⟩) 0 0) 0 []) := World.ownsRow_lit (base := w.heap.size) (e := 32) (size := 256) w #[] 0 (by simp) (by simp [maxLen]) (by simp)
    have hsrc : Hid (Sl (w.alloc (.cells #[] 32)) (.slice (some ad) l.length cap) l.length (flat bc l)) := Sl.later H.out ((Below.refl _ _).alloc (Nat.le_refl _) _)
    have h4' := hln
    clear h h3 h4
    go_enter Try.func44, Try.ntmps44
    go_wp2_with (at_builtin; refine wpl_append_sl rfl _ _ 25 rfl w.heap.size 32 j0 (.agg (blk fun _ => 0)) 256 256 Try.underlying25 hj0 jz0 jz1 jz2 zagg_size (by decide) _ 0 [] rfl hlit.out _ l.length (flat bc l) rfl hsrc.out hln (flat_bc_one _) (by unfold maxLen; omega) (by omega) (by simp) ?_; intro v1 W1 hown1 hgrow1; have O1 := Lib.hid hown1; have B1 : Hid (Below w.heap.size w W1) := below_app ((Below.refl _ _).alloc (by simp) _) (by simp) hlit.out (Below.refl _ _) hgrow1; clear hown1 hgrow1)
    go_ret
    refine ⟨_, rfl, ?_, B1.out⟩
    have := O1.out
    rw [Nat.zero_add, List.nil_append] at this
    exact this
def newD (l : List Blk) : Dk := { safe := l, now := l, wait := [], acts := 0, left := -1 }
def LoadPost (l : List Blk) (w : World) (e : Ending) (w' : World) : Prop :=
  ∃ r gs gn, e = .returned (.tuple #[.pointer (some ⟨r, 0, none⟩), .int .i64 0]) ∧ DAt w' w.heap.size r gs gn (.slice none 0 0) (newD l) ∧ Below w.heap.size w w'
theorem newD_ok {l : List Blk} (h1 : 1 ≤ l.length) (h2 : l.length ≤ 2048) : DOk (newD l) := ⟨rfl, h1, h2, fun c hc => (by cases hc), by simp [newD], by simp [newD], by simp [newD], by simp [newD], by simp [newD]⟩
theorem own_head {W : World} {base e size n m cap : Nat} {ao : Option Addr} {xs : List Value} (h : W.ownsRow base e size (.slice ao m cap) n xs) (hn : 0 < n) : ∃ g, ao = some ⟨g, 0, none⟩ ∧ m = n ∧ n ≤ cap ∧ cap ≤ maxLen := by
  rcases h.2 with ⟨h0, h1⟩ | ⟨g', cap', cur, hv, hb, hg, h1, h2, h3, h4⟩
  · omega
  · cases hv
    exact ⟨_, rfl, rfl, h1, h2⟩
set_option maxRecDepth 100000 in
set_option maxHeartbeats 1000000 in
theorem load_any (l : List Blk) (h1 : 1 ≤ l.length) (h2 : l.length ≤ 2048) (v : Value) (w : World) (h : Sl w v l.length (flat bc l)) : Calls Try.prog 42 #[v] w (LoadPost l w) := by
  have H := Lib.hid h
  obtain ⟨ao, cap, rfl, k1, k2, _⟩ := h.ex
  unfold maxLen at k2
  clear h
  have tok : True := trivial
  have d1 : decide ((l.length : Int) < 1) = false := by simp; omega
  have d2 : decide ((2048 : Int) < (l.length : Int)) = false := by simp; omega
  go_enter Try.func42, Try.ntmps42
  go_wp2_with (first
    | (go_at_call 44; clear tok; refine (cloneB_any l (by omega) _ w H.out).mono ?_; rintro e w1 ⟨v1, rfl, ho1, hb1⟩; obtain ⟨a1, c1, hsh⟩ := own_shape ho1; subst hsh; have O1 := Lib.hid ho1; have B1 := Lib.hid hb1; clear ho1 hb1)
    | (go_at_call 44; refine (cloneB_any l (by omega) _ w1 (Sl.later H.out B1.out)).mono ?_; rintro e w2 ⟨v2, rfl, ho2, hb2⟩; obtain ⟨a2, c2, hsh⟩ := own_shape ho2; subst hsh; have O2 := Lib.hid ho2; have B2 := Lib.hid hb2; clear ho2 hb2))
  refine bodyPost_end (results_tmp2 rfl _ _ _) rfl ?_
  obtain ⟨g1, rfl, _⟩ := own_head O1.out (by omega)
  obtain ⟨g2, rfl, _⟩ := own_head O2.out (by omega)
  have hs1 := B1.out.size
  have hs2 := B2.out.size
  have l1 := (O1.out.lt g1 rfl).2
  have l2 := O2.out.lt g2 rfl
  have o1 := own_later O1.out B2.out
  exact ⟨_, g1, g2, rfl, ⟨newD_ok h1 h2, ⟨c1, c2, Whole.new _ _ _, o1.alloc _, own_mono (O2.out.alloc _) hs1⟩, World.ownsRow_nil _ _ _ _, by omega, by omega, by omega, by omega, fun k hk => by cases hk⟩, (B1.out.trans (B2.out.mono hs1)).alloc (by omega) _⟩
theorem flat_cons {α : Type} (f : α → List Value) (x : α) (l : List α) : flat f (x :: l) = f x ++ flat f l := by simp [flat]
theorem bc_zero : bc (fun _ => 0) = List.replicate 256 (.int .u8 0) := by
  apply List.ext_getElem?
  intro i
  have : (blk fun _ => 0)[i]? = (List.replicate 256 (Value.int .u8 0))[i]? := by
    by_cases hi : i < 256
    · rw [blk_get _ _ hi, List.getElem?_replicate, if_pos hi]; rfl
    · rw [Array.getElem?_eq_none (by rw [blk_size]; omega), List.getElem?_eq_none (by rw [List.length_replicate]; omega)]
  rw [← this]
  unfold bc
  exact Array.getElem?_toList
theorem flat_rep (n : Nat) : flat bc (List.replicate n fun _ => 0) = List.replicate (n * 256) (.int .u8 0) := by
  have h0 := bc_zero
  generalize bc = f at h0 ⊢
  generalize hm : 256 = m at h0 ⊢
  clear hm
  induction n with
  | zero => rw [Nat.zero_mul]; rfl
  | succ n ih =>
    rw [List.replicate_succ, flat_cons, ih, h0, List.replicate_append_replicate, Nat.add_mul, Nat.one_mul, Nat.add_comm]
theorem made_const (z : Array Value) (c : Value) (hp : 0 < z.size) (h : ∀ i, i < z.size → z[i]? = some c) (k : Nat) : (madeCells z k).toList = List.replicate k c := by
  apply List.ext_getElem?
  intro j
  by_cases hj : j < k
  · rw [List.getElem?_replicate, if_pos hj]
    have h1 : (madeCells z k)[j]? = some (z[j % z.size]!) := by simp [madeCells, hj]
    have h2 : z[j % z.size]! = c := by
      rw [getElem!_def, h _ (Nat.mod_lt _ hp)]
    rw [h2] at h1
    simpa using h1
  · rw [List.getElem?_eq_none (by simp [size_madeCells]; omega), List.getElem?_eq_none (by simp; omega)]
theorem made_rep (n : Nat) : (madeCells (blk fun _ => 0) (n * 256)).toList = flat bc (List.replicate n fun _ => 0) := by
  rw [flat_rep]
  exact made_const _ _ (by rw [blk_size]; omega) (fun i hi => blk_get _ _ (by rw [blk_size] at hi; exact hi)) _
set_option maxRecDepth 100000 in
/-- 'make([]api.Block, n)'. -/
theorem wpl_makeB {ops : Array Oper} {rest : List Oper} {o : Oper} {a : Act} {w : World} {Q : Exit → Act → World → Prop} (hg : o.guard = none) (x y : Operand) (hop : o.op = Op.makeSlice 25 x y) (n : Nat) (hx : a.eval x = .int .i64 (n : Int)) (hy : a.eval y = .int .i64 (n : Int)) (hn : n ≤ 100000)
    (hK : ∀ w', w'.ownsRow w.heap.size 32 256 (.slice (some ⟨w.heap.size, 0, none⟩) n n) n (flat bc (List.replicate n fun _ => 0)) → Below w.heap.size w w' → wpList Try.prog ops Q rest (a.put o.dst (.slice (some ⟨w.heap.size, 0, none⟩) n n)) w') :
    wpList Try.prog ops Q (o :: rest) a w := by
  refine wpList_plain hg fun K hK' => ?_
  obtain ⟨j0, hj0, jz0, jz1, jz2⟩ := info_parts zeroB
  obtain ⟨w', hrun, ho, hgr⟩ := run_make_full (P := Try.prog) w w.heap.size 25 32 j0 (.agg (blk fun _ => 0)) 256 Try.underlying25 hj0 jz0 jz1 .i64 .i64 n (by rw [jz2]; omega) (by unfold maxLen; omega) (Nat.le_refl _)
  rw [show (Value.agg (blk fun _ => 0)).cells = blk fun _ => 0 from rfl, made_rep] at ho
  unfold Oper.wp
  simp only [execOp, hop, hx, hy, hrun, Sem.run_bind, Sem.run_pure, Result.andThen_ok]
  exact hK' _ _ (hK w' ho ((Below.refl _ _).grown hgr (Nat.le_refl _) (fun k hk => by cases hk)))
def zeros (n : Nat) : List Blk := List.replicate n fun _ => 0
set_option maxRecDepth 100000 in
set_option maxHeartbeats 1000000 in
theorem new_any (n : Nat) (h1 : 1 ≤ n) (h2 : n ≤ 2048) (w : World) : Calls Try.prog 28 #[.int .i64 (n : Int)] w (LoadPost (zeros n) w) := by
  have d1 : decide ((n : Int) < 1) = false := by simp; omega
  have d2 : decide ((2048 : Int) < (n : Int)) = false := by simp; omega
  have hl : (zeros n).length = n := List.length_replicate
  go_enter Try.func28, Try.ntmps28
  go_wp2_with (first
    | (refine wpl_makeB rfl _ _ rfl n rfl rfl (by omega) ?_; intro w1 ho1 hb1; have O1 := Lib.hid ho1; have B1 := Lib.hid hb1; clear ho1 hb1)
    | (go_at_call 42; refine (load_any (zeros n) (by omega) (by omega) _ w1 (by rw [hl]; exact Sl.own O1.out)).mono ?_; rintro e w2 ⟨r, gs, gn, rfl, hd, hb2⟩; have D2 := Lib.hid hd; have B2 := Lib.hid hb2; clear hd hb2))
  refine bodyPost_end (results_tmp2 rfl _ _ _) rfl ?_
  have hs1 := B1.out.size
  have D3 := D2.out
  obtain ⟨cs, cn, hr, hs, hn⟩ := D3.obj
  exact ⟨r, gs, gn, rfl, ⟨D3.ok, ⟨cs, cn, hr, own_mono hs hs1, own_mono hn hs1⟩, own_mono D3.wait hs1, Nat.le_trans hs1 D3.base, D3.sr, D3.nr, D3.sn, D3.w3⟩, B1.out.trans (B2.out.mono hs1)⟩
end Go.Proofs.Ytbcjcfjbdjdajaa
