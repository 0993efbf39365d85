/- Slices whose elements are of many cells, read and written element by element, over any program. No condition but those written. -/
import Derived.Test.YtbcjcfjbdjdajaaUtil
import Derived.Maps.AppendAt
import Derived.Laws.AppendOwnNone
import Derived.Deep.MidRow
import Derived.Laws.OwnMore
import Derived.Laws.Rows
namespace Go.Proofs.Ytbcjcfjbdjdajaa
open Go.RowKit
section
variable {α : Type}
/-- The cells of a list of elements. -/
def flat (f : α → List Value) (l : List α) : List Value := l.flatMap f
theorem flat_nil (f : α → List Value) : flat f [] = [] := rfl
theorem flat_snoc (f : α → List Value) (l : List α) (x : α) : flat f (l ++ [x]) = flat f l ++ f x := by simp [flat]
theorem flat_app (f : α → List Value) (l m : List α) : flat f (l ++ m) = flat f l ++ flat f m := by simp [flat]
theorem flat_len {f : α → List Value} {n : Nat} (hf : ∀ x, (f x).length = n) (l : List α) : (flat f l).length = l.length * n := by
  unfold flat
  induction l with
  | nil => simp
  | cons x l ih => rw [List.flatMap_cons, List.length_append, hf, ih, List.length_cons, Nat.add_mul]; omega
theorem flat_get {f : α → List Value} {n : Nat} (hf : ∀ x, (f x).length = n) : ∀ {l : List α} {i : Nat} {x : α}, l[i]? = some x → ∀ j, j < n → (flat f l)[i * n + j]? = (f x)[j]?
  | [], i, x, h, j, hj => by simp at h
  | y :: l, i, x, h, j, hj => by
    have e : flat f (y :: l) = f y ++ flat f l := by simp [flat]
    rw [e]
    cases i with
    | zero =>
      simp at h
      subst h
      rw [Nat.zero_mul, Nat.zero_add, List.getElem?_append_left (by rw [hf]; exact hj)]
    | succ i =>
      rw [List.getElem?_append_right (by rw [hf, Nat.add_mul]; omega), hf]
      have : (i + 1) * n + j - n = i * n + j := by rw [Nat.add_mul]; omega
      rw [this]
      exact flat_get hf (show l[i]? = some x by simpa using h) j hj
theorem flat_one {f : α → List Value} (h1 : ∀ x, ∀ u ∈ f x, u.oneCell' = true) (l : List α) : ∀ u ∈ flat f l, u.oneCell' = true := by
  intro u hu
  obtain ⟨x, _, hx⟩ := List.mem_flatMap.1 hu
  exact h1 x u hx
theorem flat_set {f : α → List Value} {n : Nat} (hf : ∀ x, (f x).length = n) (l : List α) (i : Nat) (x : α) (hi : i < l.length) : flat f (l.set i x) = (flat f l).take (i * n) ++ f x ++ (flat f l).drop ((i + 1) * n) := by
  induction l generalizing i with
  | nil => simp at hi
  | cons y l ih =>
    have e : ∀ (y : α) l, flat f (y :: l) = f y ++ flat f l := fun y l => by simp [flat]
    cases i with
    | zero =>
      rw [List.set_cons_zero, e, e]
      have : (0 + 1) * n = (f y).length := by rw [hf]; omega
      rw [this, List.drop_left]
      simp
    | succ i =>
      rw [List.set_cons_succ, e, e, ih i (by simpa using hi)]
      have h1 : (i + 1) * n = (f y).length + i * n := by rw [hf, Nat.add_mul]; omega
      have h2 : (i + 1 + 1) * n = (f y).length + (i + 1) * n := by rw [hf, Nat.add_mul (i + 1)]; omega
      have t1 : ∀ (a b : List Value) (k : Nat), (a ++ b).take (a.length + k) = a ++ b.take k := fun a b k => by rw [List.take_append, List.take_of_length_le (by omega), Nat.add_sub_cancel_left]
      have t2 : ∀ (a b : List Value) (k : Nat), (a ++ b).drop (a.length + k) = b.drop k := fun a b k => by rw [List.drop_append, List.drop_of_length_le (by omega), Nat.add_sub_cancel_left, List.nil_append]
      rw [h2, t2, h1, t1, ← h1]
      simp only [List.append_assoc]
end
theorem rangeAt_sub {W : World} {g o : Nat} {xs ys : List Value} {k : Nat} (h : W.rangeAt g o xs) (hs : ∀ j v, ys[j]? = some v → xs[k + j]? = some v) : W.rangeAt g (o + k) ys := by
  intro j v hv
  have := h (k + j) v (hs j v hv)
  rwa [← Nat.add_assoc] at this
theorem rangeAt_block {W W' : World} {g o : Nat} {xs : List Value} (h : W.rangeAt g o xs) (e : W'.heap[g]? = W.heap[g]?) : W'.rangeAt g o xs := fun j v hv => (World.cell?_of_block e).trans (h j v hv)
theorem rangeAt_lt {W : World} {g o : Nat} {xs : List Value} (h : W.rangeAt g o xs) (hp : 0 < xs.length) : g < W.heap.size := by
  have := h 0 _ (List.getElem?_eq_getElem hp)
  exact World.block_lt_of_cell? W _ this
/-- A slice value whose n elements are these cells. -/
structure Sl (W : World) (v : Value) (n : Nat) (xs : List Value) : Prop where
  ex : ∃ ao cap, v = .slice ao n cap ∧ n ≤ cap ∧ cap ≤ maxLen ∧ (0 < xs.length → ∃ g off, ao = some ⟨g, off, none⟩ ∧ g < W.heap.size ∧ W.rangeAt g off xs) ∧ (ao = none → cap = 0)
theorem Sl.later {W W' : World} {v : Value} {n : Nat} {xs : List Value} (h : Sl W v n xs) (hb : Below W.heap.size W W') : Sl W' v n xs := by
  obtain ⟨ao, cap, h1, h2, h3, h4, h0⟩ := h.ex
  refine ⟨ao, cap, h1, h2, h3, fun hp => ?_, h0⟩
  obtain ⟨g, off, e, h5, h6⟩ := h4 hp
  exact ⟨g, off, e, Nat.lt_of_lt_of_le h5 hb.size, rangeAt_block h6 (hb.block g h5)⟩
theorem Sl.nil (W : World) : Sl W (.slice none 0 0) 0 [] := ⟨none, 0, rfl, Nat.le_refl _, by simp [maxLen], fun h => absurd h (by simp), fun _ => rfl⟩
theorem own_range {W : World} {base e size n g cap m : Nat} {xs : List Value} (h : W.ownsRow base e size (.slice (some ⟨g, 0, none⟩) m cap) n xs) : W.rangeAt g 0 xs := by
  intro j v hv
  have hc := @World.ownsRow.cells _ _ _ _ _ _ _ h g rfl j v hv
  rwa [Addr.add_mid] at hc
theorem own_shape {W : World} {base e size n : Nat} {v : Value} {xs : List Value} (h : W.ownsRow base e size v n xs) : ∃ ao cap, v = .slice ao n cap := by
  rcases h.2 with ⟨rfl, rfl⟩ | ⟨g, cap, cur, rfl, _⟩
  · exact ⟨none, 0, rfl⟩
  · exact ⟨_, cap, rfl⟩
theorem own_later {W W' : World} {base e size n : Nat} {v : Value} {xs : List Value} (h : W.ownsRow base e size v n xs) (hb : Below W.heap.size W W') : W'.ownsRow base e size v n xs :=
  h.kept (row := none) ⟨hb.os, hb.tape, hb.output, hb.size, fun k hk _ => hb.block k hk⟩ (by cases v.ownBlock <;> simp)
theorem own_mono {W : World} {base base' e size n : Nat} {v : Value} {xs : List Value} (h : W.ownsRow base e size v n xs) (hb : base' ≤ base) : W.ownsRow base' e size v n xs := by
  refine ⟨h.1, ?_⟩
  rcases h.2 with hn | ⟨g, cap, cur, h1, h2, rest⟩
  · exact .inl hn
  · exact .inr ⟨g, cap, cur, h1, Nat.le_trans hb h2, rest⟩
theorem Sl.own {W : World} {base e size n : Nat} {v : Value} {xs : List Value} (h : W.ownsRow base e size v n xs) : Sl W v n xs := by
  have h0 := h
  rcases h.2 with ⟨rfl, rfl⟩ | ⟨g, cap, cur, rfl, hb, hg, h1, h2, _⟩
  · have : xs = [] := List.eq_nil_of_length_eq_zero (by simpa using h.1)
    subst this
    exact Sl.nil W
  · exact ⟨_, cap, rfl, h1, h2, fun _ => ⟨g, 0, rfl, (Array.getElem?_eq_some_iff.1 hg).1, own_range h0⟩, fun e => by cases e⟩
theorem below_app {C : Nat} {W0 W W1 W' : World} {v : Value} {e size n : Nat} {xs : List Value} (hb : Below C W0 W) (hC : C ≤ W.heap.size) (ho : W.ownsRow C e size v n xs) (hW : Below W.heap.size W W1) (hg : W1.grownBy W' v.ownBlock) : Below C W0 W' :=
  (hb.trans (hW.mono hC)).grown hg (Nat.le_trans hC hW.size) (fun k hk => (ho.lt k hk).1)
section
variable {α : Type} {f : α → List Value} {n : Nat}
/-- Element i of a slice: where it lies. -/
theorem Sl.at {W : World} {ao : Option Addr} {cap : Nat} {l : List α} (h : Sl W (.slice ao l.length cap) l.length (flat f l)) (hf : ∀ x, (f x).length = n) (hn : 0 < n) {i : Nat} (hi : i < l.length) :
    ∃ g off, ao = some ⟨g, off, none⟩ ∧ l.length ≤ cap ∧ cap ≤ maxLen ∧ g < W.heap.size ∧ ∀ (j : Nat) (x : α), l[j]? = some x → W.rangeAt g (off + j * n) (f x) := by
  obtain ⟨ao', cap', he, h2, h3, h4, _⟩ := h.ex
  cases he
  obtain ⟨g, off, e, h5, h6⟩ := h4 (by rw [flat_len hf]; exact Nat.mul_pos (by omega) hn)
  refine ⟨g, off, e, h2, h3, h5, fun j x hx => rangeAt_sub h6 fun k v hv => ?_⟩
  have hk : k < n := by rw [← hf x]; exact (List.getElem?_eq_some_iff.1 hv).1
  rw [flat_get hf hx k hk]
  exact hv
end
/-- Whole elements as single things in a walk. -/
def bigLoadAt (t : TypeId) (v : Value) : Sem Value := Instr.loadAt t v
def bigStoreAt (t : TypeId) (v x : Value) : Sem Unit := Instr.storeAt t v x
section
variable {P : Program}
theorem run_bigLoad {W : World} {g o : Nat} {t : TypeId} {cs : List Value} {d : TypeDesc} (hu : P.underlying t = some d) (hd : d.isRow = true) (hi : (P.info? t).map (·.size) = some cs.length) (h : W.rangeAt g o cs) :
    (bigLoadAt t (.pointer (some ⟨g, o, none⟩))).run P W = .ok (.agg cs.toArray) W := run_loadAt_mid W g o t cs d h hu hd hi
theorem run_bigStore {W : World} {g o : Nat} {t : TypeId} {cs : List Value} (hi : (P.info? t).map (·.size) = some cs.length) (h1 : ∀ u ∈ cs, u.oneCell' = true) (h : W.there g o cs.length) :
    (bigStoreAt t (.pointer (some ⟨g, o, none⟩)) (.agg cs.toArray)).run P W = .ok () (W.setCells g o cs) := by
  have := run_storeAt_mid (P := P) W g o t cs.toArray (by simpa using h) (by simpa using hi) (all_oneCell_toArray h1)
  simpa [bigStoreAt] using this
/-- A fresh block, stored whole. -/
theorem setCells_whole (W : World) (old : List Value) (t : TypeId) (cs : List Value) (hl : cs.length = old.length) : (W.alloc (.cells old.toArray t)).setCells W.heap.size 0 cs = W.alloc (.cells cs.toArray t) := by
  suffices h : ∀ (pre cs old : List Value), cs.length = old.length → (W.alloc (.cells (pre ++ old).toArray t)).setCells W.heap.size pre.length cs = W.alloc (.cells (pre ++ cs).toArray t) by
    simpa using h [] cs old hl
  intro pre cs
  induction cs generalizing pre with
  | nil => intro old h; have : old = [] := List.eq_nil_of_length_eq_zero h.symm; subst this; rfl
  | cons c cs ih =>
    intro old h
    cases old with
    | nil => simp at h
    | cons o old =>
      rw [World.setCells]
      have e : (W.alloc (.cells (pre ++ o :: old).toArray t)).setCell ⟨W.heap.size, pre.length, none⟩ c = W.alloc (.cells ((pre ++ [c]) ++ old).toArray t) := by
        rw [World.setCell_alloc_at _ _ _ _ _ rfl]
        congr 2
        simp
      rw [e]
      have := ih (pre ++ [c]) old (by simpa using h)
      simpa using this
end
/-- A block known whole. -/
def Whole (W : World) (g : Nat) (cs : Array Value) (t : TypeId) : Prop := W.heap[g]? = some (.cells cs t (0, 0))
theorem Whole.cell {W : World} {g : Nat} {cs : Array Value} {t : TypeId} (h : Whole W g cs t) (j : Nat) : W.cell? ⟨g, j, none⟩ = cs[j]? := cell_of_row W g j cs t (0, 0) h
theorem Whole.free {W : World} {g : Nat} {cs : Array Value} {t : TypeId} (h : Whole W g cs t) (j : Nat) : W.frozen? ⟨g, j, none⟩ = false := frozen_of_row W g j cs t h
theorem Whole.set {W : World} {g : Nat} {cs : Array Value} {t : TypeId} (h : Whole W g cs t) (i : Nat) (v : Value) : Whole (W.setCell ⟨g, i, none⟩ v) g (cs.setIfInBounds i v) t := heap_setCell_same W g i cs t v h
theorem Whole.set_other {W : World} {g : Nat} {cs : Array Value} {t : TypeId} (h : Whole W g cs t) (a : Addr) (v : Value) (hne : g ≠ a.block) : Whole (W.setCell a v) g cs t := (heap_setCell_other W a g v hne).trans h
theorem Whole.lt {W : World} {g : Nat} {cs : Array Value} {t : TypeId} (h : Whole W g cs t) : g < W.heap.size := (Array.getElem?_eq_some_iff.1 h).1
theorem Whole.later {W W' : World} {g : Nat} {cs : Array Value} {t : TypeId} (h : Whole W g cs t) (hb : Below W.heap.size W W') : Whole W' g cs t := (hb.block g h.lt).trans h
theorem Whole.alloc {W : World} {g : Nat} {cs : Array Value} {t : TypeId} (h : Whole W g cs t) (o : Obj) : Whole (W.alloc o) g cs t := heap_past_alloc h
theorem Whole.new (W : World) (cs : Array Value) (t : TypeId) : Whole (W.alloc (.cells cs t)) W.heap.size cs t := heap_at_alloc _ _ _ rfl
/-- 'append(s, xs...)', whatever slice xs is. -/
theorem wpl_append_sl {P : Program} {w : World} {ops : Array Oper} {rest : List Oper} {o : Oper} {a : Act} {Q : Exit → Act → World → Prop} (hgd : o.guard = none) (s x : Operand) (t : TypeId)
    (ho : o.op = .call { callee := .builtin .append, args := #[s, x], argTypes := #[t, t] })
    (base : Nat) (e : TypeId) (i : TypeInfo) (z : Value) (size bytes : Nat) (ht : P.underlying t = some (.slice e)) (hi : P.info? e = some i) (hz : i.zero = some z)
    (hsize : i.size = size) (hby : i.bytes = bytes) (hzs : z.cells.size = size) (hsz : 0 < size)
    (v : Value) (n : Nat) (xs : List Value) (hs : a.eval s = v) (hown : w.ownsRow base e size v n xs)
    (vx : Value) (m : Nat) (ys : List Value) (hx : a.eval x = vx) (hsl : Sl w vx m ys) (hl : ys.length = m * size) (h1 : ∀ u ∈ ys, u.oneCell' = true)
    (h63 : n + m ≤ maxLen) (hbytes : (n + m) * bytes ≤ 140737488355328) (hbase : base ≤ w.heap.size)
    (h : ∀ v' w', w'.ownsRow base e size v' (n + m) (xs ++ ys) → w.grownBy w' v.ownBlock → wpList P ops Q rest (a.put o.dst v') w') :
    wpList P ops Q (o :: rest) a w := by
  obtain ⟨ao, cap, rfl, h2, h3, h4, h5⟩ := hsl.ex
  cases ao with
  | none =>
    obtain rfl := h5 rfl
    obtain rfl : m = 0 := by omega
    obtain rfl : ys = [] := List.eq_nil_of_length_eq_zero (by simpa using hl)
    refine wpList_append_own_none hgd s x t ho base e i size ht hi v n xs hs hown hx (h v w ?_ (World.grownBy.refl _ _))
    simpa using hown
  | some ad =>
    refine wpList_append_own_at _ hgd s x t ho base e i z size bytes ht hi hz hsize hby hzs hsz v n xs hs hown ad m cap ys hx hl ?_ h1 h63 hbytes hbase (fun v' w' a1 a2 _ _ => h v' w' a1 a2)
    intro j u hj
    obtain ⟨g, off, e1, _, hr⟩ := h4 (Nat.lt_of_le_of_lt (Nat.zero_le _) (List.getElem?_eq_some_iff.1 hj).1)
    cases e1
    rw [Addr.add_mid]
    exact hr j u hj
end Go.Proofs.Ytbcjcfjbdjdajaa
