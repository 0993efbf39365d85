/- Maps whose keys are written by an injective encoding: look-up, store, delete, len, ranging, over any program. No condition but those written. -/
import Derived.WalkKit
import Derived.WalkSpells
import Derived.WalkLawsBesides
import Derived.Lib.Hide
import Derived.RangeFuncRecord
import Derived.Deep.WholeRow
import Derived.Maps.RangeWalk
import Derived.Maps.OwnSet
namespace Go.Proofs.Ytbcjcfjbdjdajaa
open Go.RowKit
open Go.ChangeMaps (setBlock)

set_option linter.unusedSectionVars false
/-- An entry out of its key, value and number. -/
def Ent {κ : Type} (enc : κ → Value) (t : κ × Value × Nat) : MapEntry := { key := enc t.1, val := t.2.1, born := t.2.2 }

/-- How keys of a type are written as values, and that the model can tell them apart. -/
structure KeyEnc (P : Program) (k : TypeId) {κ : Type} [DecidableEq κ] (enc : κ → Value) : Prop where
  inj : ∀ x y, enc x = enc y → x = y
  check : ∀ (em : Bool) (x : κ) (w : World), (Instr.checkKey em 10000 k (enc x)).run P w = .ok () w
  find : ∀ (x : κ) (L : List (κ × Value × Nat)) (w : World), (Instr.findKey k (enc x) (L.map (Ent enc))).run P w = .ok ((L.findIdx? fun t => decide (t.1 = x)).bind fun i => (L[i]?).map fun t => (i, t.2.1)) w
  stays : ∀ (x : κ) (w : World), (Instr.keyThatStays (enc x) (enc x)).run P w = .ok (enc x) w

/-- Block r is a map with these entries, in the order in which they came. -/
structure MapIs {κ : Type} (enc : κ → Value) (w : World) (r : Nat) (L : List (κ × Value × Nat)) (clock : Nat) : Prop where
  at_ : w.heap[r]? = some (.map (L.map (Ent enc)).toArray clock)
  born : ∀ t ∈ L, t.2.2 < clock
  bnodup : (L.map (·.2.2)).Nodup
  knodup : (L.map (·.1)).Nodup
def kv {κ : Type} (L : List (κ × Value × Nat)) : List (κ × Value) := L.map fun t => (t.1, t.2.1)
def MapAt {κ : Type} (enc : κ → Value) (w : World) (r : Nat) (m : List (κ × Value)) : Prop := ∃ L clock, MapIs enc w r L clock ∧ m = kv L

/-- Block r alone has turned. -/
structure Chg (w w' : World) (r : Nat) : Prop where
  os : w'.os = w.os
  tape : w'.tape = w.tape
  output : w'.output = w.output
  size : w'.heap.size = w.heap.size
  other : ∀ j, j ≠ r → w'.heap[j]? = w.heap[j]?

section
variable {P : Program} {κ : Type} [DecidableEq κ] {enc : κ → Value} {k : TypeId}

theorem getMap {w : World} {r : Nat} {es : Array MapEntry} {c : Nat} (h : w.heap[r]? = some (.map es c)) : (getObj r).run P w = .ok (.map es c) w := by simp [getObj, Sem.run, h]
theorem setMap {w : World} {r : Nat} {es : Array MapEntry} {c : Nat} (o : Obj) (h : w.heap[r]? = some (.map es c)) : (setObj r o).run P w = .ok () (w.putObj r o) := by simp [setObj, Sem.run, h, World.putObj]
theorem Chg.below {w w' : World} {r B : Nat} (h : Chg w w' r) (hr : B ≤ r) : Below B w w' := ⟨h.os, h.tape, h.output, Nat.le_of_eq h.size.symm, fun j hj => h.other j (by omega)⟩
theorem Chg.putObj (w : World) (r : Nat) (o : Obj) : Chg w (w.putObj r o) r := ⟨rfl, rfl, rfl, by simp, fun j hj => World.putObj_heap_other (fun e => hj e)⟩

def upd (m : List (κ × Value)) (x : κ) (v : Value) : List (κ × Value) := if x ∈ m.map (·.1) then m.map (fun p => if p.1 = x then (x, v) else p) else m ++ [(x, v)]
def del (m : List (κ × Value)) (x : κ) : List (κ × Value) := m.filter fun p => decide (p.1 ≠ x)
def look (m : List (κ × Value)) (x : κ) : Option Value := (m.find? fun p => decide (p.1 = x)).map (·.2)

theorem idx_none {L : List (κ × Value × Nat)} {x : κ} (h : L.findIdx? (fun t => decide (t.1 = x)) = none) : x ∉ L.map (·.1) := by
  rw [List.findIdx?_eq_none_iff] at h
  intro hm
  obtain ⟨t, ht, rfl⟩ := List.mem_map.1 hm
  have := h t ht
  simp at this
theorem idx_some {L : List (κ × Value × Nat)} {x : κ} {i : Nat} (h : L.findIdx? (fun t => decide (t.1 = x)) = some i) : ∃ hi : i < L.length, L[i].1 = x := by
  rw [List.findIdx?_eq_some_iff_getElem] at h
  obtain ⟨h1, h2, _⟩ := h
  exact ⟨h1, by simpa using h2⟩
theorem nodup_inj {α : Type} {l : List α} (hn : l.Nodup) {i j : Nat} (hi : i < l.length) (hj : j < l.length) (h : l[i] = l[j]) : i = j := by
  rcases Nat.lt_trichotomy i j with h1 | h1 | h1
  · exact absurd h (List.pairwise_iff_getElem.1 hn i j hi hj h1)
  · exact h1
  · exact absurd h.symm (List.pairwise_iff_getElem.1 hn j i hj hi h1)
theorem key_at {L : List (κ × Value × Nat)} {x : κ} {i j : Nat} (hn : (L.map (·.1)).Nodup) (hi : i < L.length) (hx : L[i].1 = x) (hj : j < L.length) : L[j].1 = x ↔ j = i := by
  constructor
  · intro h
    have h1 : (L.map (·.1))[j]'(by simpa using hj) = (L.map (·.1))[i]'(by simpa using hi) := by simp [h, hx]
    exact nodup_inj hn _ _ h1
  · rintro rfl; exact hx
theorem modify_key {L : List (κ × Value × Nat)} {x : κ} {i : Nat} (hn : (L.map (·.1)).Nodup) (hi : i < L.length) (hx : L[i].1 = x) (f : κ × Value × Nat → κ × Value × Nat) : L.modify i f = L.map fun t => if t.1 = x then f t else t := by
  apply List.ext_getElem
  · simp
  · intro j h1 h2
    have hj : j < L.length := by simpa using h1
    rw [List.getElem_modify, List.getElem_map]
    have := key_at hn hi hx hj
    by_cases e : i = j
    · rw [if_pos e, if_pos (this.2 e.symm)]
    · rw [if_neg e, if_neg (fun h => e (this.1 h).symm)]
theorem erase_key {L : List (κ × Value × Nat)} {x : κ} {i : Nat} (hn : (L.map (·.1)).Nodup) (hi : i < L.length) (hx : L[i].1 = x) : L.eraseIdx i = L.filter fun t => decide (t.1 ≠ x) := by
  induction L generalizing i with
  | nil => simp at hi
  | cons t L ih =>
    rw [List.map_cons, List.nodup_cons] at hn
    cases i with
    | zero =>
      simp only [List.getElem_cons_zero] at hx
      rw [List.eraseIdx_cons_zero, List.filter_cons_of_neg (by simp [hx])]
      rw [List.filter_eq_self.2]
      intro u hu
      have : u.1 ≠ x := fun e => hn.1 (by rw [hx, ← e]; exact List.mem_map_of_mem hu)
      simpa using this
    | succ i =>
      have hi' : i < L.length := by simpa using hi
      have hx' : L[i].1 = x := by simpa using hx
      have : t.1 ≠ x := fun e => hn.1 (by rw [e, ← hx']; exact List.mem_map_of_mem (List.getElem_mem _))
      rw [List.eraseIdx_cons_succ, List.filter_cons_of_pos (by simpa using this), ih hn.2 hi' hx']

theorem eraseIdx_map' {α β : Type} (f : α → β) : ∀ (l : List α) (i : Nat), (l.map f).eraseIdx i = (l.eraseIdx i).map f
  | [], _ => rfl
  | _ :: _, 0 => rfl
  | a :: l, i + 1 => by simp [eraseIdx_map' f l i]
theorem MapIs.update (K : KeyEnc P k enc) {T e : TypeId} (hT : P.underlying T = some (.map k e)) {w : World} {r : Nat} {m : List (κ × Value)} (h : MapAt enc w r m) (x : κ) (v : Value) :
    ∃ w', (Instr.mapUpdate T (.map (some r)) (enc x) v).run P w = .ok () w' ∧ MapAt enc w' r (upd m x v) ∧ Chg w w' r := by
  obtain ⟨L, clock, hM, rfl⟩ := h
  have hlt : r < w.heap.size := (Array.getElem?_eq_some_iff.1 hM.at_).1
  cases hi : L.findIdx? (fun t => decide (t.1 = x)) with
  | none =>
    refine ⟨w.putObj r (.map ((L.map (Ent enc)).toArray.push { key := enc x, val := v, born := clock }) (clock + 1)), ?_, ⟨L ++ [(x, v, clock)], clock + 1, ⟨?_, ?_, ?_, ?_⟩, ?_⟩, Chg.putObj _ _ _⟩
    · simp only [Instr.mapUpdate, Sem.run_bind, run_underlying hT, Result.andThen_ok, getMap hM.at_, K.check, K.find, hi]
      simp [setMap _ hM.at_]
    · rw [World.putObj_heap_same hlt]; simp [Ent]
    · intro t ht
      rcases List.mem_append.1 ht with h | h
      · have := hM.born t h; omega
      · simp at h; subst h; simp
    · rw [List.map_append, List.nodup_append]
      refine ⟨hM.bnodup, by simp, ?_⟩
      intro a ha b hb
      obtain ⟨t, ht, rfl⟩ := List.mem_map.1 ha
      simp at hb
      have := hM.born t ht
      omega
    · rw [List.map_append, List.nodup_append]
      refine ⟨hM.knodup, by simp, ?_⟩
      intro a ha b hb
      simp at hb
      subst hb
      rintro rfl
      exact idx_none hi ha
    · unfold upd
      have : x ∉ (kv L).map (·.1) := by have := idx_none hi; simpa [kv] using this
      rw [if_neg this]
      simp [kv]
  | some i =>
    obtain ⟨hil, hx⟩ := idx_some hi
    refine ⟨w.putObj r (.map ((L.map (Ent enc)).toArray.modify i fun e => { e with key := enc x, val := v }) clock), ?_, ⟨L.modify i fun t => (x, v, t.2.2), clock, ⟨?_, ?_, ?_, ?_⟩, ?_⟩, Chg.putObj _ _ _⟩
    · have hg : ((L.map (Ent enc)).toArray[i]?).map (·.key) = some (enc x) := by simp [hil, Ent, hx]
      simp only [Instr.mapUpdate, Sem.run_bind, run_underlying hT, Result.andThen_ok, getMap hM.at_, K.check, K.find, hi]
      simp only [Option.bind_some, List.getElem?_eq_getElem hil, Option.map_some, hg, Option.getD_some, Sem.run_bind, K.stays, Result.andThen_ok, setMap _ hM.at_]
    · rw [World.putObj_heap_same hlt]
      refine congrArg (fun a => some (Obj.map a clock)) ?_
      apply Array.ext_getElem?
      intro j
      rw [Array.getElem?_modify]
      simp only [List.getElem?_toArray, List.getElem?_map, List.getElem?_modify]
      by_cases e : i = j
      · subst e; simp only [if_true]; cases L[i]? <;> simp [Ent]
      · simp only [if_neg e]; cases L[j]? <;> simp [Ent]
    · rw [modify_key hM.knodup hil hx]
      intro t ht
      obtain ⟨u, hu, rfl⟩ := List.mem_map.1 ht
      have := hM.born u hu
      split <;> exact this
    · rw [modify_key hM.knodup hil hx, List.map_map]
      have : ((fun t : κ × Value × Nat => t.2.2) ∘ fun t => if t.1 = x then (x, v, t.2.2) else t) = fun t => t.2.2 := by
        funext t; simp only [Function.comp]; split <;> rfl
      rw [this]
      exact hM.bnodup
    · rw [modify_key hM.knodup hil hx, List.map_map]
      have : ((fun t : κ × Value × Nat => t.1) ∘ fun t => if t.1 = x then (x, v, t.2.2) else t) = fun t => t.1 := by
        funext t; simp only [Function.comp]; split
        · rename_i h; exact h.symm
        · rfl
      rw [this]
      exact hM.knodup
    · unfold upd
      have : x ∈ (kv L).map (·.1) := by
        have : L[i].1 ∈ (kv L).map (·.1) := by simp only [kv, List.map_map]; exact List.mem_map.2 ⟨L[i], List.getElem_mem _, rfl⟩
        rw [← hx]; exact this
      rw [if_pos this, modify_key hM.knodup hil hx]
      simp only [kv, List.map_map]
      refine List.map_congr_left fun t _ => ?_
      simp only [Function.comp]
      split <;> rfl

theorem MapIs.erase (K : KeyEnc P k enc) {T e ty : TypeId} {tys : Array TypeId} (hT : P.underlying T = some (.map k e)) (ht0 : tys[0]? = some T) {w : World} {r : Nat} {m : List (κ × Value)} (h : MapAt enc w r m) (x : κ) :
    ∃ w', (Builtin.delete_ tys ty #[.map (some r), enc x]).run P w = .ok (.tuple #[]) w' ∧ MapAt enc w' r (del m x) ∧ Chg w w' r := by
  obtain ⟨L, clock, hM, rfl⟩ := h
  have hlt : r < w.heap.size := (Array.getElem?_eq_some_iff.1 hM.at_).1
  cases hi : L.findIdx? (fun t => decide (t.1 = x)) with
  | none =>
    refine ⟨w.putObj r (.map (L.map (Ent enc)).toArray clock), ?_, ⟨L, clock, ⟨World.putObj_heap_same hlt, hM.born, hM.bnodup, hM.knodup⟩, ?_⟩, Chg.putObj _ _ _⟩
    · simp [Builtin.delete_, ht0, Sem.run_bind, run_underlying hT, getMap hM.at_, K.check, K.find, hi, setMap _ hM.at_]
    · unfold del
      rw [List.filter_eq_self.2]
      intro p hp
      obtain ⟨t, ht, rfl⟩ := List.mem_map.1 hp
      have : t.1 ≠ x := fun e => idx_none hi (by rw [← e]; exact List.mem_map_of_mem ht)
      simpa using this
  | some i =>
    obtain ⟨hil, hx⟩ := idx_some hi
    have hsub := List.eraseIdx_sublist L i
    refine ⟨w.putObj r (.map ((L.map (Ent enc)).toArray.eraseIdxIfInBounds i) clock), ?_, ⟨L.eraseIdx i, clock, ⟨?_, fun t ht => hM.born t (hsub.subset ht), hM.bnodup.sublist (hsub.map _), hM.knodup.sublist (hsub.map _)⟩, ?_⟩, Chg.putObj _ _ _⟩
    · simp [Builtin.delete_, ht0, Sem.run_bind, run_underlying hT, getMap hM.at_, K.check, K.find, hi, List.getElem?_eq_getElem hil, setMap _ hM.at_]
    · rw [World.putObj_heap_same hlt]
      refine congrArg (fun a => some (Obj.map a clock)) ?_
      simp [eraseIdx_map']
    · rw [erase_key hM.knodup hil hx]
      unfold del kv
      rw [List.filter_map]
      rfl

theorem MapAt.of_heap {w w' : World} {r : Nat} {m : List (κ × Value)} (h : MapAt enc w r m) (e : w'.heap[r]? = w.heap[r]?) : MapAt enc w' r m := by
  obtain ⟨L, clock, hM, rfl⟩ := h
  exact ⟨L, clock, ⟨e.trans hM.at_, hM.born, hM.bnodup, hM.knodup⟩, rfl⟩
theorem MapAt.lt {w : World} {r : Nat} {m : List (κ × Value)} (h : MapAt enc w r m) : r < w.heap.size := by
  obtain ⟨L, clock, hM, rfl⟩ := h
  exact (Array.getElem?_eq_some_iff.1 hM.at_).1
theorem MapAt.later {w w' : World} {r B : Nat} {m : List (κ × Value)} (h : MapAt enc w r m) (hb : Below B w w') (hr : r < B) : MapAt enc w' r m := h.of_heap (hb.block r hr)
theorem MapAt.nodup {w : World} {r : Nat} {m : List (κ × Value)} (h : MapAt enc w r m) : (m.map (·.1)).Nodup := by
  obtain ⟨L, clock, hM, rfl⟩ := h
  have := hM.knodup
  unfold kv
  rw [List.map_map]
  exact this
theorem MapAt.made (w : World) : MapAt enc (w.alloc (.map #[] 0)) w.heap.size ([] : List (κ × Value)) :=
  ⟨[], 0, ⟨heap_alloc_last w _, by simp, by simp, by simp⟩, rfl⟩
theorem MapAt.len {T e : TypeId} (hT : P.underlying T = some (.map k e)) {w : World} {r : Nat} {m : List (κ × Value)} (h : MapAt enc w r m) (ty : TypeId) : (Builtin.len_ #[T] ty #[.map (some r)]).run P w = .ok (.int .i64 m.length) w := by
  obtain ⟨L, clock, hM, rfl⟩ := h
  simp [Builtin.len_, run_underlying hT, getMap hM.at_, goInt, Result.andThen, kv]

/-- The ranging at block it over the map at bm: those left to come. -/
structure Ranging (enc : κ → Value) (w : World) (it bm : Nat) (m left : List (κ × Value)) : Prop where
  ex : ∃ L clock seen since c0, MapIs enc w bm L clock ∧ m = kv L ∧ w.heap[it]? = some (.mapIter (some bm) since seen c0) ∧ (since ≤ c0 ∧ since ≤ clock) ∧ (∀ t ∈ L, t.2.2 < since) ∧ left = kv (L.filter fun t => !seen.contains t.2.2)
theorem Ranging.map {w : World} {it bm : Nat} {m left : List (κ × Value)} (h : Ranging enc w it bm m left) : MapAt enc w bm m := by
  obtain ⟨L, clock, seen, since, c0, h1, h2, _⟩ := h.ex
  exact ⟨L, clock, h1, h2⟩
theorem Ranging.of_heap {w w' : World} {it bm : Nat} {m left : List (κ × Value)} (h : Ranging enc w it bm m left) (e1 : w'.heap[it]? = w.heap[it]?) (e2 : w'.heap[bm]? = w.heap[bm]?) : Ranging enc w' it bm m left := by
  obtain ⟨L, clock, seen, since, c0, h1, h2, h3, h4⟩ := h.ex
  exact ⟨⟨L, clock, seen, since, c0, ⟨e2.trans h1.at_, h1.born, h1.bnodup, h1.knodup⟩, h2, e1.trans h3, h4⟩⟩
theorem Ranging.lt {w : World} {it bm : Nat} {m left : List (κ × Value)} (h : Ranging enc w it bm m left) : it < w.heap.size ∧ bm < w.heap.size ∧ it ≠ bm := by
  obtain ⟨L, clock, seen, since, c0, h1, h2, h3, h4⟩ := h.ex
  refine ⟨(Array.getElem?_eq_some_iff.1 h3).1, (Array.getElem?_eq_some_iff.1 h1.at_).1, ?_⟩
  rintro rfl
  rw [h1.at_] at h3
  cases h3
theorem Ranging.later {w w' : World} {it bm B : Nat} {m left : List (κ × Value)} (h : Ranging enc w it bm m left) (hb : Below B w w') (h1 : it < B) (h2 : bm < B) : Ranging enc w' it bm m left := h.of_heap (hb.block it h1) (hb.block bm h2)
theorem Ranging.sub {w : World} {it bm : Nat} {m left : List (κ × Value)} (h : Ranging enc w it bm m left) : left.Sublist m := by
  obtain ⟨L, clock, seen, since, c0, h1, rfl, h3, h4, h5, rfl⟩ := h.ex
  exact (List.filter_sublist).map _
theorem Ranging.left_eq {w : World} {it bm : Nat} {m left : List (κ × Value)} (h : Ranging enc w it bm m left) : w.rangeLeft bm it = left.length := by
  obtain ⟨L, clock, seen, since, c0, h1, rfl, h3, h4, h5, rfl⟩ := h.ex
  simp only [World.rangeLeft, h1.at_, h3]
  rw [← Array.length_toList]
  unfold leftOf
  rw [Array.toList_filter, List.filter_map, List.length_map]
  unfold kv
  rw [List.length_map]
  rfl
theorem mem_del {m : List (κ × Value)} {x : κ} {p : κ × Value} : p ∈ del m x ↔ p ∈ m ∧ p.1 ≠ x := by simp [del]
theorem del_length {m : List (κ × Value)} {p : κ × Value} (h : p ∈ m) : (del m p.1).length < m.length := by
  unfold del
  refine List.length_filter_lt_length_iff_exists.2 ⟨p, h, by simp⟩
theorem MapAt.range {T e : TypeId} (hT : P.underlying T = some (.map k e)) {w : World} {r : Nat} {m : List (κ × Value)} (h : MapAt enc w r m) :
    ∃ o, (Instr.range T (.map (some r))).run P w = .ok (.pointer (some ⟨w.heap.size, 0, none⟩)) (w.alloc o) ∧ Ranging enc (w.alloc o) w.heap.size r m m := by
  obtain ⟨L, clock, hM, rfl⟩ := h
  have hlt : r < w.heap.size := (Array.getElem?_eq_some_iff.1 hM.at_).1
  refine ⟨.mapIter (some r) clock #[] clock, ?_, ⟨⟨L, clock, #[], clock, clock, ⟨(Below.heap_alloc w _ r hlt).trans hM.at_, hM.born, hM.bnodup, hM.knodup⟩, rfl, heap_alloc_last w _, ⟨Nat.le_refl _, Nat.le_refl _⟩, hM.born, congrArg kv (List.filter_eq_self.2 fun _ _ => by simp).symm⟩⟩⟩
  simp [Instr.range, run_underlying hT, getMap hM.at_, newObj, Sem.run]
theorem Ranging.next {w : World} {it bm : Nat} {m left : List (κ × Value)} (h : Ranging enc w it bm m left) (ty : TypeId) :
    (left = [] ∧ (Instr.next (.pointer (some ⟨it, 0, none⟩)) false ty).run P w = .ok (.tuple #[.bool false]) w) ∨
    ∃ p ∈ left, ∃ w', (Instr.next (.pointer (some ⟨it, 0, none⟩)) false ty).run P w = .ok (.tuple #[.bool true, enc p.1, p.2]) w' ∧ Ranging enc w' it bm m (del left p.1) ∧ Chg w w' it ∧
      (Instr.entry (.pointer (some ⟨it, 0, none⟩))).run P w' = .ok (.tuple #[enc p.1, p.2]) w' := by
  obtain ⟨L, clock, seen, since, c0, h1, rfl, h3, h4, h5, rfl⟩ := h.ex
  have hne := h.lt.2.2
  have hit := h.lt.1
  have hold : ∀ x ∈ (L.map (Ent enc)).toArray.toList, x.born < since := by
    intro x hx
    obtain ⟨t, ht, rfl⟩ := List.mem_map.1 hx
    exact h5 t ht
  have hleft : (leftOf (L.map (Ent enc)).toArray seen).toList = (L.filter fun t => !seen.contains t.2.2).map (Ent enc) := by
    unfold leftOf
    rw [Array.toList_filter, List.toList_toArray, List.filter_map]
    rfl
  rcases run_next_at (P := P) w ty it bm since c0 seen _ clock h3 h1.at_ hold h4.1 with ⟨a1, a2⟩ | ⟨x, hx, w1, hw1, hrun⟩
  · refine .inl ⟨?_, a2⟩
    have : ((leftOf (L.map (Ent enc)).toArray seen).toList).length = 0 := by rw [Array.length_toList]; exact a1
    rw [hleft, List.length_map] at this
    unfold kv
    rw [List.length_eq_zero_iff.1 this]
    rfl
  · rw [hleft] at hx
    obtain ⟨t, ht, rfl⟩ := List.mem_map.1 hx
    have htL := (List.mem_filter.1 ht).1
    have hat1 : w1.heap = w.heap := by rcases hw1 with rfl | rfl <;> rfl
    refine .inr ⟨(t.1, t.2.1), List.mem_map.2 ⟨t, ht, rfl⟩, _, hrun, ⟨⟨L, clock, seen.push t.2.2, since, clock, ⟨?_, h1.born, h1.bnodup, h1.knodup⟩, rfl, ?_, ?_, h5, ?_⟩⟩, ?_, ?_⟩
    · show (w1.heap.setIfInBounds it _)[bm]? = _
      rw [Array.getElem?_setIfInBounds_ne hne, hat1]; exact h1.at_
    · show (w1.heap.setIfInBounds it _)[it]? = _
      rw [Array.getElem?_setIfInBounds_self_of_lt (by rw [hat1]; exact hit)]; rfl
    · exact ⟨h4.2, h4.2⟩
    · unfold del kv
      rw [List.filter_map]
      congr 1
      rw [List.filter_filter]
      refine List.filter_congr fun u hu => ?_
      simp only [Function.comp]
      have key : u.1 = t.1 ↔ u.2.2 = t.2.2 := by
        obtain ⟨i, hi, rfl⟩ := List.getElem_of_mem hu
        obtain ⟨j, hj, rfl⟩ := List.getElem_of_mem htL
        constructor
        · intro e
          have : (L.map (·.1))[i]'(by simpa using hi) = (L.map (·.1))[j]'(by simpa using hj) := by simpa using e
          have := nodup_inj h1.knodup _ _ this
          subst this; rfl
        · intro e
          have : (L.map (·.2.2))[i]'(by simpa using hi) = (L.map (·.2.2))[j]'(by simpa using hj) := by simpa using e
          have := nodup_inj h1.bnodup _ _ this
          subst this; rfl
      by_cases e : u.1 = t.1
      · simp [e, key.1 e]
      · have e2 : ¬ u.2.2 = t.2.2 := fun x => e (key.2 x)
        simp [e, e2]
    · rcases hw1 with rfl | rfl
      · exact Chg.putObj _ _ _
      · exact ⟨rfl, rfl, rfl, by simp [setBlock], fun j hj => Array.getElem?_setIfInBounds_ne (fun e => hj e.symm)⟩
    · refine run_entry_at _ it bm since seen (L.map (Ent enc)).toArray clock (Ent enc t) ?_ ?_ ?_ ?_
      · show (w1.heap.setIfInBounds it _)[it]? = _
        rw [Array.getElem?_setIfInBounds_self_of_lt (by rw [hat1]; exact hit)]
      · show (w1.heap.setIfInBounds it _)[bm]? = _
        rw [Array.getElem?_setIfInBounds_ne hne, hat1]; exact h1.at_
      · exact List.mem_map_of_mem htL
      · show ((L.map (Ent enc)).map (·.born)).Nodup
        rw [List.map_map]; exact h1.bnodup
theorem Ranging.erase (K : KeyEnc P k enc) {T e ty : TypeId} {tys : Array TypeId} (hT : P.underlying T = some (.map k e)) (ht0 : tys[0]? = some T) {w : World} {it bm : Nat} {m left : List (κ × Value)} (h : Ranging enc w it bm m left) (x : κ) :
    ∃ w', (Builtin.delete_ tys ty #[.map (some bm), enc x]).run P w = .ok (.tuple #[]) w' ∧ Ranging enc w' it bm (del m x) (del left x) ∧ Chg w w' bm := by
  obtain ⟨L, clock, seen, since, c0, hM, rfl, h3, h4, h5, rfl⟩ := h.ex
  have hlt : bm < w.heap.size := h.lt.2.1
  have hne := h.lt.2.2
  cases hi : L.findIdx? (fun t => decide (t.1 = x)) with
  | none =>
    have hno := idx_none hi
    have hdel : ∀ Lx : List (κ × Value × Nat), (∀ t ∈ Lx, t ∈ L) → kv Lx = del (kv Lx) x := by
      intro Lx hs
      unfold del
      rw [List.filter_eq_self.2]
      intro p hp
      obtain ⟨t, ht, rfl⟩ := List.mem_map.1 hp
      have : t.1 ≠ x := fun e => hno (by rw [← e]; exact List.mem_map_of_mem (hs t ht))
      simpa using this
    refine ⟨w.putObj bm (.map (L.map (Ent enc)).toArray clock), ?_, ⟨⟨L, clock, seen, since, c0, ⟨World.putObj_heap_same hlt, hM.born, hM.bnodup, hM.knodup⟩, (hdel L fun _ h => h).symm, (World.putObj_heap_other (fun e => hne e)).trans h3, h4, h5, (hdel _ fun t ht => (List.mem_filter.1 ht).1).symm⟩⟩, Chg.putObj _ _ _⟩
    simp [Builtin.delete_, ht0, Sem.run_bind, run_underlying hT, getMap hM.at_, K.check, K.find, hi, setMap _ hM.at_]
  | some i =>
    obtain ⟨hil, hx⟩ := idx_some hi
    have hsub := List.eraseIdx_sublist L i
    have her := erase_key hM.knodup hil hx
    refine ⟨w.putObj bm (.map ((L.map (Ent enc)).toArray.eraseIdxIfInBounds i) clock), ?_, ⟨⟨L.eraseIdx i, clock, seen, since, c0, ⟨?_, fun t ht => hM.born t (hsub.subset ht), hM.bnodup.sublist (hsub.map _), hM.knodup.sublist (hsub.map _)⟩, ?_, (World.putObj_heap_other (fun e => hne e)).trans h3, h4, fun t ht => h5 t (hsub.subset ht), ?_⟩⟩, Chg.putObj _ _ _⟩
    · simp [Builtin.delete_, ht0, Sem.run_bind, run_underlying hT, getMap hM.at_, K.check, K.find, hi, List.getElem?_eq_getElem hil, setMap _ hM.at_]
    · rw [World.putObj_heap_same hlt]
      refine congrArg (fun a => some (Obj.map a clock)) ?_
      simp [eraseIdx_map']
    · rw [her]
      unfold del kv
      rw [List.filter_map]
      rfl
    · rw [her]
      unfold del kv
      rw [List.filter_map, List.filter_filter, List.filter_filter]
      congr 1
      refine List.filter_congr fun u _ => ?_
      exact Bool.and_comm _ _
end

section
variable {P : Program} {κ : Type} [DecidableEq κ] {enc : κ → Value} {k : TypeId} {ops : Array Oper} {rest : List Oper} {o : Oper} {a : Act} {Q : Exit → Act → World → Prop}
/-- 'range m'. -/
theorem wpl_range (hg : o.guard = none) (x : Operand) (T : TypeId) (hop : o.op = Op.range T x) (e : TypeId) (hT : P.underlying T = some (.map k e)) (w : World) (bm : Nat) (m : List (κ × Value)) (hm : a.eval x = .map (some bm)) (h : MapAt enc w bm m)
    (hK : ∀ w', Ranging enc w' w.heap.size bm m m → Below w.heap.size w w' → w'.heap.size = w.heap.size + 1 → wpList P ops Q rest (a.put o.dst (.pointer (some ⟨w.heap.size, 0, none⟩))) w') :
    wpList P ops Q (o :: rest) a w := by
  refine wpList_plain hg fun K' hK' => ?_
  obtain ⟨ob, hrun, hr⟩ := h.range hT
  unfold Oper.wp
  simp [execOp, hop, hm, hrun, Result.andThen]
  exact hK' _ _ (hK _ hr ((Below.refl _ _).alloc (Nat.le_refl _) _) (by simp))
/-- 'next': nothing is left, or one of those that are left, whichever. -/
theorem wpl_next (hg : o.guard = none) (x : Operand) (hop : o.op = Op.next x false) (w : World) (it bm : Nat) (m left : List (κ × Value)) (hx : a.eval x = .pointer (some ⟨it, 0, none⟩)) (h : Ranging enc w it bm m left)
    (hDone : left = [] → wpList P ops Q rest (a.put o.dst (.tuple #[.bool false])) w)
    (hMore : ∀ p w', p ∈ left → Ranging enc w' it bm m (del left p.1) → Chg w w' it → (Instr.entry (.pointer (some ⟨it, 0, none⟩))).run P w' = .ok (.tuple #[enc p.1, p.2]) w' → wpList P ops Q rest (a.put o.dst (.tuple #[.bool true, enc p.1, p.2])) w') :
    wpList P ops Q (o :: rest) a w := by
  refine wpList_plain hg fun K' hK' => ?_
  unfold Oper.wp
  rcases h.next (P := P) o.type with ⟨h0, hrun⟩ | ⟨p, hp, w', hrun, hr, hc, hen⟩
  · simp [execOp, hop, hx, hrun, Result.andThen]
    exact hK' _ _ (hDone h0)
  · simp [execOp, hop, hx, hrun, Result.andThen]
    exact hK' _ _ (hMore p w' hp hr hc hen)
/-- 'm[x] = v'. -/
theorem wpl_update (K : KeyEnc P k enc) (hg : o.guard = none) (mo xo vo : Operand) (T : TypeId) (hop : o.op = Op.mapUpdate T mo xo vo) (e : TypeId) (hT : P.underlying T = some (.map k e)) (w : World) (bm : Nat) (m : List (κ × Value)) (x : κ) (v : Value)
    (hm : a.eval mo = .map (some bm)) (hx : a.eval xo = enc x) (hv : a.eval vo = v) (h : MapAt enc w bm m)
    (hK : ∀ w', MapAt enc w' bm (upd m x v) → Chg w w' bm → wpList P ops Q rest (a.put o.dst undef) w') :
    wpList P ops Q (o :: rest) a w := by
  refine wpList_plain hg fun K' hK' => ?_
  obtain ⟨w', hrun, r1, r2⟩ := MapIs.update K hT h x v
  unfold Oper.wp
  simp [execOp, hop, hm, hx, hv, hrun, Result.andThen]
  exact hK' _ _ (hK w' r1 r2)
/-- 'delete(m, x)'. -/
theorem wpl_delete (K : KeyEnc P k enc) (hg : o.guard = none) (mo xo : Operand) (T t' : TypeId) (hop : o.op = Op.call { callee := Callee.builtin Builtin.delete, args := #[mo, xo], argTypes := #[T, t'] }) (e : TypeId) (hT : P.underlying T = some (.map k e)) (w : World) (bm : Nat) (m : List (κ × Value)) (x : κ)
    (hm : a.eval mo = .map (some bm)) (hx : a.eval xo = enc x) (h : MapAt enc w bm m)
    (hK : ∀ w', MapAt enc w' bm (del m x) → Chg w w' bm → wpList P ops Q rest (a.put o.dst (.tuple #[])) w') :
    wpList P ops Q (o :: rest) a w := by
  refine wpList_plain hg fun K' hK' => ?_
  obtain ⟨w', hrun, r1, r2⟩ := MapIs.erase (ty := o.type) (tys := #[T, t']) K hT rfl h x
  unfold Oper.wp
  simp [execOp, hop, resolve, invoke, builtin, hm, hx, hrun, Result.andThen]
  exact hK' _ _ (hK w' r1 r2)
end

section
variable {P : Program} {κ : Type} [DecidableEq κ] {enc : κ → Value} {k : TypeId}
theorem look_kv (L : List (κ × Value × Nat)) (x : κ) : ((L.findIdx? fun t => decide (t.1 = x)).bind fun i => (L[i]?).map fun t => (i, t.2.1)).map (·.2) = look (kv L) x := by
  induction L with
  | nil => rfl
  | cons t L ih =>
    unfold look kv at *
    by_cases e : t.1 = x
    · simp [List.findIdx?_cons, e]
    · simp only [List.findIdx?_cons, e, decide_false, Bool.false_eq_true, if_false, List.map_cons, List.find?_cons]
      rw [← ih]
      cases L.findIdx? (fun t => decide (t.1 = x)) with
      | none => rfl
      | some i => simp [Function.comp_def]
/-- 'm[x]'. -/
theorem MapAt.lookup (K : KeyEnc P k enc) {T e : TypeId} (hT : P.underlying T = some (.map k e)) {z : Value} (hz : ∀ w, (zeroValue e).run P w = .ok z w) {w : World} {r : Nat} {m : List (κ × Value)} (h : MapAt enc w r m) (x : κ) (c : Bool) :
    (Instr.lookup T (.map (some r)) (enc x) c).run P w = .ok (if c then .tuple #[(look m x).getD z, .bool (look m x).isSome] else (look m x).getD z) w := by
  obtain ⟨L, clock, hM, rfl⟩ := h
  rw [← look_kv L x]
  have hf := K.find x L w
  generalize ((L.findIdx? fun t => decide (t.1 = x)).bind fun i => (L[i]?).map fun t => (i, t.2.1)) = a at hf ⊢
  simp only [Instr.lookup, Sem.run_bind, run_underlying hT, Result.andThen_ok, getMap hM.at_, Sem.run_pure, K.check, hf]
  cases a with
  | none => simp [hz]
  | some p => obtain ⟨i, v⟩ := p; simp
/-- 'm[x]' of a map that is nil. -/
theorem run_lookup_nil (K : KeyEnc P k enc) {T e : TypeId} (hT : P.underlying T = some (.map k e)) {z : Value} (hz : ∀ w, (zeroValue e).run P w = .ok z w) {w : World} (x : κ) (c : Bool) :
    (Instr.lookup T (.map none) (enc x) c).run P w = .ok (if c then .tuple #[z, .bool false] else z) w := by
  have hf := K.find x [] w
  simp at hf
  simp only [Instr.lookup, Sem.run_bind, run_underlying hT, Result.andThen_ok, Sem.run_pure, K.check]
  simp [hf, hz]
end
/-- Keys that are numbers. -/
def ik (x : Int) : Value := .int .i64 x
theorem ik_findNow (x : Int) : ∀ (L : List (Int × Value × Nat)) (i : Nat), Instr.findNow (.int .i64) (ik x) (L.map (Ent ik)) i = some ((L.findIdx? fun t => decide (t.1 = x)).bind fun j => (L[j]?).map fun t => (i + j, t.2.1))
  | [], i => by simp [Instr.findNow]
  | t :: L, i => by
    have h := ik_findNow x L (i + 1)
    rw [List.map_cons, Instr.findNow]
    have hs : Instr.sameNow (.int .i64) (ik x) (Ent ik t).key = some (x == t.1) := by simp [Instr.sameNow, ik, Ent]
    rw [hs]
    by_cases e : t.1 = x
    · subst e; simp [List.findIdx?_cons, Ent]
    · have e2 : (x == t.1) = false := by simpa using fun h => e h.symm
      rw [e2]
      simp only [h, List.findIdx?_cons, e, decide_false, Bool.false_eq_true, if_false]
      cases hL : L.findIdx? (fun t => decide (t.1 = x)) with
      | none => rfl
      | some j => simp [Nat.add_assoc, Nat.add_comm 1 j]
theorem ikEnc {P : Program} {k : TypeId} (hk : P.underlying k = some (.int .i64)) : KeyEnc P k ik where
  inj := fun x y h => by simpa [ik] using h
  check := fun em x w => Go.MapKept.run_checkKey hk (by simp [Go.MapKept.IsKey, ik]) em 9999
  find := fun x L w => by
    have := ik_findNow x L 0
    rw [Go.MapKept.run_findKey hk this]
    simp
  stays := fun x w => Go.MapKept.run_keyThatStays (d := .int .i64) (by simp [Go.MapKept.IsKey, ik])

section
variable {ν : Type} (f : ν → Value)
/-- A map whose elements are of a type of one's own, written by f. -/
def lift (m : List (Int × ν)) : List (Int × Value) := m.map fun p => (p.1, f p.2)
def MapOf (W : World) (r : Nat) (m : List (Int × ν)) : Prop := MapAt ik W r (lift f m)
def updD (m : List (Int × ν)) (x : Int) (v : ν) : List (Int × ν) := if x ∈ m.map (·.1) then m.map (fun p => if p.1 = x then (x, v) else p) else m ++ [(x, v)]
def delD (m : List (Int × ν)) (x : Int) : List (Int × ν) := m.filter fun p => decide (p.1 ≠ x)
def lookD (m : List (Int × ν)) (x : Int) : Option ν := (m.find? fun p => decide (p.1 = x)).map (·.2)
theorem lift_keys (m : List (Int × ν)) : (lift f m).map (·.1) = m.map (·.1) := by simp [lift]
theorem lift_upd (m : List (Int × ν)) (x : Int) (v : ν) : upd (lift f m) x (f v) = lift f (updD m x v) := by
  unfold upd updD
  rw [lift_keys]
  split
  · simp only [lift, List.map_map]
    refine List.map_congr_left fun p _ => ?_
    simp only [Function.comp]
    split <;> rfl
  · simp [lift]
theorem lift_del (m : List (Int × ν)) (x : Int) : del (lift f m) x = lift f (delD m x) := by
  unfold del delD lift
  rw [List.filter_map]
  rfl
theorem lift_look (m : List (Int × ν)) (x : Int) : look (lift f m) x = (lookD m x).map f := by
  unfold look lookD lift
  induction m with
  | nil => rfl
  | cons p m ih =>
    simp only [List.map_cons, List.find?_cons]
    by_cases h : p.1 = x
    · simp [h]
    · simp only [h, decide_false, ih]
theorem lift_len (m : List (Int × ν)) : (lift f m).length = m.length := by simp [lift]
variable {f}
theorem lookD_upd (m : List (Int × ν)) (x y : Int) (v : ν) : lookD (updD m x v) y = if y = x then some v else lookD m y := by
  unfold lookD updD
  by_cases hm : x ∈ m.map (·.1)
  · rw [if_pos hm]
    induction m with
    | nil => simp at hm
    | cons p m ih =>
      simp only [List.map_cons, List.find?_cons]
      by_cases hp : p.1 = x
      · by_cases hy : y = x
        · subst hy; simp [hp]
        · have h1 : ¬ x = y := fun e => hy e.symm
          have h2 : ¬ p.1 = y := by rw [hp]; exact h1
          simp only [hp, if_true, h1, hy, decide_false, if_false]
          by_cases hm2 : x ∈ m.map (·.1)
          · have := ih hm2
            rw [if_neg hy] at this
            exact this
          · congr 2
            rw [List.map_congr_left (g := id), List.map_id]
            intro q hq
            have : ¬ q.1 = x := fun e => hm2 (by rw [← e]; exact List.mem_map_of_mem hq)
            simp [this]
      · have hm2 : x ∈ m.map (·.1) := by
          rcases List.mem_cons.1 (by simpa using hm : x ∈ p.1 :: m.map (·.1)) with h | h
          · exact absurd h.symm hp
          · exact h
        have := ih hm2
        simp only [hp, if_false]
        by_cases hpy : p.1 = y
        · have : ¬ y = x := by rw [← hpy]; exact hp
          simp [hpy, this]
        · simp only [hpy, decide_false]
          exact this
  · rw [if_neg hm, List.find?_append]
    by_cases hy : y = x
    · subst hy
      have : m.find? (fun p => decide (p.1 = y)) = none := by
        rw [List.find?_eq_none]
        intro q hq
        have : ¬ q.1 = y := fun e => hm (by rw [← e]; exact List.mem_map_of_mem hq)
        simpa using this
      simp [this]
    · have h1 : ¬ x = y := fun e => hy e.symm
      simp [h1, hy]
theorem lookD_del (m : List (Int × ν)) (x y : Int) : lookD (delD m x) y = if y = x then none else lookD m y := by
  unfold lookD delD
  induction m with
  | nil => simp
  | cons p m ih =>
    by_cases hp : p.1 = x
    · rw [List.filter_cons_of_neg (by simp [hp]), ih]
      by_cases hy : y = x
      · simp [hy]
      · have : ¬ p.1 = y := by rw [hp]; exact fun e => hy e.symm
        simp [hy, this]
    · rw [List.filter_cons_of_pos (by simpa using hp)]
      simp only [List.find?_cons]
      by_cases hpy : p.1 = y
      · have : ¬ y = x := by rw [← hpy]; exact hp
        simp [hpy, this]
      · simp only [hpy, decide_false]
        exact ih
theorem mem_keys {m : List (Int × ν)} {x : Int} : x ∈ m.map (·.1) ↔ (lookD m x).isSome = true := by
  unfold lookD
  rw [Option.isSome_map, List.find?_isSome]
  simp only [List.mem_map, decide_eq_true_eq]
theorem updD_keys (m : List (Int × ν)) (x : Int) (v : ν) : (updD m x v).map (·.1) = if x ∈ m.map (·.1) then m.map (·.1) else m.map (·.1) ++ [x] := by
  unfold updD
  by_cases h : x ∈ m.map (·.1)
  · rw [if_pos h, if_pos h, List.map_map]
    refine List.map_congr_left fun p _ => ?_
    simp only [Function.comp]
    split
    · rename_i e; exact e.symm
    · rfl
  · rw [if_neg h, if_neg h, List.map_append]; rfl
theorem updD_len (m : List (Int × ν)) (x : Int) (v : ν) : (updD m x v).length ≤ m.length + 1 := by
  unfold updD
  split <;> simp
theorem delD_len (m : List (Int × ν)) (x : Int) : (delD m x).length ≤ m.length := List.length_filter_le _ _
theorem updD_nodup {m : List (Int × ν)} (h : (m.map (·.1)).Nodup) (x : Int) (v : ν) : ((updD m x v).map (·.1)).Nodup := by
  rw [updD_keys]
  split
  · exact h
  · rename_i hx
    rw [List.nodup_append]
    refine ⟨h, by simp, fun a ha b hb e => ?_⟩
    simp at hb
    subst hb e
    exact hx ha
theorem delD_nodup {m : List (Int × ν)} (h : (m.map (·.1)).Nodup) (x : Int) : ((delD m x).map (·.1)).Nodup := h.sublist (List.filter_sublist.map _)
theorem MapOf.nodup {W : World} {r : Nat} {m : List (Int × ν)} (h : MapOf f W r m) : (m.map (·.1)).Nodup := by
  have := MapAt.nodup h
  rwa [lift_keys] at this
theorem MapOf.lt {W : World} {r : Nat} {m : List (Int × ν)} (h : MapOf f W r m) : r < W.heap.size := MapAt.lt h
theorem MapOf.later {W W' : World} {r B : Nat} {m : List (Int × ν)} (h : MapOf f W r m) (hb : Below B W W') (hr : r < B) : MapOf f W' r m := MapAt.later h hb hr
theorem MapOf.of_heap {W W' : World} {r : Nat} {m : List (Int × ν)} (h : MapOf f W r m) (e : W'.heap[r]? = W.heap[r]?) : MapOf f W' r m := MapAt.of_heap h e
theorem MapOf.made (W : World) : MapOf f (W.alloc (.map #[] 0)) W.heap.size ([] : List (Int × ν)) := MapAt.made W
end
section
variable {P : Program} {k : TypeId} {ops : Array Oper} {rest : List Oper} {o : Oper} {a : Act} {Q : Exit → Act → World → Prop} {ν : Type} {f : ν → Value}
/-- 'm[x] = v'. -/
theorem wpl_updateD (hk : P.underlying k = some (.int .i64)) (hg : o.guard = none) (mo xo vo : Operand) (T : TypeId) (hop : o.op = Op.mapUpdate T mo xo vo) (e : TypeId) (hT : P.underlying T = some (.map k e)) (w : World) (bm : Nat) (m : List (Int × ν)) (x : Int) (v : ν)
    (hm : a.eval mo = .map (some bm)) (hx : a.eval xo = .int .i64 x) (hv : a.eval vo = f v) (h : MapOf f w bm m)
    (hK : ∀ w', MapOf f w' bm (updD m x v) → Chg w w' bm → wpList P ops Q rest (a.put o.dst undef) w') :
    wpList P ops Q (o :: rest) a w :=
  wpl_update (ikEnc hk) hg mo xo vo T hop e hT w bm (lift f m) x (f v) hm hx hv h fun w' h1 h2 => hK w' (by unfold MapOf; rw [← lift_upd]; exact h1) h2
/-- 'delete(m, x)'. -/
theorem wpl_deleteD (hk : P.underlying k = some (.int .i64)) (hg : o.guard = none) (mo xo : Operand) (T t' : TypeId) (hop : o.op = Op.call { callee := Callee.builtin Builtin.delete, args := #[mo, xo], argTypes := #[T, t'] }) (e : TypeId) (hT : P.underlying T = some (.map k e)) (w : World) (bm : Nat) (m : List (Int × ν)) (x : Int)
    (hm : a.eval mo = .map (some bm)) (hx : a.eval xo = .int .i64 x) (h : MapOf f w bm m)
    (hK : ∀ w', MapOf f w' bm (delD m x) → Chg w w' bm → wpList P ops Q rest (a.put o.dst (.tuple #[])) w') :
    wpList P ops Q (o :: rest) a w :=
  wpl_delete (ikEnc hk) hg mo xo T t' hop e hT w bm (lift f m) x hm hx h fun w' h1 h2 => hK w' (by unfold MapOf; rw [← lift_del]; exact h1) h2
/-- 'm[x]'. -/
theorem wpl_lookupD (hk : P.underlying k = some (.int .i64)) (hg : o.guard = none) (mo xo : Operand) (T : TypeId) (c : Bool) (hop : o.op = Op.lookup T mo xo c) (e : TypeId) (hT : P.underlying T = some (.map k e)) {z : Value} (hz : ∀ w, (zeroValue e).run P w = .ok z w) (w : World) (bm : Nat) (m : List (Int × ν)) (x : Int)
    (hm : a.eval mo = .map (some bm)) (hx : a.eval xo = .int .i64 x) (h : MapOf f w bm m)
    (hK : wpList P ops Q rest (a.put o.dst (if c then .tuple #[((lookD m x).map f).getD z, .bool (lookD m x).isSome] else ((lookD m x).map f).getD z)) w) :
    wpList P ops Q (o :: rest) a w := by
  refine wpList_plain hg fun K' hK' => ?_
  have hrun := MapAt.lookup (ikEnc hk) hT hz h x c
  rw [lift_look, Option.isSome_map] at hrun
  unfold ik at hrun
  unfold Oper.wp
  simp only [execOp, hop, hm, hx, hrun, Sem.run_bind, Sem.run_pure, Result.andThen_ok]
  exact hK' _ _ hK
/-- 'next' over such a map. -/
theorem wpl_nextD (hg : o.guard = none) (x : Operand) (hop : o.op = Op.next x false) (w : World) (it bm : Nat) (m left : List (Int × Value)) (hx : a.eval x = .pointer (some ⟨it, 0, none⟩)) (h : Ranging ik w it bm m left)
    (hDone : left = [] → wpList P ops Q rest (a.put o.dst (.tuple #[.bool false])) w)
    (hMore : ∀ (b : Int) (v : Value) (w' : World), (b, v) ∈ left → Ranging ik w' it bm m (del left b) → Chg w w' it → (Instr.entry (.pointer (some ⟨it, 0, none⟩))).run P w' = .ok (.tuple #[.int .i64 b, v]) w' → wpList P ops Q rest (a.put o.dst (.tuple #[.bool true, .int .i64 b, v])) w') :
    wpList P ops Q (o :: rest) a w :=
  wpl_next hg x hop w it bm m left hx h hDone fun p w' => hMore p.1 p.2 w'
end
end Go.Proofs.Ytbcjcfjbdjdajaa
