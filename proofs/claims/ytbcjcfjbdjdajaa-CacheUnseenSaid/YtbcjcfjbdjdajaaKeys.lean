/- Maps of one's own as the kit's maps; the keys of such a map, sorted: slices.Sorted(maps.Keys(m)). Keys are of 64 bits. -/
import Derived.Test.YtbcjcfjbdjdajaaRow
import Derived.Test.YtbcjcfjbdjdajaaMap
import Derived.Test.YtbcjcfjbdjdajaaIter
import Derived.Test.YtbcjcfjbdjdajaaChecked
namespace Go.Proofs.Ytbcjcfjbdjdajaa
open Go.RowKit Go.Maps Go.Sort Go.Shelf
def ic (x : Int) : List Value := [.int .i64 x]
theorem ic_len (x : Int) : (ic x).length = 1 := rfl
/-- A slice value whose elements are these numbers. -/
def Ints (W : World) (v : Value) (l : List Int) : Prop := Sl W v l.length (flat ic l)
theorem ic_one (l : List Int) : ∀ u ∈ flat ic l, u.oneCell' = true := flat_one (fun x u hu => by simp [ic] at hu; subst hu; rfl) l
def sortI (ks : List Int) : List Int := ks.mergeSort fun x y => decide (x ≤ y)
theorem sortI_len (ks : List Int) : (sortI ks).length = ks.length := List.length_mergeSort ks
theorem flat_ic (ks : List Int) : flat ic ks = ks.map (Value.int .i64) := by
  unfold flat
  induction ks with
  | nil => rfl
  | cons k ks ih => rw [List.flatMap_cons, ih]; rfl
def wf64 (x : Int) : Prop := -9223372036854775808 ≤ x ∧ x ≤ 9223372036854775807
theorem wf_of {x : Int} (h : wf64 x) : (Lit.int .i64 x).wf = true := by
  unfold wf64 at h
  have e : (2 : Int) ^ (IntKind.i64.bits - 1) = 9223372036854775808 := by decide
  simp only [Lit.wf, IntKind.min, IntKind.max, Bool.and_eq_true]
  simp [IntKind.signed, e]
  omega
theorem MapAt.owns {P : Program} {k : TypeId} (hk : P.underlying k = some (.int .i64)) {w : World} {r : Nat} {m : List (Int × Value)} (h : MapAt ik w r m) (hwf : ∀ p ∈ m, wf64 p.1) (hl : m.length ≤ maxLen) :
    ∃ D : DataW Unit, w.ownsMap P k (fun _ => some (.nil, [])) r m.length D ∧ (intKeys D).Perm (m.map (·.1)) ∧ Maps.size D = m.length := by
  obtain ⟨L, clock, hM, rfl⟩ := h
  have hrd : ∀ t ∈ L, Go.WideElems.rd P k (fun _ => some ((.nil : DataW Unit), [])) (Ent ik t) = some (.int .i64 t.1, .nil) := fun t ht => by
    unfold Go.WideElems.rd
    have : keyOf P k (Ent ik t).key = some (.int .i64 t.1) := keyOf_int_mk hk (wf_of (hwf (t.1, t.2.1) (List.mem_map.2 ⟨t, ht, rfl⟩)))
    rw [this]; rfl
  have hrg : ((L.map (Ent ik)).map (Go.WideElems.rg P k (fun _ => some ((.nil : DataW Unit), [])))) = L.map fun t => ((.int .i64 t.1 : Lit), (.nil : DataW Unit)) := by
    rw [List.map_map]
    refine List.map_congr_left fun t ht => ?_
    show Go.WideElems.rg P k _ (Ent ik t) = _
    unfold Go.WideElems.rg
    rw [hrd t ht]; rfl
  have hkl : (kv L).length = L.length := by simp [kv]
  refine ⟨_, ⟨(L.map (Ent ik)).toArray, clock, hM.at_, ⟨?_, ⟨?_, ?_, ?_⟩, ?_⟩, ?_, rfl⟩, ?_, ?_⟩
  · simpa [kv] using hl
  · intro x hx
    obtain ⟨t, ht, rfl⟩ := List.mem_map.1 hx
    exact hM.born t ht
  · have := hM.bnodup
    simpa [List.map_map, Function.comp_def, Ent] using this
  · have hn := hM.knodup
    have e : (L.map (Ent ik)).toArray.toList.map (·.key) = (L.map (·.1)).map ik := by simp [List.map_map, Function.comp_def, Ent]
    rw [e]
    exact List.pairwise_map.2 (hn.imp fun hne he => hne (by simpa [ik] using he))
  · intro x hx
    obtain ⟨t, ht, rfl⟩ := List.mem_map.1 hx
    exact ⟨_, hrd t ht⟩
  · simp [kv]
  · show (List.map (fun p : Lit × DataW Unit => _root_.Go.intOf p.1) (List.foldr DataW.insert [] (List.map _ (L.map (Ent ik)).toArray.toList))).Perm _
    rw [List.toList_toArray, hrg]
    refine ((Go.WideShapes.sorted_perm _).map _).trans ?_
    rw [List.map_map]
    simp only [kv, List.map_map]
    exact List.Perm.of_eq (List.map_congr_left fun t _ => rfl)
  · show (List.foldr DataW.insert [] (List.map _ (L.map (Ent ik)).toArray.toList)).length = _
    rw [List.toList_toArray, hrg, (Go.WideShapes.sorted_perm _).length_eq]
    simp [kv]
/-- slices.Sort's two contracts at this dump, at the fence that asks nothing. -/
theorem sortsIn (m : Nat) : AnyZI.SortsIn Try.prog Try.sorted45_ren Fence.wide m :=
  ⟨fun blk off cap ss W hH hblk hsz => callsIn_wide.2 (AnyM.slices_Sort_int Try.sort49 blk off cap ss W hH hblk hsz),
   fun p cap W => callsIn_wide.2 (AnyM.slices_Sort_int_none Try.sort49 p cap W)⟩
theorem keysH (mb : Option Nat) (W : World) : Calls Try.prog 46 #[.map mb] W (fun e w' => e = .returned (.func (.func 50) #[] #[.pointer (some ⟨W.heap.size, 0, none⟩)]) ∧ w' = W.alloc (.cells #[.map mb] 55)) :=
  (callsIn_wide (n := 5)).1 (AnyZI.keys_in Try.keys46 Fence.wide 5 trivial rfl mb W)
set_option maxHeartbeats 1000000 in
theorem sortedH {r : Nat} {m : List (Int × Value)} {w : World} (h : MapAt ik w r m) (hwf : ∀ p ∈ m, wf64 p.1) (hl : m.length ≤ 1000000) :
    Calls Try.prog 45 #[.func (.func 50) #[] #[.pointer (some ⟨w.heap.size, 0, none⟩)]] (w.alloc (.cells #[.map (some r)] 55)) (fun e w' => ∃ a c, e = .returned (.slice a m.length c) ∧ w'.ownsRow w.heap.size 3 1 (.slice a m.length c) m.length (flat ic (sortI (m.map (·.1)))) ∧ Below w.heap.size w w') := by
  obtain ⟨D, hown, hperm, hsize⟩ := MapAt.owns (P := Try.prog) (k := 3) Try.underlying3 h hwf (by unfold maxLen; omega)
  have hbl := hown.lt
  have hseq : SeqGives Fence.wide 2 Try.prog 50 #[.pointer (some ⟨w.heap.size, 0, none⟩)] encZ (fun ss => ss.Perm (intKeys D)) (Maps.size D) (w.alloc (.cells #[.map (some r)] 55)) :=
    AnyZI.keys_gives (ρ := Try.keys46_ren) { Try.keys46 with } Fence.wide _ trivial rfl (by omega) w.heap.size r m.length D _ (by simp) (by simp) (by
      obtain ⟨es, clock, hb, Ft, hs, hD⟩ := hown
      exact ⟨es, clock, (Below.heap_alloc _ _ r hbl).trans hb, Ft, hs, hD⟩)
  have cS := AnyZI.sorted_in Try.sorted45 Fence.wide 5 trivial trivial trivial trivial rfl (by omega) (sortsIn _) (enters_of Try.func49 (by kernel_rfl) rfl) 50 #[.pointer (some ⟨w.heap.size, 0, none⟩)] trivial (enters_of Try.func50 (by kernel_rfl) rfl) _ _ (by rw [hsize]; unfold maxLen; omega) (by rw [hsize]; omega) _ hseq
  change CallsIn _ _ Try.prog 45 _ _ _ at cS
  refine (callsIn_wide.1 cS).mono ?_
  rintro e w' ⟨v, ss, rfl, hS, hrow, _, hb⟩
  have hp : ss.Perm (m.map (·.1)) := hS.trans hperm
  have hlen : ss.length = m.length := by rw [hp.length_eq, List.length_map]
  have hrow' := ownsRow_base_a hrow (show w.heap.size ≤ _ by simp)
  have e1 : (ss.mergeSort fun x y => decide (x ≤ y)) = sortI (m.map (·.1)) := mergeSort_of_perm_i hp
  rw [e1, hlen, show (sortI (m.map (·.1))).map encZ = flat ic (sortI (m.map (·.1))) from (flat_ic _).symm] at hrow'
  obtain ⟨a, c, rfl⟩ := own_shape hrow'
  exact ⟨a, c, rfl, hrow', ((Below.refl _ w).alloc (Nat.le_refl _) _).trans (hb.mono (by simp))⟩
end Go.Proofs.Ytbcjcfjbdjdajaa
