/- The transactions that are told in short, laid as a list. At most 60, of at most 1000 rows and revoked blocks each; bytes below 256. -/
import Derived.Test.YtdeeegodiacjgaaW5
namespace Go.Proofs.Ytdeeegodiacjgaa
open Go.RowKit
attribute [local go_sem ↓] loadAtB storeAtB loadAtC storeAtC buildAtC sliceAtC sliceAtB
def trOf (i : Nat) (t : Lt) : Tr := ((i : Int) + 1, t.2.1.map rowC, t.2.2.1)
def shortL (l : List Lt) : List Tr := l.mapIdx trOf
theorem shortL_snoc (l : List Lt) (t : Lt) : shortL (l ++ [t]) = shortL l ++ [trOf l.length t] := by simp [shortL, List.mapIdx_append]
theorem info55 : (Try.prog.info? 55).map (fun i => (i.zero, i.size, i.bytes)) = some (some (.agg #[.int .u32 0, .slice none 0 0, .slice none 0 0]), 3, 56) := by kernel_rfl
/-- A transaction of the call's own, apart from a block. -/
structure TOwn (W : World) (B : Nat) (v : Value) (x : Tv) (t : Tr) : Prop where
  seq : x.1 = t.1
  cps : W.ownsRow B 40 257 x.2.1 t.2.1.length (flat cc t.2.1)
  rvs : W.ownsRow B 3 1 x.2.2 t.2.2.length (flat ic t.2.2)
  apart : ∀ k, v.ownBlock = some k → x.2.1.ownBlock ≠ some k ∧ x.2.2.ownBlock ≠ some k
/-- Transactions of the call's own. -/
structure SI (w : World) (v : Value) (vs : List Tv) (l : List Tr) (W : World) : Prop where
  own : W.ownsRow w.heap.size 55 3 v vs.length (flat tc vs)
  len : vs.length = l.length
  each : ∀ (i : Nat) (x : Tv) (t : Tr), vs[i]? = some x → l[i]? = some t → TOwn W w.heap.size v x t
  bel : Below w.heap.size w W
theorem SI.trs {w : World} {v : Value} {vs : List Tv} {l : List Tr} {W : World} (h : SI w v vs l W) : Trs W v l :=
  ⟨vs, h.len, Sl.own h.own, fun i x t hx ht => ⟨(h.each i x t hx ht).seq, Sl.own (h.each i x t hx ht).cps, Sl.own (h.each i x t hx ht).rvs⟩⟩
theorem SI.later {w : World} {v : Value} {vs : List Tv} {l : List Tr} {W W' : World} (h : SI w v vs l W) (hb : Below W.heap.size W W') : SI w v vs l W' :=
  ⟨own_later h.own hb, h.len, fun i x t hx ht => ⟨(h.each i x t hx ht).seq, own_later (h.each i x t hx ht).cps hb, own_later (h.each i x t hx ht).rvs hb, (h.each i x t hx ht).apart⟩, h.bel.trans (hb.mono h.bel.size)⟩
theorem SI.step {w : World} {v v' : Value} {vs : List Tv} {l : List Tr} {W W2 W3 : World} {o : Obj} {x : Tv} {t : Tr} (h : SI w v vs l W) (hb : Below W.heap.size W W2) (hs : x.1 = t.1) (hc : W2.ownsRow W.heap.size 40 257 x.2.1 t.2.1.length (flat cc t.2.1)) (hr : W2.ownsRow W.heap.size 3 1 x.2.2 t.2.2.length (flat ic t.2.2))
    (ho : W3.ownsRow w.heap.size 55 3 v' (vs.length + 1) (flat tc vs ++ tc x)) (hg : (W2.alloc o).grownBy W3 v.ownBlock) (hat : v'.ownBlock = v.ownBlock ∨ v'.ownBlock = some (W2.alloc o).heap.size) : SI w v' (vs ++ [x]) (l ++ [t]) W3 := by
  have hvlt : ∀ k, v.ownBlock = some k → k < W.heap.size := fun k hk => (h.own.lt k hk).2
  have hsz := hb.size
  have hsz2 : (W2.alloc o).heap.size = W2.heap.size + 1 := by simp
  have keep : ∀ {b e s n : Nat} {u : Value} {xs : List Value}, W2.ownsRow b e s u n xs → (∀ k, v.ownBlock = some k → u.ownBlock ≠ some k) → W3.ownsRow b e s u n xs := fun {b e s n u xs} hu hne => (hu.alloc o).kept hg (by
    cases hu' : u.ownBlock with
    | none => exact .inl rfl
    | some j => exact .inr (fun e => hne j e.symm hu'))
  have newer : ∀ {b e s n : Nat} {u : Value} {xs : List Value}, W2.ownsRow b e s u n xs → (∀ k, v.ownBlock = some k → u.ownBlock ≠ some k) → ∀ k, v'.ownBlock = some k → u.ownBlock ≠ some k := fun {b e s n u xs} hu hne k hk hk2 => by
    rcases hat with h1 | h1
    · exact hne k (h1 ▸ hk) hk2
    · rw [h1] at hk
      cases hk
      have := (hu.lt _ hk2).2
      omega
  refine ⟨?_, by rw [List.length_append, List.length_append, h.len]; rfl, fun i y u hy hu => ?_, ?_⟩
  · rw [List.length_append, flat_snoc]; exact ho
  · by_cases hi : i < vs.length
    · rw [List.getElem?_append_left hi] at hy
      rw [List.getElem?_append_left (by rw [← h.len]; exact hi)] at hu
      have e := h.each i y u hy hu
      have a1 := own_later e.cps hb
      have a2 := own_later e.rvs hb
      exact ⟨e.seq, keep a1 (fun k hk => (e.apart k hk).1), keep a2 (fun k hk => (e.apart k hk).2), fun k hk => ⟨newer a1 (fun k hk => (e.apart k hk).1) k hk, newer a2 (fun k hk => (e.apart k hk).2) k hk⟩⟩
    · have hiv : i = vs.length := by
        have := (List.getElem?_eq_some_iff.1 hy).1
        simp at this
        omega
      subst hiv
      rw [List.getElem?_append_right (Nat.le_refl _), Nat.sub_self] at hy
      rw [h.len, List.getElem?_append_right (Nat.le_refl _), Nat.sub_self] at hu
      simp at hy hu
      subst hy hu
      have b1 : ∀ k, v.ownBlock = some k → x.2.1.ownBlock ≠ some k := fun k hk e => by have := hvlt k hk; have := (hc.lt k e).1; omega
      have b2 : ∀ k, v.ownBlock = some k → x.2.2.ownBlock ≠ some k := fun k hk e => by have := hvlt k hk; have := (hr.lt k e).1; omega
      exact ⟨hs, own_mono (keep hc b1) h.bel.size, own_mono (keep hr b2) h.bel.size, fun k hk => ⟨newer hc b1 k hk, newer hr b2 k hk⟩⟩
  · exact ((h.bel.trans (hb.mono h.bel.size)).alloc (by have := h.bel.size; omega) o).grown hg (by have := h.bel.size; omega) (fun k hk => (h.own.lt k hk).1)
def OkLt (l : List Lt) : Prop := ∀ t ∈ l, ∀ x ∈ t.2.1, x.2.1 < 256
theorem szs_mem {l : List Lt} {t : Lt} (h : t ∈ l) : sz t ≤ szs l := by
  obtain ⟨a, b, rfl⟩ := List.append_of_mem h
  simp [szs]
  omega
theorem shortL_take {l : List Lt} {i : Nat} {t : Lt} (h : l[i]? = some t) : shortL (l.take (i + 1)) = shortL (l.take i) ++ [trOf i t] := by
  have hi := (List.getElem?_eq_some_iff.1 h).1
  rw [List.take_add_one, h]
  show shortL (l.take i ++ [t]) = _
  rw [shortL_snoc, List.length_take, Nat.min_eq_left (by omega)]
def ShortPost (l : List Lt) (w : World) (e : Ending) (w' : World) : Prop := ∃ v vs, e = .returned v ∧ SI w v vs (shortL l) w'
set_option maxRecDepth 100000 in
set_option maxHeartbeats 4000000 in
theorem short_any (l : List Lt) (hl : l.length ≤ 60) (hs : szs l ≤ 1000) (hok : OkLt l) (v : Value) (w : World) (h : Lts w v l) :
    Calls Try.prog 11 #[v] w (ShortPost l w) := by
  have H := Lib.hid h
  have hokH := Lib.hid hok
  obtain ⟨ao, cap, rfl, h1, h2⟩ := h.shape
  clear h hok
  unfold maxLen at h2
  obtain ⟨j0, hj0, jz0, jz1, jz2⟩ := info_parts info55
  go_enter Try.func11, Try.ntmps11
  go_wp2_with fail
  go_loopw [3, 4] (fun v3 v4 W => ∃ i vs, v4 = .int .i64 (i : Nat) ∧ i ≤ l.length ∧ SI w v3 vs (shortL (l.take i)) W) (fun _ v4 _ => (l.length - intOf v4).toNat)
  case atStart => exact ⟨0, [], rfl, by omega, ⟨World.ownsRow_nil _ _ _ _, rfl, fun i x t hx => by simp at hx, Below.refl _ _⟩⟩
  case round =>
    obtain ⟨i, vs, rfl, hi, hI⟩ := hrel
    have I := Lib.hid hI
    have A2 := Lib.hid (H.out.later hI.bel)
    have hvl : vs.length ≤ 60 := by
      rw [hI.len]
      unfold shortL
      rw [List.length_mapIdx, List.length_take]
      omega
    have hwr : Hid (w.heap.size ≤ wr.heap.size) := hI.bel.size
    obtain ⟨ao3, cap3, rfl⟩ := own_shape hI.own
    clear hI
    by_cases hin : i < l.length
    · obtain ⟨t, ht⟩ : ∃ t, l[i]? = some t := ⟨_, List.getElem?_eq_getElem hin⟩
      obtain ⟨g, off, rv, kv, rfl, _, _, hg, c1, c2, p1, p2⟩ := A2.out.at ht
      have hmem := List.mem_of_getElem? ht
      have hsz := szs_mem hmem
      unfold sz at hsz
      have ho := Lib.hid (hokH.out t hmem)
      have htk := Lib.hid (shortL_take ht)
      have P1 := Lib.hid p1
      have P2 := Lib.hid p2
      have f1 : ∀ p : Kept (fun w' => Below wr.heap.size wr w'), p.x.cell? ⟨g, off + i * 4 + 1, none⟩ = some rv := fun p => (World.cell?_of_block (p.h.block _ hg)).trans c1
      have f2 : ∀ p : Kept (fun w' => Below wr.heap.size wr w'), p.x.cell? ⟨g, off + i * 4 + 2, none⟩ = some kv := fun p => (World.cell?_of_block (p.h.block _ hg)).trans c2
      have hne : Nonempty (Kept (fun w' => Below wr.heap.size wr w')) := ⟨⟨wr, Below.refl _ _⟩⟩
      have w1 : IntKind.i64.wrap ((i : Int) + 1) = (i : Int) + 1 := IntWalk.i64_in _ (by omega)
      have w2 : IntKind.u32.wrap ((i : Int) + 1) = (i : Int) + 1 := IntWalk.u32_in _ (by omega)
      clear ht c1 c2 p1 p2 hmem
      go_wp2_with fail
      refine wp_region_plan (fun w' => Below wr.heap.size wr w') [(0, 0), (0, 1), (0, 2), (0, 3), (0, 4), (0, 5), (0, 6), (0, 7), (1, 8), (0, 9), (0, 10), (0, 11), (0, 12), (1, 13), (3, 14), (3, 15), (3, 16), (0, 17)] (by kernel_rfl) (by kernel_rfl) (Below.refl _ _).drew ?_
      repeat (first | (refine wpPlan_pure rfl (fun K hK => ?_); go_simp; refine hK _ ?_; clear hK K) | (refine wpPlan_held rfl (fun K hK => ?_); go_simp; refine hK _ ?_; clear hK K))
      refine wpPlan_last rfl (fun K hK => ?_)
      go_wp2_with (go_at_call 33; refine (trans_any _ t.2.1 t.2.2.1 ho.out (by omega) (by omega) _ _ _ (Sl.later P1.out (Below.refl _ _).drew) (Sl.later P2.out (Below.refl _ _).drew)).mono ?_; rintro e w3 ⟨cv, kv2, rfl, hcv, hkv, hw3⟩; rw [List.length_map] at hcv; obtain ⟨ac, cc1, rfl⟩ := own_shape hcv; obtain ⟨ak, ck1, rfl⟩ := own_shape hkv; have CV := Lib.hid hcv; have KV := Lib.hid hkv; have H3 : Hid (Below wr.heap.size wr w3) := ((Below.refl _ _).drew).trans hw3; clear hcv hkv hw3)
      refine hK.out _ _ ?_
      clear hK K
      have I3 := Lib.hid (I.out.later H3.out)
      have hs3 : Hid (wr.heap.size ≤ w3.heap.size) := H3.out.size
      refine wpPlan_last rfl (fun K hK => ?_)
      go_wp2_with fail
      refine hK.out _ _ ?_
      clear hK K
      refine wpPlan_last rfl (fun K hK => ?_)
      go_wp2_with (at_builtin; refine wpList_append_own_at _ rfl _ _ 25 rfl w.heap.size 55 j0 (.agg #[.int .u32 0, .slice none 0 0, .slice none 0 0]) 3 56 Try.underlying25 hj0 jz0 jz1 jz2 rfl (by decide) _ _ _ rfl (I3.out.own.alloc _) ⟨w3.heap.size, 0, none⟩ 1 1 (tc ((i : Int) + 1, .slice ac t.2.1.length cc1, .slice ak t.2.2.1.length ck1)) rfl rfl (Whole.news (Whole.new w3 _ 55)) (fun u hu => by simp [tc] at hu; rcases hu with rfl | rfl | rfl <;> rfl) (by unfold maxLen; omega) (by omega) (by have := hs3.out; have := hwr.out; simp; omega) ?_; intro v4 W4 hown4 hgrow4 _ hat4; have I4 := Lib.hid (I.out.step (x := ((i : Int) + 1, .slice ac t.2.1.length cc1, .slice ak t.2.2.1.length ck1)) (t := trOf i t) H3.out rfl (by rw [show (trOf i t).2.1.length = t.2.1.length from List.length_map _]; exact CV.out) KV.out hown4 hgrow4 hat4); clear hown4 hgrow4 hat4)
      refine hK.out _ _ ?_
      clear hK K
      repeat (first | (refine wpPlan_pure rfl (fun K hK => ?_); go_simp; refine hK _ ?_; clear hK K) | (refine wpPlan_held rfl (fun K hK => ?_); go_simp; refine hK _ ?_; clear hK K))
      refine wpPlan_nil ?_
      clear w1 w2 f1 f2
      go_wp2_with fail
      have h4 := I4.out
      rw [← htk.out] at h4
      exact ⟨⟨i + 1, _, rfl, by omega, h4⟩, by simp [intOf]; omega⟩
    · obtain rfl : i = l.length := by omega
      go_wp2_with fail
      go_ret
      have hI := I.out
      rw [List.take_length] at hI
      exact ⟨_, vs, rfl, hI⟩
end Go.Proofs.Ytdeeegodiacjgaa
