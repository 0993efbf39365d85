/- quernlaw13.RevokeOf returns true. The argument is a slice of records whose numbers are in range. -/
import Derived.Test.YtlnfjcbhicdceaaL3
namespace Go.Proofs.Ytlnfjcbhicdceaa
open Go.RowKit
def leB : Int → Int → Bool := fun x y => decide (x ≤ y)
/-- The blocks of the number, in the list's order. -/
def numL (ml : List K) (s : Int) : List Int := (ml.filter fun x => decide (x.2 = s)).map (·.1)
theorem ofL_keys (m : M) (s : Int) : ofL m s = numL (keys m) s := by
  unfold ofL numL keys
  rw [List.filter_map, List.map_map]
  rfl
theorem numL_snoc (ml : List K) (x : K) (s : Int) : numL (ml ++ [x]) s = if x.2 = s then numL ml s ++ [x.1] else numL ml s := by
  unfold numL
  rw [List.filter_append]
  by_cases h : x.2 = s
  · simp [h]
  · simp [h]
theorem numL_nodup {ml : List K} (h : ml.Nodup) (s : Int) : (numL ml s).Nodup := by
  unfold numL
  have h1 : (ml.filter fun x => decide (x.2 = s)).Nodup := h.filter _
  rw [List.nodup_iff_pairwise_ne] at h1 ⊢
  rw [List.pairwise_map]
  refine List.Pairwise.imp_of_mem (fun {a c} ha hc hne e => hne ?_) h1
  have h2 := (List.mem_filter.1 ha).2
  have h3 := (List.mem_filter.1 hc).2
  simp only [decide_eq_true_eq] at h2 h3
  exact Prod.ext e (h2.trans h3.symm)
/-- What Of tells: just these, rising, each once. -/
structure Told (gs : List Int) (ml : List K) (s : Int) : Prop where
  len : gs.length = (numL ml s).length
  mem : ∀ x ∈ ml, x.2 = s → x.1 ∈ gs
  up : ∀ (i : Nat) (a c : Int), gs[i]? = some a → gs[i + 1]? = some c → a < c
theorem told {m : M} {ml : List K} (hp : (keys m).Perm ml) (hn : (keys m).Nodup) (s : Int) : Told (ofS m s) ml s := by
  have hpm : (ofS m s).Perm (numL ml s) := by
    unfold ofS
    rw [ofL_keys]
    exact (List.mergeSort_perm _ _).trans ((hp.filter _).map _)
  refine ⟨hpm.length_eq, fun x hx hs => ?_, fun i a c ha hc => ?_⟩
  · rw [hpm.mem_iff]
    unfold numL
    exact List.mem_map.2 ⟨x, List.mem_filter.2 ⟨hx, by simpa using hs⟩, rfl⟩
  · have tr : ∀ a b c : Int, leB a b = true → leB b c = true → leB a c = true := fun a b c h1 h2 => by simp only [leB, decide_eq_true_eq] at *; omega
    have to : ∀ a b : Int, (leB a b || leB b a) = true := fun a b => by simp only [leB, Bool.or_eq_true, decide_eq_true_eq]; omega
    have hs : (ofS m s).Pairwise fun a b => leB a b = true := List.pairwise_mergeSort tr to (ofL m s)
    have hnd : (ofS m s).Nodup := hpm.nodup_iff.2 (numL_nodup (hp.nodup_iff.1 hn) s)
    obtain ⟨h1, e1⟩ := List.getElem?_eq_some_iff.1 ha
    obtain ⟨h2, e2⟩ := List.getElem?_eq_some_iff.1 hc
    have h3 := List.pairwise_iff_getElem.1 hs i (i + 1) h1 h2 (by omega)
    have h4 : (ofS m s)[i] ≠ (ofS m s)[i + 1] := List.pairwise_iff_getElem.1 hnd i (i + 1) h1 h2 (by omega)
    rw [e1, e2] at h3 h4
    simp only [leB, decide_eq_true_eq] at h3
    omega
theorem own_ints {W : World} {base : Nat} {gs : List Int} {ao : Option Addr} {n cap : Nat} (h : W.ownsRow base 3 1 (.slice ao n cap) gs.length (iv gs)) (hpos : 0 < gs.length) :
    ∃ gv, ao = some ⟨gv, 0, none⟩ ∧ n ≤ cap ∧ cap ≤ maxLen ∧ gv < W.heap.size ∧ ∀ i y, gs[i]? = some y → W.cell? ⟨gv, i, none⟩ = some (.int .i64 y) := by
  have hc := @World.ownsRow.cells _ _ _ _ _ _ _ h
  rcases h.2 with ⟨hv, h0⟩ | ⟨g, cap', cur, hv, hb, hg, h1, h2, _⟩
  · omega
  · cases hv
    refine ⟨g, rfl, h1, h2, (Array.getElem?_eq_some_iff.1 hg).1, fun i y hy => ?_⟩
    have ea : ∀ j, (⟨g, 0, none⟩ : Addr).add j = ⟨g, j, none⟩ := fun j => by unfold Addr.add; split <;> simp_all
    have hc' := hc (g := g) rfl
    rw [← ea]
    exact hc' _ _ (by unfold iv; rw [List.getElem?_map, hy]; rfl)
set_option maxRecDepth 100000 in
theorem revokeOf_walk (l : List R3) (hok : OkR l) (v : Value) (s : Int) (w : World) (h : Recs w v l) :
    Calls Try.prog 4 #[v, .int .u32 s] w fun e w' => e = .returned (.bool true) ∧ Below w.heap.size w w' := by
  have HR := Lib.hid h
  have hokH := Lib.hid hok
  obtain ⟨ao, cap, hv, _⟩ := h.ex
  clear h hok
  by_cases hl : l.length ≤ 200
  · have hrl := run_len l
    go_enter Try.func4, Try.ntmps4
    subst hv
    have d0 : decide ((200 : Int) < (l.length : Int)) = false := by simp; omega
    go_wp2_with (first
      | (go_at_call 9; refine (laid_c l hl hokH.out _ _ HR.out).mono ?_; rintro e w1 ⟨g, bm, B, v, m, rfl, hI⟩; have I := Lib.hid hI; have hm1000 : m.length ≤ 1000 := (by rw [hI.len]; omega); clear hI)
      | (go_at_call 13; refine (of_tab g bm m hm1000 s _ I.out.tab).mono ?_; rintro e w2 ⟨vo, rfl, ho, hw⟩; have I2 := Lib.hid (I.out.later hw); have T := Lib.hid (told I.out.perm I.out.tab.map.nodup s); have O := Lib.hid ho; clear ho hw))
    have hgl : (ofS m s).length ≤ 1000 := by
      rw [T.out.len]
      have h1 : (numL (refRun l) s).length ≤ (refRun l).length := by unfold numL; rw [List.length_map]; exact List.length_filter_le _ _
      omega
    generalize ofS m s = gs at T O hgl
    obtain ⟨ao2, cap2, rfl⟩ := own_shape I.out.own
    obtain ⟨ao3, cap3, rfl⟩ := own_shape O.out
    go_loopw [8, 9] (fun v8 v9 W => Below w2.heap.size w2 W ∧ ∃ i, v8 = .int .i64 ((numL ((refRun l).take i) s).length : Nat) ∧ v9 = .int .i64 (i : Nat) ∧ i ≤ (refRun l).length) (fun _ v9 _ => ((refRun l).length - intOf v9).toNat)
    case atStart => exact ⟨Below.refl _ _, 0, by simp [numL], rfl, by omega⟩
    case round =>
      obtain ⟨hbw, i, rfl, rfl, hi⟩ := hrel
      have HB := Lib.hid hbw
      have I3 := Lib.hid (I2.out.later hbw)
      have O3 := Lib.hid (own_later O.out hbw)
      clear hbw
      have hnL : (numL ((refRun l).take i) s).length ≤ 200 := by
        have h1 : (numL ((refRun l).take i) s).length ≤ ((refRun l).take i).length := by unfold numL; rw [List.length_map]; exact List.length_filter_le _ _
        rw [List.length_take] at h1
        omega
      by_cases hin : i < (refRun l).length
      · obtain ⟨gv, rfl, hc1, hc2, hgv, hcs⟩ := own_cells I3.out.own (by omega)
        obtain ⟨⟨yb, ys⟩, hy⟩ : ∃ y, (refRun l)[i]? = some y := ⟨_, List.getElem?_eq_getElem hin⟩
        obtain ⟨c0, c1, c2⟩ := hcs i _ hy
        have htk : Hid (numL ((refRun l).take (i + 1)) s = if ys = s then numL ((refRun l).take i) s ++ [yb] else numL ((refRun l).take i) s) := by
          unfold Hid
          rw [List.take_add_one, hy]; exact numL_snoc _ _ _
        have hmem : Hid (ys = s → yb ∈ gs) := fun e => T.out.mem _ (List.mem_of_getElem? hy) e
        clear hcs hy
        by_cases hys : ys = s
        · have htk2 : Hid (numL ((refRun l).take (i + 1)) s = numL ((refRun l).take i) s ++ [yb]) := by unfold Hid; rw [htk.out, if_pos hys]
          have hin2 := Lib.hid (hmem.out hys)
          subst hys
          go_wp2_with fail
          go_loopw [10, 11] (fun v10 v11 W => Below wr.heap.size wr W ∧ ∃ j f, v10 = .bool f ∧ v11 = .int .i64 (j : Nat) ∧ j ≤ gs.length ∧ (yb ∈ gs.take j → f = true)) (fun _ v11 _ => (gs.length - intOf v11).toNat)
          case atStart => exact ⟨Below.refl _ _, 0, false, rfl, rfl, by omega, by simp⟩
          case round =>
            obtain ⟨hbx, j, f, rfl, rfl, hj, hf⟩ := hrel
            have HX := Lib.hid hbx
            have HF := Lib.hid hf
            have O4 := Lib.hid (own_later O3.out hbx)
            have e0 := (World.cell?_of_block (hbx.block gv hgv)).trans c0
            have hgv2 := Nat.lt_of_lt_of_le hgv hbx.size
            clear hbx hf
            by_cases hjn : j < gs.length
            · obtain ⟨gi, rfl, hd1, hd2, hgi, hds⟩ := own_ints O4.out (by omega)
              obtain ⟨z, hz⟩ : ∃ z, gs[j]? = some z := ⟨_, List.getElem?_eq_getElem hjn⟩
              have f0 := hds j _ hz
              have htj : Hid (yb ∈ gs.take (j + 1) → yb ∈ gs.take j ∨ yb = z) := by
                intro hm
                rw [List.take_add_one, hz] at hm
                rcases List.mem_append.1 hm with h1 | h1
                · exact .inl h1
                · simp at h1; exact .inr h1
              clear hds hz
              cases f with
              | true =>
                go_wp2_with fail
                refine wp_region_later (by kernel_rfl) (by kernel_rfl) ?_
                repeat (first | go_big_quiet_step (fail) | quiet_step (fail))
                refine wpQuiet_nil ?_
                rintro ⟨W9, hW9⟩
                dsimp only
                have H9 := Lib.hid hW9
                clear hW9
                go_wp2_with fail
                exact ⟨⟨HX.out.trans (H9.out.mono HX.out.size), j + 1, true, rfl, rfl, by omega, fun _ => rfl⟩, by simp [intOf]; omega⟩
              | false =>
                have q0 : ∀ q : Later wr, q.x.cell? ⟨gi, j, none⟩ = some (.int .i64 z) := fun q => (World.cell?_of_block (q.h.block gi hgi)).trans f0
                have q1 : ∀ q : Later wr, q.x.cell? ⟨gv, i * 3, none⟩ = some (.int .i64 yb) := fun q => (World.cell?_of_block (q.h.block gv hgv2)).trans e0
                by_cases hzy : z = yb
                · subst hzy
                  go_wp2_with fail
                  refine wp_region_later (by kernel_rfl) (by kernel_rfl) ?_
                  repeat (first | go_big_quiet_step (fail) | quiet_step (fail))
                  refine wpQuiet_nil ?_
                  rintro ⟨W9, hW9⟩
                  dsimp only
                  have H9 := Lib.hid hW9
                  clear hW9 q0 q1
                  go_wp2_with fail
                  exact ⟨⟨HX.out.trans (H9.out.mono HX.out.size), j + 1, true, rfl, rfl, by omega, fun _ => rfl⟩, by simp [intOf]; omega⟩
                · have dz : (z == yb) = false := by simpa using hzy
                  go_wp2_with fail
                  refine wp_region_later (by kernel_rfl) (by kernel_rfl) ?_
                  repeat (first | go_big_quiet_step (fail) | quiet_step (fail))
                  refine wpQuiet_nil ?_
                  rintro ⟨W9, hW9⟩
                  dsimp only
                  have H9 := Lib.hid hW9
                  clear hW9 q0 q1
                  go_wp2_with fail
                  refine ⟨⟨HX.out.trans (H9.out.mono HX.out.size), j + 1, false, rfl, rfl, by omega, fun hm => ?_⟩, by simp [intOf]; omega⟩
                  rcases htj.out hm with h1 | h1
                  · exact HF.out h1
                  · exact absurd h1.symm hzy
            · obtain rfl : j = gs.length := by omega
              have hft : f = true := HF.out (by rw [List.take_length]; exact hin2.out)
              subst hft
              go_wp2_with fail
              exact ⟨⟨HB.out.trans (HX.out.mono HB.out.size), i + 1, by rw [htk2.out, List.length_append]; rfl, rfl, by omega⟩, by simp [intOf]; omega⟩
        · have htk2 : Hid (numL ((refRun l).take (i + 1)) s = numL ((refRun l).take i) s) := by unfold Hid; rw [htk.out, if_neg hys]
          go_wp2_with fail
          refine ⟨⟨HB.out, i + 1, ?_, rfl, by omega⟩, by simp [intOf]; omega⟩
          rw [htk2.out]
      · obtain rfl : i = (refRun l).length := by omega
        have hlen : Hid ((numL ((refRun l).take (refRun l).length) s).length = gs.length) := by
          unfold Hid
          rw [List.take_length, T.out.len]
        rw [hlen.out]
        go_wp2_with fail
        go_loopw [12] (fun v12 W => Below wr.heap.size wr W ∧ ∃ k, v12 = .int .i64 ((k + 1 : Nat) : Int) ∧ k ≤ gs.length) (fun v12 _ => (gs.length + 1 - intOf v12).toNat)
        case atStart => exact ⟨Below.refl _ _, 0, rfl, by omega⟩
        case round =>
          obtain ⟨hbx, k, rfl, hk⟩ := hrel
          have HX := Lib.hid hbx
          have O4 := Lib.hid (own_later O3.out hbx)
          clear hbx
          by_cases hkn : k + 1 < gs.length
          · obtain ⟨gi, rfl, hd1, hd2, hgi, hds⟩ := own_ints O4.out (by omega)
            obtain ⟨z, hz⟩ : ∃ z, gs[k]? = some z := ⟨_, List.getElem?_eq_getElem (by omega)⟩
            obtain ⟨y, hy⟩ : ∃ y, gs[k + 1]? = some y := ⟨_, List.getElem?_eq_getElem hkn⟩
            have hzy := T.out.up k z y hz hy
            have f0 := hds k _ hz
            have f1 := hds (k + 1) _ hy
            have dd : decide (y ≤ z) = false := by simp; omega
            have q0 : ∀ q : Later wr, q.x.cell? ⟨gi, k, none⟩ = some (.int .i64 z) := fun q => (World.cell?_of_block (q.h.block gi hgi)).trans f0
            have q1 : ∀ q : Later wr, q.x.cell? ⟨gi, k + 1, none⟩ = some (.int .i64 y) := fun q => (World.cell?_of_block (q.h.block gi hgi)).trans f1
            clear hds hz hy
            go_wp2_with fail
            refine wp_region_later (by kernel_rfl) (by kernel_rfl) ?_
            repeat (first | go_big_quiet_step (fail) | quiet_step (fail))
            refine wpQuiet_nil ?_
            rintro ⟨W9, hW9⟩
            dsimp only
            have H9 := Lib.hid hW9
            clear hW9 q0 q1
            go_wp2_with fail
            exact ⟨⟨HX.out.trans (H9.out.mono HX.out.size), k + 1, rfl, by omega⟩, by simp [intOf]; omega⟩
          · go_wp2_with fail
            go_ret
            exact ⟨rfl, I3.out.bel.trans (HX.out.mono I3.out.bel.size)⟩
  · go_enter Try.func4, Try.ntmps4
    subst hv
    have d0 : decide ((200 : Int) < (l.length : Int)) = true := by simp; omega
    go_wp2_with fail
    go_ret
    exact ⟨rfl, Below.refl _ _⟩
end Go.Proofs.Ytlnfjcbhicdceaa
