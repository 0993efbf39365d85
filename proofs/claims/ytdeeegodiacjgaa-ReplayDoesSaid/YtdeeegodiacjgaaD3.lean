/- replay.Do, walked. At most 100000 copies; at most 1000 acts and writes that wait. -/
import Derived.Test.YtdeeegodiacjgaaD2
import Derived.Test.YtdeeegodiacjgaaW9
namespace Go.Proofs.Ytdeeegodiacjgaa
open Go.RowKit
attribute [local go_sem ↓] loadAtB storeAtB loadAtC storeAtC buildAtB loadAtG
theorem do_nil (w : World) (v : Value) (g : Ge) (next : Nat) : Calls Try.prog 20 #[.pointer none, .agg (ga g), v, .int .u32 (next : Int)] w (GPost (.int .i64 1) w) := by
  go_enter Try.func20, Try.ntmps20
  go_wp2_with fail
  go_ret
  exact ⟨rfl, (Below.refl _ _).alloc (Nat.le_refl _) _⟩
theorem do_zero (w : World) (v : Value) (g : Ge) (next : Nat) (r n c : Nat) (c0 : w.cell? ⟨r, 0, none⟩ = some (.slice none n c)) : Calls Try.prog 20 #[.pointer (some ⟨r, 0, none⟩), .agg (ga g), v, .int .u32 (next : Int)] w (GPost (.int .i64 1) w) := by
  have hlt : r < w.heap.size := World.block_lt_of_cell? w ⟨r, 0, none⟩ c0
  have c1 := Lib.hid ((World.cell?_of_block (w' := w.alloc (.cells (ga g) 43)) (a := ⟨r, 0, none⟩) (Below.heap_alloc w _ r hlt)).trans c0)
  clear c0
  go_enter Try.func20, Try.ntmps20
  go_wp2_with (go_at_call 39; refine (blocks_zero c1.out).mono ?_; rintro e w1 ⟨rfl, rfl⟩)
  go_ret
  exact ⟨rfl, (Below.refl _ _).alloc (Nat.le_refl _) _⟩
set_option maxRecDepth 100000 in
set_option maxHeartbeats 1000000 in
theorem do_any (D : Dk) (g : Ge) (l : List Tr) (next : Nat) (F : Bool) (hcn : cpsN l ≤ 100000) (ha : D.acts ≤ 1000) (hf : D.wait.length ≤ 1000) (base r gs gn : Nat) (vw v : Value) (w : World) (h : DAt w base r gs gn vw D) (ht : Trs w v l)
    (HF : ∀ w1, Below w.heap.size w w1 → Calls Try.prog 42 #[.pointer (some ⟨r, 0, none⟩), .agg (ga g), v] w1 (GPost (.bool F) w1)) :
    Calls Try.prog 20 #[.pointer (some ⟨r, 0, none⟩), .agg (ga g), v, .int .u32 (next : Int)] w (DoPost (doD D g (ovOut l) next F) base r gs gn vw w) := by
  have H := Lib.hid h
  have T := Lib.hid ht
  have FF := Lib.hid HF
  have hmay := Lib.hid (may_any g)
  have hhead := Lib.hid (writeHead_any next)
  have hrow : Hid (Whole (w.alloc (.cells (ga g) 43)) w.heap.size (ga g) 43) := Whole.new w (ga g) 43
  have hB0 : Hid (Below w.heap.size w (w.alloc (.cells (ga g) 43))) := (Below.refl _ _).alloc (Nat.le_refl _) _
  have hpos : ¬ (D.safe.length : Int) = 0 := by have := H.out.ok.pos; omega
  have hpos2 : ((D.safe.length : Int) == 0) = false := by simpa using hpos
  obtain ⟨ao, lcap, rfl, h1, h2⟩ := ht.shape
  have hz := zcB
  clear h ht HF
  cases hm : mayB g with
  | false =>
    have hR : Hid (doD D g (ovOut l) next F = (50, D)) := by unfold Hid doD; rw [hm]; rfl
    rw [hR.out]
    have hl := ldG hrow.out
    go_enter Try.func20, Try.ntmps20
    go_wp2_with (first
      | (go_at_call 39; refine (blocks_at (H.out.later hB0.out)).mono ?_; rintro e w1 ⟨rfl, rfl⟩)
      | (go_at_call 40; refine (hmay.out _).mono ?_; rintro e w2 ⟨rfl, hb⟩; rw [hm]; have B2 := Lib.hid hb; clear hb))
    go_ret
    have b2 := hB0.out.trans (B2.out.mono hB0.out.size)
    exact ⟨vw, rfl, H.out.later b2, Ch.of_below b2, fun k hk => .inl hk⟩
  | true =>
    cases hn : numB next with
    | false =>
      have hR : Hid (doD D g (ovOut l) next F = (2, D)) := by unfold Hid doD; rw [hm, hn]; rfl
      have hE : headE next = 2 := by unfold headE; rw [hn]; rfl
      rw [hR.out]
      have hl := ldG hrow.out
      go_enter Try.func20, Try.ntmps20
      go_wp2_with (first
        | (go_at_call 39; refine (blocks_at (H.out.later hB0.out)).mono ?_; rintro e w1 ⟨rfl, rfl⟩)
        | (go_at_call 40; refine (hmay.out _).mono ?_; rintro e w2 ⟨rfl, hb⟩; rw [hm]; have B2 := Lib.hid hb; clear hb)
        | (go_at_call 41; refine (hhead.out _).mono ?_; rintro e w3 ⟨rfl, hb⟩; rw [hE]; have B3 := Lib.hid hb; clear hb; have hs := stRow (headB next) (Whole.new w3 (blk fun _ => 0) 29)))
      go_ret
      have b2 := hB0.out.trans (B2.out.mono hB0.out.size)
      have b3 := b2.trans (B3.out.mono b2.size)
      have b4 := below_setRow' (b3.alloc b3.size (.cells (blk fun _ => 0) 29)) (g := w3.heap.size) b3.size (blk (headB next))
      exact ⟨vw, rfl, H.out.later b4, Ch.of_below b4, fun k hk => .inl hk⟩
    | true =>
      have hE : headE next = 0 := by unfold headE; rw [hn]; rfl
      have hl := ldG hrow.out
      cases F with
      | false =>
        have hR : Hid (doD D g (ovOut l) next false = (2, D)) := by unfold Hid doD; rw [hm, hn]; rfl
        rw [hR.out]
        go_enter Try.func20, Try.ntmps20
        go_wp2_with (first
          | (go_at_call 39; refine (blocks_at (H.out.later hB0.out)).mono ?_; rintro e w1 ⟨rfl, rfl⟩)
          | (go_at_call 40; refine (hmay.out _).mono ?_; rintro e w2 ⟨rfl, hb⟩; rw [hm]; have B2 := Lib.hid hb; clear hb)
          | (go_at_call 41; refine (hhead.out _).mono ?_; rintro e w3 ⟨rfl, hb⟩; rw [hE]; have B3 := Lib.hid hb; clear hb; have hs := stRow (headB next) (Whole.new w3 (blk fun _ => 0) 29); have B3w : Hid (Below w.heap.size w w3) := hB0.out.trans ((B2.out.trans (B3.out.mono B2.out.size)).mono hB0.out.size); have B4 : Hid (Below w.heap.size w ((w3.alloc (.cells (blk fun _ => 0) 29)).setRow w3.heap.size (blk (headB next)))) := below_setRow' (B3w.out.alloc B3w.out.size (.cells (blk fun _ => 0) 29)) (g := w3.heap.size) B3w.out.size (blk (headB next)); have R3 : Hid (Whole ((w3.alloc (.cells (blk fun _ => 0) 29)).setRow w3.heap.size (blk (headB next))) w.heap.size (ga g) 43) := (((hrow.out.later B2.out).later B3.out).alloc _).setRow_other _ (by have := ((hrow.out.later B2.out).later B3.out).lt; omega); have hl4 := ldG R3.out)
          | (go_at_call 42; refine (FF.out _ B4.out).mono ?_; rintro e w5 ⟨rfl, hb⟩; have B5 := Lib.hid hb; clear hb))
        go_ret
        have b5 := B4.out.trans (B5.out.mono B4.out.size)
        exact ⟨vw, rfl, H.out.later b5, Ch.of_below b5, fun k hk => .inl hk⟩
      | true =>
        obtain ⟨R, hR0⟩ : ∃ R, Hid (doD D g (ovOut l) next true = R) := ⟨_, rfl⟩
        have hR : Hid (R = if (wrs D (ovOut l)).1 = 0 then finD (wrs D (ovOut l)).2 (headB next) else wrs D (ovOut l)) := by rw [← hR0.out]; unfold Hid doD; rw [hm, hn]; rfl
        rw [hR0.out]
        clear hR0
        have hov : Hid (∀ (v : Value) (w : World), Trs w v l → Calls Try.prog 14 #[v] w (fun e w' => ∃ u, e = .returned u ∧ w'.ownsRow w.heap.size 40 257 u (ovOut l).length (flat cc (ovOut l)) ∧ Below w.heap.size w w')) := fun v w h => overlay_any l hcn v w h
        have hol : (ovOut l).length ≤ 100000 := Nat.le_trans (ovOut_le l) hcn
        generalize ovOut l = C at hov hol hR
        go_enter Try.func20, Try.ntmps20
        go_wp2_with (first
          | (go_at_call 39; refine (blocks_at (H.out.later hB0.out)).mono ?_; rintro e w1 ⟨rfl, rfl⟩)
          | (go_at_call 40; refine (hmay.out _).mono ?_; rintro e w2 ⟨rfl, hb⟩; rw [hm]; have B2 := Lib.hid hb; clear hb)
          | (go_at_call 41; refine (hhead.out _).mono ?_; rintro e w3 ⟨rfl, hb⟩; rw [hE]; have B3 := Lib.hid hb; clear hb; have hs := stRow (headB next) (Whole.new w3 (blk fun _ => 0) 29); have B3w : Hid (Below w.heap.size w w3) := hB0.out.trans ((B2.out.trans (B3.out.mono B2.out.size)).mono hB0.out.size); have B4 : Hid (Below w.heap.size w ((w3.alloc (.cells (blk fun _ => 0) 29)).setRow w3.heap.size (blk (headB next)))) := below_setRow' (B3w.out.alloc B3w.out.size (.cells (blk fun _ => 0) 29)) (g := w3.heap.size) B3w.out.size (blk (headB next)); have R3 : Hid (Whole ((w3.alloc (.cells (blk fun _ => 0) 29)).setRow w3.heap.size (blk (headB next))) w.heap.size (ga g) 43) := (((hrow.out.later B2.out).later B3.out).alloc _).setRow_other _ (by have := ((hrow.out.later B2.out).later B3.out).lt; omega); have hl4 := ldG R3.out; have X4 : Hid (Whole ((w3.alloc (.cells (blk fun _ => 0) 29)).setRow w3.heap.size (blk (headB next))) w3.heap.size (blk (headB next)) 29) := (Whole.new w3 (blk fun _ => 0) 29).setRow _)
          | (go_at_call 42; refine (FF.out _ B4.out).mono ?_; rintro e w5 ⟨rfl, hb⟩; have B5 := Lib.hid hb; clear hb; have B5w : Hid (Below w.heap.size w w5) := B4.out.trans (B5.out.mono B4.out.size); have X5 := Lib.hid (X4.out.later B5.out))
          | (go_at_call 14; refine (hov.out _ w5 (T.out.later B5w.out)).mono ?_; rintro e w6 ⟨v42, rfl, hown, hb⟩; obtain ⟨a6, c6, hsh⟩ := own_shape hown; subst hsh; have O6 := Lib.hid hown; have B6 := Lib.hid hb; clear hown hb))
        have B6w : Hid (Below w.heap.size w w6) := B5w.out.trans (B6.out.mono B5w.out.size)
        have X6 : Hid (Whole w6 w3.heap.size (blk (headB next)) 29) := X5.out.later B6.out
        have hw3 : Hid (w.heap.size ≤ w3.heap.size) := B3w.out.size
        have hw5 : Hid (w3.heap.size < w5.heap.size) := X5.out.lt
        have ftw : Hid (∀ k, Foot r gs gn vw k → k < w.heap.size) := fun k hk => (H.out.lt k hk).2
        have D0 : Hid (DS base r gs gn vw w6 vw w6 D) := ⟨H.out.later B6w.out, Ch.refl _ _, fun k hk => .inl hk⟩
        clear hs hl hl4 hmay hhead hov B2 B3 B3w B4 R3 X4 B5 X5 FF
        go_loopw [44] (fun v44 W => ∃ i vw' D', v44 = .int .i64 (i : Nat) ∧ i ≤ C.length ∧ wrs D (C.take i) = (0, D') ∧ DS base r gs gn vw w6 vw' W D') (fun v44 _ => (C.length - intOf v44).toNat)
        case atStart => exact ⟨0, vw, D, rfl, by omega, rfl, D0.out⟩
        case round =>
          obtain ⟨i, vw', D', rfl, hi, hrun, hd⟩ := hrel
          have RUN := Lib.hid hrun
          have DD := Lib.hid hd
          have cnt := wrs_counts _ _ _ hrun
          rw [List.length_take, Nat.min_eq_left hi] at cnt
          have hac : D'.acts ≤ 200000 := by omega
          have hwc : D'.wait.length ≤ 200000 := by omega
          have Or : Hid (wr.ownsRow w5.heap.size 40 257 (.slice a6 C.length c6) C.length (flat cc C)) := own_ch O6.out hd.ch (fun k hk hf => by have := ftw.out k hf; have := (O6.out.lt k hk).1; have := B5w.out.size; omega)
          have Xr : Hid (Whole wr w3.heap.size (blk (headB next)) 29) := X6.out.ch hd.ch (fun hf => by have := ftw.out _ hf; have := hw3.out; omega)
          clear hrun hd cnt
          by_cases hin : i < C.length
          · obtain ⟨gc, oc, hsh, _, k2, hgc, hatc⟩ := Sl.at (l := C) (Sl.own Or.out) cc_len (by omega) hin
            subst hsh
            unfold maxLen at k2
            obtain ⟨⟨b, x⟩, hcx⟩ : ∃ c, C[i]? = some c := ⟨_, List.getElem?_eq_getElem hin⟩
            have hl0 := ldC (hatc i _ hcx)
            have hst := fun z => stCnew wr z (b, x)
            have hzc := zcC
            have hc0 := ca_zero (b, x)
            have hl1 := ldB1 wr (b, x)
            have hsn := Lib.hid (wrs_snoc (b, x) _ _ _ RUN.out)
            have htk : Hid (C.take (i + 1) = C.take i ++ [(b, x)]) := by unfold Hid; rw [List.take_add_one, hcx]; rfl
            have DA : Hid (DS base r gs gn vw w6 vw' (wr.alloc (.cells (ca (b, x)) 40)) D') := DD.out.later ((Below.refl _ _).alloc (Nat.le_refl _) _)
            have hwrite := Lib.hid (write_at b x (by omega) (by omega) DA.out.at_)
            clear hatc hcx
            by_cases hr : dRefuse D' b = 0
            · have hdw : Hid (dWrite D' b x = dPut D' b x) := by unfold Hid dWrite; rw [if_pos hr]
              rw [hr, hdw.out] at hwrite
              have hs1 : Hid (wrs D (C.take (i + 1)) = (0, dPut D' b x)) := by unfold Hid; rw [htk.out, hsn.out, if_pos hr]
              clear hr
              go_wp2_with (go_at_call 43; refine hwrite.out.mono ?_; rintro e wz ⟨vz, rfl, hdz, hcz, hoz⟩; have DZ : Hid (DS base r gs gn vw w6 vz wz (dPut D' b x)) := DA.out.trans ⟨hdz, hcz, hoz⟩; clear hdz hcz hoz)
              exact ⟨⟨i + 1, vz, _, rfl, by omega, hs1.out, DZ.out⟩, by simp [intOf]; omega⟩
            · have hdw : Hid (dWrite D' b x = D') := by unfold Hid dWrite; rw [if_neg hr]
              have hs1 : Hid (wrs D C = (dRefuse D' b, D')) := by
                unfold Hid
                conv => lhs; rw [← List.take_append_drop (i + 1) C]
                exact wrs_stop _ _ _ _ _ hr (by rw [htk.out, hsn.out, if_neg hr])
              rw [hdw.out] at hwrite
              have hs2 : Hid (R = (dRefuse D' b, D')) := by unfold Hid; rw [hR.out, hs1.out, if_neg hr]
              rw [hs2.out]
              obtain ⟨f, hf⟩ : ∃ f, Hid (dRefuse D' b = f) := ⟨_, rfl⟩
              rw [hf.out] at hwrite hr ⊢
              have hr2 : (f == 0) = false := by simpa using hr
              clear hs1 hs2 hsn
              go_wp2_with (go_at_call 43; refine hwrite.out.mono ?_; rintro e wz ⟨vz, rfl, hdz, hcz, hoz⟩; have DZ : Hid (DS base r gs gn vw w6 vz wz D') := DA.out.trans ⟨hdz, hcz, hoz⟩; clear hdz hcz hoz)
              go_ret
              have DW : DS base r gs gn vw w vw w6 D := ⟨D0.out.at_, Ch.of_below B6w.out, fun k hk => .inl hk⟩
              exact ⟨vz, rfl, DW.trans DZ.out⟩
          · obtain rfl : i = C.length := by omega
            have DW : Hid (DS base r gs gn vw w vw w6 D) := ⟨D0.out.at_, Ch.of_below B6w.out, fun k hk => .inl hk⟩
            have hrun := RUN.out
            rw [List.take_length] at hrun
            have hR1 : Hid (R = finD D' (headB next)) := by unfold Hid; rw [hR.out, hrun, if_pos rfl]
            have hfl := Lib.hid (flush_at (by omega) DD.out.at_)
            clear hrun RUN hR Or
            by_cases hr : dRefuse D' 0 = 0
            · have hdf : Hid (dFlush D' = dSync D') := by unfold Hid dFlush; rw [if_pos hr]
              rw [hr, hdf.out] at hfl
              have hR2 : Hid (R = if dRefuse (dSync D') 2 = 0 then (dRefuse (dPut (dSync D') 2 (headB next)) 0, dFlush (dPut (dSync D') 2 (headB next))) else (dRefuse (dSync D') 2, dSync D')) := by unfold Hid; rw [hR1.out]; unfold finD; rw [if_pos hr]
              have ha1 : (dSync D').acts < 1000000 := by show D'.acts + 1 < 1000000; omega
              have hw1 : (dSync D').wait.length < 10 := by show 0 < 10; omega
              have tok : True := trivial
              clear hr hR1 hdf
              generalize dSync D' = D1 at hfl hR2 ha1 hw1
              have hwr := Lib.hid (fun (v : Value) (w : World) (h : DAt w base r gs gn v D1) => write_at (W := w) 2 (headB next) (by omega) (by omega) h)
              by_cases hr2 : dRefuse D1 2 = 0
              · have hdw : Hid (dWrite D1 2 (headB next) = dPut D1 2 (headB next)) := by unfold Hid dWrite; rw [if_pos hr2]
                rw [hr2, hdw.out] at hwr
                have hR3 : Hid (R = (dRefuse (dPut D1 2 (headB next)) 0, dFlush (dPut D1 2 (headB next)))) := by unfold Hid; rw [hR2.out, if_pos hr2]
                have ha2 : (dPut D1 2 (headB next)).acts < 1000000000 := by show D1.acts + 1 < 1000000000; omega
                clear hr2 hR2 hdw
                generalize dPut D1 2 (headB next) = D2 at hwr hR3 ha2
                have hf2 := Lib.hid (fun (v : Value) (w : World) (h : DAt w base r gs gn v D2) => flush_at (W := w) ha2 h)
                generalize dRefuse D2 0 = f2 at hf2 hR3
                generalize dFlush D2 = D3 at hf2 hR3
                go_wp2_with (first
                  | (go_at_call 44; clear tok; refine hfl.out.mono ?_; rintro e wz ⟨vz, rfl, hdz, hcz, hoz⟩; have DZ : Hid (DS base r gs gn vw w6 vz wz D1) := DD.out.trans ⟨hdz, hcz, hoz⟩; have Xz : Hid (Whole wz w3.heap.size (blk (headB next)) 29) := X6.out.ch DZ.out.ch (fun hf => by have := ftw.out _ hf; have := hw3.out; omega); have hlz := ldRow Xz.out; clear hdz hcz hoz)
                  | (go_at_call 43; refine (hwr.out _ _ DZ.out.at_).mono ?_; rintro e wy ⟨vy, rfl, hdz, hcz, hoz⟩; have DY : Hid (DS base r gs gn vw w6 vy wy D2) := DZ.out.trans ⟨hdz, hcz, hoz⟩; clear hdz hcz hoz)
                  | (go_at_call 44; refine (hf2.out _ _ DY.out.at_).mono ?_; rintro e wx ⟨vx, rfl, hdz, hcz, hoz⟩; have DX : Hid (DS base r gs gn vw w6 vx wx D3) := DY.out.trans ⟨hdz, hcz, hoz⟩; clear hdz hcz hoz))
                go_ret
                rw [hR3.out]
                exact ⟨vx, rfl, DW.out.trans DX.out⟩
              · have hdw : Hid (dWrite D1 2 (headB next) = D1) := by unfold Hid dWrite; rw [if_neg hr2]
                rw [hdw.out] at hwr
                have hR3 : Hid (R = (dRefuse D1 2, D1)) := by unfold Hid; rw [hR2.out, if_neg hr2]
                clear hR2 hdw
                generalize dRefuse D1 2 = f2 at hwr hr2 hR3
                have hr3 : (f2 == 0) = false := by simpa using hr2
                go_wp2_with (first
                  | (go_at_call 44; clear tok; refine hfl.out.mono ?_; rintro e wz ⟨vz, rfl, hdz, hcz, hoz⟩; have DZ : Hid (DS base r gs gn vw w6 vz wz D1) := DD.out.trans ⟨hdz, hcz, hoz⟩; have Xz : Hid (Whole wz w3.heap.size (blk (headB next)) 29) := X6.out.ch DZ.out.ch (fun hf => by have := ftw.out _ hf; have := hw3.out; omega); have hlz := ldRow Xz.out; clear hdz hcz hoz)
                  | (go_at_call 43; refine (hwr.out _ _ DZ.out.at_).mono ?_; rintro e wy ⟨vy, rfl, hdz, hcz, hoz⟩; have DY : Hid (DS base r gs gn vw w6 vy wy D1) := DZ.out.trans ⟨hdz, hcz, hoz⟩; clear hdz hcz hoz))
                go_ret
                rw [hR3.out]
                exact ⟨vy, rfl, DW.out.trans DY.out⟩
            · have hdf : Hid (dFlush D' = D') := by unfold Hid dFlush; rw [if_neg hr]
              rw [hdf.out] at hfl
              have hR2 : Hid (R = (dRefuse D' 0, D')) := by unfold Hid; rw [hR1.out]; unfold finD; rw [if_neg hr]
              clear hR1 hdf
              generalize dRefuse D' 0 = f2 at hfl hr hR2
              have hr3 : (f2 == 0) = false := by simpa using hr
              go_wp2_with (go_at_call 44; refine hfl.out.mono ?_; rintro e wz ⟨vz, rfl, hdz, hcz, hoz⟩; have DZ : Hid (DS base r gs gn vw w6 vz wz D') := DD.out.trans ⟨hdz, hcz, hoz⟩; clear hdz hcz hoz)
              go_ret
              rw [hR2.out]
              exact ⟨vz, rfl, DW.out.trans DZ.out⟩
end Go.Proofs.Ytdeeegodiacjgaa
