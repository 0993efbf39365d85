/- quernlaw19.ReplayDoes of the given program returns true at every input, and changes nothing that was there. No condition. -/
import Derived.Test.YtdeeegodiacjgaaDoesA
import Derived.IntWalk
import Derived.Test.YtdeeegodiacjgaaOpenC
namespace Go.Proofs.Ytdeeegodiacjgaa
open Go.RowKit
attribute [local go_sem ↓] loadAtB storeAtB loadAtC storeAtC loadAtG
set_option maxRecDepth 100000 in
set_option maxHeartbeats 4000000 in
theorem does_3 (g : Ge) (n : Nat) (h1 : 1 ≤ n) (h2 : n ≤ 2048) (l : List Lt) (next : Nat) (hnx : next < 4294967296) (p : Int) (hp : p < 9223372036854775808) (hok : OkLt l) (hl60 : l.length ≤ 60) (hsz : szs l ≤ 1000) (hm' : tooMany l 1000 = false)
    (hM : mayR n g (shortL l) next = 0) (a : Nat) (ha : actsP p (ovOut (shortL l)).length = a) (hc : p = a ∧ a = (ovOut (shortL l)).length + 2) (v : Value) (w : World) (h : Lts w v l) :
    Calls Try.prog 9 #[.agg (ga g), .int .i64 (n : Int), v, .int .u32 (next : Int), .int .i64 p] w (GPost (.bool true) w) := by
  have H := Lib.hid (h.later ((Below.refl _ _).alloc (Nat.le_refl _) (.cells (ga g) 43)))
  have B0 : Hid (Below w.heap.size w (w.alloc (.cells (ga g) 43))) := (Below.refl _ _).alloc (Nat.le_refl _) _
  have G0 := Lib.hid (Whole.new w (ga g) 43)
  have hmany := Lib.hid (many19 l v)
  have hshort := Lib.hid (short_si l hl60 hsz hok v)
  have hnew := Lib.hid (new_any n h1 h2)
  have hcn : cpsN (shortL l) ≤ 1000 := by have := cpsN_short l; omega
  have d1 : decide ((n : Int) < 1) = false := by simp; omega
  have d2 : decide (2048 < (n : Int)) = false := by simp; omega
  have hpl := does_plain p hM
  rw [ha] at hpl
  obtain ⟨hn3, hP⟩ := hpl
  have hrng : Hid (∀ c ∈ ovOut (shortL l), 0 ≤ c.1 ∧ c.1 < (n : Int)) := fun c hc => by obtain ⟨m1, m2, m3, m4⟩ := mayR_ok hM; rw [m2]; exact ov_in m4 hc
  have hCl : (ovOut (shortL l)).length ≤ 1000 := Nat.le_trans (ovOut_le _) hcn
  clear h hok ha
  generalize shortL l = T at hshort hcn hM hP hrng hCl hc
  have hmr := Lib.hid (rmay19_any n h1 g T next)
  rw [hM] at hmr
  have hwr : Hid (∀ (v : Value) (w : World), Trs w v T → Calls Try.prog 29 #[v, .int .u32 (next : Int)] w (WrPost (ovOut T) next w)) := fun v w h => writes_any T next hnx (by omega) v w h
  obtain ⟨⟨f, D9⟩, hR⟩ : ∃ R, doD (dPower (newD (zeros n)) p) g (ovOut T) next (fitsB (dPower (newD (zeros n)) p) g T) = R := ⟨_, rfl⟩
  have hdoes : Hid (∀ (base r gs gn : Nat) (u : Value) (w : World), DAt w base r gs gn (.slice none 0 0) (dPower (newD (zeros n)) p) → Trs w u T → Calls Try.prog 20 #[.pointer (some ⟨r, 0, none⟩), .agg (ga g), u, .int .u32 (next : Int)] w (DoPost (f, D9) base r gs gn (.slice none 0 0) w)) := fun base r gs gn u w hd ht => by
    have := do_any (dPower (newD (zeros n)) p) g T next (fitsB (dPower (newD (zeros n)) p) g T) (by omega) (by simp [dPower, newD]) (by simp [dPower, newD]) base r gs gn (.slice none 0 0) u w hd ht (fun w1 hb => fits_all g T u (hd.later hb) (ht.later hb))
    rw [hR] at this
    exact this
  rw [hR] at hP
  clear hR
  have hpow : Hid (∀ {W : World} {base r gs gn : Nat}, DAt W base r gs gn (.slice none 0 0) (newD (zeros n)) → Calls Try.prog 26 #[.pointer (some ⟨r, 0, none⟩), .int .i64 p] W (fun e w' => e = .returned (.tuple #[]) ∧ DAt w' base r gs gn (.slice none 0 0) (dPower (newD (zeros n)) p) ∧ Ch (fun k => k = r) W w')) := fun {W base r gs gn} hd => power_at p hp hd
  generalize dPower (newD (zeros n)) p = DP at hdoes hpow
  generalize ovOut T = C at hP hrng hCl hwr hc
  obtain ⟨hB, hBe⟩ : ∃ hB, Hid (headB next = hB) := ⟨_, rfl⟩
  obtain ⟨L, hLe⟩ : ∃ L, Hid (C.length = L) := ⟨_, rfl⟩
  obtain ⟨m, hme⟩ : ∃ m, Hid (C.length + 1 = m) := ⟨_, rfl⟩
  have hmL : Hid (m = L + 1) := by unfold Hid; rw [← hLe.out, ← hme.out]
  have wA : IntKind.i64.wrap ((m : Int) + 2) = (m : Int) + 2 := IntWalk.i64_in _ (by have := hme.out; omega)
  have wL : IntKind.i64.wrap ((m : Int) - 1) = (L : Int) := by rw [IntWalk.i64_in _ (by have := hme.out; omega)]; have := hmL.out; omega
  have wL1 : IntKind.i64.wrap ((L : Int) + 1) = (L : Int) + 1 := IntWalk.i64_in _ (by have := hLe.out; omega)
  have wL2 : IntKind.i64.wrap ((L : Int) + 2) = (L : Int) + 2 := IntWalk.i64_in _ (by have := hLe.out; omega)
  unfold WrPost at hwr
  rw [hme.out] at hwr
  rw [hLe.out] at hc hCl
  rw [hBe.out] at hP hwr
  have hz0 : (zeros n).length = n := zeros_len n
  obtain ⟨hpa, haL⟩ := hc
  replace haL := Lib.hid haL
  replace hpa := Lib.hid hpa
  replace hp := Lib.hid hp
  have d0 : decide (0 ≤ p) = true := by have := hpa.out; simp; omega
  have d3 : decide (p < (m : Int) + 2) = true := by have := hpa.out; have := haL.out; have := hmL.out; simp; omega
  have d4 : (p == (m : Int) + 2) = false := by have := hpa.out; have := haL.out; have := hmL.out; simp; omega
  have d5 : decide ((L : Int) < p) = true := by have := hpa.out; have := haL.out; have := hmL.out; simp; omega
  have d6 : decide ((L : Int) + 1 < p) = true := by have := hpa.out; have := haL.out; have := hmL.out; simp; omega
  have d7 : decide ((L : Int) + 2 < p) = false := by have := hpa.out; have := haL.out; have := hmL.out; simp; omega
  obtain rfl : f = 30 := by have := hP.err; rw [hLe.out, if_neg (by have := haL.out; omega)] at this; exact this
  have ea : Hid (D9.acts = p) := by have := hpa.out; rw [this]; exact hP.acts
  have enow : Hid (D9.now = (overL (zeros n) C).set 2 hB) := by have := hP.now; rw [hLe.out, if_pos (by have := haL.out; omega)] at this; exact this
  have esafe : Hid (D9.safe = overL (zeros n) C) := by have := hP.safe; rw [hLe.out, if_neg (by have := haL.out; omega), if_pos (by have := haL.out; omega)] at this; exact this
  replace hCl := Lib.hid hCl
  have hz0' : Hid ((zeros n).length = n) := hz0
  obtain ⟨hn3', _⟩ : n = n ∧ True := ⟨rfl, trivial⟩
  clear hn3'

  clear hP hz0
  have e0 : Hid (overL (zeros n) (C.take 0) = zeros n) := by unfold Hid; rw [List.take_zero]; rfl
  have tok : True := trivial
  go_enter Try.func9, Try.ntmps9
  go_wp2_with (first
    | (go_at_call 10; refine (hmany.out _ H.out).mono ?_; rintro e w1 ⟨rfl, hb⟩; have B1 := Lib.hid hb; clear hb; rw [hm'])
    | (go_at_call 25; refine (hnew.out w1).mono ?_; rintro e w2 ⟨r, gs, gn, rfl, hd, hb⟩; have D2 := Lib.hid hd; have B2 := Lib.hid (B1.out.trans (hb.mono B1.out.size)); clear hd hb)
    | (go_at_call 26; refine (hpow.out D2.out).mono ?_; rintro e w3 ⟨rfl, hd, hc⟩; have D3 := Lib.hid hd; have B3 := Lib.hid (below_ch B2.out hc (fun k e => by subst e; exact Nat.le_trans B1.out.size D2.out.base) B2.out.size); clear hd hc)
    | (go_at_call 11; refine (hshort.out w3 (H.out.later B3.out)).mono ?_; rintro e w4 ⟨a4, c4, vs4, rfl, hs⟩; have S4 := Lib.hid hs; have D4 := Lib.hid (D3.out.later hs.bel); have B4 := Lib.hid (B3.out.trans (hs.bel.mono B3.out.size)); have q4 := ldG (G0.out.later B4.out); clear hs)
    | (go_at_call 20; refine (hdoes.out _ r gs gn _ w4 D4.out S4.out.trs).mono ?_; rintro e w5 ⟨vw', rfl, ds⟩; have D5 := Lib.hid ds.at_; have T5 := Lib.hid (S4.out.ch ds.ch (fun k f => (D3.out.lt k f).2)); have B5 := Lib.hid (below_ch B4.out ds.ch (fun k f => Nat.le_trans B1.out.size (D3.out.lt k f).1) B4.out.size); have q5 := ldG (G0.out.later B5.out); clear ds)
    | (go_at_call 27; refine (hmr.out _ w5 T5.out).mono ?_; rintro e w6 ⟨rfl, hb⟩; have D6 := Lib.hid (D5.out.later hb); have T6 := Lib.hid (T5.out.later hb); have B6 := Lib.hid (B5.out.trans (hb.mono B5.out.size)); clear hb)
    | (go_at_call 29; refine (hwr.out _ w6 T6.out).mono ?_; rintro e w8 ⟨a8, c8, rfl, hcp, hb⟩; have D8 := Lib.hid (D6.out.later hb); have C8 := Lib.hid hcp; have B8 := Lib.hid (B6.out.trans (hb.mono B6.out.size)); clear hcp hb)
    | (go_at_call 28; refine (acts_at D8.out).mono ?_; rintro e w8 ⟨rfl, rfl⟩; rw [ea.out]))
  refine Alt.wp_region_alt (fun w' => Below w8.heap.size w8 w') (.one 0 0 (.one 0 2 (.alt 1 3 (.one 0 4 (.one 3 3 (.one 0 5 .done))) (.one 3 1 (.one 0 4 (.one 0 5 .done)))))) (fun a a' w' => ∃ gs gn, a' = ((((((a.put (some 100) (.int .i64 (n : Int))).put (some 102) (.int .i64 (n : Int))).put (some 101) (.slice (some ⟨gs, 0, none⟩) n n)).put (some 18) (.slice (some ⟨gs, 0, none⟩) n n)).put (some 103) (.slice (some ⟨gn, 0, none⟩) n n)).put (some 19) (.slice (some ⟨gn, 0, none⟩) n n)) ∧ NI w8 gs gn n (zeros n) (zeros n) w') (by kernel_rfl) (by kernel_rfl) (Below.refl _ _).drew ?_ ?_
  · repeat (first | (refine Alt.wpT_pure rfl (fun K hK => ?_); go_simp; refine hK _ ?_; clear hK K))
    refine Alt.wpT_alt rfl rfl (fun K hK => ?_) (fun K hK => ?_)
    · go_wp2_with (refine wpl_makeB rfl _ _ rfl n rfl rfl (by omega) ?_; intro w9 ho1 hb1; have O1 := Lib.hid ho1; have B9 : Hid (Below w8.heap.size w8 w9) := ((Below.refl _ _).drew).trans hb1; clear ho1 hb1)
      refine hK.out _ _ B9.out ?_
      clear hK K
      repeat (first | (refine Alt.wpT_pure rfl (fun K hK => ?_); go_simp; refine hK _ ?_; clear hK K))
      refine Alt.wpT_last rfl (fun K hK => ?_)
      go_wp2_with (refine wpl_makeB rfl _ _ rfl n rfl rfl (by omega) ?_; intro w10 ho2 hb2; have O2 := Lib.hid ho2; have O1' := Lib.hid (own_later O1.out hb2); have B10 : Hid (Below w8.heap.size w8 w10) := B9.out.trans (hb2.mono B9.out.size); clear ho2 hb2)
      refine hK.out _ _ ?_
      clear hK K
      repeat (first | (refine Alt.wpT_pure rfl (fun K hK => ?_); go_simp; refine hK _ ?_; clear hK K))
      refine Alt.wpT_done ?_
      exact Exists.intro _ (Exists.intro _ ⟨rfl, B10.out, hz0'.out, hz0'.out, own_mono O1'.out (Nat.le_refl _), own_mono O2.out B9.out.size, Nat.ne_of_lt (O1.out.lt _ rfl).2⟩)
    · go_wp2_with (refine wpl_makeB rfl _ _ rfl n rfl rfl (by omega) ?_; intro w9 ho1 hb1; have O1 := Lib.hid ho1; have B9 : Hid (Below w8.heap.size w8 w9) := ((Below.refl _ _).drew).trans hb1; clear ho1 hb1)
      refine hK.out _ _ B9.out ?_
      clear hK K
      repeat (first | (refine Alt.wpT_pure rfl (fun K hK => ?_); go_simp; refine hK _ ?_; clear hK K))
      refine Alt.wpT_last rfl (fun K hK => ?_)
      go_wp2_with (refine wpl_makeB rfl _ _ rfl n rfl rfl (by omega) ?_; intro w10 ho2 hb2; have O2 := Lib.hid ho2; have O1' := Lib.hid (own_later O1.out hb2); have B10 : Hid (Below w8.heap.size w8 w10) := B9.out.trans (hb2.mono B9.out.size); clear ho2 hb2)
      refine hK.out _ _ ?_
      clear hK K
      repeat (first | (refine Alt.wpT_pure rfl (fun K hK => ?_); go_simp; refine hK _ ?_; clear hK K))
      refine Alt.wpT_done ?_
      exact Exists.intro _ (Exists.intro _ ⟨rfl, B10.out, hz0'.out, hz0'.out, own_mono O2.out B9.out.size, own_mono O1'.out (Nat.le_refl _), (Nat.ne_of_lt (O1.out.lt _ rfl).2).symm⟩)
  rintro a' w9 ⟨gs9, gn9, rfl, hNI⟩
  have N9 := Lib.hid hNI
  clear hNI
  go_wp2_with fail
  have W0 : Hid (NI w8 gs9 gn9 n (zeros n) (overL (zeros n) (C.take 0)) w9) := by unfold Hid; rw [e0.out]; exact N9.out
  clear e0 N9 S4 T5 T6 q4 q5 D2 D3 D4 D5 D6 hdoes hwr hmr hpow hnew hshort hmany H G0
  have hC8 : Sl w8 (.slice a8 (C ++ [((2 : Int), hB)]).length c8) (C ++ [((2 : Int), hB)]).length (flat cc (C ++ [((2 : Int), hB)])) := by have := C8.out; unfold Cps at this; rw [List.length_append, List.length_singleton, hme.out] at this ⊢; exact this
  obtain ⟨gc, oc, hae, hk1, hk2, hgc, hatc⟩ := Sl.at hC8 cc_len (by omega) (i := 0) (by rw [List.length_append, List.length_singleton]; omega)
  subst hae
  rw [List.length_append, List.length_singleton, hme.out] at hk1
  unfold maxLen at hk2
  have hrgB : Hid (∀ (j : Nat) (x : Int) (d : Blk), (C ++ [((2 : Int), hB)])[j]? = some (x, d) → w8.cell? ⟨gc, oc + j * 257, none⟩ = some (.int .i64 x) ∧ w8.rangeAt gc (oc + j * 257 + 1) (bc d)) := fun j x d hx => by
    have hr := hatc j (x, d) hx
    have c0 := hr 0 _ rfl
    rw [Nat.add_zero] at c0
    exact ⟨c0, rangeAt_sub hr fun j v hv => by unfold cc; rw [Nat.add_comm, List.getElem?_cons_succ]; exact hv⟩
  have hlast : Hid ((C ++ [((2 : Int), hB)])[L]? = some ((2 : Int), hB)) := by unfold Hid; rw [← hLe.out]; simp
  clear hatc hC8 C8
  have hm0 : Hid (m = C.length + 1) := hme.out.symm
  go_loopw [21] (fun v21 W => ∃ i, v21 = .int .i64 (i : Nat) ∧ i ≤ L ∧ NI w8 gs9 gn9 n (zeros n) (overL (zeros n) (C.take i)) W) (fun v21 _ => (L - intOf v21).toNat)
  case atStart => exact ⟨0, rfl, by omega, W0.out⟩
  case round =>
    obtain ⟨i, rfl, hi, hW⟩ := hrel
    have WH := Lib.hid hW
    clear hW W0
    by_cases hin : i < L
    · have hiL : i < L := by skip; omega
      have hiC : i < C.length := by have := hLe.out; omega
      obtain ⟨⟨b, d⟩, hcx⟩ : ∃ c, C[i]? = some c := ⟨_, List.getElem?_eq_getElem hiC⟩
      have hbr := hrng.out _ (List.mem_of_getElem? hcx)
      obtain ⟨q, rfl⟩ : ∃ q : Nat, b = q := ⟨b.toNat, by have := hbr.1; simp only at this; omega⟩
      have hq : q < n := by have := hbr.2; simp only at this; omega
      have hnext : Hid (overL (zeros n) (C.take (i + 1)) = (overL (zeros n) (C.take i)).set q d) := over_step hcx (by rw [hz0'.out]; exact hq)
      have h8 := Lib.hid (hrgB.out i (q : Int) d (by rw [List.getElem?_append_left hiC]; exact hcx))
      have him : i < m := by have := hm0.out; omega
      have dj1 : decide (i < L) = true := by simpa using hiL
      have dj1' : decide ((i : Int) < (L : Int)) = true := by simpa using hiL
      have dj2 : decide ((i : Int) < p) = true := by have := hpa.out; have := haL.out; simp; omega
      have wi : IntKind.i64.wrap ((i : Int) + 1) = (i : Int) + 1 := IntWalk.i64_in _ (by have := hCl.out; omega)
      have WD := Lib.hid (WH.out.later ((Below.refl wr.heap.size wr).drew))
      have WP := Lib.hid (WD.out.put q hq d)
      have hgcr : gc < wr.heap.size := Nat.lt_of_lt_of_le hgc WH.out.bel.size
      have hc0 : Hid (wr.cell? ⟨gc, oc + i * 257, none⟩ = some (.int .i64 (q : Int))) := (World.cell?_of_block (WH.out.bel.block _ hgc)).trans h8.out.1
      have hrg : Hid (wr.rangeAt gc (oc + i * 257 + 1) (bc d)) := rangeAt_block h8.out.2 (WH.out.bel.block _ hgc)
      clear hcx hbr
      go_wp2_with fail
      have hs2 := stB (W := wr.drew) (g := gn9) (o := q * 256) d (own_there WD.out.on _ _ (by omega))
      have f0 : ∀ p : Kept (fun w' => Below wr.heap.size wr w'), p.x.cell? ⟨gc, oc + i * 257, none⟩ = some (.int .i64 (q : Int)) := fun p => (World.cell?_of_block (p.h.block _ hgcr)).trans hc0.out
      have f1 : ∀ p : Kept (fun w' => Below wr.heap.size wr w'), (bigLoadAt 29 (.pointer (some ⟨gc, oc + i * 257 + 1, none⟩))).run Try.prog p.x = .ok (.agg (blk d)) p.x := fun p => ldB (rangeAt_block hrg.out (p.h.block _ hgcr))
      have hne : Nonempty (Kept (fun w' => Below wr.heap.size wr w')) := ⟨⟨wr, Below.refl _ _⟩⟩
      refine wp_region_plan (fun w' => Below wr.heap.size wr w') [(0, 0), (0, 1), (0, 2), (0, 3), (0, 4), (1, 5), (0, 6), (0, 7), (0, 8), (0, 9), (1, 10), (0, 11), (3, 12)] (by kernel_rfl) (by kernel_rfl) (Below.refl _ _).drew ?_
      repeat (first | (refine wpPlan_pure rfl (fun K hK => ?_); go_simp; refine hK _ ?_; clear hK K) | (refine wpPlan_held rfl (fun K hK => ?_); go_simp; refine hK _ ?_; clear hK K))
      refine wpPlan_last rfl (fun K hK => ?_)
      go_wp2_with fail
      refine hK.out _ _ ?_
      clear hK K
      refine wpPlan_nil ?_
      go_wp2_with fail
      have wp := WP.out
      rw [← hnext.out] at wp
      exact ⟨⟨i + 1, rfl, by omega, wp⟩, by simp [intOf]; omega⟩
    · obtain rfl : L = i := by omega
      clear hin hi
      have hCL : Hid (C.take L = C) := by unfold Hid; rw [← hLe.out]; exact List.take_length
      have WY := WH
      clear WH
      rw [hCL.out] at WY
      have tokC : True := trivial
      have h8 := Lib.hid (hrgB.out L 2 hB hlast.out)
      have hLm : L < m := by have := hmL.out; omega
      go_wp2_with (first
        | (clear tokC; refine wpl_copyB rfl _ _ rfl rfl rfl WY.out.os WY.out.on ?_; intro wC ho hc; have WZ := Lib.hid (WY.out.copied ho hc); clear ho hc WY; have hl9 := ldB (rangeAt_block h8.out.2 (WZ.out.bel.block _ hgc)); have hs9 := stB (W := wC) (g := gn9) (o := 512) hB (own_there WZ.out.on _ _ (by omega)); have WX : Hid (NI w8 gs9 gn9 n (overL (zeros n) C) ((overL (zeros n) C).set 2 hB) (wC.setCells gn9 512 (bc hB))) := WZ.out.put 2 (by omega) hB; clear WZ)
        | (go_at_call 30; refine (image_at (D8.out.later WX.out.bel)).mono ?_; rintro e w10 ⟨u10, rfl, ho, hb⟩; have O10 := Lib.hid ho; have N10 := Lib.hid (WX.out.later hb); clear ho hb)
        | (go_at_call 18; clear tok; refine (sameBks_any D9.now _ _ w10 (Sl.own O10.out) (by rw [enow.out]; exact N10.out.bksN)).mono ?_; rintro e w11 ⟨rfl, hb⟩; have N11 := Lib.hid (N10.out.later hb); clear hb)
        | (go_at_call 31; refine (safe_at (D8.out.later N11.out.bel)).mono ?_; rintro e w12 ⟨u12, rfl, ho, hb⟩; have O12 := Lib.hid ho; have N12 := Lib.hid (N11.out.later hb); clear ho hb)
        | (go_at_call 18; refine (sameBks_any D9.safe _ _ w12 (Sl.own O12.out) (by rw [esafe.out]; exact N12.out.bksS)).mono ?_; rintro e w13 ⟨rfl, hb⟩; have N13 := Lib.hid (N12.out.later hb); clear hb))
      all_goals
        go_ret
        have b13 := B8.out.trans (N13.out.bel.mono B8.out.size)
        exact ⟨rfl, B0.out.trans (b13.mono B0.out.size)⟩
end Go.Proofs.Ytdeeegodiacjgaa
namespace Go.Proofs.Ytdeeegodiacjgaa
open Go.RowKit
attribute [local go_sem ↓] loadAtB storeAtB loadAtC storeAtC loadAtG
set_option maxRecDepth 100000 in
set_option maxHeartbeats 4000000 in
theorem does_4 (g : Ge) (n : Nat) (h1 : 1 ≤ n) (h2 : n ≤ 2048) (l : List Lt) (next : Nat) (hnx : next < 4294967296) (p : Int) (hp : p < 9223372036854775808) (hok : OkLt l) (hl60 : l.length ≤ 60) (hsz : szs l ≤ 1000) (hm' : tooMany l 1000 = false)
    (hM : mayR n g (shortL l) next = 0) (a : Nat) (ha : actsP p (ovOut (shortL l)).length = a) (hc : p < 0 ∧ a = (ovOut (shortL l)).length + 3) (v : Value) (w : World) (h : Lts w v l) :
    Calls Try.prog 9 #[.agg (ga g), .int .i64 (n : Int), v, .int .u32 (next : Int), .int .i64 p] w (GPost (.bool true) w) := by
  have H := Lib.hid (h.later ((Below.refl _ _).alloc (Nat.le_refl _) (.cells (ga g) 43)))
  have B0 : Hid (Below w.heap.size w (w.alloc (.cells (ga g) 43))) := (Below.refl _ _).alloc (Nat.le_refl _) _
  have G0 := Lib.hid (Whole.new w (ga g) 43)
  have hmany := Lib.hid (many19 l v)
  have hshort := Lib.hid (short_si l hl60 hsz hok v)
  have hnew := Lib.hid (new_any n h1 h2)
  have hcn : cpsN (shortL l) ≤ 1000 := by have := cpsN_short l; omega
  have d1 : decide ((n : Int) < 1) = false := by simp; omega
  have d2 : decide (2048 < (n : Int)) = false := by simp; omega
  have hpl := does_plain p hM
  rw [ha] at hpl
  obtain ⟨hn3, hP⟩ := hpl
  have hrng : Hid (∀ c ∈ ovOut (shortL l), 0 ≤ c.1 ∧ c.1 < (n : Int)) := fun c hc => by obtain ⟨m1, m2, m3, m4⟩ := mayR_ok hM; rw [m2]; exact ov_in m4 hc
  have hCl : (ovOut (shortL l)).length ≤ 1000 := Nat.le_trans (ovOut_le _) hcn
  clear h hok ha
  generalize shortL l = T at hshort hcn hM hP hrng hCl hc
  have hmr := Lib.hid (rmay19_any n h1 g T next)
  rw [hM] at hmr
  have hwr : Hid (∀ (v : Value) (w : World), Trs w v T → Calls Try.prog 29 #[v, .int .u32 (next : Int)] w (WrPost (ovOut T) next w)) := fun v w h => writes_any T next hnx (by omega) v w h
  obtain ⟨⟨f, D9⟩, hR⟩ : ∃ R, doD (dPower (newD (zeros n)) p) g (ovOut T) next (fitsB (dPower (newD (zeros n)) p) g T) = R := ⟨_, rfl⟩
  have hdoes : Hid (∀ (base r gs gn : Nat) (u : Value) (w : World), DAt w base r gs gn (.slice none 0 0) (dPower (newD (zeros n)) p) → Trs w u T → Calls Try.prog 20 #[.pointer (some ⟨r, 0, none⟩), .agg (ga g), u, .int .u32 (next : Int)] w (DoPost (f, D9) base r gs gn (.slice none 0 0) w)) := fun base r gs gn u w hd ht => by
    have := do_any (dPower (newD (zeros n)) p) g T next (fitsB (dPower (newD (zeros n)) p) g T) (by omega) (by simp [dPower, newD]) (by simp [dPower, newD]) base r gs gn (.slice none 0 0) u w hd ht (fun w1 hb => fits_all g T u (hd.later hb) (ht.later hb))
    rw [hR] at this
    exact this
  rw [hR] at hP
  clear hR
  have hpow : Hid (∀ {W : World} {base r gs gn : Nat}, DAt W base r gs gn (.slice none 0 0) (newD (zeros n)) → Calls Try.prog 26 #[.pointer (some ⟨r, 0, none⟩), .int .i64 p] W (fun e w' => e = .returned (.tuple #[]) ∧ DAt w' base r gs gn (.slice none 0 0) (dPower (newD (zeros n)) p) ∧ Ch (fun k => k = r) W w')) := fun {W base r gs gn} hd => power_at p hp hd
  generalize dPower (newD (zeros n)) p = DP at hdoes hpow
  generalize ovOut T = C at hP hrng hCl hwr hc
  obtain ⟨hB, hBe⟩ : ∃ hB, Hid (headB next = hB) := ⟨_, rfl⟩
  obtain ⟨L, hLe⟩ : ∃ L, Hid (C.length = L) := ⟨_, rfl⟩
  obtain ⟨m, hme⟩ : ∃ m, Hid (C.length + 1 = m) := ⟨_, rfl⟩
  have hmL : Hid (m = L + 1) := by unfold Hid; rw [← hLe.out, ← hme.out]
  have wA : IntKind.i64.wrap ((m : Int) + 2) = (m : Int) + 2 := IntWalk.i64_in _ (by have := hme.out; omega)
  have wL : IntKind.i64.wrap ((m : Int) - 1) = (L : Int) := by rw [IntWalk.i64_in _ (by have := hme.out; omega)]; have := hmL.out; omega
  have wL1 : IntKind.i64.wrap ((L : Int) + 1) = (L : Int) + 1 := IntWalk.i64_in _ (by have := hLe.out; omega)
  have wL2 : IntKind.i64.wrap ((L : Int) + 2) = (L : Int) + 2 := IntWalk.i64_in _ (by have := hLe.out; omega)
  unfold WrPost at hwr
  rw [hme.out] at hwr
  rw [hLe.out] at hc hCl
  rw [hBe.out] at hP hwr
  have hz0 : (zeros n).length = n := zeros_len n
  obtain ⟨hpa, haL⟩ := hc
  replace haL := Lib.hid haL
  replace hpa := Lib.hid hpa
  replace hp := Lib.hid hp
  have d0 : decide (0 ≤ p) = false := by have := hpa.out; simp; omega
  have d5 : decide ((L : Int) < (m : Int) + 2) = true := by have := haL.out; have := hmL.out; simp; omega
  have d6 : decide ((L : Int) + 1 < (m : Int) + 2) = true := by have := haL.out; have := hmL.out; simp; omega
  have d7 : decide ((L : Int) + 2 < (m : Int) + 2) = true := by have := haL.out; have := hmL.out; simp; omega
  have d8 : decide (L < m + 2) = true := by have := haL.out; have := hmL.out; simp; omega
  have d9 : decide (L + 1 < m + 2) = true := by have := haL.out; have := hmL.out; simp; omega
  have d10 : decide (L + 2 < m + 2) = true := by have := haL.out; have := hmL.out; simp; omega
  have d11 : decide (L < m) = true := by have := haL.out; have := hmL.out; simp; omega
  have d12 : decide ((L : Int) < (m : Int)) = true := by have := haL.out; have := hmL.out; simp; omega
  obtain rfl : f = 0 := by have := hP.err; rw [hLe.out, if_pos (by have := haL.out; omega)] at this; exact this
  have ea : Hid (D9.acts = (m : Int) + 2) := by have h1 : D9.acts = (a : Int) := hP.acts; have := haL.out; have := hmL.out; unfold Hid; omega
  have enow : Hid (D9.now = (overL (zeros n) C).set 2 hB) := by have := hP.now; rw [hLe.out, if_pos (by have := haL.out; omega)] at this; exact this
  have esafe : Hid (D9.safe = (overL (zeros n) C).set 2 hB) := by have := hP.safe; rw [hLe.out, if_pos (by have := haL.out; omega)] at this; exact this
  replace hCl := Lib.hid hCl
  have hz0' : Hid ((zeros n).length = n) := hz0
  obtain ⟨hn3', _⟩ : n = n ∧ True := ⟨rfl, trivial⟩
  clear hn3'

  clear hP hz0
  have e0 : Hid (overL (zeros n) (C.take 0) = zeros n) := by unfold Hid; rw [List.take_zero]; rfl
  have tok : True := trivial
  go_enter Try.func9, Try.ntmps9
  go_wp2_with (first
    | (go_at_call 10; refine (hmany.out _ H.out).mono ?_; rintro e w1 ⟨rfl, hb⟩; have B1 := Lib.hid hb; clear hb; rw [hm'])
    | (go_at_call 25; refine (hnew.out w1).mono ?_; rintro e w2 ⟨r, gs, gn, rfl, hd, hb⟩; have D2 := Lib.hid hd; have B2 := Lib.hid (B1.out.trans (hb.mono B1.out.size)); clear hd hb)
    | (go_at_call 26; refine (hpow.out D2.out).mono ?_; rintro e w3 ⟨rfl, hd, hc⟩; have D3 := Lib.hid hd; have B3 := Lib.hid (below_ch B2.out hc (fun k e => by subst e; exact Nat.le_trans B1.out.size D2.out.base) B2.out.size); clear hd hc)
    | (go_at_call 11; refine (hshort.out w3 (H.out.later B3.out)).mono ?_; rintro e w4 ⟨a4, c4, vs4, rfl, hs⟩; have S4 := Lib.hid hs; have D4 := Lib.hid (D3.out.later hs.bel); have B4 := Lib.hid (B3.out.trans (hs.bel.mono B3.out.size)); have q4 := ldG (G0.out.later B4.out); clear hs)
    | (go_at_call 20; refine (hdoes.out _ r gs gn _ w4 D4.out S4.out.trs).mono ?_; rintro e w5 ⟨vw', rfl, ds⟩; have D5 := Lib.hid ds.at_; have T5 := Lib.hid (S4.out.ch ds.ch (fun k f => (D3.out.lt k f).2)); have B5 := Lib.hid (below_ch B4.out ds.ch (fun k f => Nat.le_trans B1.out.size (D3.out.lt k f).1) B4.out.size); have q5 := ldG (G0.out.later B5.out); clear ds)
    | (go_at_call 27; refine (hmr.out _ w5 T5.out).mono ?_; rintro e w6 ⟨rfl, hb⟩; have D6 := Lib.hid (D5.out.later hb); have T6 := Lib.hid (T5.out.later hb); have B6 := Lib.hid (B5.out.trans (hb.mono B5.out.size)); clear hb)
    | (go_at_call 29; refine (hwr.out _ w6 T6.out).mono ?_; rintro e w8 ⟨a8, c8, rfl, hcp, hb⟩; have D8 := Lib.hid (D6.out.later hb); have C8 := Lib.hid hcp; have B8 := Lib.hid (B6.out.trans (hb.mono B6.out.size)); clear hcp hb)
    | (go_at_call 28; refine (acts_at D8.out).mono ?_; rintro e w8 ⟨rfl, rfl⟩; rw [ea.out]))
  refine Alt.wp_region_alt (fun w' => Below w8.heap.size w8 w') (.one 0 0 (.one 0 2 (.alt 1 3 (.one 0 4 (.one 3 3 (.one 0 5 .done))) (.one 3 1 (.one 0 4 (.one 0 5 .done)))))) (fun a a' w' => ∃ gs gn, a' = ((((((a.put (some 100) (.int .i64 (n : Int))).put (some 102) (.int .i64 (n : Int))).put (some 101) (.slice (some ⟨gs, 0, none⟩) n n)).put (some 18) (.slice (some ⟨gs, 0, none⟩) n n)).put (some 103) (.slice (some ⟨gn, 0, none⟩) n n)).put (some 19) (.slice (some ⟨gn, 0, none⟩) n n)) ∧ NI w8 gs gn n (zeros n) (zeros n) w') (by kernel_rfl) (by kernel_rfl) (Below.refl _ _).drew ?_ ?_
  · repeat (first | (refine Alt.wpT_pure rfl (fun K hK => ?_); go_simp; refine hK _ ?_; clear hK K))
    refine Alt.wpT_alt rfl rfl (fun K hK => ?_) (fun K hK => ?_)
    · go_wp2_with (refine wpl_makeB rfl _ _ rfl n rfl rfl (by omega) ?_; intro w9 ho1 hb1; have O1 := Lib.hid ho1; have B9 : Hid (Below w8.heap.size w8 w9) := ((Below.refl _ _).drew).trans hb1; clear ho1 hb1)
      refine hK.out _ _ B9.out ?_
      clear hK K
      repeat (first | (refine Alt.wpT_pure rfl (fun K hK => ?_); go_simp; refine hK _ ?_; clear hK K))
      refine Alt.wpT_last rfl (fun K hK => ?_)
      go_wp2_with (refine wpl_makeB rfl _ _ rfl n rfl rfl (by omega) ?_; intro w10 ho2 hb2; have O2 := Lib.hid ho2; have O1' := Lib.hid (own_later O1.out hb2); have B10 : Hid (Below w8.heap.size w8 w10) := B9.out.trans (hb2.mono B9.out.size); clear ho2 hb2)
      refine hK.out _ _ ?_
      clear hK K
      repeat (first | (refine Alt.wpT_pure rfl (fun K hK => ?_); go_simp; refine hK _ ?_; clear hK K))
      refine Alt.wpT_done ?_
      exact Exists.intro _ (Exists.intro _ ⟨rfl, B10.out, hz0'.out, hz0'.out, own_mono O1'.out (Nat.le_refl _), own_mono O2.out B9.out.size, Nat.ne_of_lt (O1.out.lt _ rfl).2⟩)
    · go_wp2_with (refine wpl_makeB rfl _ _ rfl n rfl rfl (by omega) ?_; intro w9 ho1 hb1; have O1 := Lib.hid ho1; have B9 : Hid (Below w8.heap.size w8 w9) := ((Below.refl _ _).drew).trans hb1; clear ho1 hb1)
      refine hK.out _ _ B9.out ?_
      clear hK K
      repeat (first | (refine Alt.wpT_pure rfl (fun K hK => ?_); go_simp; refine hK _ ?_; clear hK K))
      refine Alt.wpT_last rfl (fun K hK => ?_)
      go_wp2_with (refine wpl_makeB rfl _ _ rfl n rfl rfl (by omega) ?_; intro w10 ho2 hb2; have O2 := Lib.hid ho2; have O1' := Lib.hid (own_later O1.out hb2); have B10 : Hid (Below w8.heap.size w8 w10) := B9.out.trans (hb2.mono B9.out.size); clear ho2 hb2)
      refine hK.out _ _ ?_
      clear hK K
      repeat (first | (refine Alt.wpT_pure rfl (fun K hK => ?_); go_simp; refine hK _ ?_; clear hK K))
      refine Alt.wpT_done ?_
      exact Exists.intro _ (Exists.intro _ ⟨rfl, B10.out, hz0'.out, hz0'.out, own_mono O2.out B9.out.size, own_mono O1'.out (Nat.le_refl _), (Nat.ne_of_lt (O1.out.lt _ rfl).2).symm⟩)
  rintro a' w9 ⟨gs9, gn9, rfl, hNI⟩
  have N9 := Lib.hid hNI
  clear hNI
  go_wp2_with fail
  have W0 : Hid (NI w8 gs9 gn9 n (zeros n) (overL (zeros n) (C.take 0)) w9) := by unfold Hid; rw [e0.out]; exact N9.out
  clear e0 N9 S4 T5 T6 q4 q5 D2 D3 D4 D5 D6 hdoes hwr hmr hpow hnew hshort hmany H G0
  have hC8 : Sl w8 (.slice a8 (C ++ [((2 : Int), hB)]).length c8) (C ++ [((2 : Int), hB)]).length (flat cc (C ++ [((2 : Int), hB)])) := by have := C8.out; unfold Cps at this; rw [List.length_append, List.length_singleton, hme.out] at this ⊢; exact this
  obtain ⟨gc, oc, hae, hk1, hk2, hgc, hatc⟩ := Sl.at hC8 cc_len (by omega) (i := 0) (by rw [List.length_append, List.length_singleton]; omega)
  subst hae
  rw [List.length_append, List.length_singleton, hme.out] at hk1
  unfold maxLen at hk2
  have hrgB : Hid (∀ (j : Nat) (x : Int) (d : Blk), (C ++ [((2 : Int), hB)])[j]? = some (x, d) → w8.cell? ⟨gc, oc + j * 257, none⟩ = some (.int .i64 x) ∧ w8.rangeAt gc (oc + j * 257 + 1) (bc d)) := fun j x d hx => by
    have hr := hatc j (x, d) hx
    have c0 := hr 0 _ rfl
    rw [Nat.add_zero] at c0
    exact ⟨c0, rangeAt_sub hr fun j v hv => by unfold cc; rw [Nat.add_comm, List.getElem?_cons_succ]; exact hv⟩
  have hlast : Hid ((C ++ [((2 : Int), hB)])[L]? = some ((2 : Int), hB)) := by unfold Hid; rw [← hLe.out]; simp
  clear hatc hC8 C8
  have hm0 : Hid (m = C.length + 1) := hme.out.symm
  go_loopw [21] (fun v21 W => ∃ i, v21 = .int .i64 (i : Nat) ∧ i ≤ L ∧ NI w8 gs9 gn9 n (zeros n) (overL (zeros n) (C.take i)) W) (fun v21 _ => (L - intOf v21).toNat)
  case atStart => exact ⟨0, rfl, by omega, W0.out⟩
  case round =>
    obtain ⟨i, rfl, hi, hW⟩ := hrel
    have WH := Lib.hid hW
    clear hW W0
    by_cases hin : i < L
    · have hiL : i < L := by skip; omega
      have hiC : i < C.length := by have := hLe.out; omega
      obtain ⟨⟨b, d⟩, hcx⟩ : ∃ c, C[i]? = some c := ⟨_, List.getElem?_eq_getElem hiC⟩
      have hbr := hrng.out _ (List.mem_of_getElem? hcx)
      obtain ⟨q, rfl⟩ : ∃ q : Nat, b = q := ⟨b.toNat, by have := hbr.1; simp only at this; omega⟩
      have hq : q < n := by have := hbr.2; simp only at this; omega
      have hnext : Hid (overL (zeros n) (C.take (i + 1)) = (overL (zeros n) (C.take i)).set q d) := over_step hcx (by rw [hz0'.out]; exact hq)
      have h8 := Lib.hid (hrgB.out i (q : Int) d (by rw [List.getElem?_append_left hiC]; exact hcx))
      have him : i < m := by have := hm0.out; omega
      have dj1 : decide (i < L) = true := by simpa using hiL
      have dj1' : decide ((i : Int) < (L : Int)) = true := by simpa using hiL
      have dj2 : decide ((i : Int) < (m : Int) + 2) = true := by have := hmL.out; simp; omega
      have dj3 : decide (i < m + 2) = true := by have := hmL.out; simp; omega
      have wi : IntKind.i64.wrap ((i : Int) + 1) = (i : Int) + 1 := IntWalk.i64_in _ (by have := hCl.out; omega)
      have WD := Lib.hid (WH.out.later ((Below.refl wr.heap.size wr).drew))
      have WP := Lib.hid (WD.out.put q hq d)
      have hgcr : gc < wr.heap.size := Nat.lt_of_lt_of_le hgc WH.out.bel.size
      have hc0 : Hid (wr.cell? ⟨gc, oc + i * 257, none⟩ = some (.int .i64 (q : Int))) := (World.cell?_of_block (WH.out.bel.block _ hgc)).trans h8.out.1
      have hrg : Hid (wr.rangeAt gc (oc + i * 257 + 1) (bc d)) := rangeAt_block h8.out.2 (WH.out.bel.block _ hgc)
      clear hcx hbr
      go_wp2_with fail
      have hs2 := stB (W := wr.drew) (g := gn9) (o := q * 256) d (own_there WD.out.on _ _ (by omega))
      have f0 : ∀ p : Kept (fun w' => Below wr.heap.size wr w'), p.x.cell? ⟨gc, oc + i * 257, none⟩ = some (.int .i64 (q : Int)) := fun p => (World.cell?_of_block (p.h.block _ hgcr)).trans hc0.out
      have f1 : ∀ p : Kept (fun w' => Below wr.heap.size wr w'), (bigLoadAt 29 (.pointer (some ⟨gc, oc + i * 257 + 1, none⟩))).run Try.prog p.x = .ok (.agg (blk d)) p.x := fun p => ldB (rangeAt_block hrg.out (p.h.block _ hgcr))
      have hne : Nonempty (Kept (fun w' => Below wr.heap.size wr w')) := ⟨⟨wr, Below.refl _ _⟩⟩
      refine wp_region_plan (fun w' => Below wr.heap.size wr w') [(0, 0), (0, 1), (0, 2), (0, 3), (0, 4), (1, 5), (0, 6), (0, 7), (0, 8), (0, 9), (1, 10), (0, 11), (3, 12)] (by kernel_rfl) (by kernel_rfl) (Below.refl _ _).drew ?_
      repeat (first | (refine wpPlan_pure rfl (fun K hK => ?_); go_simp; refine hK _ ?_; clear hK K) | (refine wpPlan_held rfl (fun K hK => ?_); go_simp; refine hK _ ?_; clear hK K))
      refine wpPlan_last rfl (fun K hK => ?_)
      go_wp2_with fail
      refine hK.out _ _ ?_
      clear hK K
      refine wpPlan_nil ?_
      go_wp2_with fail
      have wp := WP.out
      rw [← hnext.out] at wp
      exact ⟨⟨i + 1, rfl, by omega, wp⟩, by simp [intOf]; omega⟩
    · obtain rfl : L = i := by omega
      clear hin hi
      have hCL : Hid (C.take L = C) := by unfold Hid; rw [← hLe.out]; exact List.take_length
      have WY := WH
      clear WH
      rw [hCL.out] at WY
      have tokC : True := trivial
      have h8 := Lib.hid (hrgB.out L 2 hB hlast.out)
      have hLm : L < m := by have := hmL.out; omega
      go_wp2_with (first
        | (clear tokC; refine wpl_copyB rfl _ _ rfl rfl rfl WY.out.os WY.out.on ?_; intro wC ho hc; have WZ := Lib.hid (WY.out.copied ho hc); clear ho hc WY; have hl9 := ldB (rangeAt_block h8.out.2 (WZ.out.bel.block _ hgc)); have hs9 := stB (W := wC) (g := gn9) (o := 512) hB (own_there WZ.out.on _ _ (by omega)); have WV : Hid (NI w8 gs9 gn9 n (overL (zeros n) C) ((overL (zeros n) C).set 2 hB) (wC.setCells gn9 512 (bc hB))) := WZ.out.put 2 (by omega) hB; clear WZ)
        | (generalize wC.setCells gn9 512 (bc hB) = wD at WV ⊢; refine wpl_copyB rfl _ _ rfl rfl rfl WV.out.os WV.out.on ?_; intro wE ho hc; have WX := Lib.hid (WV.out.copied ho hc); clear ho hc WV)
        | (go_at_call 30; refine (image_at (D8.out.later WX.out.bel)).mono ?_; rintro e w10 ⟨u10, rfl, ho, hb⟩; have O10 := Lib.hid ho; have N10 := Lib.hid (WX.out.later hb); clear ho hb)
        | (go_at_call 18; clear tok; refine (sameBks_any D9.now _ _ w10 (Sl.own O10.out) (by rw [enow.out]; exact N10.out.bksN)).mono ?_; rintro e w11 ⟨rfl, hb⟩; have N11 := Lib.hid (N10.out.later hb); clear hb)
        | (go_at_call 31; refine (safe_at (D8.out.later N11.out.bel)).mono ?_; rintro e w12 ⟨u12, rfl, ho, hb⟩; have O12 := Lib.hid ho; have N12 := Lib.hid (N11.out.later hb); clear ho hb)
        | (go_at_call 18; refine (sameBks_any D9.safe _ _ w12 (Sl.own O12.out) (by rw [esafe.out]; exact N12.out.bksS)).mono ?_; rintro e w13 ⟨rfl, hb⟩; have N13 := Lib.hid (N12.out.later hb); clear hb))
      all_goals
        go_ret
        have b13 := B8.out.trans (N13.out.bel.mono B8.out.size)
        exact ⟨rfl, B0.out.trans (b13.mono B0.out.size)⟩
end Go.Proofs.Ytdeeegodiacjgaa
namespace Go.Proofs.Ytdeeegodiacjgaa
open Go.RowKit
attribute [local go_sem ↓] loadAtB storeAtB loadAtC storeAtC loadAtG
set_option maxRecDepth 100000 in
set_option maxHeartbeats 4000000 in
theorem does_5 (g : Ge) (n : Nat) (h1 : 1 ≤ n) (h2 : n ≤ 2048) (l : List Lt) (next : Nat) (hnx : next < 4294967296) (p : Int) (hp : p < 9223372036854775808) (hok : OkLt l) (hl60 : l.length ≤ 60) (hsz : szs l ≤ 1000) (hm' : tooMany l 1000 = false)
    (hM : mayR n g (shortL l) next = 0) (a : Nat) (ha : actsP p (ovOut (shortL l)).length = a) (hc : ((ovOut (shortL l)).length : Int) + 3 ≤ p ∧ a = (ovOut (shortL l)).length + 3) (v : Value) (w : World) (h : Lts w v l) :
    Calls Try.prog 9 #[.agg (ga g), .int .i64 (n : Int), v, .int .u32 (next : Int), .int .i64 p] w (GPost (.bool true) w) := by
  have H := Lib.hid (h.later ((Below.refl _ _).alloc (Nat.le_refl _) (.cells (ga g) 43)))
  have B0 : Hid (Below w.heap.size w (w.alloc (.cells (ga g) 43))) := (Below.refl _ _).alloc (Nat.le_refl _) _
  have G0 := Lib.hid (Whole.new w (ga g) 43)
  have hmany := Lib.hid (many19 l v)
  have hshort := Lib.hid (short_si l hl60 hsz hok v)
  have hnew := Lib.hid (new_any n h1 h2)
  have hcn : cpsN (shortL l) ≤ 1000 := by have := cpsN_short l; omega
  have d1 : decide ((n : Int) < 1) = false := by simp; omega
  have d2 : decide (2048 < (n : Int)) = false := by simp; omega
  have hpl := does_plain p hM
  rw [ha] at hpl
  obtain ⟨hn3, hP⟩ := hpl
  have hrng : Hid (∀ c ∈ ovOut (shortL l), 0 ≤ c.1 ∧ c.1 < (n : Int)) := fun c hc => by obtain ⟨m1, m2, m3, m4⟩ := mayR_ok hM; rw [m2]; exact ov_in m4 hc
  have hCl : (ovOut (shortL l)).length ≤ 1000 := Nat.le_trans (ovOut_le _) hcn
  clear h hok ha
  generalize shortL l = T at hshort hcn hM hP hrng hCl hc
  have hmr := Lib.hid (rmay19_any n h1 g T next)
  rw [hM] at hmr
  have hwr : Hid (∀ (v : Value) (w : World), Trs w v T → Calls Try.prog 29 #[v, .int .u32 (next : Int)] w (WrPost (ovOut T) next w)) := fun v w h => writes_any T next hnx (by omega) v w h
  obtain ⟨⟨f, D9⟩, hR⟩ : ∃ R, doD (dPower (newD (zeros n)) p) g (ovOut T) next (fitsB (dPower (newD (zeros n)) p) g T) = R := ⟨_, rfl⟩
  have hdoes : Hid (∀ (base r gs gn : Nat) (u : Value) (w : World), DAt w base r gs gn (.slice none 0 0) (dPower (newD (zeros n)) p) → Trs w u T → Calls Try.prog 20 #[.pointer (some ⟨r, 0, none⟩), .agg (ga g), u, .int .u32 (next : Int)] w (DoPost (f, D9) base r gs gn (.slice none 0 0) w)) := fun base r gs gn u w hd ht => by
    have := do_any (dPower (newD (zeros n)) p) g T next (fitsB (dPower (newD (zeros n)) p) g T) (by omega) (by simp [dPower, newD]) (by simp [dPower, newD]) base r gs gn (.slice none 0 0) u w hd ht (fun w1 hb => fits_all g T u (hd.later hb) (ht.later hb))
    rw [hR] at this
    exact this
  rw [hR] at hP
  clear hR
  have hpow : Hid (∀ {W : World} {base r gs gn : Nat}, DAt W base r gs gn (.slice none 0 0) (newD (zeros n)) → Calls Try.prog 26 #[.pointer (some ⟨r, 0, none⟩), .int .i64 p] W (fun e w' => e = .returned (.tuple #[]) ∧ DAt w' base r gs gn (.slice none 0 0) (dPower (newD (zeros n)) p) ∧ Ch (fun k => k = r) W w')) := fun {W base r gs gn} hd => power_at p hp hd
  generalize dPower (newD (zeros n)) p = DP at hdoes hpow
  generalize ovOut T = C at hP hrng hCl hwr hc
  obtain ⟨hB, hBe⟩ : ∃ hB, Hid (headB next = hB) := ⟨_, rfl⟩
  obtain ⟨L, hLe⟩ : ∃ L, Hid (C.length = L) := ⟨_, rfl⟩
  obtain ⟨m, hme⟩ : ∃ m, Hid (C.length + 1 = m) := ⟨_, rfl⟩
  have hmL : Hid (m = L + 1) := by unfold Hid; rw [← hLe.out, ← hme.out]
  have wA : IntKind.i64.wrap ((m : Int) + 2) = (m : Int) + 2 := IntWalk.i64_in _ (by have := hme.out; omega)
  have wL : IntKind.i64.wrap ((m : Int) - 1) = (L : Int) := by rw [IntWalk.i64_in _ (by have := hme.out; omega)]; have := hmL.out; omega
  have wL1 : IntKind.i64.wrap ((L : Int) + 1) = (L : Int) + 1 := IntWalk.i64_in _ (by have := hLe.out; omega)
  have wL2 : IntKind.i64.wrap ((L : Int) + 2) = (L : Int) + 2 := IntWalk.i64_in _ (by have := hLe.out; omega)
  unfold WrPost at hwr
  rw [hme.out] at hwr
  rw [hLe.out] at hc hCl
  rw [hBe.out] at hP hwr
  have hz0 : (zeros n).length = n := zeros_len n
  obtain ⟨hpa, haL⟩ := hc
  replace haL := Lib.hid haL
  replace hpa := Lib.hid hpa
  replace hp := Lib.hid hp
  have d0 : decide (0 ≤ p) = true := by have := hpa.out; simp; omega
  have d3 : decide (p < (m : Int) + 2) = false := by have := hpa.out; have := hmL.out; simp; omega
  have d5 : decide ((L : Int) < (m : Int) + 2) = true := by have := haL.out; have := hmL.out; simp; omega
  have d6 : decide ((L : Int) + 1 < (m : Int) + 2) = true := by have := haL.out; have := hmL.out; simp; omega
  have d7 : decide ((L : Int) + 2 < (m : Int) + 2) = true := by have := haL.out; have := hmL.out; simp; omega
  have d8 : decide (L < m + 2) = true := by have := haL.out; have := hmL.out; simp; omega
  have d9 : decide (L + 1 < m + 2) = true := by have := haL.out; have := hmL.out; simp; omega
  have d10 : decide (L + 2 < m + 2) = true := by have := haL.out; have := hmL.out; simp; omega
  have d11 : decide (L < m) = true := by have := haL.out; have := hmL.out; simp; omega
  have d12 : decide ((L : Int) < (m : Int)) = true := by have := haL.out; have := hmL.out; simp; omega
  obtain rfl : f = 0 := by have := hP.err; rw [hLe.out, if_pos (by have := haL.out; omega)] at this; exact this
  have ea : Hid (D9.acts = (m : Int) + 2) := by have h1 : D9.acts = (a : Int) := hP.acts; have := haL.out; have := hmL.out; unfold Hid; omega
  have enow : Hid (D9.now = (overL (zeros n) C).set 2 hB) := by have := hP.now; rw [hLe.out, if_pos (by have := haL.out; omega)] at this; exact this
  have esafe : Hid (D9.safe = (overL (zeros n) C).set 2 hB) := by have := hP.safe; rw [hLe.out, if_pos (by have := haL.out; omega)] at this; exact this
  replace hCl := Lib.hid hCl
  have hz0' : Hid ((zeros n).length = n) := hz0
  obtain ⟨hn3', _⟩ : n = n ∧ True := ⟨rfl, trivial⟩
  clear hn3'

  clear hP hz0
  have e0 : Hid (overL (zeros n) (C.take 0) = zeros n) := by unfold Hid; rw [List.take_zero]; rfl
  have tok : True := trivial
  go_enter Try.func9, Try.ntmps9
  go_wp2_with (first
    | (go_at_call 10; refine (hmany.out _ H.out).mono ?_; rintro e w1 ⟨rfl, hb⟩; have B1 := Lib.hid hb; clear hb; rw [hm'])
    | (go_at_call 25; refine (hnew.out w1).mono ?_; rintro e w2 ⟨r, gs, gn, rfl, hd, hb⟩; have D2 := Lib.hid hd; have B2 := Lib.hid (B1.out.trans (hb.mono B1.out.size)); clear hd hb)
    | (go_at_call 26; refine (hpow.out D2.out).mono ?_; rintro e w3 ⟨rfl, hd, hc⟩; have D3 := Lib.hid hd; have B3 := Lib.hid (below_ch B2.out hc (fun k e => by subst e; exact Nat.le_trans B1.out.size D2.out.base) B2.out.size); clear hd hc)
    | (go_at_call 11; refine (hshort.out w3 (H.out.later B3.out)).mono ?_; rintro e w4 ⟨a4, c4, vs4, rfl, hs⟩; have S4 := Lib.hid hs; have D4 := Lib.hid (D3.out.later hs.bel); have B4 := Lib.hid (B3.out.trans (hs.bel.mono B3.out.size)); have q4 := ldG (G0.out.later B4.out); clear hs)
    | (go_at_call 20; refine (hdoes.out _ r gs gn _ w4 D4.out S4.out.trs).mono ?_; rintro e w5 ⟨vw', rfl, ds⟩; have D5 := Lib.hid ds.at_; have T5 := Lib.hid (S4.out.ch ds.ch (fun k f => (D3.out.lt k f).2)); have B5 := Lib.hid (below_ch B4.out ds.ch (fun k f => Nat.le_trans B1.out.size (D3.out.lt k f).1) B4.out.size); have q5 := ldG (G0.out.later B5.out); clear ds)
    | (go_at_call 27; refine (hmr.out _ w5 T5.out).mono ?_; rintro e w6 ⟨rfl, hb⟩; have D6 := Lib.hid (D5.out.later hb); have T6 := Lib.hid (T5.out.later hb); have B6 := Lib.hid (B5.out.trans (hb.mono B5.out.size)); clear hb)
    | (go_at_call 29; refine (hwr.out _ w6 T6.out).mono ?_; rintro e w8 ⟨a8, c8, rfl, hcp, hb⟩; have D8 := Lib.hid (D6.out.later hb); have C8 := Lib.hid hcp; have B8 := Lib.hid (B6.out.trans (hb.mono B6.out.size)); clear hcp hb)
    | (go_at_call 28; refine (acts_at D8.out).mono ?_; rintro e w8 ⟨rfl, rfl⟩; rw [ea.out]))
  refine Alt.wp_region_alt (fun w' => Below w8.heap.size w8 w') (.one 0 0 (.one 0 2 (.alt 1 3 (.one 0 4 (.one 3 3 (.one 0 5 .done))) (.one 3 1 (.one 0 4 (.one 0 5 .done)))))) (fun a a' w' => ∃ gs gn, a' = ((((((a.put (some 100) (.int .i64 (n : Int))).put (some 102) (.int .i64 (n : Int))).put (some 101) (.slice (some ⟨gs, 0, none⟩) n n)).put (some 18) (.slice (some ⟨gs, 0, none⟩) n n)).put (some 103) (.slice (some ⟨gn, 0, none⟩) n n)).put (some 19) (.slice (some ⟨gn, 0, none⟩) n n)) ∧ NI w8 gs gn n (zeros n) (zeros n) w') (by kernel_rfl) (by kernel_rfl) (Below.refl _ _).drew ?_ ?_
  · repeat (first | (refine Alt.wpT_pure rfl (fun K hK => ?_); go_simp; refine hK _ ?_; clear hK K))
    refine Alt.wpT_alt rfl rfl (fun K hK => ?_) (fun K hK => ?_)
    · go_wp2_with (refine wpl_makeB rfl _ _ rfl n rfl rfl (by omega) ?_; intro w9 ho1 hb1; have O1 := Lib.hid ho1; have B9 : Hid (Below w8.heap.size w8 w9) := ((Below.refl _ _).drew).trans hb1; clear ho1 hb1)
      refine hK.out _ _ B9.out ?_
      clear hK K
      repeat (first | (refine Alt.wpT_pure rfl (fun K hK => ?_); go_simp; refine hK _ ?_; clear hK K))
      refine Alt.wpT_last rfl (fun K hK => ?_)
      go_wp2_with (refine wpl_makeB rfl _ _ rfl n rfl rfl (by omega) ?_; intro w10 ho2 hb2; have O2 := Lib.hid ho2; have O1' := Lib.hid (own_later O1.out hb2); have B10 : Hid (Below w8.heap.size w8 w10) := B9.out.trans (hb2.mono B9.out.size); clear ho2 hb2)
      refine hK.out _ _ ?_
      clear hK K
      repeat (first | (refine Alt.wpT_pure rfl (fun K hK => ?_); go_simp; refine hK _ ?_; clear hK K))
      refine Alt.wpT_done ?_
      exact Exists.intro _ (Exists.intro _ ⟨rfl, B10.out, hz0'.out, hz0'.out, own_mono O1'.out (Nat.le_refl _), own_mono O2.out B9.out.size, Nat.ne_of_lt (O1.out.lt _ rfl).2⟩)
    · go_wp2_with (refine wpl_makeB rfl _ _ rfl n rfl rfl (by omega) ?_; intro w9 ho1 hb1; have O1 := Lib.hid ho1; have B9 : Hid (Below w8.heap.size w8 w9) := ((Below.refl _ _).drew).trans hb1; clear ho1 hb1)
      refine hK.out _ _ B9.out ?_
      clear hK K
      repeat (first | (refine Alt.wpT_pure rfl (fun K hK => ?_); go_simp; refine hK _ ?_; clear hK K))
      refine Alt.wpT_last rfl (fun K hK => ?_)
      go_wp2_with (refine wpl_makeB rfl _ _ rfl n rfl rfl (by omega) ?_; intro w10 ho2 hb2; have O2 := Lib.hid ho2; have O1' := Lib.hid (own_later O1.out hb2); have B10 : Hid (Below w8.heap.size w8 w10) := B9.out.trans (hb2.mono B9.out.size); clear ho2 hb2)
      refine hK.out _ _ ?_
      clear hK K
      repeat (first | (refine Alt.wpT_pure rfl (fun K hK => ?_); go_simp; refine hK _ ?_; clear hK K))
      refine Alt.wpT_done ?_
      exact Exists.intro _ (Exists.intro _ ⟨rfl, B10.out, hz0'.out, hz0'.out, own_mono O2.out B9.out.size, own_mono O1'.out (Nat.le_refl _), (Nat.ne_of_lt (O1.out.lt _ rfl).2).symm⟩)
  rintro a' w9 ⟨gs9, gn9, rfl, hNI⟩
  have N9 := Lib.hid hNI
  clear hNI
  go_wp2_with fail
  have W0 : Hid (NI w8 gs9 gn9 n (zeros n) (overL (zeros n) (C.take 0)) w9) := by unfold Hid; rw [e0.out]; exact N9.out
  clear e0 N9 S4 T5 T6 q4 q5 D2 D3 D4 D5 D6 hdoes hwr hmr hpow hnew hshort hmany H G0
  have hC8 : Sl w8 (.slice a8 (C ++ [((2 : Int), hB)]).length c8) (C ++ [((2 : Int), hB)]).length (flat cc (C ++ [((2 : Int), hB)])) := by have := C8.out; unfold Cps at this; rw [List.length_append, List.length_singleton, hme.out] at this ⊢; exact this
  obtain ⟨gc, oc, hae, hk1, hk2, hgc, hatc⟩ := Sl.at hC8 cc_len (by omega) (i := 0) (by rw [List.length_append, List.length_singleton]; omega)
  subst hae
  rw [List.length_append, List.length_singleton, hme.out] at hk1
  unfold maxLen at hk2
  have hrgB : Hid (∀ (j : Nat) (x : Int) (d : Blk), (C ++ [((2 : Int), hB)])[j]? = some (x, d) → w8.cell? ⟨gc, oc + j * 257, none⟩ = some (.int .i64 x) ∧ w8.rangeAt gc (oc + j * 257 + 1) (bc d)) := fun j x d hx => by
    have hr := hatc j (x, d) hx
    have c0 := hr 0 _ rfl
    rw [Nat.add_zero] at c0
    exact ⟨c0, rangeAt_sub hr fun j v hv => by unfold cc; rw [Nat.add_comm, List.getElem?_cons_succ]; exact hv⟩
  have hlast : Hid ((C ++ [((2 : Int), hB)])[L]? = some ((2 : Int), hB)) := by unfold Hid; rw [← hLe.out]; simp
  clear hatc hC8 C8
  have hm0 : Hid (m = C.length + 1) := hme.out.symm
  go_loopw [21] (fun v21 W => ∃ i, v21 = .int .i64 (i : Nat) ∧ i ≤ L ∧ NI w8 gs9 gn9 n (zeros n) (overL (zeros n) (C.take i)) W) (fun v21 _ => (L - intOf v21).toNat)
  case atStart => exact ⟨0, rfl, by omega, W0.out⟩
  case round =>
    obtain ⟨i, rfl, hi, hW⟩ := hrel
    have WH := Lib.hid hW
    clear hW W0
    by_cases hin : i < L
    · have hiL : i < L := by skip; omega
      have hiC : i < C.length := by have := hLe.out; omega
      obtain ⟨⟨b, d⟩, hcx⟩ : ∃ c, C[i]? = some c := ⟨_, List.getElem?_eq_getElem hiC⟩
      have hbr := hrng.out _ (List.mem_of_getElem? hcx)
      obtain ⟨q, rfl⟩ : ∃ q : Nat, b = q := ⟨b.toNat, by have := hbr.1; simp only at this; omega⟩
      have hq : q < n := by have := hbr.2; simp only at this; omega
      have hnext : Hid (overL (zeros n) (C.take (i + 1)) = (overL (zeros n) (C.take i)).set q d) := over_step hcx (by rw [hz0'.out]; exact hq)
      have h8 := Lib.hid (hrgB.out i (q : Int) d (by rw [List.getElem?_append_left hiC]; exact hcx))
      have him : i < m := by have := hm0.out; omega
      have dj1 : decide (i < L) = true := by simpa using hiL
      have dj1' : decide ((i : Int) < (L : Int)) = true := by simpa using hiL
      have dj2 : decide ((i : Int) < (m : Int) + 2) = true := by have := hmL.out; simp; omega
      have dj3 : decide (i < m + 2) = true := by have := hmL.out; simp; omega
      have wi : IntKind.i64.wrap ((i : Int) + 1) = (i : Int) + 1 := IntWalk.i64_in _ (by have := hCl.out; omega)
      have WD := Lib.hid (WH.out.later ((Below.refl wr.heap.size wr).drew))
      have WP := Lib.hid (WD.out.put q hq d)
      have hgcr : gc < wr.heap.size := Nat.lt_of_lt_of_le hgc WH.out.bel.size
      have hc0 : Hid (wr.cell? ⟨gc, oc + i * 257, none⟩ = some (.int .i64 (q : Int))) := (World.cell?_of_block (WH.out.bel.block _ hgc)).trans h8.out.1
      have hrg : Hid (wr.rangeAt gc (oc + i * 257 + 1) (bc d)) := rangeAt_block h8.out.2 (WH.out.bel.block _ hgc)
      clear hcx hbr
      go_wp2_with fail
      have hs2 := stB (W := wr.drew) (g := gn9) (o := q * 256) d (own_there WD.out.on _ _ (by omega))
      have f0 : ∀ p : Kept (fun w' => Below wr.heap.size wr w'), p.x.cell? ⟨gc, oc + i * 257, none⟩ = some (.int .i64 (q : Int)) := fun p => (World.cell?_of_block (p.h.block _ hgcr)).trans hc0.out
      have f1 : ∀ p : Kept (fun w' => Below wr.heap.size wr w'), (bigLoadAt 29 (.pointer (some ⟨gc, oc + i * 257 + 1, none⟩))).run Try.prog p.x = .ok (.agg (blk d)) p.x := fun p => ldB (rangeAt_block hrg.out (p.h.block _ hgcr))
      have hne : Nonempty (Kept (fun w' => Below wr.heap.size wr w')) := ⟨⟨wr, Below.refl _ _⟩⟩
      refine wp_region_plan (fun w' => Below wr.heap.size wr w') [(0, 0), (0, 1), (0, 2), (0, 3), (0, 4), (1, 5), (0, 6), (0, 7), (0, 8), (0, 9), (1, 10), (0, 11), (3, 12)] (by kernel_rfl) (by kernel_rfl) (Below.refl _ _).drew ?_
      repeat (first | (refine wpPlan_pure rfl (fun K hK => ?_); go_simp; refine hK _ ?_; clear hK K) | (refine wpPlan_held rfl (fun K hK => ?_); go_simp; refine hK _ ?_; clear hK K))
      refine wpPlan_last rfl (fun K hK => ?_)
      go_wp2_with fail
      refine hK.out _ _ ?_
      clear hK K
      refine wpPlan_nil ?_
      go_wp2_with fail
      have wp := WP.out
      rw [← hnext.out] at wp
      exact ⟨⟨i + 1, rfl, by omega, wp⟩, by simp [intOf]; omega⟩
    · obtain rfl : L = i := by omega
      clear hin hi
      have hCL : Hid (C.take L = C) := by unfold Hid; rw [← hLe.out]; exact List.take_length
      have WY := WH
      clear WH
      rw [hCL.out] at WY
      have tokC : True := trivial
      have h8 := Lib.hid (hrgB.out L 2 hB hlast.out)
      have hLm : L < m := by have := hmL.out; omega
      go_wp2_with (first
        | (clear tokC; refine wpl_copyB rfl _ _ rfl rfl rfl WY.out.os WY.out.on ?_; intro wC ho hc; have WZ := Lib.hid (WY.out.copied ho hc); clear ho hc WY; have hl9 := ldB (rangeAt_block h8.out.2 (WZ.out.bel.block _ hgc)); have hs9 := stB (W := wC) (g := gn9) (o := 512) hB (own_there WZ.out.on _ _ (by omega)); have WV : Hid (NI w8 gs9 gn9 n (overL (zeros n) C) ((overL (zeros n) C).set 2 hB) (wC.setCells gn9 512 (bc hB))) := WZ.out.put 2 (by omega) hB; clear WZ)
        | (generalize wC.setCells gn9 512 (bc hB) = wD at WV ⊢; refine wpl_copyB rfl _ _ rfl rfl rfl WV.out.os WV.out.on ?_; intro wE ho hc; have WX := Lib.hid (WV.out.copied ho hc); clear ho hc WV)
        | (go_at_call 30; refine (image_at (D8.out.later WX.out.bel)).mono ?_; rintro e w10 ⟨u10, rfl, ho, hb⟩; have O10 := Lib.hid ho; have N10 := Lib.hid (WX.out.later hb); clear ho hb)
        | (go_at_call 18; clear tok; refine (sameBks_any D9.now _ _ w10 (Sl.own O10.out) (by rw [enow.out]; exact N10.out.bksN)).mono ?_; rintro e w11 ⟨rfl, hb⟩; have N11 := Lib.hid (N10.out.later hb); clear hb)
        | (go_at_call 31; refine (safe_at (D8.out.later N11.out.bel)).mono ?_; rintro e w12 ⟨u12, rfl, ho, hb⟩; have O12 := Lib.hid ho; have N12 := Lib.hid (N11.out.later hb); clear ho hb)
        | (go_at_call 18; refine (sameBks_any D9.safe _ _ w12 (Sl.own O12.out) (by rw [esafe.out]; exact N12.out.bksS)).mono ?_; rintro e w13 ⟨rfl, hb⟩; have N13 := Lib.hid (N12.out.later hb); clear hb))
      all_goals
        go_ret
        have b13 := B8.out.trans (N13.out.bel.mono B8.out.size)
        exact ⟨rfl, B0.out.trans (b13.mono B0.out.size)⟩
end Go.Proofs.Ytdeeegodiacjgaa
namespace Go.Proofs.Ytdeeegodiacjgaa
open Go.RowKit
theorem does_any (g : Ge) (bs : Int) (l : List Lt) (next : Nat) (p : Int) (hnx : next < 4294967296) (hp : p < 9223372036854775808) (hok : OkLt l) (v : Value) (w : World) (h : Lts w v l) :
    Calls Try.prog 9 #[.agg (ga g), .int .i64 bs, v, .int .u32 (next : Int), .int .i64 p] w (GPost (.bool true) w) := by
  by_cases hx : tooMany l 1000 = true ∨ bs < 1 ∨ 2048 < bs
  · exact does_out g bs l next p hx v w h
  · have hm' : tooMany l 1000 = false := by
      cases hm : tooMany l 1000 with
      | false => rfl
      | true => exact absurd (.inl hm) hx
    have hb : 1 ≤ bs ∧ bs ≤ 2048 := by
      constructor
      · exact Int.not_lt.1 fun c => hx (.inr (.inl c))
      · exact Int.not_lt.1 fun c => hx (.inr (.inr c))
    obtain ⟨n, rfl⟩ : ∃ n : Nat, bs = n := ⟨bs.toNat, by omega⟩
    have h1 : 1 ≤ n := by omega
    have h2 : n ≤ 2048 := by omega
    have hlm : l.length ≤ 60 ∧ szs l ≤ 1000 := by
      unfold tooMany at hm'
      have := of_decide_eq_false hm'
      omega
    by_cases hM : mayR n g (shortL l) next = 0
    · obtain ⟨a, ha⟩ : ∃ a, actsP p (ovOut (shortL l)).length = a := ⟨_, rfl⟩
      rcases actsP_cases ha with hc | hc | hc | hc | hc
      · exact does_1 g n h1 h2 l next hnx p hp hok hlm.1 hlm.2 hm' hM a ha hc v w h
      · exact does_2 g n h1 h2 l next hnx p hp hok hlm.1 hlm.2 hm' hM a ha hc v w h
      · exact does_3 g n h1 h2 l next hnx p hp hok hlm.1 hlm.2 hm' hM a ha hc v w h
      · exact does_4 g n h1 h2 l next hnx p hp hok hlm.1 hlm.2 hm' hM a ha hc v w h
      · exact does_5 g n h1 h2 l next hnx p hp hok hlm.1 hlm.2 hm' hM a ha hc v w h
    · exact does_refused g n h1 h2 l next hnx p hp hok hlm.1 hlm.2 hm' hM v w h
end Go.Proofs.Ytdeeegodiacjgaa
namespace Go.Proofs.Ytdeeegodiacjgaa
open Go.ChangeShapes Go.WideShapes Go.ChangeAt Go.RowKit

set_option maxRecDepth 100000 in
theorem replayDoes_lifted (os : Os) (started : os.Started) (H : Type) (enc : TypeId × Value → H) :
    ReturnsInHanded {} Try.checked os 9 .any (Rows.replayDoesSpec.pre6 enc Try.prog Try.f9 Rows.replayDoesRow.domain false) (Rows.replayDoesSpec.post enc Try.prog Try.f9 false true false false) := by
  refine returnsInHanded_of_change (C := Try.checked) own started (by kernel_rfl) Try.func9
    (ChangeSpec.witness6 (enc := enc) (C := Try.checked) false ⟨#[], #[.agg #[.int .i64 0, .int .i64 0, .int .i64 0, .int .i64 0], .int .i64 0, .slice none 0 0, .int .u32 0, .int .i64 0], []⟩ 8 (by kernel_rfl) (by kernel_rfl) (by kernel_rfl) (by kernel_rfl)) ?_
  intro W base args ds gs before hval0 hW hcnd _
  have hval : ∀ (j : Nat) t v, Try.f9.params[j]? = some t → args[j]? = some v → Value.okWide Try.prog W .any base t v := hval0
  have hW' := hW
  obtain ⟨p, q, hA0, hV, rfl, hfz, hnd⟩ := hW
  have hA : DataW.TrodAll enc Try.prog W 0 (fun _ => true) true Try.f9.params.toList args.toList ds p := hA0
  rw [Try.params9] at hA hval
  obtain ⟨v0, vs0, d0, ds0, p0, q0, hargs, rfl, rfl, h0, r0⟩ := trodAll_cons hA
  obtain ⟨v1, vs1, d1, ds1, p1, q1, rfl, rfl, rfl, h1, r1⟩ := trodAll_cons r0
  obtain ⟨v2, vs2, d2, ds2, p2, q2, rfl, rfl, rfl, h2, r2⟩ := trodAll_cons r1
  obtain ⟨v3, vs3, d3, ds3, p3, q3, rfl, rfl, rfl, h3, r3⟩ := trodAll_cons r2
  obtain ⟨v4, vs4, d4, ds4, p4, q4, rfl, rfl, rfl, h4, r4⟩ := trodAll_cons r3
  obtain ⟨rfl, rfl, rfl⟩ := trodAll_nil r4
  obtain rfl : args = #[v0, v1, v2, v3, v4] := by cases args; simp_all
  obtain ⟨rfl, rfl⟩ := trodVars_none hV
  have k0 := h0
  have lt0 : ∀ x ∈ p0, x.block < W.heap.size := by obtain ⟨m, hm⟩ := k0; exact DataW.trod_lt m _ _ _ hm
  have k2 := h2
  have lt2 : ∀ x ∈ p2, x.block < W.heap.size := by obtain ⟨m, hm⟩ := k2; exact DataW.trod_lt m _ _ _ hm
  obtain ⟨g0, rfl⟩ := open_geo (hval 0 43 v0 rfl rfl) h0
  obtain ⟨a1, rfl, rfl, rfl, w1⟩ := open_int Try.underlying3 (hval 1 3 v1 rfl rfl) h1
  obtain ⟨s2, len2, cap2, rfl⟩ := okWide_slice Try.underlying22 (hval 2 22 v2 rfl rfl)
  obtain ⟨fuel2, hf2⟩ := h2
  obtain ⟨l2, hl2, hok2⟩ := open_tolds hf2
  obtain ⟨a3, rfl, rfl, rfl, w3⟩ := open_int Try.underlying44 (hval 3 44 v3 rfl rfl) h3
  obtain ⟨n3, rfl⟩ : ∃ n : Nat, a3 = n := ⟨a3.toNat, by have := bounds_u32 w3; omega⟩
  obtain ⟨a4, rfl, rfl, rfl, w4⟩ := open_int Try.underlying3 (hval 4 3 v4 rfl rfl) h4
  clear hA0 hval0
  refine (does_any g0 a1 l2 n3 a4 (by have := bounds_u32 w3; omega) (by have := bounds_i64 w4; omega) hok2 _ W hl2).mono fun e W' ⟨he, bel⟩ => ?_
  subst he
  exact ⟨_, rfl, _, _, _, [], _, [], hW', trodAll_mk1 (shut_bool Try.underlying4 _), (trodAll_cons_mk (Below.trod laidOut (by kernel_rfl) (of_decide_eq_true (by kernel_rfl)) k0 bel lt0) (trodAll_cons_mk (shut_int Try.underlying3 w1) (trodAll_cons_mk (Below.trod laidOut (by kernel_rfl) (of_decide_eq_true (by kernel_rfl)) k2 bel lt2) (trodAll_cons_mk (shut_int Try.underlying44 w3) (trodAll_cons_mk (shut_int Try.underlying3 w4) trodAll_mk0))))), rfl, bel.frame _, fun h => by cases h⟩

theorem replayDoes_holds : Rows.ReplayDoesSaid :=
  OpenClaim.holds_of_wide 9 Try.f9 rfl rfl rfl rfl rfl rfl rfl ⟨rfl, rfl, rfl, rfl, rfl⟩ rfl rfl rfl rfl rfl (by kernel_rfl) Try.func9 (by kernel_rfl)
    (of_decide_eq_true (by kernel_rfl)) (by unfold Func.isWrapper; rw [if_neg (of_decide_eq_false (by kernel_rfl))]; exact ⟨rfl, rfl⟩)
    (fun os started H enc _ => replayDoes_lifted os started H enc)
end Go.Proofs.Ytdeeegodiacjgaa
