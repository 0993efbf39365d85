/- quernlaw13.RevokePlays returns true. The argument is a slice of calls whose numbers are in range. -/
import Derived.Test.YtlnfjcbhicdceaaQ8
namespace Go.Proofs.Ytlnfjcbhicdceaa
open Go.RowKit
/-- What is known of both tables, of the same records. -/
structure PK (w : World) (g bm r B n : Nat) (m : M) (v : Value) (ml : List K) (W : World) : Prop where
  p : PR w g bm r B m v ml W
  perm : (keys m).Perm ml
  pos : Pos ml
  len : ml.length ≤ n
theorem PK.later {w : World} {g bm r B n : Nat} {m : M} {v : Value} {ml : List K} {W W' : World} (h : PK w g bm r B n m v ml W) (hb : Below W.heap.size W W') : PK w g bm r B n m v ml W' := ⟨h.p.later hb, h.perm, h.pos, h.len⟩
theorem PK.mlen {w : World} {g bm r B n : Nat} {m : M} {v : Value} {ml : List K} {W : World} (h : PK w g bm r B n m v ml W) : m.length = ml.length := by
  rw [← h.perm.length_eq]; simp [keys]
theorem last_nonneg {m : M} (h : ∀ p ∈ m, 0 ≤ p.1.1 ∧ 0 ≤ p.1.2) {b best : Int} {found : Bool} (hL : LastIs m b best found) : 0 ≤ best := by
  cases found with
  | false => have := hL.none rfl; omega
  | true =>
    obtain ⟨p, hp, _, e⟩ := hL.one rfl
    have := h p hp
    omega
theorem PK.mpos {w : World} {g bm r B n : Nat} {m : M} {v : Value} {ml : List K} {W : World} (h : PK w g bm r B n m v ml W) : ∀ p ∈ m, 0 ≤ p.1.1 ∧ 0 ≤ p.1.2 := keys_pos h.perm h.pos
theorem rlast_u {w : World} {g bm r B n : Nat} {m : M} {v : Value} {ml : List K} {W : World} (h : PK w g bm r B n m v ml W) (hn : n ≤ 400) (b best : Int) (found : Bool) (hL : LastIs m b best found) :
    Calls Try.prog 16 #[.pointer (some ⟨r, 0, none⟩), .int .i64 b] W fun e w' => e = .returned (.tuple #[.int .u32 best, .bool found]) ∧ W = w' :=
  (rlast_any r B v ml (Nat.le_trans h.len hn) h.pos b W h.p.rt).mono fun e w' ⟨best2, found2, he, hK, h0, hw⟩ => by
    obtain ⟨rfl, rfl⟩ := LastK.same hL hK h.perm (last_nonneg h.mpos hL) h0
    exact ⟨he, hw⟩
theorem of_len {w : World} {g bm r B n : Nat} {m : M} {v : Value} {ml : List K} {W : World} (h : PK w g bm r B n m v ml W) (s : Int) : (ofS m s).length ≤ ml.length := by
  rw [← sortS_eq h.perm h.p.tab.map.nodup]
  exact Nat.le_trans (sortS_len _) (numL_len _ _)
set_option maxRecDepth 100000 in
set_option maxHeartbeats 8000000 in
theorem revokePlays_walk (l : List A3) (hok : OkA l) (v : Value) (b s : Int) (hs : 0 ≤ s ∧ s ≤ 4294967295) (w : World) (h : Acts w v l) :
    Calls Try.prog 5 #[v, .int .i64 b, .int .u32 s] w fun e w' => e = .returned (.bool true) ∧ Below w.heap.size w w' := by
  have hokH := Lib.hid hok
  obtain ⟨ao, cap, rfl, hlc, hcm, hcell⟩ := h.ex
  have hcH := Lib.hid hcell
  clear h hok hcell
  by_cases hl : l.length ≤ 200
  · have d0 : decide ((200 : Int) < (l.length : Int)) = false := by simp; omega
    go_enter Try.func5, Try.ntmps5
    go_wp2_with (go_at_call 14; refine (new_tab _).mono ?_; rintro e w1 ⟨g, bm, rfl, hT, hg, hbm, hB⟩; have T : Hid (Own w g bm [] w1) := ⟨hT, hB, hbm⟩; clear hT hB)
    have hP0 : Hid (PS w g bm w1.heap.size (w1.heap.size + 1) 0 (w1.alloc (.cells #[.slice none 0 0] 42))) := by
      have hlt := T.out.tab.lt
      have hb1 : Below w1.heap.size w1 (w1.alloc (.cells #[.slice none 0 0] 42)) := (Below.refl _ _).alloc (Nat.le_refl _) _
      refine ⟨[], .slice none 0 0, [], ⟨T.out.tab.later hb1 hlt.1 hlt.2, ⟨by simp, by simp, by simpa [flat2] using World.ownsRow_nil _ (w1.heap.size + 1) 65 2, by omega⟩, T.out.bel.trans (hb1.mono T.out.bel.size), ⟨T.out.hm, by omega, by omega⟩, ⟨T.out.bel.size, by omega⟩, by simp⟩, by simp [keys], by simp [Pos], by simp⟩
    go_loopw [9] (fun v9 W => ∃ i, v9 = .int .i64 (i : Nat) ∧ i ≤ l.length ∧ PS w g bm w1.heap.size (w1.heap.size + 1) i W) (fun v9 _ => (l.length - intOf v9).toNat)
    case atStart => exact ⟨0, rfl, by omega, hP0.out⟩
    case round =>
      obtain ⟨i, rfl, hi, hPS⟩ := hrel
      have P := Lib.hid hPS
      clear hPS
      by_cases hin : i < l.length
      · obtain ⟨A, off, rfl, hc⟩ := hcH.out (by omega)
        obtain ⟨⟨kd, ab, sq⟩, hr⟩ : ∃ r, l[i]? = some r := ⟨_, List.getElem?_eq_getElem hin⟩
        obtain ⟨b0, b1, b2⟩ := hc i _ hr
        have hrg := hokH.out _ (List.mem_of_getElem? hr)
        obtain ⟨hk, hs2⟩ := hrg
        have hA : A < w.heap.size := World.block_lt_of_cell? w _ b0
        have keep : Hid (∀ W, Below w.heap.size w W → W.cell? ⟨A, off + i * 3, none⟩ = some (.int .u8 kd) ∧ W.cell? ⟨A, off + i * 3 + 1, none⟩ = some (.int .i64 ab) ∧ W.cell? ⟨A, off + i * 3 + 2, none⟩ = some (.int .u32 sq)) := fun W hb =>
          ⟨(World.cell?_of_block (hb.block A hA)).trans b0, (World.cell?_of_block (hb.block A hA)).trans b1, (World.cell?_of_block (hb.block A hA)).trans b2⟩
        have hkH := Lib.hid hk
        have hs2H := Lib.hid hs2
        have hin2 : (i : Int) < (l.length : Int) := by omega
        have hin3 : (0 : Int) ≤ (i : Int) := by omega
        clear b0 b1 b2 hc hr hk hs2
        have P0 : Hid (PS w g bm w1.heap.size (w1.heap.size + 1) i wr.drew) := by
          obtain ⟨m, v, ml, h1, h2, h3, h4⟩ := P.out.ex
          exact ⟨m, v, ml, h1.later (Below.refl _ _).drew, h2, h3, h4⟩
        obtain ⟨s0, s1, s2⟩ := keep.out wr.drew (by obtain ⟨m, v, ml, h1, h2, h3, h4⟩ := P0.out.ex; exact h1.bel)
        go_wp2_with fail
        go_region_with
          (first
            | (go_at_call 15; refine (does_any w g bm w1.heap.size (w1.heap.size + 1) i (by omega) kd ab sq hkH.out hs2H.out _ P0.out).mono ?_; rintro e w2 ⟨rfl, hps⟩; obtain ⟨m, v, ml, h1, h2, h3, h4⟩ := hps.ex; obtain ⟨ao2, cap2, rfl⟩ := own_shape h1.rt.own; have r0 := h1.rt.cell; obtain ⟨s0, s1, s2⟩ := keep.out w2 h1.bel; have PP : Hid (PK w g bm w1.heap.size (w1.heap.size + 1) (i + 1) m _ ml w2) := ⟨h1, h2, h3, h4⟩; clear hps h1 h2 h3 h4)
            | (go_at_call 12; refine (len_c g bm m ml.length PP.out.mlen _ PP.out.p.tab).mono ?_; rintro e w3 ⟨rfl, rfl⟩))
        all_goals
          have hn400 : i + 1 ≤ 400 := by omega
          have hml : ml.length ≤ 400 := Nat.le_trans PP.out.len hn400
          have hm1000 : m.length ≤ 1000 := by rw [PP.out.mlen]; omega
          have hlenS : Hid (∀ s, (ofS m s).length ≤ 1000) := fun s => Nat.le_trans (of_len PP.out s) (by omega)
          clear r0 s0 s1 s2
          go_wp2_with (first
            | (go_at_call 10; refine (last_tab g bm m b PP.out.mpos _ PP.out.p.tab).mono ?_; rintro e w4 ⟨best, found, rfl, hL, hw⟩; have LL := Lib.hid hL; replace PP := Lib.hid (PP.out.later hw); clear hL hw)
            | (go_at_call 16; refine (rlast_u PP.out hn400 b best found LL.out).mono ?_; rintro e w5 ⟨rfl, rfl⟩))
          replace PP := Lib.hid (PP.out.later (Below.refl _ _).drew)
          obtain ⟨s0, s1, s2⟩ := keep.out _ PP.out.p.bel
          dsimp only [List.append]
          go_region_held3 (fun w' => w'.cell? ⟨A, off + i * 3 + 1, none⟩ = some (.int .i64 ab) ∧ w'.cell? ⟨A, off + i * 3 + 2, none⟩ = some (.int .u32 sq))
            (first | exact ⟨s1, s2⟩ | go_keep)
            (first
              | (go_at_call 11; refine (rev_s g bm m _ _ _ PP.out.mpos _ PP.out.p.tab (revSet_perm PP.out.perm _ _)).mono ?_; rintro e w6 ⟨rfl, hw⟩; replace PP := Lib.hid (PP.out.later hw); clear hw s0 s1 s2; obtain ⟨s0, s1, s2⟩ := keep.out _ PP.out.p.bel)
              | (go_at_call 17; refine (rrev_any w1.heap.size _ _ ml hml _ _ _ PP.out.p.rt).mono ?_; rintro e w7 ⟨rfl, rfl⟩)
              | (go_at_call 13; refine (of_tab g bm m hm1000 _ _ PP.out.p.tab).mono ?_; rintro e w8 ⟨vo, rfl, ho, hw⟩; replace PP := Lib.hid (PP.out.later hw); have IA := Lib.hid (IntsAt.own ho); (first | (replace IB := Lib.hid (IB.out.later hw)) | skip); clear hw ho s0 s1 s2; obtain ⟨s0, s1, s2⟩ := keep.out _ PP.out.p.bel)
              | (go_at_call 19; refine (rof_any w1.heap.size _ _ ml hml _ _ PP.out.p.rt).mono ?_; rintro e w9 ⟨vo2, rfl, ho, hw⟩; replace PP := Lib.hid (PP.out.later hw); (first | (replace IA := Lib.hid (IA.out.later hw)) | skip); rw [sortS_eq PP.out.perm PP.out.p.tab.map.nodup] at ho; have IB := Lib.hid (IntsAt.own ho); clear hw ho s0 s1 s2; obtain ⟨s0, s1, s2⟩ := keep.out _ PP.out.p.bel)
              | (go_at_call 18; refine (same_any _ _ _ _ _ (hlenS.out _) IA.out IB.out).mono ?_; rintro e w10 ⟨rfl, hw⟩; replace PP := Lib.hid (PP.out.later hw); clear hw s0 s1 s2 IA IB; obtain ⟨s0, s1, s2⟩ := keep.out _ PP.out.p.bel))
          all_goals
            go_wp2_with fail
            exact ⟨⟨i + 1, rfl, by omega, ⟨_, _, _, PP.out.p, PP.out.perm, PP.out.pos, PP.out.len⟩⟩, by simp [intOf]; omega⟩
      · go_wp2_with fail
        go_ret
        obtain ⟨m, v, ml, h1, h2, h3, h4⟩ := P.out.ex
        exact ⟨rfl, h1.bel⟩
  · have d0 : decide ((200 : Int) < (l.length : Int)) = true := by simp; omega
    go_enter Try.func5, Try.ntmps5
    go_wp2_with fail
    go_ret
    exact ⟨rfl, Below.refl _ _⟩
end Go.Proofs.Ytlnfjcbhicdceaa
