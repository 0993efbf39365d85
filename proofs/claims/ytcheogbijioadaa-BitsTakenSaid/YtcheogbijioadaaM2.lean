/- quernlaw04.BitsTaken returns true at every block and three numbers. Each byte is below 256. -/
import Derived.Test.YtcheogbijioadaaM1
import Derived.OwnWalk
import Derived.Maps.AppendAt
namespace Go.Proofs.Ytcheogbijioadaa
open Go.RowKit
attribute [local go_sem ↓] loadAt23 storeAt23
attribute [local go_sem] run_big23 run_bigst23 isFree_alloc rowOf_alloc freeObj_cells objRow_cells isFree_drew rowOf_drew isFree_set rowOf_set okRow_blk nn1 nn1' nn2 nn2'

theorem info3 : (Try.prog.info? 3).map (fun i => (i.zero, i.size, i.bytes)) = some (some (.int .i64 0), 1, 8) := by kernel_rfl
def ints (l : List Nat) : List Value := l.map fun i => .int .i64 (i : Nat)
/-- What the law holds while it takes: the block at w, its copy at gx, the slice of those taken. -/
def TK (b x : Nat → Nat) (l : List Nat) (w : World) (gx : Nat) (v : Value) (W : World) : Prop :=
  T2 w b x gx W ∧ W.ownsRow (gx + 1) 3 1 v l.length (ints l)
theorem ownsRow_later {W W' : World} {base e size n B : Nat} {v : Value} {xs : List Value} (h : W.ownsRow base e size v n xs) (hb : Below B W W') (hB : W.heap.size ≤ B) : W'.ownsRow base e size v n xs := by
  refine ⟨h.1, ?_⟩
  rcases h.2 with hn | ⟨g, cap, cur, rfl, hbg, hgg, rest⟩
  · exact .inl hn
  · exact .inr ⟨g, cap, cur, rfl, hbg, heap_below hb (Nat.lt_of_lt_of_le (lt_of_heap hgg) hB) hgg, rest⟩
theorem ownsRow_setRow {W : World} {base e size n g : Nat} {v : Value} {xs : List Value} (h : W.ownsRow base e size v n xs) (hg : g < base) (cs : Array Value) : (W.setRow g cs).ownsRow base e size v n xs := by
  refine ⟨h.1, ?_⟩
  rcases h.2 with hn | ⟨g', cap, cur, rfl, hbg, hgg, rest⟩
  · exact .inl hn
  · exact .inr ⟨g', cap, cur, rfl, hbg, (setRow_other W g g' cs (by omega)).trans hgg, rest⟩
theorem TK.later {b x : Nat → Nat} {l : List Nat} {w : World} {gx : Nat} {v : Value} {W W' : World} (h : TK b x l w gx v W) (hb : Below W.heap.size W W') : TK b x l w gx v W' :=
  ⟨h.1.later hb, ownsRow_later h.2 hb (Nat.le_refl _)⟩
theorem TK.set {b x y : Nat → Nat} {l : List Nat} {w : World} {gx : Nat} {v : Value} {W W' : World} (h : TK b x l w gx v W) (hb : Below W.heap.size (W.setRow gx (blk y)) W') : TK b y l w gx v W' :=
  ⟨h.1.set hb, ownsRow_later (ownsRow_setRow h.2 (by omega) _) hb (by simp)⟩
theorem TK.start {w w1 : World} {b : Nat → Nat} (h : Below (w.alloc (.cells (blk b) 23)).heap.size (w.alloc (.cells (blk b) 23)) w1) : TK b b [] w w1.heap.size (.slice none 0 0) ((w1.alloc (.cells (blk fun _ => 0) 23)).setRow w1.heap.size (blk b)) :=
  ⟨T2.start h, World.ownsRow_nil _ _ _ _⟩
/-- The slice's last number, where there is one. -/
theorem TK.last {b x : Nat → Nat} {l : List Nat} {w : World} {gx : Nat} {v : Value} {W : World} (h : TK b x l w gx v W) : (v = .slice none 0 0 ∧ l = []) ∨
    ∃ g cap, v = .slice (some ⟨g, 0, none⟩) l.length cap ∧ l.length ≤ cap ∧ cap ≤ maxLen ∧ ∀ j y, l[j]? = some y → W.cell? ⟨g, j, none⟩ = some (.int .i64 (y : Nat)) := by
  rcases h.2.2 with ⟨h1, h2⟩ | ⟨g, cap, cur, rfl, h1, h2, h3, h4, h5, h6⟩
  · exact .inl ⟨h1, List.length_eq_zero_iff.1 h2⟩
  · refine .inr ⟨g, cap, rfl, h3, h4, fun j y hy => ?_⟩
    have := h.2.cells (g := g) rfl j (.int .i64 (y : Nat)) (by unfold ints; rw [List.getElem?_map, hy]; rfl)
    rw [show (⟨g, 0, none⟩ : Addr).add j = ⟨g, j, none⟩ by unfold Addr.add; split <;> simp_all] at this
    exact this
theorem TK.shape {b x : Nat → Nat} {l : List Nat} {w : World} {gx : Nat} {v : Value} {W : World} (h : TK b x l w gx v W) : ∃ ao cap, v = .slice ao l.length cap := by
  rcases h.last with ⟨h1, h2⟩ | ⟨g, cap, h1, _⟩
  · exact ⟨none, 0, by rw [h1, h2]; rfl⟩
  · exact ⟨_, cap, h1⟩
theorem TK.cell {b x : Nat → Nat} {l : List Nat} {w : World} {gx : Nat} {ao : Option Addr} {n cap : Nat} {W : World} (h : TK b x l w gx (.slice ao n cap) W) (hl : 0 < l.length) :
    ∃ g, ao = some ⟨g, 0, none⟩ ∧ n ≤ cap ∧ cap ≤ maxLen ∧ ∀ j y, l[j]? = some y → W.cell? ⟨g, j, none⟩ = some (.int .i64 (y : Nat)) := by
  rcases h.last with ⟨_, h2⟩ | ⟨g, cap', h1, h2, h3, h4⟩
  · subst h2; simp at hl
  · cases h1
    exact ⟨g, rfl, h2, h3, h4⟩
theorem TK.grown {b x : Nat → Nat} {l : List Nat} {n : Nat} {w : World} {gx : Nat} {v v' : Value} {W W1 W' : World} (h : TK b x l w gx v W) (hW1 : W1 = W.alloc (.cells #[.int .i64 (n : Nat)] 3))
    (ho : W'.ownsRow (gx + 1) 3 1 v' (l.length + 1) (ints l ++ [.int .i64 (n : Nat)])) (hg : W1.grownBy W' v.ownBlock) : TK b x (l ++ [n]) w gx v' W' := by
  subst hW1
  have hne : ∀ k, v.ownBlock = some k → gx + 1 ≤ k := fun k hk => (h.2.lt k hk).1
  obtain ⟨h1, h2, h3, h4⟩ := h.1
  have keep : ∀ g b, HoldsB W g b → g ≤ gx → HoldsB W' g b := fun g b hB hle => by
    obtain ⟨t, ht⟩ := hB.heap
    refine HoldsB.of ((hg.block g (by simp; have := lt_of_heap ht; omega) ?_).trans (heap_past_alloc ht))
    intro e
    have := hne g e.symm
    omega
  refine ⟨⟨keep _ _ h1 (by omega), keep _ _ h2 (Nat.le_refl _), ?_, h4⟩, ?_⟩
  · exact (h3.alloc h3.size _).grown hg (by simp; have := h3.size; omega) (fun k hk => by have := hne k hk; omega)
  · rw [List.length_append]
    unfold ints at ho ⊢
    rw [List.map_append]
    exact ho
def TRel (b : Nat → Nat) (lo hi : Int) (w : World) (gx : Nat) (v j : Value) (W : World) : Prop :=
  ∃ k x, k ≤ 2048 ∧ With b (clears b lo hi k) x ∧ j = .int .i64 (clears b lo hi k).length ∧ TK b x (clears b lo hi k) w gx v W
def mx (x y : Int) : Int := max x y
def mn (x y : Int) : Int := min x y
theorem run_mx (ts : Array TypeId) (t : TypeId) (k k' : IntKind) (x y : Int) (w : World) : (Builtin.max_ ts t #[.int k x, .int k' y]).run Try.prog w = .ok (.int k (mx x y)) w := by
  simp [Builtin.max_, Builtin.max2, mx]
  omega
theorem run_mn (ts : Array TypeId) (t : TypeId) (k k' : IntKind) (x y : Int) (w : World) : (Builtin.min_ ts t #[.int k x, .int k' y]).run Try.prog w = .ok (.int k (mn x y)) w := by
  simp [Builtin.min_, Builtin.min2, mn]
  omega
theorem clamp (x : Int) : ∃ L : Nat, mn (mx x 0) 2048 = L ∧ (L : Int) = min (max x 0) 2048 ∧ L ≤ 2048 := by
  obtain ⟨n, hn⟩ := Int.eq_ofNat_of_zero_le (show 0 ≤ min (max x 0) 2048 by omega)
  exact ⟨n, hn, hn.symm, by omega⟩
theorem count_kk (b : Nat → Nat) (hb : ∀ i, b i < 256) (k : Nat) (hk : k ≤ 2048) (w : World) : Calls Try.prog 21 #[.agg (blk b), .int .i64 (k : Nat)] w fun e w' => e = .returned (.int .i64 (slen b k : Nat)) ∧ Below w.heap.size w w' :=
  count_k b hb k k ⟨rfl, hk⟩ w
theorem w64_in (n : Int) (h : -9223372036854775808 ≤ n ∧ n ≤ 9223372036854775807) : wrap64 n = n := by unfold wrap64; omega
theorem turn_idx (st : Int) (m n : Nat) (hm : m < n) (hn : n ≤ 2048) : (wrap64 ((m : Int) + wrap64 ((IntKind.u64.wrap st).tmod n))).tmod n = (((m + (st % 18446744073709551616 % n).toNat) % n : Nat) : Int) := by
  have e : IntKind.u64.wrap st = st % 18446744073709551616 := rfl
  have e2 : (IntKind.u64.wrap st).tmod n = st % 18446744073709551616 % n := by rw [e, Int.tmod_eq_emod_of_nonneg (Int.emod_nonneg _ (by omega))]
  rw [e2]
  have h1 : 0 ≤ st % 18446744073709551616 % (n : Int) := Int.emod_nonneg _ (by omega)
  have h2 : st % 18446744073709551616 % (n : Int) < n := Int.emod_lt_of_pos _ (by omega)
  obtain ⟨s, hs⟩ := Int.eq_ofNat_of_zero_le h1
  rw [hs] at h2 ⊢
  rw [w64_in (s : Int) (by omega), w64_in _ (by omega), Int.tmod_eq_emod_of_nonneg (by omega)]
  simp
theorem TK.cellAt {b x : Nat → Nat} {l : List Nat} {w : World} {gx g : Nat} {n cap : Nat} {W : World} (h : TK b x l w gx (.slice (some ⟨g, 0, none⟩) n cap) W) {j y : Nat} (hy : l[j]? = some y) : W.cell? ⟨g, j, none⟩ = some (.int .i64 (y : Nat)) := by
  obtain ⟨g', e, _, _, hc⟩ := h.cell (by have := (List.getElem?_eq_some_iff.1 hy).1; omega)
  cases e
  exact hc _ _ hy
def BRel (b : Nat → Nat) (l : List Nat) (s : Nat) (w : World) (gx : Nat) (v j : Value) (W : World) : Prop :=
  ∃ k x, k ≤ l.length ∧ Back b l s k x ∧ j = .int .i64 (k : Nat) ∧ TK b x l w gx v W
attribute [local go_sem high] run_mx run_mn
set_option maxRecDepth 100000 in
set_option maxHeartbeats 2000000 in
theorem taken_walk (b : Nat → Nat) (hb : ∀ i, b i < 256) (lo hi st : Int) (w : World) :
    Calls Try.prog 9 #[.agg (blk b), .int .i64 lo, .int .i64 hi, .int .i64 st] w fun e w' => e = .returned (.bool true) ∧ Below w.heap.size w w' := by
  have hbH := Lib.hid hb
  clear hb
  have hz := run_zero23
  have eq1 := eql23
  have hn := noEq23
  obtain ⟨i0, hi0, hz0, hz1, hz2⟩ := info_parts info3
  go_enter Try.func9, Try.ntmps9
  go_wp2_with (go_at_call 22; refine (awake_any _).mono ?_; rintro e w1 ⟨rfl, hw1⟩; have T := Lib.hid (TK.start hw1); obtain ⟨s1, s2, s3⟩ := start_facts hw1; clear hw1)
  go_loopw [10, 11] (fun v j W => TRel b lo hi w w1.heap.size v j W) (fun _ j _ => (2049 - intOf j).toNat)
  case atStart => exact ⟨0, b, by omega, With.nil hbH.out, rfl, T.out⟩
  case round =>
    obtain ⟨k, x, hk, hx, rfl, hT⟩ := hrel
    have hxH := Lib.hid hx
    have hlen := clears_len b lo hi k
    have a1 := hT.1.1.arr
    have a2 := hT.1.1.row
    have a3 := hT.1.2.1.arr
    have a4 := hT.1.2.1.row
    have d1 : decide (((clears b lo hi k).length : Int) ≤ 2048) = true := by simp; omega
    have TH := Lib.hid hT
    clear hx hT s1 s2 s3
    go_wp2_with fail
    refine (first_any x hxH.out.1 _ _ _).mono ?_
    rintro e w2 ⟨r, rfl, hr, hw2⟩
    replace TH := Lib.hid (TH.out.later hw2)
    clear hw2 a1 a2 a3 a4
    by_cases hneg : r < 0
    · have hend := taken_end hk hxH.out hr hneg
      have hx2 : Hid (With b (clears b lo hi 2048) x) := by rw [hend]; exact hxH.out
      have TE : Hid (TK b x (clears b lo hi 2048) w w1.heap.size u10 w2) := by rw [hend]; exact TH.out
      have hxb := Lib.hid hxH.out.1
      clear TH hxH hend hr hlen d1 T
      have a1 := TE.out.1.1.arr
      have a2 := TE.out.1.1.row
      have a3 := TE.out.1.2.1.arr
      have a4 := TE.out.1.2.1.row
      obtain ⟨L, hL, hL1, hL2⟩ := clamp lo
      obtain ⟨H, hH, hH1, hH2⟩ := clamp hi
      have hL1H := Lib.hid hL1
      have hH1H := Lib.hid hH1
      have b1 := slen_le x L
      have b2 := slen_le x H
      have b3 := slen_le b L
      have b4 := slen_le b H
      have b5 := clears_len b lo hi 2048
      clear hL1 hH1
      obtain ⟨ao, cap, rfl⟩ := TE.out.shape
      have hall : (L < H ∧ decide ((L : Int) < (H : Int)) = true ∧ (((slen x H : Nat) : Int) - (slen x L : Nat) != (H : Int) - L) = false ∧ (((clears b lo hi 2048).length : Int) != (H : Int) - L - (slen b H : Nat) + (slen b L : Nat)) = false) ∨ (¬ L < H ∧ decide ((L : Int) < (H : Int)) = false ∧ True ∧ True) := by
        by_cases hlt : L < H
        · have c := taken_counts hL1H.out hH1H.out hlt hx2.out
          exact .inl ⟨hlt, by simp; omega, by simp; omega, by simp; omega⟩
        · exact .inr ⟨hlt, by simp; omega, trivial, trivial⟩
      rcases hall with ⟨hlt, d1, d2, d3⟩ | ⟨hlt, d1, d2, d3⟩
      all_goals
        go_wp2_with fail
        have p1 : ∀ p : Later w2, isFree p.x w.heap.size = true := fun p => (TE.out.later p.h).1.1.arr
        have p2 : ∀ p : Later w2, rowOf p.x w.heap.size = blk b := fun p => (TE.out.later p.h).1.1.row
        have p3 : ∀ p : Later w2, isFree p.x w1.heap.size = true := fun p => (TE.out.later p.h).1.2.1.arr
        have p4 : ∀ p : Later w2, rowOf p.x w1.heap.size = blk x := fun p => (TE.out.later p.h).1.2.1.row
        refine wp_region_later (by kernel_rfl) (by kernel_rfl) ?_
        repeat (first
          | go_big_quiet_step (first | (go_at_call 21; with_reducible exact Calls.later (count_kk b hbH.out L hL2 _)) | (go_at_call 21; with_reducible exact Calls.later (count_kk b hbH.out H hH2 _)) | (go_at_call 21; with_reducible exact Calls.later (count_kk x hxb.out L hL2 _)) | (go_at_call 21; with_reducible exact Calls.later (count_kk x hxb.out H hH2 _)))
          | quiet_step (first | (go_at_call 21; with_reducible exact Calls.later (count_kk b hbH.out L hL2 _)) | (go_at_call 21; with_reducible exact Calls.later (count_kk b hbH.out H hH2 _)) | (go_at_call 21; with_reducible exact Calls.later (count_kk x hxb.out L hL2 _)) | (go_at_call 21; with_reducible exact Calls.later (count_kk x hxb.out H hH2 _))))
        refine wpQuiet_nil ?_
        rintro ⟨w3, hw3⟩
        dsimp only
        replace TE := Lib.hid (TE.out.later hw3)
        clear p1 p2 p3 p4 a1 a2 a3 a4 hw3
        go_wp2_with fail
        go_loopw [15] (fun j W => BRel b (clears b lo hi 2048) (st % 18446744073709551616 % (clears b lo hi 2048).length).toNat w w1.heap.size (.slice ao (clears b lo hi 2048).length cap) j W) (fun j _ => ((clears b lo hi 2048).length - intOf j).toNat)
        case atStart => exact ⟨0, x, by omega, Back.start hx2.out, rfl, TE.out⟩
        case round =>
          obtain ⟨m, y, hm, hy, rfl, hT⟩ := hrel
          by_cases hlt2 : m < (clears b lo hi 2048).length
          · obtain ⟨g, rfl, hc1, hc2, hcell⟩ := hT.cell (by omega)
            have hcH := Lib.hid hcell
            have hTH := Lib.hid hT
            have hyH := Lib.hid hy
            have hidx := turn_idx st m _ hlt2 b5
            have hin := Nat.mod_lt (m + (st % 18446744073709551616 % ((clears b lo hi 2048).length : Int)).toNat) (show 0 < (clears b lo hi 2048).length by omega)
            obtain ⟨z, hz1⟩ : ∃ z, (clears b lo hi 2048)[(m + (st % 18446744073709551616 % ((clears b lo hi 2048).length : Int)).toNat) % (clears b lo hi 2048).length]? = some z := ⟨_, List.getElem?_eq_getElem hin⟩
            have hcz := hcell _ _ hz1
            obtain ⟨z1, z2, z3⟩ := hyH.out.next (clears_nodup b lo hi 2048) (fun i hi' => ⟨(mem_clears.1 hi').1, (mem_clears.1 hi').2.2.2⟩) hlt2 hz1
            have z3H := Lib.hid z3
            have hyb := Lib.hid hyH.out.1
            have hzb := Lib.hid z3.1
            have hasy : hasB y z = true := by rw [hasB_nat _ _ z1]; exact z2
            have hasf : hasB (flip y z) z = false := by rw [hasB_flip_same _ _ z1, hasy]; rfl
            have e1 : Hid (turned y z false = flip y z) := (turned_true y z true ⟨by omega, by omega, hasy⟩).1
            have e2 : Hid (doesTurn y z false = true) := (turned_true y z true ⟨by omega, by omega, hasy⟩).2
            have e3 : Hid (turned (flip y z) z false = flip y z) := (turned_false (flip y z) z true (by rw [hasf]; simp)).1
            have e4 : Hid (doesTurn (flip y z) z false = false) := (turned_false (flip y z) z true (by rw [hasf]; simp)).2
            generalize (m + (st % 18446744073709551616 % ((clears b lo hi 2048).length : Int)).toNat) % (clears b lo hi 2048).length = ix at hidx hin hcz
            have a3 := hTH.out.1.2.1.arr
            have a4 := hTH.out.1.2.1.row
            have tok : True := trivial
            have hb5 : ¬ (clears b lo hi 2048).length = 0 := by omega
            clear hcell hT hy z2 z3 hz1
            go_wp2_with (first
              | (go_at_call 17; refine (has_b y hyb.out _ _).mono ?_; rintro e w4 ⟨rfl, hw4⟩; replace hTH := Lib.hid (hTH.out.later hw4); clear hw4 a3 a4)
              | (go_at_call 15; clear tok; refine (clear_v y hyb.out _ _ _ hTH.out.1.2.1 _ _ e1.out e2.out).mono ?_; rintro e w4 ⟨rfl, hw4⟩; replace hTH := Lib.hid (hTH.out.set hw4); clear hw4)
              | (go_at_call 15; refine (clear_v (flip y z) hzb.out _ _ _ hTH.out.1.2.1 _ _ e3.out e4.out).mono ?_; rintro e w4 ⟨rfl, hw4⟩; replace hTH := Lib.hid (hTH.out.set hw4); clear hw4))
            exact ⟨⟨m + 1, _, by omega, z3H.out, rfl, hTH.out⟩, by simp [intOf]; omega⟩
          · obtain rfl : m = (clears b lo hi 2048).length := by omega
            have ee := Back.done hbH.out hy
            have a1 := hT.1.1.arr
            have a2 := hT.1.1.row
            have a3 := hT.1.2.1.arr
            have a4 := hT.1.2.1.row
            go_wp2_with fail
            go_ret
            exact ⟨rfl, hT.1.2.2.1⟩
    · obtain ⟨n, rfl, h1, h2, h3, h4, h5, h6, h7, h8⟩ := taken_next hxH.out hr (by omega)
      have h7H := Lib.hid h7
      have h8H := Lib.hid h8
      have hasb : hasB b n = false := by rw [hasB_nat _ _ h2]; exact h3
      have hasx : hasB x n = false := by rw [hasB_nat _ _ h2]; exact h4
      have hs1 : Hid (turned x n true = flip x n) := (turned_true x n false ⟨by omega, by omega, hasx⟩).1
      have hs2 : Hid (doesTurn x n true = true) := (turned_true x n false ⟨by omega, by omega, hasx⟩).2
      have d2 : decide ((n : Int) < lo) = false := by simp; omega
      have d3 : decide (hi ≤ (n : Int)) = false := by simp; omega
      have hxb := Lib.hid hxH.out.1
      clear hr h7 h8 h3 h4 hxH
      have a1 := TH.out.1.1.arr
      have a2 := TH.out.1.1.row
      obtain ⟨ao, cap, rfl⟩ := TH.out.shape
      have hfit : ((clears b lo hi k).length + 1) * 8 ≤ 140737488355328 := by omega
      rcases Nat.eq_zero_or_pos (clears b lo hi k).length with d4' | hpos
      · have d4 := Lib.hid d4'
        have d6 : decide (0 < (clears b lo hi k).length) = false := by simp [d4']
        have d7 : decide ((0 : Int) < (clears b lo hi k).length) = false := by simp [d4']
        clear d4'
        have hlen1 : (clears b lo hi k).length + 1 = (clears b lo hi (n + 1)).length := by rw [h7H.out, List.length_append]; rfl
        go_wp2_with (first
          | (at_builtin; refine wpList_append_own_at _ rfl _ _ 39 rfl (w1.heap.size + 1) 3 i0 (.int .i64 0) 1 8 Try.underlying39 hi0 hz0 hz1 hz2 rfl (by decide) _ _ _ rfl (TH.out.2.alloc _) ⟨_, 0, none⟩ 1 1 [.int .i64 (n : Nat)] rfl rfl (cell_one_new _ _ _) (fun x hx => by simp at hx; subst hx; rfl) (by unfold maxLen; omega) (by omega) (by simp; have := TH.out.1.2.1.lt; omega) ?_; intro v' w5 hown hgrow _ _; replace TH := Lib.hid (TH.out.grown rfl hown hgrow); clear hown hgrow)
          | (go_at_call 17; refine (has_b b hbH.out _ _).mono ?_; rintro e w3 ⟨rfl, hw3⟩; replace TH := Lib.hid (TH.out.later hw3); clear hw3 a1 a2)
          | (go_at_call 14; refine (set_v x hxb.out _ _ _ TH.out.1.2.1 _ _ hs1.out hs2.out).mono ?_; rintro e w4 ⟨rfl, hw4⟩; replace TH := Lib.hid (TH.out.set hw4); clear hw4))
        refine ⟨⟨n + 1, _, by omega, h8H.out, ?_, ?_⟩, ?_⟩
        · rw [← hlen1]; rfl
        · rw [h7H.out]; exact TH.out
        · simp [intOf]; omega
      · obtain ⟨g, rfl, hc1, hc2, hcell⟩ := TH.out.cell hpos
        obtain ⟨z, hz1'⟩ : ∃ z, (clears b lo hi k)[(clears b lo hi k).length - 1]? = some z := ⟨_, List.getElem?_eq_getElem (by omega)⟩
        have hzH := Lib.hid hz1'
        have hzk := (mem_clears.1 (List.mem_of_getElem? hz1')).1
        have d5 : decide ((n : Int) ≤ (z : Int)) = false := by simp; omega
        have hlen1 : (clears b lo hi k).length + 1 = (clears b lo hi (n + 1)).length := by rw [h7H.out, List.length_append]; rfl
        have d6 : decide (0 < (clears b lo hi k).length) = true := by simp; omega
        have d7 : decide ((0 : Int) < (clears b lo hi k).length) = true := by simp; omega
        clear hcell hz1'
        go_wp2_with (first
          | (at_builtin; refine wpList_append_own_at _ rfl _ _ 39 rfl (w1.heap.size + 1) 3 i0 (.int .i64 0) 1 8 Try.underlying39 hi0 hz0 hz1 hz2 rfl (by decide) _ _ _ rfl (TH.out.2.alloc _) ⟨_, 0, none⟩ 1 1 [.int .i64 (n : Nat)] rfl rfl (cell_one_new _ _ _) (fun x hx => by simp at hx; subst hx; rfl) (by unfold maxLen; omega) (by omega) (by simp; have := TH.out.1.2.1.lt; omega) ?_; intro v' w5 hown hgrow _ _; replace TH := Lib.hid (TH.out.grown rfl hown hgrow); clear hown hgrow)
          | (go_at_call 17; refine (has_b b hbH.out _ _).mono ?_; rintro e w3 ⟨rfl, hw3⟩; replace TH := Lib.hid (TH.out.later hw3); have hcc := TH.out.cellAt hzH.out; clear hw3 a1 a2)
          | (go_at_call 14; refine (set_v x hxb.out _ _ _ TH.out.1.2.1 _ _ hs1.out hs2.out).mono ?_; rintro e w4 ⟨rfl, hw4⟩; replace TH := Lib.hid (TH.out.set hw4); clear hw4 hcc))
        refine ⟨⟨n + 1, _, by omega, h8H.out, ?_, ?_⟩, ?_⟩
        · rw [← hlen1]; rfl
        · rw [h7H.out]; exact TH.out
        · simp [intOf]; omega
end Go.Proofs.Ytcheogbijioadaa
