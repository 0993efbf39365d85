/- Caches over no disk, and caches that nobody made, walked. -/
import Derived.Test.YtbcjcfjbdjdajaaC16
namespace Go.Proofs.Ytbcjcfjbdjdajaa
open Go.RowKit
attribute [local go_sem ↓] loadAtB storeAtB loadAtH storeAtH buildAtB
def NoC (W : World) (v : Value) : Prop := v = .pointer none ∨ ∃ g, v = .pointer (some ⟨g, 0, none⟩) ∧ W.cell? ⟨g, 0, none⟩ = some (.pointer none) ∧ g < W.heap.size
theorem NoC.later {W W' : World} {v : Value} (h : NoC W v) (hb : Below W.heap.size W W') : NoC W' v := by
  rcases h with h | ⟨g, h1, h2, h3⟩
  · exact .inl h
  · exact .inr ⟨g, h1, (World.cell?_of_block (hb.block _ h3)).trans h2, Nat.lt_of_lt_of_le h3 hb.size⟩
theorem none_no (v : Value) (W : World) (h : NoC W v) : Calls Try.prog 36 #[v] W (SamePost (.bool true) W) := by
  rcases h with rfl | ⟨g, rfl, c0, hg⟩
  · go_enter Try.func36, Try.ntmps36
    go_wp2_with fail
    go_ret
    exact ⟨rfl, rfl⟩
  · go_enter Try.func36, Try.ntmps36
    go_wp2_with fail
    go_ret
    exact ⟨rfl, rfl⟩
theorem refuse_no (v : Value) (b : Int) (W : World) (h : NoC W v) : Calls Try.prog 38 #[v, .int .i64 b] W (SamePost (.int .i64 1) W) := by
  have hn := Lib.hid (none_no v W h)
  clear h
  go_enter Try.func38, Try.ntmps38
  go_wp2_with (go_at_call 36; refine hn.out.mono ?_; rintro e w1 ⟨rfl, rfl⟩)
  go_ret
  exact ⟨rfl, rfl⟩
theorem read_no (v : Value) (b : Int) (W : World) (h : NoC W v) : Calls Try.prog 18 #[v, .int .i64 b] W (BPost (.tuple #[.agg (blk zB), .int .i64 1]) W) := by
  have hbb : Hid (Below W.heap.size W (W.alloc (.cells (blk zB) 32))) := (Below.refl _ _).alloc (Nat.le_refl _) _
  have hr := Lib.hid (refuse_no v b _ (h.later hbb.out))
  have hz : Try.zeroCells32 = blk zB := zcB
  have hwh := Lib.hid (Whole.new W (blk zB) 32)
  have hst := stRow zB hwh.out
  have hbd : ∀ w, (bigBuild 32 #[]).run Try.prog w = .ok (.agg (blk zB)) w := run_buildB0
  clear h
  go_enter Try.func18, Try.ntmps18
  go_wp2_with (go_at_call 38; refine hr.out.mono ?_; rintro e w1 ⟨rfl, rfl⟩)
  (try simp only [Exit.inBlock, Exit.then])
  refine bodyPost_ret (results_cellB rfl rfl (hwh.out.setRow (blk zB))) rfl ⟨rfl, below_setRow' hbb.out (Nat.le_refl _) _⟩
theorem pin_no (v : Value) (b : Int) (on : Bool) (W : World) (h : NoC W v) : Calls Try.prog 19 #[v, .int .i64 b, .bool on] W (SamePost (.tuple #[]) W) := by
  have hr := Lib.hid (refuse_no v b _ h)
  clear h
  go_enter Try.func19, Try.ntmps19
  go_wp2_with (go_at_call 38; refine hr.out.mono ?_; rintro e w1 ⟨rfl, rfl⟩)
  exact bodyPost_end (results_none rfl _ _ _) rfl ⟨rfl, rfl⟩
theorem some_no (v f : Value) (W : World) (h : NoC W v) : Calls Try.prog 32 #[v, f] W (SamePost (.slice none 0 0) W) := by
  have hn := Lib.hid (none_no v W h)
  clear h
  go_enter Try.func32, Try.ntmps32
  go_wp2_with (go_at_call 36; refine hn.out.mono ?_; rintro e w1 ⟨rfl, rfl⟩)
  go_ret
  exact ⟨rfl, rfl⟩
theorem dirty_no (v : Value) (W : World) (h : NoC W v) : Calls Try.prog 10 #[v] W (SamePost (.slice none 0 0) W) := by
  have hs := Lib.hid (fun f => some_no v f W h)
  clear h
  go_enter Try.func10, Try.ntmps10
  go_wp2_with (go_at_call 32; refine (hs.out _).mono ?_; rintro e w1 ⟨rfl, rfl⟩)
  go_ret
  exact ⟨rfl, rfl⟩
theorem clean_no (v : Value) (W : World) (h : NoC W v) : Calls Try.prog 11 #[v] W (BPost (.slice none 0 0) W) := by
  have hbb : Hid (Below W.heap.size W (W.alloc (.cells #[v] 23))) := (Below.refl _ _).alloc (Nat.le_refl _) _
  have hs := Lib.hid (fun f => some_no v f _ (h.later hbb.out))
  rcases h with rfl | ⟨g, rfl, c0, hg⟩
  · go_enter Try.func11, Try.ntmps11
    go_wp2_with (go_at_call 32; refine (hs.out _).mono ?_; rintro e w1 ⟨rfl, rfl⟩)
    go_ret
    exact ⟨rfl, hbb.out⟩
  · clear c0 hg
    go_enter Try.func11, Try.ntmps11
    go_wp2_with (go_at_call 32; refine (hs.out _).mono ?_; rintro e w1 ⟨rfl, rfl⟩)
    go_ret
    exact ⟨rfl, hbb.out⟩
theorem wb_no (v : Value) (n : Int) (W : World) (h : NoC W v) : Calls Try.prog 15 #[v, .int .i64 n] W (SamePost (.tuple #[.int .i64 0, .bool false, .int .i64 1]) W) := by
  have hn := Lib.hid (none_no v W h)
  clear h
  go_enter Try.func15, Try.ntmps15
  go_wp2_with (go_at_call 36; refine hn.out.mono ?_; rintro e w1 ⟨rfl, rfl⟩)
  go_ret3
  exact ⟨rfl, rfl⟩
theorem ev_no (v : Value) (n : Int) (W : World) (h : NoC W v) : Calls Try.prog 22 #[v, .int .i64 n] W (BPost (.tuple #[.int .i64 0, .bool false]) W) := by
  have hc := Lib.hid (clean_no v W h)
  have hp : Hid (∀ w, Calls Try.prog 37 #[.slice none 0 0, .int .i64 n] w (SamePost (.tuple #[.int .i64 0, .bool false]) w)) := fun w => pick_any [] n _ w (Sl.nil w)
  clear h
  go_enter Try.func22, Try.ntmps22
  go_wp2_with (first
    | (go_at_call 11; refine hc.out.mono ?_; rintro e w1 ⟨rfl, hb⟩; have B1 := Lib.hid hb; clear hb)
    | (go_at_call 37; refine (hp.out _).mono ?_; rintro e w2 ⟨rfl, e2⟩; have e2H := Lib.hid e2; subst e2))
  go_ret2
  exact ⟨rfl, B1.out⟩
theorem disk_no (v : Value) (W : World) (h : NoC W v) : Calls Try.prog 23 #[v] W (SamePost (.pointer none) W) := by
  have hn := Lib.hid (none_no v W h)
  clear h
  go_enter Try.func23, Try.ntmps23
  go_wp2_with (go_at_call 36; refine hn.out.mono ?_; rintro e w1 ⟨rfl, rfl⟩)
  go_ret
  exact ⟨rfl, rfl⟩
theorem write_no (v : Value) (b : Int) (x : Blk) (W : World) (h : NoC W v) : Calls Try.prog 24 #[v, .int .i64 b, .agg (blk x)] W (BPost (.int .i64 1) W) := by
  have hbb : Hid (Below W.heap.size W (W.alloc (.cells (blk x) 32))) := (Below.refl _ _).alloc (Nat.le_refl _) _
  have hr := Lib.hid (refuse_no v b _ (h.later hbb.out))
  clear h
  go_enter Try.func24, Try.ntmps24
  go_wp2_with (go_at_call 38; refine hr.out.mono ?_; rintro e w1 ⟨rfl, rfl⟩)
  go_ret
  exact ⟨rfl, hbb.out⟩
theorem back_no (v : Value) (b : Int) (W : World) (h : NoC W v) : Calls Try.prog 25 #[v, .int .i64 b] W (SamePost (.int .i64 1) W) := by
  have hr := Lib.hid (refuse_no v b _ h)
  clear h
  go_enter Try.func25, Try.ntmps25
  go_wp2_with (go_at_call 38; refine hr.out.mono ?_; rintro e w1 ⟨rfl, rfl⟩)
  go_ret
  exact ⟨rfl, rfl⟩
theorem drop_no (v : Value) (b : Int) (W : World) (h : NoC W v) : Calls Try.prog 20 #[v, .int .i64 b] W (SamePost (.int .i64 1) W) := by
  have hr := Lib.hid (refuse_no v b _ h)
  clear h
  go_enter Try.func20, Try.ntmps20
  go_wp2_with (go_at_call 38; refine hr.out.mono ?_; rintro e w1 ⟨rfl, rfl⟩)
  go_ret
  exact ⟨rfl, rfl⟩
theorem sync_no (v : Value) (W : World) (h : NoC W v) : Calls Try.prog 26 #[v] W (SamePost (.int .i64 1) W) := by
  have hn := Lib.hid (none_no v W h)
  clear h
  go_enter Try.func26, Try.ntmps26
  go_wp2_with (go_at_call 36; refine hn.out.mono ?_; rintro e w1 ⟨rfl, rfl⟩)
  go_ret
  exact ⟨rfl, rfl⟩
theorem newc_nil (W : World) : Calls Try.prog 21 #[.pointer none] W (SamePost (.tuple #[.pointer none, .int .i64 1]) W) := by
  have hb := Lib.hid (blocks_nil W)
  go_enter Try.func21, Try.ntmps21
  go_wp2_with (go_at_call 39; refine hb.out.mono ?_; rintro e w1 ⟨rfl, rfl⟩)
  go_ret2
  exact ⟨rfl, rfl⟩
theorem newc_zero {W : World} {r n c : Nat} (c0 : W.cell? ⟨r, 0, none⟩ = some (.slice none n c)) : Calls Try.prog 21 #[.pointer (some ⟨r, 0, none⟩)] W (SamePost (.tuple #[.pointer none, .int .i64 1]) W) := by
  have hb := Lib.hid (blocks_zero c0)
  clear c0
  go_enter Try.func21, Try.ntmps21
  go_wp2_with (go_at_call 39; refine hb.out.mono ?_; rintro e w1 ⟨rfl, rfl⟩)
  go_ret2
  exact ⟨rfl, rfl⟩
end Go.Proofs.Ytbcjcfjbdjdajaa
