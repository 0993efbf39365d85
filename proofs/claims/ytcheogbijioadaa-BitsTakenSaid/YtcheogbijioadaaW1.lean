/- What bits.Has does at any block and any number. No condition but that each byte is below 256. -/
import Derived.Test.YtcheogbijioadaaRows
import Derived.Test.YtcheogbijioadaaUtil
namespace Go.Proofs.Ytcheogbijioadaa
open Go.RowKit

/-- The bit i of a block. -/
def bv (b : Nat → Nat) (i : Nat) : Bool := (b (i / 8)).testBit (i % 8)
def hasB (b : Nat → Nat) (i : Int) : Bool := decide (0 ≤ i ∧ i < 2048) && bv b i.toNat

theorem ret_bool {a b : Bool} (h : a = b) : Ending.returned (.bool a) = Ending.returned (.bool b) := by rw [h]

theorem wrap_u8 (n : Nat) (h : n < 256) : IntKind.u8.wrap ((n : Nat) : Int) = (n : Int) := by
  have e : IntKind.u8.wrap ((n : Nat) : Int) = ((n : Nat) : Int) % 256 := rfl
  rw [e]; omega
theorem bits_u8_and (x y : Nat) (hx : x < 256) (hy : y < 256) : bits BinOp.and IntKind.u8 (x : Int) (y : Int) = ((x &&& y : Nat) : Int) := by
  have h : x &&& y < 256 := Nat.lt_of_le_of_lt Nat.and_le_left hx
  have e : bits BinOp.and IntKind.u8 (x : Int) (y : Int) = IntKind.u8.wrap (((BitVec.ofInt 8 (x : Int) &&& BitVec.ofInt 8 (y : Int)).toNat : Nat) : Int) := rfl
  rw [e, BitVec.toNat_and, BitVec.ofInt_natCast, BitVec.ofInt_natCast, BitVec.toNat_ofNat, BitVec.toNat_ofNat, Nat.mod_eq_of_lt (show x < 2 ^ 8 from hx), Nat.mod_eq_of_lt (show y < 2 ^ 8 from hy)]
  exact wrap_u8 _ h
theorem bits_u8_xor (x y : Nat) (hx : x < 256) (hy : y < 256) : bits BinOp.xor IntKind.u8 (x : Int) (y : Int) = ((x ^^^ y : Nat) : Int) := by
  have h : x ^^^ y < 2 ^ 8 := Nat.xor_lt_two_pow hx hy
  have e : bits BinOp.xor IntKind.u8 (x : Int) (y : Int) = IntKind.u8.wrap (((BitVec.ofInt 8 (x : Int) ^^^ BitVec.ofInt 8 (y : Int)).toNat : Nat) : Int) := rfl
  rw [e, BitVec.toNat_xor, BitVec.ofInt_natCast, BitVec.ofInt_natCast, BitVec.toNat_ofNat, BitVec.toNat_ofNat, Nat.mod_eq_of_lt (show x < 2 ^ 8 from hx), Nat.mod_eq_of_lt (show y < 2 ^ 8 from hy)]
  exact wrap_u8 _ h
theorem and_one_lem (x k : Nat) (hx : x < 256) : (bits BinOp.and IntKind.u8 ((x : Int) / 2 ^ k) 1 == 1) = x.testBit k := by
  have e : ((x : Int) / 2 ^ k) = ((x / 2 ^ k : Nat) : Int) := by push_cast; rfl
  have h : x / 2 ^ k < 256 := Nat.lt_of_le_of_lt (Nat.div_le_self _ _) hx
  have := bits_u8_and (x / 2 ^ k) 1 h (by omega)
  rw [e]
  simp only [Int.natCast_one] at this
  rw [this, Nat.testBit_eq_decide_div_mod_eq, Nat.and_one_is_mod]
  rw [Bool.eq_iff_iff]
  simp
  omega

set_option maxHeartbeats 400000 in
theorem has_out (cs : Array Value) (i : Int) (w : World) (hi : i < 0 ∨ 2048 ≤ i) :
    Calls Try.prog 17 #[.agg cs, .int .i64 i] w fun e w' => e = .returned (.bool false) ∧ w' = w.alloc (.cells cs 23) := by
  rcases hi with hi | hi
  · go_enter Try.func17, Try.ntmps17
    go_wp2
    go_ret
    exact ⟨rfl, rfl⟩
  · go_enter Try.func17, Try.ntmps17
    go_wp2
    go_ret
    exact ⟨rfl, rfl⟩
set_option maxHeartbeats 400000 in
theorem has_in (cs : Array Value) (i : Int) (x : Int) (w : World) (h0 : 0 ≤ i) (h1 : i < 2048) (_hs : cs.size = 256) (hx : cs[(i/8).toNat]? = some (.int .u8 x)) (_hx0 : 0 ≤ x) (_hx1 : x < 256) :
    Calls Try.prog 17 #[.agg cs, .int .i64 i] w fun e w' => e = .returned (.bool (bits BinOp.and IntKind.u8 (x / 2 ^ (i % 8).toNat) 1 == 1)) ∧ w' = w.alloc (.cells cs 23) := by
  go_enter Try.func17, Try.ntmps17
  go_wp2
  go_ret
  exact ⟨rfl, rfl⟩
theorem has_any (b : Nat → Nat) (hb : ∀ i, b i < 256) (i : Int) (w : World) :
    Calls Try.prog 17 #[.agg (blk b), .int .i64 i] w fun e w' => e = .returned (.bool (hasB b i)) ∧ w' = w.alloc (.cells (blk b) 23) := by
  by_cases hi : i < 0 ∨ 2048 ≤ i
  · refine (has_out (blk b) i w hi).mono ?_
    rintro e w' ⟨rfl, rfl⟩
    exact ⟨ret_bool (by unfold hasB; simp; omega), rfl⟩
  · obtain ⟨n, rfl⟩ := Int.eq_ofNat_of_zero_le (show 0 ≤ i by omega)
    have e1 : ((n : Int) / 8).toNat = n / 8 := by omega
    have e2 : ((n : Int) % 8).toNat = n % 8 := by omega
    refine (has_in (blk b) n ((b (n / 8) : Nat) : Int) w (by omega) (by omega) (blk_size b) (by rw [e1, blk_get _ _ (by omega)]) (by omega) (by have := hb (n / 8); omega)).mono ?_
    rintro e w' ⟨rfl, rfl⟩
    refine ⟨ret_bool ?_, rfl⟩
    rw [e2, and_one_lem _ _ (hb _)]
    simp [hasB, bv]
    omega

end Go.Proofs.Ytcheogbijioadaa
