/-
  The byte functions of the code and of the reference, walked: product, inverse, box, roll: each returns the plain function of Pure at its arguments, and leaves the world as it is.
-/
import Derived.Test.YtfkpilfnhgjmfaaProg
import Derived.Test.YtfkpilfnhgjmfaaPure
import Derived.WalkKit
import Derived.WalkSpells
import Derived.WalkLawsBesides
import Derived.Lib.Hide
import Derived.Outline
namespace Go.Proofs.Ytfkpilfnhgjmfaa
open Go.RowKit
theorem ret_int {k : IntKind} {a b : Int} (h : a = b) : Ending.returned (.int k a) = .returned (.int k b) := by rw [h]
/-- the product of two bytes, of numbers as a walk has them -/
def mul8 (a b : Int) : Int := ((mulN a.toNat b.toNat : Nat) : Int)
theorem mul8_nat (a b : Nat) : mul8 (a : Int) (b : Int) = ((mulN a b : Nat) : Int) := rfl
theorem mul8_bd (a b : Int) (h0 : 0 ≤ a) (h1 : a < 256) : 0 ≤ mul8 a b ∧ mul8 a b < 256 := by
  have := mulN_lt a.toNat b.toNat (by omega)
  unfold mul8; omega
theorem xor8_nat (a b : Nat) (ha : a < 256) (hb : b < 256) : bits .xor .u8 (a : Int) (b : Int) = ((a ^^^ b : Nat) : Int) := u8_xor_nat a b ha hb
theorem and1_nat (a : Nat) (ha : a < 256) : bits .and .u8 (a : Int) 1 = ((a % 2 : Nat) : Int) := by
  have := u8_and_nat a 1 ha (by omega)
  rw [show ((1 : Nat) : Int) = 1 from rfl] at this
  rw [this, nat_mask1]
set_option maxRecDepth 100000 in
set_option maxHeartbeats 400000 in
theorem aMul_any (a b : Int) (w : World) (ha : 0 ≤ a) (ha' : a < 256) (hb : 0 ≤ b) (hb' : b < 256) :
    Calls Try.prog 16 #[.int .u8 a, .int .u8 b] w fun e w' => e = .returned (.int .u8 (mul8 a b)) ∧ w = w' := by
  obtain ⟨x, rfl⟩ := Int.eq_ofNat_of_zero_le ha
  obtain ⟨y, rfl⟩ := Int.eq_ofNat_of_zero_le hb
  rw [mul8_nat]
  go_enter Try.func16, Try.ntmps16
  go_wp2
  go_loop [0, 1, 4, 5] (fun a b p _ => ∃ n a' b' p' : Nat, a = .int .u8 a' ∧ b = .int .u8 b' ∧ p = .int .u8 p' ∧ a' < 256 ∧ b' < 256 ∧ b' < 2 ^ n ∧ p' < 256 ∧ mulGo n p' a' b' = mulN x y) (fun _ b _ _ => (intOf b).toNat)
  case atStart => exact ⟨8, x, y, 0, rfl, rfl, rfl, by omega, by omega, by omega, by omega, rfl⟩
  case round =>
    obtain ⟨n, a', b', p', rfl, rfl, rfl, h1, h2, h3, h4, h5⟩ := hrel
    have H3 : Hid (b' < 2 ^ n) := h3
    have H5 : Hid (mulGo n p' a' b' = mulN x y) := h5
    clear h3 h5
    by_cases hlt : 0 < b'
    · obtain ⟨n, rfl⟩ : ∃ m, n = m + 1 := ⟨n - 1, by have := H3.out; rcases n with _ | n <;> omega⟩
      have e3 : bits .xor .u8 ((a' : Int) * 2 % 256) ((a' : Int) / 128 * 27) = ((xt a' : Nat) : Int) := by
        have := xor8_nat (a' * 2 % 256) (a' / 128 * 27) (by omega) (by omega)
        unfold xt
        rw [← this]
        congr 1
      have e2 := and1_nat b' h2
      have e4 := xor8_nat p' a' h4 h1
      have hxt := xt_lt a' h1
      have hnext : b' / 2 < 2 ^ n := by have := H3.out; rw [Nat.pow_succ] at this; omega
      have HN : Hid (b' / 2 < 2 ^ n) := hnext
      have H6 : Hid (mulGo n (p' ^^^ a' * (b' % 2)) (xt a') (b' / 2) = mulN x y) := H5.out
      have HX : Hid (p' ^^^ a' < 256) := Nat.xor_lt_two_pow (n := 8) h4 h1
      clear hnext H5 H3
      rcases bit_cases b' with hbit | hbit
      · have e2' : bits .and .u8 (b' : Int) 1 = 0 := by rw [e2, hbit]; rfl
        clear e2
        have HB : Hid (b' % 2 = 0) := hbit
        clear hbit
        go_wp2
        go_round
        case rel => exact ⟨n, xt a', b' / 2, p', rfl, by go_num, rfl, hxt, by omega, HN.out, h4, by have := H6.out; rw [HB.out] at this; simpa using this⟩
        case measure => simp [intOf]; omega
      · have e2' : bits .and .u8 (b' : Int) 1 = 1 := by rw [e2, hbit]; rfl
        clear e2
        have HB : Hid (b' % 2 = 1) := hbit
        clear hbit
        go_wp2
        go_round
        case rel => exact ⟨n, xt a', b' / 2, p' ^^^ a', rfl, by go_num, rfl, hxt, by omega, HN.out, HX.out, by have := H6.out; rw [HB.out] at this; simpa using this⟩
        case measure => simp [intOf]; omega
    · go_wp2
      go_ret
      exact ⟨by have e := H5.out; rw [show b' = 0 by omega, mulGo_zero] at e; rw [e]; rfl, rfl⟩

/-! ### The reference's product -/
theorem xor64_nat (a b : Nat) (ha : a < 4294967296) (hb : b < 4294967296) : bits .xor .i64 (a : Int) (b : Int) = ((a ^^^ b : Nat) : Int) := by
  have hx : a ^^^ b < 2 ^ 32 := Nat.xor_lt_two_pow (by omega) (by omega)
  show IntKind.i64.wrap ((BitVec.ofInt 64 (a : Int) ^^^ BitVec.ofInt 64 (b : Int)).toNat : Int) = _
  rw [BitVec.toNat_xor, ofInt_u64 a (by omega), ofInt_u64 b (by omega)]
  exact IntWalk.i64_in _ (by omega)
theorem mulUp_lt (x y : Nat) (hx : x < 256) : ∀ k, k ≤ 8 → mulUp x y k < 65536
  | 0, _ => by simp [mulUp]
  | k + 1, hk => by
    refine Nat.xor_lt_two_pow (n := 16) (mulUp_lt x y hx k (by omega)) ?_
    have h2 : x * 2 ^ k < 2 ^ 16 := by
      have : 2 ^ k ≤ 2 ^ 7 := Nat.pow_le_pow_right (by decide) (by omega)
      have := Nat.mul_le_mul (show x ≤ 255 by omega) this
      omega
    rcases bit_cases (y / 2 ^ k) with h | h <;> rw [h]
    · omega
    · rw [Nat.mul_one]; exact h2
theorem mulDown_lt (n : Nat) (hn : n < 65536) : ∀ j, j ≤ 7 → mulDown n j < 65536
  | 0, _ => hn
  | j + 1, hj => by
    refine Nat.xor_lt_two_pow (n := 16) (mulDown_lt n hn j (by omega)) ?_
    have h2 : 283 * 2 ^ (6 - j) < 2 ^ 16 := by
      have : 2 ^ (6 - j) ≤ 2 ^ 6 := Nat.pow_le_pow_right (by decide) (by omega)
      omega
    rcases bit_cases (mulDown n j / 2 ^ (14 - j)) with h | h <;> rw [h]
    · omega
    · rw [Nat.mul_one]; exact h2
/-- a number's bit, as the walk tests it -/
theorem bit_test (y k : Nat) : (((y : Int) / 2 ^ k).tmod 2 == 1) = decide (y / 2 ^ k % 2 = 1) := by
  have e : ((y : Int) / 2 ^ k).tmod 2 = ((y / 2 ^ k % 2 : Nat) : Int) := by
    rw [show ((y : Int) / 2 ^ k) = ((y / 2 ^ k : Nat) : Int) by push_cast; rfl]
    rfl
  rw [e]
  rcases bit_cases (y / 2 ^ k) with h | h <;> rw [h] <;> rfl
set_option maxRecDepth 100000 in
set_option maxRecDepth 100000 in
set_option maxHeartbeats 400000 in
theorem rMul_any (a b : Int) (w : World) (ha : 0 ≤ a) (ha' : a < 256) (hb : 0 ≤ b) (hb' : b < 256) :
    Calls Try.prog 17 #[.int .u8 a, .int .u8 b] w fun e w' => e = .returned (.int .u8 (mul8 a b)) ∧ w = w' := by
  obtain ⟨x, rfl⟩ := Int.eq_ofNat_of_zero_le ha
  obtain ⟨y, rfl⟩ := Int.eq_ofNat_of_zero_le hb
  rw [mul8_nat, ← mulRef_eq x y (by omega) (by omega)]
  go_enter Try.func17, Try.ntmps17
  go_wp2
  go_loop [5, 6] (fun n i => ∃ k m : Nat, k ≤ 8 ∧ i = .int .i64 k ∧ n = .int .i64 m ∧ m = mulUp x y k) (fun _ i => 8 - (intOf i).toNat)
  case atStart => exact ⟨0, 0, by omega, rfl, rfl, rfl⟩
  case round =>
    obtain ⟨k, m, hk, rfl, rfl, hm⟩ := hrel
    have hmlt : m < 65536 := by rw [hm]; exact mulUp_lt x y (by omega) k hk
    have HM : Hid (m = mulUp x y k) := hm
    clear hm
    by_cases hlt : k < 8
    · have hbt := bit_test y k
      have hsh : x * 2 ^ k < 65536 := by
        have : 2 ^ k ≤ 2 ^ 7 := Nat.pow_le_pow_right (by decide) (by omega)
        have := Nat.mul_le_mul (show x ≤ 255 by omega) this
        omega
      have hw : wrap64 ((x : Int) * 2 ^ k) = ((x * 2 ^ k : Nat) : Int) := by
        rw [show ((x : Int) * 2 ^ k) = ((x * 2 ^ k : Nat) : Int) by push_cast; rfl]
        exact IntWalk.wrap64_in _ (by omega)
      have hxor := xor64_nat m (x * 2 ^ k) (by omega) (by omega)
      have HW := Lib.hid hw
      have HX := Lib.hid hxor
      have HB := Lib.hid hbt
      clear hw hxor hsh hbt
      rcases bit_cases (y / 2 ^ k) with hbit | hbit
      · have ht : (((y : Int) / 2 ^ k).tmod 2 == 1) = false := by rw [HB.out, hbit]; rfl
        have HZ := Lib.hid hbit
        clear hbit
        go_wp2
        go_round
        case rel => exact ⟨k + 1, m, by omega, by go_num, rfl, by rw [HM.out]; show _ = mulUp x y k ^^^ x * 2 ^ k * (y / 2 ^ k % 2); rw [HZ.out]; simp⟩
        case measure => simp [intOf]; omega
      · have ht : (((y : Int) / 2 ^ k).tmod 2 == 1) = true := by rw [HB.out, hbit]; rfl
        have HZ := Lib.hid hbit
        clear hbit
        go_wp2
        go_round
        case rel => exact ⟨k + 1, m ^^^ x * 2 ^ k, by omega, by go_num, by rw [HW.out, HX.out], by rw [HM.out]; show _ = mulUp x y k ^^^ x * 2 ^ k * (y / 2 ^ k % 2); rw [HZ.out]; simp⟩
        case measure => simp [intOf]; omega
    · have hk8 : k = 8 := by omega
      have HM8 : Hid (m = mulUp x y 8) := by rw [← hk8]; exact HM.out
      have hm8 := hmlt
      clear hk8 HM hk
      go_wp2
      go_loop [5, 7] (fun n i => ∃ j n' : Nat, j ≤ 7 ∧ i = .int .i64 (14 - (j : Int)) ∧ n = .int .i64 n' ∧ n' = mulDown m j) (fun _ i => (intOf i).toNat - 7)
      case atStart => exact ⟨0, m, by omega, rfl, rfl, rfl⟩
      case round =>
        obtain ⟨j, n', hj, rfl, rfl, hn⟩ := hrel
        have hnlt : n' < 65536 := by rw [hn]; exact mulDown_lt m hm8 j hj
        have HN := Lib.hid hn
        clear hn
        by_cases hjlt : j < 7
        · have hbt := bit_test n' (14 - j)
          have hp : 283 * 2 ^ (6 - j) < 65536 := by
            have : 2 ^ (6 - j) ≤ 2 ^ 6 := Nat.pow_le_pow_right (by decide) (by omega)
            omega
          have he : 14 - j - 8 = 6 - j := by omega
          have hw : wrap64 (283 * 2 ^ (14 - j - 8)) = ((283 * 2 ^ (6 - j) : Nat) : Int) := by
            rw [he, show ((283 : Int) * 2 ^ (6 - j)) = ((283 * 2 ^ (6 - j) : Nat) : Int) by push_cast; rfl]
            exact IntWalk.wrap64_in _ (by omega)
          have hxor := xor64_nat n' (283 * 2 ^ (6 - j)) (by omega) (by omega)
          have HW := Lib.hid hw
          have HX := Lib.hid hxor
          have HB := Lib.hid hbt
          clear hw hxor hp hbt he
          rcases bit_cases (n' / 2 ^ (14 - j)) with hbit | hbit
          · have ht : (((n' : Int) / 2 ^ (14 - j)).tmod 2 == 1) = false := by rw [HB.out, hbit]; rfl
            have HZ := Lib.hid hbit
            clear hbit
            go_wp2
            go_round
            case rel => exact ⟨j + 1, n', by omega, by go_num, rfl, by have h1 := HZ.out; rw [HN.out] at h1 ⊢; show _ = mulDown m j ^^^ 283 * 2 ^ (6 - j) * (mulDown m j / 2 ^ (14 - j) % 2); rw [h1]; simp⟩
            case measure => simp [intOf]; omega
          · have ht : (((n' : Int) / 2 ^ (14 - j)).tmod 2 == 1) = true := by rw [HB.out, hbit]; rfl
            have HZ := Lib.hid hbit
            clear hbit
            go_wp2
            go_round
            case rel => exact ⟨j + 1, n' ^^^ 283 * 2 ^ (6 - j), by omega, by go_num, by rw [HW.out, HX.out], by have h1 := HZ.out; rw [HN.out] at h1 ⊢; show _ = mulDown m j ^^^ 283 * 2 ^ (6 - j) * (mulDown m j / 2 ^ (14 - j) % 2); rw [h1, Nat.mul_one]⟩
            case measure => simp [intOf]; omega
        · have hj7 : j = 7 := by omega
          have HJ := Lib.hid hj7
          clear hj7
          go_wp2
          go_ret
          exact ⟨ret_int (by have h1 := HN.out; rw [HJ.out, HM8.out] at h1; rw [h1]; rfl), rfl⟩

/-! ### Inverse -/
/-- the inverse of a byte, of a number as a walk has it -/
def inv8 (b : Int) : Int := ((invN b.toNat : Nat) : Int)
theorem inv8_bd (b : Int) (h0 : 0 ≤ b) (h1 : b < 256) : 0 ≤ inv8 b ∧ inv8 b < 256 := by
  have := invN_lt b.toNat (by omega)
  unfold inv8; omega
set_option maxRecDepth 100000 in
set_option maxHeartbeats 400000 in
theorem aInv_any (b : Int) (w : World) (hb : 0 ≤ b) (hb' : b < 256) :
    Calls Try.prog 19 #[.int .u8 b] w fun e w' => e = .returned (.int .u8 (inv8 b)) ∧ w = w' := by
  obtain ⟨y, rfl⟩ := Int.eq_ofNat_of_zero_le hb
  go_enter Try.func19, Try.ntmps19
  go_wp2
  go_loop [0, 3, 4] (fun b p i => ∃ k b' p' : Nat, k ≤ 7 ∧ i = .int .i64 k ∧ b = .int .u8 b' ∧ p = .int .u8 p' ∧ b' < 256 ∧ p' < 256 ∧ invGo (7 - k) b' p' = invN y) (fun _ _ i => 7 - (intOf i).toNat)
  case atStart => exact ⟨0, y, 1, by omega, rfl, rfl, rfl, by omega, by omega, rfl⟩
  case round =>
    obtain ⟨k, b', p', hk, rfl, rfl, rfl, h1, h2, h3⟩ := hrel
    have H3 := Lib.hid h3
    clear h3
    by_cases hlt : k < 7
    · have q1 := mul8_bd b' b' (by omega) (by omega)
      go_wp2_with fail
      refine (aMul_any (b' : Int) b' _ (by omega) (by omega) (by omega) (by omega)).mono ?_
      rintro e w' ⟨rfl, rfl⟩
      go_wp2_with fail
      refine (aMul_any (p' : Int) (mul8 b' b') _ (by omega) (by omega) (by omega) (by omega)).mono ?_
      rintro e w' ⟨rfl, rfl⟩
      go_wp2
      go_round
      case rel => exact ⟨k + 1, mulN b' b', mulN p' (mulN b' b'), by omega, by go_num, rfl, rfl, mulN_lt _ _ h1, mulN_lt _ _ h2, by have := H3.out; rw [show 7 - k = 7 - (k + 1) + 1 by omega] at this; exact this⟩
      case measure => simp [intOf]; omega
    · go_wp2
      go_ret
      exact ⟨by have h := H3.out; rw [show 7 - k = 0 by omega] at h; unfold inv8; rw [Int.toNat_natCast, ← h]; rfl, rfl⟩
theorem invFind_step (b n k : Nat) (h : mulN b k ≠ 1) : invFind b (n + 1) k = invFind b n (k + 1) := by
  show (if mulN b k = 1 then k else invFind b n (k + 1)) = _
  rw [if_neg h]
set_option maxRecDepth 100000 in
set_option maxHeartbeats 400000 in
theorem rInv_any (b : Int) (w : World) (hb : 0 ≤ b) (hb' : b < 256) :
    Calls Try.prog 20 #[.int .u8 b] w fun e w' => e = .returned (.int .u8 (inv8 b)) ∧ w = w' := by
  obtain ⟨y, rfl⟩ := Int.eq_ofNat_of_zero_le hb
  unfold inv8
  rw [Int.toNat_natCast, ← invRef_eq y (by omega)]
  go_enter Try.func20, Try.ntmps20
  go_wp2
  go_loop [3] (fun i => ∃ k : Nat, k ≤ 256 ∧ i = .int .i64 k ∧ invFind y (256 - k) k = invRef y) (fun i => 256 - (intOf i).toNat)
  case atStart => exact ⟨0, by omega, rfl, rfl⟩
  case round =>
    obtain ⟨k, hk, rfl, h3⟩ := hrel
    have H3 := Lib.hid h3
    clear h3
    by_cases hlt : k < 256
    · go_wp2_with fail
      refine (rMul_any (y : Int) _ _ (by omega) (by omega) (by omega) (by omega)).mono ?_
      rintro e w' ⟨rfl, rfl⟩
      by_cases h1 : mulN y k = 1
      · have ht : (mul8 (y : Int) (k : Int) == 1) = true := by rw [mul8_nat, h1]; rfl
        have HZ := Lib.hid h1
        clear h1
        go_wp2
        go_ret
        exact ⟨ret_int (by have h := H3.out; rw [show 256 - k = 255 - k + 1 by omega] at h; rw [← h]; show (k : Int) = ((if mulN y k = 1 then k else invFind y (255 - k) (k + 1) : Nat) : Int); rw [if_pos HZ.out]), rfl⟩
      · have ht : (mul8 (y : Int) (k : Int) == 1) = false := by rw [mul8_nat, beq_eq_false_iff_ne]; omega
        have HZ := Lib.hid h1
        clear h1
        go_wp2
        go_round
        case rel => exact ⟨k + 1, by omega, by go_num, by have h := H3.out; rw [show 256 - k = 256 - (k + 1) + 1 by omega, invFind_step _ _ _ HZ.out] at h; exact h⟩
        case measure => simp [intOf]; omega
    · go_wp2
      go_ret
      exact ⟨by have h := H3.out; rw [show 256 - k = 0 by omega] at h; rw [← h]; rfl, rfl⟩
end Go.Proofs.Ytfkpilfnhgjmfaa
