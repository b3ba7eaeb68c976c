/- The checksum, bit by bit and four bits at once: plain arithmetic. -/
import Derived.Test.YtcceeigkgklkoaaBase
import Derived.Laws.BitsAllLaws
namespace Go.Proofs.Ytcceeigkgklkoaa
/-- A step of the register. -/
def sh (r : Nat) : Nat := if r % 2 = 1 then r / 2 ^^^ 3988292384 else r / 2
def shk : Nat → Nat → Nat
  | 0, r => r
  | k + 1, r => sh (shk k r)
theorem sh_lt {r : Nat} (h : r < 4294967296) : sh r < 4294967296 := by
  unfold sh
  split
  · exact Nat.xor_lt_two_pow (n := 32) (by omega) (by omega)
  · omega
theorem shk_lt {r : Nat} (h : r < 4294967296) : ∀ k, shk k r < 4294967296
  | 0 => h
  | k + 1 => sh_lt (shk_lt h k)
theorem shk_add (r : Nat) (j : Nat) : ∀ k, shk (k + j) r = shk k (shk j r)
  | 0 => by rw [Nat.zero_add]; rfl
  | k + 1 => by rw [Nat.add_right_comm]; show sh _ = sh _; rw [shk_add r j k]
theorem xor_half (a b : Nat) : (a ^^^ b) / 2 = a / 2 ^^^ b / 2 := by
  apply Nat.eq_of_testBit_eq
  intro i
  simp [Nat.testBit_div_two]
theorem xor_odd (a b : Nat) : (a ^^^ b) % 2 = (a + b) % 2 := by
  have h := Nat.xor_mod_two_pow (a := a) (b := b) (n := 1)
  rw [Nat.pow_one] at h
  rw [h, Nat.add_mod]
  rcases Nat.mod_two_eq_zero_or_one a with h1 | h1 <;> rcases Nat.mod_two_eq_zero_or_one b with h2 | h2 <;> rw [h1, h2] <;> rfl
theorem sh_xor (a b : Nat) : sh (a ^^^ 2 * b) = sh a ^^^ b := by
  have h1 : (a ^^^ 2 * b) % 2 = a % 2 := by rw [xor_odd]; omega
  have h2 : (a ^^^ 2 * b) / 2 = a / 2 ^^^ b := by rw [xor_half]; congr 1; omega
  unfold sh
  rw [h1, h2]
  split
  · rw [Nat.xor_assoc, Nat.xor_comm b, ← Nat.xor_assoc]
  · rfl
theorem shk_xor (a : Nat) : ∀ (k b : Nat), shk k (a ^^^ 2 ^ k * b) = shk k a ^^^ b
  | 0, b => by simp [shk]
  | k + 1, b => by
    show sh _ = sh _ ^^^ b
    rw [show 2 ^ (k + 1) * b = 2 ^ k * (2 * b) from by rw [Nat.pow_succ, Nat.mul_assoc], shk_xor a k (2 * b), sh_xor]
theorem low_xor (c : Nat) : c = c % 16 ^^^ 2 ^ 4 * (c / 16) := by
  apply Nat.eq_of_testBit_eq
  intro i
  rw [Nat.testBit_xor, show (16 : Nat) = 2 ^ 4 from rfl, Nat.testBit_mod_two_pow, Nat.testBit_two_pow_mul, Nat.testBit_div_two_pow]
  by_cases h : i < 4
  · simp [h, show ¬ 4 ≤ i from by omega]
  · simp [h, show 4 ≤ i from by omega]
theorem nibble (c : Nat) : shk 4 c = c / 16 ^^^ shk 4 (c % 16) := by
  have := shk_xor (c % 16) 4 (c / 16)
  rw [← low_xor] at this
  rw [this, Nat.xor_comm]
/-- A bit that comes in. -/
theorem sh_bit (r x : Nat) : sh (r ^^^ x) = (if r % 2 = x % 2 then r / 2 else r / 2 ^^^ 3988292384) ^^^ x / 2 := by
  unfold sh
  rw [xor_half, xor_odd]
  by_cases h : r % 2 = x % 2
  · rw [if_pos h, if_neg (by omega)]
  · rw [if_neg h, if_pos (by omega), Nat.xor_assoc, Nat.xor_comm (x / 2), ← Nat.xor_assoc]
/-- A byte that comes in. -/
def crcB (r : Nat) (b : UInt8) : Nat := shk 8 (r ^^^ b.toNat)
def crcR (l : List UInt8) : Nat := l.foldl crcB 4294967295
def crcv (l : List UInt8) : Nat := 4294967295 - crcR l
theorem crcB_lt {r : Nat} (h : r < 4294967296) (b : UInt8) : crcB r b < 4294967296 := shk_lt (Nat.xor_lt_two_pow (n := 32) h (Nat.lt_trans b.toNat_lt (by decide))) 8
theorem crcR_take (l : List UInt8) {i : Nat} (hi : i < l.length) : crcR (l.take (i + 1)) = crcB (crcR (l.take i)) l[i] := by
  rw [List.take_succ_eq_append_getElem hi]
  simp only [crcR, List.foldl_append, List.foldl_cons, List.foldl_nil]
theorem crcR_lt (l : List UInt8) : crcR l < 4294967296 := by
  unfold crcR
  have : ∀ (l : List UInt8) (r : Nat), r < 4294967296 → l.foldl crcB r < 4294967296 := by
    intro l
    induction l with
    | nil => intro r h; exact h
    | cons b l ih => intro r h; exact ih _ (crcB_lt h b)
  exact this l _ (by decide)
theorem crcv_lt (l : List UInt8) : crcv l < 4294967296 := by unfold crcv; omega
theorem compl32 {c : Nat} (h : c < 4294967296) : 4294967295 ^^^ c = 4294967295 - c := by
  have h1 : (~~~ BitVec.ofNat 32 c).toNat = 2 ^ 32 - 1 - (BitVec.ofNat 32 c).toNat := BitVec.toNat_not
  have h2 : ~~~ BitVec.ofNat 32 c = BitVec.allOnes 32 ^^^ BitVec.ofNat 32 c := by
    rw [BitVec.allOnes_xor]
  rw [h2, BitVec.toNat_xor, BitVec.toNat_allOnes, BitVec.toNat_ofNat, Nat.mod_eq_of_lt (by omega)] at h1
  exact h1
/-- A checksum's bytes. -/
def bytes4 (n : Nat) : List UInt8 := [UInt8.ofNat (n % 256), UInt8.ofNat (n / 256 % 256), UInt8.ofNat (n / 65536 % 256), UInt8.ofNat (n / 16777216 % 256)]
theorem bytes4_len (n : Nat) : (bytes4 n).length = 4 := rfl
end Go.Proofs.Ytcceeigkgklkoaa
