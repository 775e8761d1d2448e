/-
  How many of a number's lowest bits are 1: plain facts.
-/
import Derived.Lib.TrailingZeros
namespace OnesP
open Go

def onesF : Nat → Nat → Nat
  | 0, _ => 0
  | f + 1, n => if n % 2 = 1 then 1 + onesF f (n / 2) else 0
def ones (n : Nat) : Nat := onesF 32 n

theorem onesF_le : ∀ f n, onesF f n ≤ f
  | 0, _ => Nat.le_refl _
  | f + 1, n => by
    have := onesF_le f (n / 2)
    unfold onesF; split <;> omega
theorem ones_le (n : Nat) : ones n ≤ 32 := onesF_le 32 n

theorem ctzFrom_not : ∀ f n, n < 2 ^ f → Lib.ctzFrom f (2 ^ f - 1 - n) = onesF f n
  | 0, _, _ => rfl
  | f + 1, n, h => by
    have hp : 2 ^ (f + 1) = 2 * 2 ^ f := by rw [Nat.pow_succ]; omega
    have ih := ctzFrom_not f (n / 2) (by omega)
    have e : (2 ^ (f + 1) - 1 - n) / 2 = 2 ^ f - 1 - n / 2 := by omega
    unfold Lib.ctzFrom onesF
    by_cases hn : n % 2 = 1
    · rw [if_neg (by omega), if_pos hn, e, ih]
    · rw [if_pos (by omega), if_neg hn]
theorem onesF_all : ∀ f, onesF f (2 ^ f - 1) = f
  | 0 => rfl
  | f + 1 => by
    have hp : 2 ^ (f + 1) = 2 * 2 ^ f := by rw [Nat.pow_succ]; omega
    have hq : 0 < 2 ^ f := Nat.two_pow_pos f
    have e : (2 ^ (f + 1) - 1) / 2 = 2 ^ f - 1 := by omega
    unfold onesF
    rw [if_pos (by omega), e, onesF_all f]; omega
theorem ctz_not (n : Nat) (h : n < 4294967296) : Lib.ctz 32 (4294967295 - n) = ones n := by
  unfold Lib.ctz ones
  by_cases h0 : 4294967295 - n = 0
  · rw [if_pos h0]
    have : n = 2 ^ 32 - 1 := by omega
    rw [this, onesF_all]
  · rw [if_neg h0]
    exact ctzFrom_not 32 n (by omega)
end OnesP
