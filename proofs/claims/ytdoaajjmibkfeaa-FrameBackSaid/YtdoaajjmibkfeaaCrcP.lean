/-
  The checksum in plain words: no program in sight.
-/
import Derived.Test.YtdoaajjmibkfeaaPlain
namespace CrcP
open PlainP

def poly : Nat := 3988292384
/-- a bit more -/
def bit (n : Nat) : Nat := if n % 2 = 1 then (n / 2) ^^^ poly else n / 2
def bitsN : Nat → Nat → Nat
  | 0, n => n
  | k + 1, n => bitsN k (bit n)
/-- a byte more -/
def byteC (n b : Nat) : Nat := bitsN 8 (n ^^^ b)
def crcL (n : Nat) (l : List Nat) : Nat := l.foldl byteC n
def mask : Nat := 4294967295
def inv (n : Nat) : Nat := mask ^^^ n
def onC (c : Nat) (l : List Nat) : Nat := inv (crcL (inv c) l)
def crcC (l : List Nat) : Nat := onC 0 l

theorem xor_lt32 (a b : Nat) (ha : a < 4294967296) (hb : b < 4294967296) : a ^^^ b < 4294967296 := Nat.xor_lt_two_pow (n := 32) ha hb
theorem bit_lt (n : Nat) (h : n < 4294967296) : bit n < 4294967296 := by
  unfold bit; split
  · exact xor_lt32 _ _ (by omega) (by decide)
  · omega
theorem bitsN_lt : ∀ k n, n < 4294967296 → bitsN k n < 4294967296
  | 0, _, h => h
  | k + 1, n, h => bitsN_lt k _ (bit_lt n h)
theorem bitsN_succ : ∀ k n, bitsN (k + 1) n = bit (bitsN k n)
  | 0, _ => rfl
  | k + 1, n => by rw [bitsN, bitsN_succ k (bit n)]; rfl
theorem byteC_lt (n b : Nat) (h : n < 4294967296) (hb : b < 256) : byteC n b < 4294967296 := bitsN_lt 8 _ (xor_lt32 _ _ h (by omega))
theorem crcL_lt : ∀ (l : List Nat) (n : Nat), n < 4294967296 → Bytes l → crcL n l < 4294967296
  | [], _, h, _ => h
  | b :: t, n, h, hb => crcL_lt t _ (byteC_lt n b h (hb b List.mem_cons_self)) (fun x hx => hb x (List.mem_cons_of_mem _ hx))
theorem inv_lt (n : Nat) (h : n < 4294967296) : inv n < 4294967296 := xor_lt32 _ _ (by decide) h
theorem xor_back (a n : Nat) : a ^^^ (a ^^^ n) = n := by rw [← Nat.xor_assoc, Nat.xor_self, Nat.zero_xor]
theorem inv_def (n : Nat) : inv n = mask ^^^ n := rfl
theorem inv_inv (n : Nat) : inv (inv n) = n := by rw [inv_def, inv_def, xor_back]
theorem onC_lt (c : Nat) (l : List Nat) (h : c < 4294967296) (hl : Bytes l) : onC c l < 4294967296 := inv_lt _ (crcL_lt l _ (inv_lt c h) hl)
theorem crcL_append (n : Nat) (a b : List Nat) : crcL n (a ++ b) = crcL (crcL n a) b := by unfold crcL; rw [List.foldl_append]
theorem crcL_snoc (n : Nat) (a : List Nat) (x : Nat) : crcL n (a ++ [x]) = byteC (crcL n a) x := by rw [crcL_append]; rfl
theorem onC_append (c : Nat) (a b : List Nat) : onC (onC c a) b = onC c (a ++ b) := by
  unfold onC
  rw [inv_inv, crcL_append]
theorem onC_nil (c : Nat) : onC c [] = c := inv_inv c

/-- one bit more is told apart: the polynomial's highest bit tells whether the lowest one went out -/
theorem bit_top (n : Nat) (h : n < 4294967296) : (bit n).testBit 31 = decide (n % 2 = 1) := by
  unfold bit
  have h2 : (n / 2).testBit 31 = false := Nat.testBit_lt_two_pow (by omega)
  split
  · rename_i h1
    rw [Nat.testBit_xor, h2, decide_eq_true h1]; decide
  · rename_i h1
    rw [h2, decide_eq_false h1]
theorem xor_right_inj {a b c : Nat} (h : a ^^^ c = b ^^^ c) : a = b := by
  have h1 : a ^^^ c ^^^ c = b ^^^ c ^^^ c := by rw [h]
  rwa [Nat.xor_assoc, Nat.xor_self, Nat.xor_zero, Nat.xor_assoc, Nat.xor_self, Nat.xor_zero] at h1
theorem bit_inj {a b : Nat} (ha : a < 4294967296) (hb : b < 4294967296) (h : bit a = bit b) : a = b := by
  have h1 := bit_top a ha
  rw [h, bit_top b hb] at h1
  have hp : b % 2 = 1 ↔ a % 2 = 1 := by simpa using h1
  have h2 : a / 2 = b / 2 := by
    unfold bit at h
    by_cases ho : a % 2 = 1
    · rw [if_pos ho, if_pos (hp.2 ho)] at h; exact xor_right_inj h
    · rw [if_neg ho, if_neg (fun hh => ho (hp.1 hh))] at h; exact h
  omega
theorem bitsN_inj : ∀ (k : Nat) {a b : Nat}, a < 4294967296 → b < 4294967296 → bitsN k a = bitsN k b → a = b
  | 0, _, _, _, _, h => h
  | k + 1, _, _, ha, hb, h => bit_inj ha hb (bitsN_inj k (bit_lt _ ha) (bit_lt _ hb) h)
theorem byteC_inj {n m x : Nat} (hn : n < 4294967296) (hm : m < 4294967296) (hx : x < 256) (h : byteC n x = byteC m x) : n = m :=
  xor_right_inj (bitsN_inj 8 (xor_lt32 _ _ hn (by omega)) (xor_lt32 _ _ hm (by omega)) h)
theorem byteC_inj2 {n x y : Nat} (hn : n < 4294967296) (hx : x < 256) (hy : y < 256) (h : byteC n x = byteC n y) : x = y := by
  have h1 := bitsN_inj 8 (xor_lt32 _ _ hn (by omega)) (xor_lt32 _ _ hn (by omega)) h
  rw [Nat.xor_comm n x, Nat.xor_comm n y] at h1
  exact xor_right_inj h1
theorem crcL_inj : ∀ (l : List Nat) {n m : Nat}, n < 4294967296 → m < 4294967296 → Bytes l → crcL n l = crcL m l → n = m
  | [], _, _, _, _, _, h => h
  | b :: t, _, _, hn, hm, hl, h => by
    have hb := hl b List.mem_cons_self
    exact byteC_inj hn hm hb (crcL_inj t (byteC_lt _ b hn hb) (byteC_lt _ b hm hb) (fun x hx => hl x (List.mem_cons_of_mem _ hx)) h)
theorem cons_bytes {x : Nat} {b : List Nat} (hx : x < 256) (hb : Bytes b) : Bytes (x :: b) := fun z hz => by
  rcases List.mem_cons.1 hz with h | h
  · rw [h]; exact hx
  · exact hb z h
/-- ONE BYTE THAT IS TURNED IS TOLD -/
theorem crc_told (a b : List Nat) (x y : Nat) (ha : Bytes a) (hb : Bytes b) (hx : x < 256) (hy : y < 256) (h : crcC (a ++ x :: b) = crcC (a ++ y :: b)) : x = y := by
  have h2 : crcL (inv 0) (a ++ x :: b) = crcL (inv 0) (a ++ y :: b) := by
    have h1 := congrArg inv h
    unfold crcC onC at h1
    rwa [inv_inv, inv_inv] at h1
  rw [crcL_append, crcL_append] at h2
  have e3 := crcL_lt a (inv 0) (inv_lt 0 (by omega)) ha
  have h3 : byteC (crcL (inv 0) a) x = byteC (crcL (inv 0) a) y := crcL_inj b (byteC_lt _ x e3 hx) (byteC_lt _ y e3 hy) hb h2
  exact byteC_inj2 e3 hx hy h3
end CrcP
