/-
  Chapter 1 in plain words: short numbers, numbers of a width, digits. No program in sight.
-/
import Derived.Test.YtdoaajjmibkfeaaPlain
namespace WireP
open PlainP

/-- a short number's bytes, with room for f more -/
def putF : Nat → Nat → List Nat
  | 0, n => [n]
  | f + 1, n => if n < 128 then [n] else (n % 128 + 128) :: putF f (n / 128)
def put (n : Nat) : List Nat := putF 9 n

/-- the short number at the front of what is left behind i bytes, a being read of it -/
def sh : Nat → Nat → List Nat → Option (Nat × Nat)
  | _, _, [] => none
  | i, a, b :: t => if 10 ≤ i then none else if (i = 9 ∧ 1 < b) ∨ (0 < i ∧ b = 0) then none
      else if b < 128 then some (a + b % 128 * 128 ^ i, i + 1) else sh (i + 1) (a + b % 128 * 128 ^ i) t
def short (l : List Nat) : Option (Nat × Nat) := sh 0 0 l

/-- a number's w bytes, the highest first -/
def be : Nat → Nat → List Nat
  | 0, _ => []
  | w + 1, n => (n / 256 ^ w % 256) :: be w n
theorem be_length : ∀ w n, (be w n).length = w
  | 0, _ => rfl
  | w + 1, n => by simp [be, be_length w n]
theorem be_bytes : ∀ w n, Bytes (be w n)
  | 0, _ => Bytes.nil
  | w + 1, n => fun x hx => by
    rcases List.mem_cons.1 hx with h | h
    · rw [h]; omega
    · exact be_bytes w n x h
theorem be_drop : ∀ (w k n : Nat), (be (w + k) n).drop k = be w n
  | _, 0, _ => rfl
  | w, k + 1, n => be_drop w k n
theorem be_snoc_set (n k : Nat) (hk : k < 8) : (List.replicate (8 - k) 0 ++ be k n).set (7 - k) (n / 256 ^ k % 256) = List.replicate (8 - (k + 1)) 0 ++ be (k + 1) n := by
  rw [show 8 - k = (7 - k) + 1 by omega, show 8 - (k + 1) = 7 - k by omega, List.replicate_succ', List.append_assoc, List.set_append_right _ _ (by rw [List.length_replicate]; exact Nat.le_refl _), List.length_replicate, Nat.sub_self]
  rfl
/-- does a number fit a width? -/
def fits (n w : Nat) : Bool := decide (w = 8 ∨ n < 256 ^ w)
/-- what bytes say, the highest first -/
def beVal (a : Nat) (l : List Nat) : Nat := l.foldl (fun a b => a * 256 + b) a

theorem beVal_append (a : Nat) (l m : List Nat) : beVal a (l ++ m) = beVal (beVal a l) m := by
  unfold beVal; rw [List.foldl_append]
theorem beVal_lt : ∀ (l : List Nat) (a : Nat), Bytes l → beVal a l < (a + 1) * 256 ^ l.length
  | [], a, _ => by simp [beVal]
  | b :: t, a, h => by
    have hb := h b List.mem_cons_self
    have ih := beVal_lt t (a * 256 + b) (fun x hx => h x (List.mem_cons_of_mem _ hx))
    show beVal (a * 256 + b) t < _
    rw [List.length_cons, Nat.pow_succ]
    have : (a * 256 + b + 1) * 256 ^ t.length ≤ (a + 1) * 256 * 256 ^ t.length := Nat.mul_le_mul_right _ (by omega)
    have e : (a + 1) * 256 * 256 ^ t.length = (a + 1) * (256 ^ t.length * 256) := by rw [Nat.mul_assoc, Nat.mul_comm 256]
    omega
theorem beVal_be : ∀ (w n a : Nat), beVal a (be w n) = a * 256 ^ w + n % 256 ^ w
  | 0, n, a => by simp [be, beVal, Nat.mod_one]
  | w + 1, n, a => by
    show beVal (a * 256 + n / 256 ^ w % 256) (be w n) = _
    rw [beVal_be w n]
    have h1 : n % 256 ^ (w + 1) = n / 256 ^ w % 256 * 256 ^ w + n % 256 ^ w := by
      rw [Nat.pow_succ, Nat.mod_mul]; rw [Nat.mul_comm (256 ^ w)]; omega
    rw [h1, Nat.pow_succ, Nat.add_mul, Nat.mul_assoc, Nat.mul_comm 256 (256 ^ w)]; omega
theorem be_beVal : ∀ (l : List Nat) (a : Nat), Bytes l → be l.length (beVal a l) = l
  | [], _, _ => rfl
  | b :: t, a, h => by
    have ht : Bytes t := fun x hx => h x (List.mem_cons_of_mem _ hx)
    have hb := h b List.mem_cons_self
    show (beVal (a * 256 + b) t / 256 ^ t.length % 256) :: be t.length (beVal (a * 256 + b) t) = b :: t
    rw [be_beVal t _ ht]
    have e : beVal (a * 256 + b) t = (a * 256 + b) * 256 ^ t.length + beVal 0 t := by
      have : ∀ (l : List Nat) (x : Nat), beVal x l = x * 256 ^ l.length + beVal 0 l := by
        intro l
        induction l with
        | nil => intro x; simp [beVal]
        | cons c r ih =>
          intro x
          show beVal (x * 256 + c) r = x * 256 ^ (r.length + 1) + beVal (0 * 256 + c) r
          rw [ih (x * 256 + c), ih (0 * 256 + c), Nat.pow_succ, Nat.zero_mul, Nat.zero_add]
          rw [Nat.add_mul, Nat.mul_assoc, Nat.mul_comm 256]; omega
      exact this t _
    have hl := beVal_lt t 0 ht
    rw [Nat.zero_add, Nat.one_mul] at hl
    congr 1
    rw [e, Nat.add_comm, Nat.add_mul_div_right _ _ (Nat.pow_pos (by omega)), Nat.div_eq_of_lt hl]
    omega

theorem putF_ne (f n : Nat) : putF f n ≠ [] := by
  cases f with
  | zero => simp [putF]
  | succ f => unfold putF; split <;> simp
theorem putF_length : ∀ f n, 0 < (putF f n).length ∧ (putF f n).length ≤ f + 1
  | 0, n => by simp [putF]
  | f + 1, n => by
    have := putF_length f (n / 128)
    unfold putF; split <;> simp <;> omega
theorem put_length (n : Nat) : 0 < (put n).length ∧ (put n).length ≤ 10 := putF_length 9 n
theorem putF_byte : ∀ f n, n < 128 ^ f * 256 → Bytes (putF f n)
  | 0, n, h => by
    intro x hx
    simp only [putF, List.mem_singleton] at hx
    simp at h; omega
  | f + 1, n, h => by
    unfold putF
    split
    · intro x hx; simp only [List.mem_singleton] at hx; omega
    · intro x hx
      rcases List.mem_cons.1 hx with h1 | h1
      · omega
      · refine putF_byte f (n / 128) ?_ x h1
        rw [Nat.pow_succ] at h
        exact Nat.div_lt_of_lt_mul (by rw [Nat.mul_comm 128, Nat.mul_assoc, Nat.mul_comm 256, ← Nat.mul_assoc]; exact h)
theorem put_byte {n : Nat} (h : n < 18446744073709551616) : Bytes (put n) := putF_byte 9 n (Nat.lt_of_lt_of_le h (by decide))

/-- the program's loop: k bytes are laid, m is left -/
structure PutAt (n k m : Nat) (l : List Nat) : Prop where
  len : l.length = k
  bytes : Bytes l
  le : m * 128 ^ k ≤ n
  eq : put n = l ++ putF (9 - k) m
  k9 : k ≤ 9
theorem PutAt.start (n : Nat) : PutAt n 0 n [] := ⟨rfl, Bytes.nil, by simp, rfl, by omega⟩
theorem PutAt.lt9 {n k m : Nat} {l : List Nat} (h : PutAt n k m l) (hn : n < 18446744073709551616) (hm : 128 ≤ m) : k < 9 := by
  rcases Nat.lt_or_ge k 9 with h1 | h1
  · exact h1
  · have h2 : 128 ^ 9 ≤ 128 ^ k := Nat.pow_le_pow_right (by omega) h1
    have h3 : 128 * 128 ^ 9 ≤ m * 128 ^ k := Nat.mul_le_mul hm h2
    have h4 : 128 * 128 ^ 9 ≤ n := Nat.le_trans h3 h.le
    have h5 : (128 : Nat) * 128 ^ 9 = 1180591620717411303424 := by decide
    omega
theorem PutAt.next {n k m : Nat} {l : List Nat} (h : PutAt n k m l) (hn : n < 18446744073709551616) (hm : 128 ≤ m) : PutAt n (k + 1) (m / 128) (l ++ [m % 128 + 128]) := by
  have h9 := h.lt9 hn hm
  refine ⟨by rw [List.length_append, h.len]; rfl, h.bytes.append (Bytes.one (by omega)), ?_, ?_, by omega⟩
  · rw [Nat.pow_succ, Nat.mul_comm (128 ^ k), ← Nat.mul_assoc]
    exact Nat.le_trans (Nat.mul_le_mul_right _ (Nat.div_mul_le_self m 128)) h.le
  · rw [h.eq, show 9 - k = (9 - (k + 1)) + 1 by omega, putF, if_neg (by omega), List.append_assoc]; rfl
theorem PutAt.done {n k m : Nat} {l : List Nat} (h : PutAt n k m l) (hm : m < 128) : put n = l ++ [m] := by
  rw [h.eq]
  congr 1
  cases hf : 9 - k with
  | zero => rfl
  | succ f => unfold putF; rw [if_pos hm]

/-- short of what was put -/
theorem sh_putF : ∀ (f i n a : Nat) (t : List Nat), i + f = 9 → (f = 0 → n < 2) → (0 < i → n ≠ 0) → n < 128 ^ f * 2 → sh i a (putF f n ++ t) = some (a + n * 128 ^ i, i + (putF f n).length)
  | 0, i, n, a, t, h, h0, hi, _ => by
    have := h0 rfl
    have hi9 : i = 9 := by omega
    have := hi (by omega)
    simp only [putF, List.cons_append, List.nil_append, sh]
    rw [if_neg (by omega), if_neg (by omega), if_pos (by omega), Nat.mod_eq_of_lt (by omega)]; rfl
  | f + 1, i, n, a, t, h, h0, hi, hn => by
    unfold putF
    split
    · rename_i hlt
      simp only [List.cons_append, List.nil_append, sh]
      rw [if_neg (by omega), if_neg (by omega), if_pos (by omega), Nat.mod_eq_of_lt (by omega)]; rfl
    · rename_i hge
      simp only [List.cons_append, sh]
      rw [if_neg (by omega), if_neg (by omega), if_neg (by omega)]
      have e : (n % 128 + 128) % 128 = n % 128 := by omega
      rw [e, sh_putF f (i + 1) (n / 128) _ t (by omega) (by
          intro hf; subst hf; simp at hn; omega) (by omega) (by
          rw [Nat.pow_succ] at hn
          exact Nat.div_lt_of_lt_mul (by rw [Nat.mul_comm 128, Nat.mul_assoc, Nat.mul_comm 2, ← Nat.mul_assoc]; exact hn))]
      rw [List.length_cons, Nat.pow_succ]
      have e2 : a + n % 128 * 128 ^ i + n / 128 * (128 ^ i * 128) = a + n * 128 ^ i := by
        have : n = n / 128 * 128 + n % 128 := by omega
        conv => rhs; rw [this, Nat.add_mul, Nat.mul_assoc, Nat.mul_comm 128]
        omega
      rw [e2]
      congr 2
      omega
theorem short_put (n : Nat) (t : List Nat) (h : n < 18446744073709551616) : short (put n ++ t) = some (n, (put n).length) := by
  have := sh_putF 9 0 n 0 t rfl (by omega) (by omega) (by
    have e : (128 : Nat) ^ 9 * 2 = 18446744073709551616 := by decide
    omega)
  unfold short put
  rw [this]; simp

/-- what short took is what put lays -/
theorem sh_some : ∀ (l : List Nat) (i a n k : Nat), Bytes l → i ≤ 9 → sh i a l = some (n, k) → ∃ m, n = a + m * 128 ^ i ∧ k = i + (putF (9 - i) m).length ∧ l.take (k - i) = putF (9 - i) m ∧ (0 < i → m ≠ 0) ∧ m < 128 ^ (9 - i) * 2
  | [], i, a, n, k, _, _, h => by simp [sh] at h
  | b :: t, i, a, n, k, hb, hi, h => by
    have hbb := hb b List.mem_cons_self
    have ht : Bytes t := fun x hx => hb x (List.mem_cons_of_mem _ hx)
    simp only [sh] at h
    rw [if_neg (by omega)] at h
    split at h
    · cases h
    · rename_i hno
      split at h
      · rename_i hlt
        simp only [Option.some.injEq, Prod.mk.injEq] at h
        obtain ⟨h1, h2⟩ := h
        have e1 : putF (9 - i) b = [b] := by
          cases hf : 9 - i with
          | zero => rfl
          | succ f => unfold putF; rw [if_pos hlt]
        refine ⟨b, by rw [← h1, Nat.mod_eq_of_lt hlt], by rw [e1]; simp; omega, by rw [e1, ← h2]; simp, by omega, ?_⟩
        rcases Nat.lt_or_ge i 9 with h9 | h9
        · have : 128 ^ 1 ≤ 128 ^ (9 - i) := Nat.pow_le_pow_right (by omega) (by omega)
          omega
        · obtain rfl : i = 9 := by omega
          simp; omega
      · rename_i hge
        rcases Nat.lt_or_ge i 9 with h9 | h9
        · obtain ⟨m, h1, h2, h3, h4, h5⟩ := sh_some t (i + 1) _ n k ht (by omega) h
          have hm := h4 (by omega)
          have e0 : 9 - i = (9 - (i + 1)) + 1 := by omega
          have e1 : putF (9 - i) (m * 128 + b % 128) = b :: putF (9 - (i + 1)) m := by
            rw [e0, putF, if_neg (by omega)]
            have q1 : (m * 128 + b % 128) % 128 + 128 = b := by omega
            have q2 : (m * 128 + b % 128) / 128 = m := by omega
            rw [q1, q2]
          refine ⟨m * 128 + b % 128, ?_, ?_, ?_, by omega, ?_⟩
          · rw [h1, Nat.pow_succ, Nat.add_mul, Nat.mul_assoc, Nat.mul_comm 128]; omega
          · rw [e1, List.length_cons, h2]; omega
          · rw [e1]
            have hk : k - i = (k - (i + 1)) + 1 := by omega
            rw [hk, List.take_succ_cons, h3]
          · rw [e0, Nat.pow_succ, Nat.mul_assoc, Nat.mul_comm 128 2, ← Nat.mul_assoc]
            omega
        · obtain rfl : i = 9 := by omega
          omega
theorem short_some {l : List Nat} {n k : Nat} (hb : Bytes l) (h : short l = some (n, k)) : n < 18446744073709551616 ∧ k = (put n).length ∧ l.take k = put n := by
  obtain ⟨m, h1, h2, h3, -, h5⟩ := sh_some l 0 0 n k hb (by omega) h
  simp at h1 h2 h3 h5
  subst h1
  exact ⟨by omega, h2, h3⟩
theorem short_le {l : List Nat} {n k : Nat} (hb : Bytes l) (h : short l = some (n, k)) : 0 < k ∧ k ≤ 10 ∧ k ≤ l.length := by
  obtain ⟨-, h2, h3⟩ := short_some hb h
  have hl := put_length n
  have := congrArg List.length h3
  rw [List.length_take] at this
  omega
end WireP
