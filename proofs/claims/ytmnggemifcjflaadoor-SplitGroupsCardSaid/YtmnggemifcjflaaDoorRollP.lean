/-
  Plain facts on the rolling sum's window: no program in sight.
-/
import Derived.Test.YtmnggemifcjflaaDoorPlain
namespace RollP
open PlainP

/-- the window of some bytes: the last 64, noughts ahead -/
def win (s : List Nat) : List Nat := (List.replicate 64 0 ++ s).drop s.length

/-- the low sum -/
def low : List Nat → Nat
  | [] => 0
  | x :: t => (x + 31) + low t

/-- the high sum, the first place counting k -/
def hisum : Nat → List Nat → Nat
  | _, [] => 0
  | k, x :: t => k * (x + 31) + hisum (k + 1) t

def dig (l : List Nat) : Nat := low l % 65536 * 65536 + hisum 1 l % 65536

theorem win_length (s : List Nat) : (win s).length = 64 := by
  rw [win, List.length_drop, List.length_append, List.length_replicate]; omega

theorem win_snoc (s : List Nat) (b : Nat) : win (s ++ [b]) = (win s).drop 1 ++ [b] := by
  unfold win
  rw [List.length_append, ← List.append_assoc, List.length_singleton, ← List.drop_drop]
  rw [List.drop_append_of_le_length (by rw [List.length_append, List.length_replicate]; omega), List.drop_append_of_le_length]
  rw [List.length_drop, List.length_append, List.length_replicate]; omega

theorem win_nil : win [] = List.replicate 64 0 := by simp [win]

theorem low_append (a b : List Nat) : low (a ++ b) = low a + low b := by
  induction a with
  | nil => simp [low]
  | cons x t ih => simp [low, ih]; omega

theorem hs_succ (k : Nat) (l : List Nat) : hisum (k + 1) l = hisum k l + low l := by
  induction l generalizing k with
  | nil => simp [hisum, low]
  | cons x t ih => simp only [hisum, low, ih, Nat.add_mul]; omega

theorem hs_append (k : Nat) (a b : List Nat) : hisum k (a ++ b) = hisum k a + hisum (k + a.length) b := by
  induction a generalizing k with
  | nil => simp [hisum]
  | cons x t ih => simp only [List.cons_append, hisum, ih, List.length_cons]; rw [show k + 1 + t.length = k + (t.length + 1) by omega]; omega

/-- a byte goes in, the oldest out -/
theorem low_roll (a b : Nat) (t : List Nat) : low (t ++ [b]) + a = low (a :: t) + b := by
  rw [low_append]; simp only [low]; omega
theorem hs_roll (a b : Nat) (t : List Nat) (h : (a :: t).length = 64) : hisum 1 (t ++ [b]) + low (a :: t) = hisum 1 (a :: t) + 64 * (b + 31) := by
  have h1 : t.length = 63 := by simpa using h
  rw [hs_append, h1]; simp only [hisum, low]; rw [hs_succ 1 t]; omega


theorem dig_roll (a b : Nat) (t : List Nat) (h : (a :: t).length = 64) :
    (dig (t ++ [b]) : Int) = ((dig (a :: t) : Int) / 65536 + (b : Int) - (a : Int)) % 65536 * 65536 + ((dig (a :: t) : Int) % 65536 - (dig (a :: t) : Int) / 65536 + 64 * ((b : Int) + 31)) % 65536 := by
  have h1 := low_roll a b t
  have h2 := hs_roll a b t h
  unfold dig
  generalize low (t ++ [b]) = A at *
  generalize low (a :: t) = B at *
  generalize hisum 1 (t ++ [b]) = C at *
  generalize hisum 1 (a :: t) = D at *
  have e1 : ((B % 65536 * 65536 + D % 65536 : Nat) : Int) / 65536 = (B : Int) % 65536 := by omega
  have e2 : ((B % 65536 * 65536 + D % 65536 : Nat) : Int) % 65536 = (D : Int) % 65536 := by omega
  rw [e1, e2]
  have e3 : ((B : Int) % 65536 + (b : Int) - (a : Int)) % 65536 = (A : Int) % 65536 := by omega
  have e4 : ((D : Int) % 65536 - (B : Int) % 65536 + 64 * ((b : Int) + 31)) % 65536 = (C : Int) % 65536 := by omega
  rw [e3, e4]
  omega

theorem win_get (s : List Nat) (k : Nat) (hk : k < 64) : (win s)[k]? = some (if s.length + k < 64 then 0 else s.getD (s.length + k - 64) 0) := by
  unfold win
  rw [List.getElem?_drop]
  by_cases h : s.length + k < 64
  · rw [if_pos h, List.getElem?_append_left (by rw [List.length_replicate]; omega), List.getElem?_replicate, if_pos h]
  · rw [if_neg h, List.getElem?_append_right (by rw [List.length_replicate]; omega), List.length_replicate, List.getD_eq_getElem?_getD]
    rw [List.getElem?_eq_getElem (by omega)]; rfl

theorem take_succ (l : List Nat) (k v : Nat) (h : l[k]? = some v) : l.take (k + 1) = l.take k ++ [v] := by
  rw [List.take_add_one, h]; rfl
theorem low_take (l : List Nat) (k v : Nat) (h : l[k]? = some v) : low (l.take (k + 1)) = low (l.take k) + (v + 31) := by
  rw [take_succ l k v h, low_append]; rfl
theorem hs_take (l : List Nat) (k v : Nat) (h : l[k]? = some v) : hisum 1 (l.take (k + 1)) = hisum 1 (l.take k) + (k + 1) * (v + 31) := by
  have hl : k < l.length := by rcases Nat.lt_or_ge k l.length with h' | h'; exact h'; rw [List.getElem?_eq_none h'] at h; cases h
  rw [take_succ l k v h, hs_append, List.length_take, Nat.min_eq_left (by omega)]
  simp only [hisum]; rw [Nat.add_comm 1 k]; omega

theorem low_le (l : List Nat) (h : Bytes l) : low l ≤ l.length * 286 := by
  induction l with
  | nil => simp [low]
  | cons x t ih =>
    have := ih (fun y hy => h y (List.mem_cons_of_mem _ hy))
    have := h x List.mem_cons_self
    simp only [low, List.length_cons]; omega
theorem hs_le (l : List Nat) (h : Bytes l) (k : Nat) (hk : k + l.length ≤ 65) : hisum k l ≤ l.length * 18590 := by
  induction l generalizing k with
  | nil => simp [hisum]
  | cons x t ih =>
    simp only [List.length_cons] at hk
    have h1 := ih (fun y hy => h y (List.mem_cons_of_mem _ hy)) (k + 1) (by omega)
    have h2 := h x List.mem_cons_self
    have h3 : k * (x + 31) ≤ 65 * 286 := Nat.mul_le_mul (by omega) (by omega)
    simp only [hisum, List.length_cons]; omega
theorem bytes_win (s : List Nat) (h : Bytes s) : Bytes (win s) := by
  intro x hx
  have := List.mem_of_mem_drop hx
  rw [List.mem_append] at this
  rcases this with h1 | h1
  · rw [List.mem_replicate] at h1; omega
  · exact h x h1

/-- the window of a text is that of its last 64 bytes, or more -/
theorem win_drop (s : List Nat) (n : Nat) (h : n + 64 ≤ s.length) : win (s.drop n) = win s := by
  apply List.ext_getElem?
  intro k
  rcases Nat.lt_or_ge k 64 with hk | hk
  · rw [win_get _ k hk, win_get _ k hk, List.length_drop, if_neg (by omega), if_neg (by omega)]
    congr 1
    rw [List.getD_eq_getElem?_getD, List.getD_eq_getElem?_getD, List.getElem?_drop]
    congr 2; omega
  · rw [List.getElem?_eq_none (by rw [win_length]; exact hk), List.getElem?_eq_none (by rw [win_length]; exact hk)]

theorem win_last (s : List Nat) : win (s.drop (s.length - 64)) = win s := by
  rcases Nat.lt_or_ge s.length 64 with h | h
  · rw [show s.length - 64 = 0 by omega]; rfl
  · exact win_drop s _ (by omega)

/-- only the last 64 bytes count -/
theorem win_append (a s : List Nat) (h : 64 ≤ s.length) : win (a ++ s) = win s := by
  have := win_drop (a ++ s) a.length (by rw [List.length_append]; omega)
  rw [List.drop_left] at this; exact this.symm

theorem win_app (x y : List Nat) : (win x ++ y).drop y.length = win (x ++ y) := by
  unfold win
  rw [← List.drop_append_of_le_length (by rw [List.length_append, List.length_replicate]; omega), List.drop_drop, List.length_append, List.append_assoc]
theorem take_cut (s : List Nat) (a m : Nat) : s.take a ++ (s.drop a).take m = s.take (a + m) := by
  rw [List.take_add]

theorem low_set (l : List Nat) (i x y : Nat) (h : l[i]? = some x) : low (l.set i y) + x = low l + y := by
  induction l generalizing i with
  | nil => simp at h
  | cons a t ih =>
    cases i with
    | zero => simp only [List.getElem?_cons_zero, Option.some.injEq] at h; subst h; simp only [List.set_cons_zero, low]; omega
    | succ i => simp only [List.getElem?_cons_succ] at h; have := ih i h; simp only [List.set_cons_succ, low]; omega

theorem win_short (s : List Nat) (h : s.length ≤ 64) : win s = List.replicate (64 - s.length) 0 ++ s := by
  unfold win
  rw [List.drop_append_of_le_length (by rw [List.length_replicate]; omega), List.drop_replicate]

theorem win_zeros (n : Nat) : win (List.replicate n 0) = win [] := by
  unfold win
  rw [List.replicate_append_replicate, List.drop_replicate, List.length_replicate, Nat.add_sub_cancel]
  rfl

/-- one byte of the window that is another one changes the digest -/
theorem dig_unlike (s : List Nat) (i x y : Nat) (hs1 : s.length ≤ 64) (hb : Bytes s) (h : s[i]? = some x) (hy : y < 256) (hne : x ≠ y) : dig (win (s.set i y)) ≠ dig (win s) := by
  have h1 := low_set s i x y h
  have h2 := low_le s hb
  have h3 : low (win (s.set i y)) = low (List.replicate (64 - s.length) 0) + low (s.set i y) := by
    rw [win_short _ (by rw [List.length_set]; exact hs1), low_append, List.length_set]
  have h4 : low (win s) = low (List.replicate (64 - s.length) 0) + low s := by rw [win_short _ hs1, low_append]
  have h5 := low_le (List.replicate (64 - s.length) 0) (by intro z hz; rw [List.mem_replicate] at hz; omega)
  rw [List.length_replicate] at h5
  have hxb : x < 256 := hb x (List.mem_of_getElem? h)
  intro he
  unfold dig at he
  have a1 : low (win s) < 65536 := by omega
  have a2 : low (win (s.set i y)) < 65536 := by omega
  omega

end RollP
