/-
  Digits in plain words: no program in sight.
-/
import Derived.Test.YtdoaajjmibkfeaaPlain
namespace HexP
open PlainP

/-- the digit of a value -/
def dig (d : Nat) : Nat := if d < 10 then 48 + d else 87 + d
theorem dig_lt (d : Nat) (h : d < 16) : dig d < 256 := by unfold dig; split <;> omega
/-- bytes as digits -/
def hexL : List Nat → List Nat
  | [] => []
  | b :: t => dig (b / 16) :: dig (b % 16) :: hexL t
/-- what a digit says; 16: it is none -/
def val (c : Nat) : Nat := if 48 ≤ c ∧ c ≤ 57 then c - 48 else if 97 ≤ c ∧ c ≤ 102 then c - 87 else 16
/-- digits as bytes -/
def unhexL : List Nat → Option (List Nat)
  | [] => some []
  | [_] => none
  | a :: b :: t => if val a < 16 ∧ val b < 16 then (unhexL t).map (fun r => (val a * 16 + val b) :: r) else none

theorem hexL_append : ∀ a b : List Nat, hexL (a ++ b) = hexL a ++ hexL b
  | [], _ => rfl
  | x :: t, b => by simp only [List.cons_append, hexL, hexL_append t b]
theorem hexL_length : ∀ a : List Nat, (hexL a).length = 2 * a.length
  | [] => rfl
  | x :: t => by simp only [hexL, List.length_cons, hexL_length t]; omega
theorem hexL_bytes : ∀ a : List Nat, Bytes a → Bytes (hexL a)
  | [], _ => Bytes.nil
  | x :: t, h => by
    have hx := h x List.mem_cons_self
    have ht := hexL_bytes t (fun y hy => h y (List.mem_cons_of_mem _ hy))
    intro y hy
    simp only [hexL, List.mem_cons] at hy
    rcases hy with rfl | rfl | hy
    · exact dig_lt _ (by omega)
    · exact dig_lt _ (by omega)
    · exact ht y hy
theorem val_dig (d : Nat) (h : d < 16) : val (dig d) = d := by
  unfold val dig
  split <;> split <;> (try split) <;> omega
theorem dig_val (c : Nat) (h : val c < 16) : dig (val c) = c := by
  unfold val at h ⊢
  split at h
  · rw [if_pos (by assumption), dig, if_pos (by omega)]; omega
  · split at h
    · rw [if_neg (by assumption), if_pos (by assumption), dig, if_neg (by omega)]; omega
    · omega
theorem val_le (c : Nat) : val c ≤ 16 := by
  unfold val; split
  · omega
  · split <;> omega
theorem unhexL_hexL : ∀ a : List Nat, Bytes a → unhexL (hexL a) = some a
  | [], _ => rfl
  | x :: t, h => by
    have hx := h x List.mem_cons_self
    have ht := unhexL_hexL t (fun y hy => h y (List.mem_cons_of_mem _ hy))
    simp only [hexL, unhexL]
    rw [val_dig _ (by omega), val_dig _ (by omega), if_pos ⟨by omega, by omega⟩, ht]
    simp only [Option.map_some]
    congr 2; omega
theorem hexL_unhexL : ∀ (n : Nat) (l r : List Nat), l.length ≤ n → unhexL l = some r → hexL r = l
  | _, [], r, _, h => by simp only [unhexL, Option.some.injEq] at h; subst h; rfl
  | _, [_], r, _, h => by simp [unhexL] at h
  | 0, _ :: _ :: _, _, hn, _ => by simp at hn
  | n + 1, a :: b :: t, r, hn, h => by
    simp only [unhexL] at h
    split at h
    · rename_i hv
      cases ht : unhexL t with
      | none => rw [ht] at h; simp at h
      | some q =>
        rw [ht] at h
        simp only [Option.map_some, Option.some.injEq] at h
        subst h
        have ih := hexL_unhexL n t q (by simp at hn; omega) ht
        simp only [hexL]
        have e1 : (val a * 16 + val b) / 16 = val a := by omega
        have e2 : (val a * 16 + val b) % 16 = val b := by omega
        rw [e1, e2, dig_val a hv.1, dig_val b hv.2, ih]
    · cases h
theorem unhexL_len : ∀ (n : Nat) (l r : List Nat), l.length ≤ n → unhexL l = some r → l.length = 2 * r.length := fun n l r hn h => by
  rw [← hexL_unhexL n l r hn h, hexL_length]
theorem unhexL_bytes : ∀ (n : Nat) (l r : List Nat), l.length ≤ n → unhexL l = some r → Bytes r
  | _, [], r, _, h => by simp only [unhexL, Option.some.injEq] at h; subst h; exact Bytes.nil
  | _, [_], r, _, h => by simp [unhexL] at h
  | 0, _ :: _ :: _, _, hn, _ => by simp at hn
  | n + 1, a :: b :: t, r, hn, h => by
    simp only [unhexL] at h
    split at h
    · rename_i hv
      cases ht : unhexL t with
      | none => rw [ht] at h; simp at h
      | some q =>
        rw [ht] at h
        simp only [Option.map_some, Option.some.injEq] at h
        subst h
        have ih := unhexL_bytes n t q (by simp at hn; omega) ht
        intro x hx
        rcases List.mem_cons.1 hx with rfl | hx
        · omega
        · exact ih x hx
    · cases h
theorem unhexL_odd : ∀ (n : Nat) (l : List Nat), l.length ≤ n → l.length % 2 = 1 → unhexL l = none := fun n l hn h => by
  cases hu : unhexL l with
  | none => rfl
  | some r => have := unhexL_len n l r hn hu; omega

/-- the digits by their value -/
def digs : List Nat := [48, 49, 50, 51, 52, 53, 54, 55, 56, 57, 97, 98, 99, 100, 101, 102]
theorem digs_get (d : Nat) (h : d < 16) : digs[d]? = some (dig d) := by
  have : ∀ d : Fin 16, digs[d.val]? = some (dig d.val) := by decide
  exact this ⟨d, h⟩

/-- a loop over pairs: r is laid, from i on it is to be read -/
structure Pairs (l : List Nat) (k : Nat) (r : List Nat) : Prop where
  len : r.length = k
  bytes : Bytes r
  eq : unhexL l = (unhexL (l.drop (2 * k))).map (fun q => r ++ q)
theorem Pairs.start (l : List Nat) : Pairs l 0 [] := ⟨rfl, Bytes.nil, by
  rw [Nat.mul_zero, List.drop_zero]; cases unhexL l <;> rfl⟩
theorem drop_two {l : List Nat} {k a b : Nat} (ha : l[2 * k]? = some a) (hb : l[2 * k + 1]? = some b) : l.drop (2 * k) = a :: b :: l.drop (2 * (k + 1)) := by
  obtain ⟨h1, rfl⟩ := List.getElem?_eq_some_iff.1 ha
  obtain ⟨h2, rfl⟩ := List.getElem?_eq_some_iff.1 hb
  rw [List.drop_eq_getElem_cons h1, List.drop_eq_getElem_cons h2]; rfl
theorem Pairs.next {l : List Nat} {k : Nat} {r : List Nat} (h : Pairs l k r) {a b : Nat} (ha : l[2 * k]? = some a) (hb : l[2 * k + 1]? = some b) (va : val a < 16) (vb : val b < 16) : Pairs l (k + 1) (r ++ [val a * 16 + val b]) := by
  refine ⟨by rw [List.length_append, h.len]; rfl, h.bytes.append (Bytes.one (by omega)), ?_⟩
  rw [h.eq, drop_two ha hb, unhexL, if_pos ⟨va, vb⟩, Option.map_map]
  congr 1
  funext q
  simp
theorem Pairs.none {l : List Nat} {k : Nat} {r : List Nat} (h : Pairs l k r) {a b : Nat} (ha : l[2 * k]? = some a) (hb : l[2 * k + 1]? = some b) (v : ¬ (val a < 16 ∧ val b < 16)) : unhexL l = Option.none := by
  rw [h.eq, drop_two ha hb, unhexL, if_neg v]; rfl
theorem Pairs.done {l : List Nat} {k : Nat} {r : List Nat} (h : Pairs l k r) (he : l.length = 2 * k) : unhexL l = some r := by
  rw [h.eq, List.drop_eq_nil_of_le (by omega)]
  simp [unhexL]
end HexP
