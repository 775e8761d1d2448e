/-
  Noughts are cut by length alone.
-/
import Derived.Test.YtmnggemifcjflaaDoorSplitP
import Derived.KernelRfl
namespace SplitP
open PlainP

theorem ones_zeros : OnesP.ones (RollP.dig (RollP.win [])) = 0 := by decide +kernel
theorem ends_zeros (p : Plan) (hb : 1 ≤ p.bits) (k : Nat) : ends p (List.replicate k 0) = if p.most ≤ k then some 0 else none := by
  unfold ends
  rw [RollP.win_zeros, ones_zeros, if_neg (by omega), List.length_replicate]
theorem cutF_zeros (p : Plan) (hb : 1 ≤ p.bits) (hm : 0 < p.most) : ∀ n a, a < p.most → cutF p (List.replicate a 0) (List.replicate n 0) = (List.replicate ((a + n) / p.most) (p.most, 0), List.replicate ((a + n) % p.most) 0)
  | 0, a, h => by
    rw [List.replicate_zero, cutF_nil, Nat.add_zero, Nat.div_eq_of_lt h, Nat.mod_eq_of_lt h, List.replicate_zero]
  | n + 1, a, h => by
    rw [List.replicate_succ]
    have e1 : (List.replicate a 0 : List Nat) ++ [0] = List.replicate (a + 1) 0 := by rw [List.replicate_succ']
    by_cases hc : p.most ≤ a + 1
    · have hl : a + 1 = p.most := by omega
      have hends : ends p (List.replicate a 0 ++ [0]) = some 0 := by rw [e1, ends_zeros p hb, if_pos hc]
      have ih := cutF_zeros p hb hm n 0 hm
      rw [List.replicate_zero] at ih
      rw [cutF_yes p _ 0 _ 0 hends, ih, List.length_replicate, hl, show a + (n + 1) = n + p.most by omega, Nat.add_div_right _ hm, Nat.add_mod_right, Nat.zero_add]
      rw [List.replicate_succ]
    · have hends : ends p (List.replicate a 0 ++ [0]) = none := by rw [e1, ends_zeros p hb, if_neg hc]
      rw [cutF_no p _ 0 _ hends, e1, cutF_zeros p hb hm n (a + 1) (by omega), show a + 1 + n = a + (n + 1) by omega]
theorem cutAll_zeros (p : Plan) (hb : 1 ≤ p.bits) (hm : 0 < p.most) (n : Nat) : cutAll p (List.replicate n 0) = List.replicate (n / p.most) (p.most, 0) ++ lastC (List.replicate (n % p.most) 0) := by
  have h := cutF_zeros p hb hm n 0 hm
  rw [List.replicate_zero, Nat.zero_add] at h
  unfold cutAll
  rw [h]
end SplitP
