/-
  Tiers in plain words: no program in sight.
-/
import Derived.Test.YtmnggemifcjflaaPlain
namespace TiersP

/-- one tier: the items that go on, the groups that are made; the next group's number is `base` -/
def passF (t most : Nat) : Nat → List (Nat × Nat) → List (Nat × Nat) → List (Nat × Nat) × List (List Nat)
  | _, _, [] => ([], [])
  | base, grp, x :: rest =>
    if x.2 < t ∧ grp.length + 1 < most ∧ 0 < rest.length then passF t most base (grp ++ [x]) rest
    else if 0 < grp.length then ((base, x.2) :: (passF t most (base + 1) [] rest).1, (grp ++ [x]).map (·.1) :: (passF t most (base + 1) [] rest).2)
    else (x :: (passF t most base [] rest).1, (passF t most base [] rest).2)

theorem passF_nil (t most base : Nat) (grp : List (Nat × Nat)) : passF t most base grp [] = ([], []) := by rw [passF]
theorem passF_on (t most base : Nat) (grp : List (Nat × Nat)) (x : Nat × Nat) (rest : List (Nat × Nat)) (h : x.2 < t ∧ grp.length + 1 < most ∧ 0 < rest.length) : passF t most base grp (x :: rest) = passF t most base (grp ++ [x]) rest := by
  rw [passF, if_pos h]
theorem passF_group (t most base : Nat) (grp : List (Nat × Nat)) (x : Nat × Nat) (rest : List (Nat × Nat)) (h : ¬ (x.2 < t ∧ grp.length + 1 < most ∧ 0 < rest.length)) (hg : 0 < grp.length) :
    passF t most base grp (x :: rest) = ((base, x.2) :: (passF t most (base + 1) [] rest).1, (grp ++ [x]).map (·.1) :: (passF t most (base + 1) [] rest).2) := by
  rw [passF, if_neg h, if_pos hg]
theorem passF_one (t most base : Nat) (grp : List (Nat × Nat)) (x : Nat × Nat) (rest : List (Nat × Nat)) (h : ¬ (x.2 < t ∧ grp.length + 1 < most ∧ 0 < rest.length)) (hg : ¬ 0 < grp.length) :
    passF t most base grp (x :: rest) = (x :: (passF t most base [] rest).1, (passF t most base [] rest).2) := by
  rw [passF, if_neg h, if_neg hg]

/-- a tier is no longer than the one below, and it has an item where that one has -/
theorem passF_len (t most : Nat) : ∀ (rest : List (Nat × Nat)) (base : Nat) (grp : List (Nat × Nat)), (passF t most base grp rest).1.length ≤ rest.length
  | [], base, grp => by rw [passF_nil]; exact Nat.le_refl _
  | x :: rest, base, grp => by
    by_cases h : x.2 < t ∧ grp.length + 1 < most ∧ 0 < rest.length
    · rw [passF_on t most base grp x rest h]
      have := passF_len t most rest base (grp ++ [x])
      simp only [List.length_cons]; omega
    · by_cases hg : 0 < grp.length
      · rw [passF_group t most base grp x rest h hg]
        have := passF_len t most rest (base + 1) []
        simp only [List.length_cons]; omega
      · rw [passF_one t most base grp x rest h hg]
        have := passF_len t most rest base []
        simp only [List.length_cons]; omega
/-- where all levels are below t, a tier is shorter -/
theorem passF_less (t most : Nat) (hm : 2 ≤ most) : ∀ (rest : List (Nat × Nat)) (base : Nat) (grp : List (Nat × Nat)), (∀ x ∈ rest, x.2 < t) → 2 ≤ rest.length → grp.length = 0 → (passF t most base grp rest).1.length < rest.length
  | x :: y :: rest, base, grp, hl, _, hg => by
    have hx := hl x List.mem_cons_self
    rw [passF_on t most base grp x (y :: rest) ⟨hx, by omega, by simp⟩]
    have := passF_len t most (y :: rest) base (grp ++ [x])
    simp only [List.length_cons] at this ⊢; omega
/-- the levels that go on are levels that were -/
theorem passF_lev (t most M : Nat) : ∀ (rest : List (Nat × Nat)) (base : Nat) (grp : List (Nat × Nat)), (∀ x ∈ rest, x.2 ≤ M) → ∀ x ∈ (passF t most base grp rest).1, x.2 ≤ M
  | [], base, grp, _, x, hx => by rw [passF_nil] at hx; cases hx
  | y :: rest, base, grp, hl, x, hx => by
    have hr := fun z hz => hl z (List.mem_cons_of_mem _ hz)
    have hy := hl y List.mem_cons_self
    by_cases h : y.2 < t ∧ grp.length + 1 < most ∧ 0 < rest.length
    · rw [passF_on t most base grp y rest h] at hx
      exact passF_lev t most M rest base _ hr x hx
    · by_cases hg : 0 < grp.length
      · rw [passF_group t most base grp y rest h hg] at hx
        rcases List.mem_cons.1 hx with rfl | hx
        · exact hy
        · exact passF_lev t most M rest (base + 1) [] hr x hx
      · rw [passF_one t most base grp y rest h hg] at hx
        rcases List.mem_cons.1 hx with rfl | hx
        · exact hy
        · exact passF_lev t most M rest base [] hr x hx
/-- so many groups at the most -/
theorem passF_grp (t most : Nat) : ∀ (rest : List (Nat × Nat)) (base : Nat) (grp : List (Nat × Nat)), (passF t most base grp rest).2.length ≤ rest.length
  | [], base, grp => by rw [passF_nil]; exact Nat.le_refl _
  | x :: rest, base, grp => by
    by_cases h : x.2 < t ∧ grp.length + 1 < most ∧ 0 < rest.length
    · rw [passF_on t most base grp x rest h]
      have := passF_grp t most rest base (grp ++ [x])
      simp only [List.length_cons]; omega
    · by_cases hg : 0 < grp.length
      · rw [passF_group t most base grp x rest h hg]
        have := passF_grp t most rest (base + 1) []
        simp only [List.length_cons]; omega
      · rw [passF_one t most base grp x rest h hg]
        have := passF_grp t most rest base []
        simp only [List.length_cons]; omega
/-- every group takes two items or more and gives one: items and groups together do not grow -/
theorem passF_sum (t most : Nat) : ∀ (rest : List (Nat × Nat)) (base : Nat) (grp : List (Nat × Nat)), (passF t most base grp rest).1.length + (passF t most base grp rest).2.length ≤ rest.length + grp.length
  | [], base, grp => by rw [passF_nil]; simp
  | x :: rest, base, grp => by
    by_cases h : x.2 < t ∧ grp.length + 1 < most ∧ 0 < rest.length
    · rw [passF_on t most base grp x rest h]
      have := passF_sum t most rest base (grp ++ [x])
      simp only [List.length_cons, List.length_append, List.length_nil] at this ⊢; omega
    · by_cases hg : 0 < grp.length
      · rw [passF_group t most base grp x rest h hg]
        have := passF_sum t most rest (base + 1) []
        simp only [List.length_cons, List.length_nil] at this ⊢; omega
      · rw [passF_one t most base grp x rest h hg]
        have := passF_sum t most rest base []
        simp only [List.length_cons, List.length_nil] at this ⊢; omega

/-- all tiers from t on -/
def tiersF : Nat → Nat → Nat → Nat → List (Nat × Nat) → List (List Nat)
  | 0, _, _, _, _ => []
  | f + 1, most, t, base, now => if 1 < now.length then (passF t most base [] now).2 ++ tiersF f most (t + 1) (base + (passF t most base [] now).2.length) (passF t most base [] now).1 else []
def meas (t n : Nat) : Nat := 33 - t + n
theorem tiersF_more : ∀ (f g most t base : Nat) (now : List (Nat × Nat)), 2 ≤ most → (∀ x ∈ now, x.2 ≤ 32) → meas t now.length < f → meas t now.length < g → tiersF f most t base now = tiersF g most t base now
  | 0, _, _, _, _, _, _, _, h, _ => by omega
  | _, 0, _, _, _, _, _, _, _, h => by omega
  | f + 1, g + 1, most, t, base, now, hm, hl, hf, hg => by
    unfold tiersF
    by_cases h1 : 1 < now.length
    · rw [if_pos h1, if_pos h1]
      congr 1
      have hlen := passF_len t most now base []
      have hlt : meas (t + 1) (passF t most base [] now).1.length < meas t now.length := by
        unfold meas
        by_cases ht : t < 33
        · omega
        · have := passF_less t most hm now base [] (fun x hx => by have := hl x hx; omega) (by omega) rfl
          omega
      exact tiersF_more f g most (t + 1) _ _ hm (passF_lev t most 32 now base [] hl) (by omega) (by omega)
    · rw [if_neg h1, if_neg h1]
def tiersA (most t base : Nat) (now : List (Nat × Nat)) : List (List Nat) := tiersF (meas t now.length + 1) most t base now
theorem tiersA_end (most t base : Nat) (now : List (Nat × Nat)) (h : ¬ 1 < now.length) : tiersA most t base now = [] := by
  unfold tiersA tiersF; rw [if_neg h]
theorem tiersA_step (most t base : Nat) (now : List (Nat × Nat)) (hm : 2 ≤ most) (hl : ∀ x ∈ now, x.2 ≤ 32) (h : 1 < now.length) :
    tiersA most t base now = (passF t most base [] now).2 ++ tiersA most (t + 1) (base + (passF t most base [] now).2.length) (passF t most base [] now).1 ∧ meas (t + 1) (passF t most base [] now).1.length < meas t now.length := by
  have hlen := passF_len t most now base []
  have hlt : meas (t + 1) (passF t most base [] now).1.length < meas t now.length := by
    unfold meas
    by_cases ht : t < 33
    · omega
    · have := passF_less t most hm now base [] (fun x hx => by have := hl x hx; omega) (by omega) rfl
      omega
  refine ⟨?_, hlt⟩
  have e : tiersA most t base now = (passF t most base [] now).2 ++ tiersF (meas t now.length) most (t + 1) (base + (passF t most base [] now).2.length) (passF t most base [] now).1 := by
    unfold tiersA; rw [tiersF, if_pos h]
  rw [e]
  congr 1
  exact tiersF_more _ _ most (t + 1) _ _ hm (passF_lev t most 32 now base [] hl) hlt (Nat.lt_succ_self _)
end TiersP
