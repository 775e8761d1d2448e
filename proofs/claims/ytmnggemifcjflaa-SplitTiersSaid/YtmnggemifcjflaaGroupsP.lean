/-
  The tree that Tiers makes: every item once, in order; how large its groups are. No program in sight.
-/
import Derived.Test.YtmnggemifcjflaaTiersP
namespace TiersP

def LaysOf (P : Nat → List Nat → Prop) : List Nat → List Nat → Prop
  | [], l => l = []
  | x :: xs, l => ∃ a b, l = a ++ b ∧ P x a ∧ LaysOf P xs b
/-- the items under an item of the tree T over n leaves, no deeper than h -/
def lvOK (T : List (List Nat)) (n : Nat) : Nat → Nat → List Nat → Prop
  | 0, x, l => x < n ∧ l = [x]
  | h + 1, x, l => (x < n ∧ l = [x]) ∨ (n ≤ x ∧ ∃ ks, T[x - n]? = some ks ∧ (∀ k ∈ ks, k < x) ∧ LaysOf (fun k a => lvOK T n h k a) ks l)

theorem LaysOf.mono {P Q : Nat → List Nat → Prop} (h : ∀ x l, P x l → Q x l) : ∀ (xs l : List Nat), LaysOf P xs l → LaysOf Q xs l
  | [], _, hl => hl
  | x :: xs, _, ⟨a, b, e, h1, h2⟩ => ⟨a, b, e, h x a h1, LaysOf.mono h xs b h2⟩
theorem LaysOf.append {P : Nat → List Nat → Prop} : ∀ (xs ys a b : List Nat), LaysOf P xs a → LaysOf P ys b → LaysOf P (xs ++ ys) (a ++ b)
  | [], ys, a, b, h1, h2 => by
    have h1 : a = [] := h1
    subst h1; exact h2
  | x :: xs, ys, a, b, ⟨c, d, e, h1, h2⟩, h3 => ⟨c, d ++ b, by rw [e, List.append_assoc], h1, LaysOf.append xs ys d b h2 h3⟩
theorem LaysOf.split {P : Nat → List Nat → Prop} : ∀ (xs ys l : List Nat), LaysOf P (xs ++ ys) l → ∃ a b, l = a ++ b ∧ LaysOf P xs a ∧ LaysOf P ys b
  | [], ys, l, h => ⟨[], l, rfl, rfl, h⟩
  | x :: xs, ys, l, ⟨c, d, e, h1, h2⟩ => by
    obtain ⟨a, b, e2, h3, h4⟩ := LaysOf.split xs ys d h2
    exact ⟨c ++ a, b, by rw [e, e2, List.append_assoc], ⟨c, a, rfl, h1, h3⟩, h4⟩
theorem lvOK_up (T : List (List Nat)) (n : Nat) : ∀ (h x : Nat) (l : List Nat), lvOK T n h x l → lvOK T n (h + 1) x l
  | 0, _, _, hl => .inl hl
  | _ + 1, _, _, .inl hl => .inl hl
  | h + 1, _, l, .inr ⟨h1, ks, h2, h3, h4⟩ => .inr ⟨h1, ks, h2, h3, LaysOf.mono (fun x l => lvOK_up T n h x l) ks l h4⟩
theorem lvOK_more (T S : List (List Nat)) (n : Nat) : ∀ (h x : Nat) (l : List Nat), lvOK T n h x l → lvOK (T ++ S) n h x l
  | 0, _, _, hl => hl
  | _ + 1, _, _, .inl hl => .inl hl
  | h + 1, _, l, .inr ⟨h1, ks, h2, h3, h4⟩ => .inr ⟨h1, ks, by rw [List.getElem?_append_left (List.getElem?_eq_some_iff.1 h2).1]; exact h2, h3, LaysOf.mono (fun x l => lvOK_more T S n h x l) ks l h4⟩

theorem passF_lays (t most n h : Nat) : ∀ (rest grp : List (Nat × Nat)) (T : List (List Nat)) (base : Nat) (l : List Nat), base = n + T.length → (rest = [] → grp = []) → (∀ x ∈ grp ++ rest, x.1 < base) → LaysOf (lvOK T n h) ((grp ++ rest).map (·.1)) l →
    LaysOf (lvOK (T ++ (passF t most base grp rest).2) n (h + 1)) ((passF t most base grp rest).1.map (·.1)) l ∧ ∀ x ∈ (passF t most base grp rest).1, x.1 < base + (passF t most base grp rest).2.length
  | [], grp, T, base, l, hb, h0, hx, hl => by
    rw [h0 rfl] at hl
    rw [passF_nil]
    exact ⟨hl, fun x hx => by cases hx⟩
  | y :: rest, grp, T, base, l, hb, h0, hx, hl => by
    by_cases hc : y.2 < t ∧ grp.length + 1 < most ∧ 0 < rest.length
    · rw [passF_on t most base grp y rest hc]
      have e : grp ++ y :: rest = (grp ++ [y]) ++ rest := by simp
      rw [e] at hx hl
      exact passF_lays t most n h rest (grp ++ [y]) T base l hb (fun e => by rw [e] at hc; exact absurd hc.2.2 (by simp)) hx hl
    · have e : grp ++ y :: rest = (grp ++ [y]) ++ rest := by simp
      rw [e] at hx hl
      rw [List.map_append] at hl
      obtain ⟨a, b, rfl, ha, hr⟩ := LaysOf.split _ _ _ hl
      by_cases hg : 0 < grp.length
      · rw [passF_group t most base grp y rest hc hg]
        obtain ⟨ks, hks⟩ : ∃ ks, (grp ++ [y]).map (·.1) = ks := ⟨_, rfl⟩
        rw [hks] at ha ⊢
        have hlen : (T ++ [ks]).length = T.length + 1 := by simp
        have ih := passF_lays t most n h rest [] (T ++ [ks]) (base + 1) b (by omega) (fun _ => rfl) (fun x hx' => Nat.lt_succ_of_lt (hx x (List.mem_append_right _ hx'))) (LaysOf.mono (fun x l => lvOK_more T [ks] n h x l) _ _ hr)
        have e2 : T ++ [ks] ++ (passF t most (base + 1) [] rest).2 = T ++ (ks :: (passF t most (base + 1) [] rest).2) := by simp
        rw [e2] at ih
        refine ⟨⟨a, b, rfl, .inr ⟨(show n ≤ base from by omega), ks, ?_, ?_, LaysOf.mono (fun x l => lvOK_more T _ n h x l) _ _ ha⟩, ih.1⟩, fun x hx' => ?_⟩
        · show (T ++ ks :: _)[base - n]? = some ks
          rw [show base - n = T.length by omega, List.getElem?_append_right (Nat.le_refl _), Nat.sub_self]; rfl
        · intro k hk
          rw [← hks] at hk
          obtain ⟨z, hz, rfl⟩ := List.mem_map.1 hk
          exact hx z (List.mem_append_left _ hz)
        · simp only [List.length_cons]
          rcases List.mem_cons.1 hx' with rfl | hx'
          · show base < _; omega
          · have := ih.2 x hx'; omega
      · obtain rfl : grp = [] := List.eq_nil_of_length_eq_zero (by omega)
        rw [passF_one t most base [] y rest hc hg]
        have ih := passF_lays t most n h rest [] T base b hb (fun _ => rfl) (fun x hx' => hx x (List.mem_append_right _ hx')) hr
        obtain ⟨a1, a2, rfl, h1, h2⟩ := ha
        refine ⟨⟨a1, a2 ++ b, by simp, lvOK_up _ n h _ _ (lvOK_more T _ n h _ _ h1), ?_⟩, fun x hx' => ?_⟩
        · have h2 : a2 = [] := h2
          subst h2; exact ih.1
        · rcases List.mem_cons.1 hx' with rfl | hx'
          · have := hx x (by simp); omega
          · exact ih.2 x hx'
theorem passF_pos (t most : Nat) : ∀ (rest : List (Nat × Nat)) (base : Nat) (grp : List (Nat × Nat)), rest ≠ [] → 0 < (passF t most base grp rest).1.length
  | [], _, _, h => absurd rfl h
  | x :: rest, base, grp, _ => by
    by_cases h : x.2 < t ∧ grp.length + 1 < most ∧ 0 < rest.length
    · rw [passF_on t most base grp x rest h]
      exact passF_pos t most rest base _ (fun e => by rw [e] at h; exact absurd h.2.2 (by simp))
    · by_cases hg : 0 < grp.length
      · rw [passF_group t most base grp x rest h hg]; exact Nat.succ_pos _
      · rw [passF_one t most base grp x rest h hg]; exact Nat.succ_pos _
/-- where one item goes on, it is the last group -/
theorem passF_last (t most : Nat) : ∀ (rest : List (Nat × Nat)) (base : Nat) (grp : List (Nat × Nat)), rest ≠ [] → 1 < grp.length + rest.length → (passF t most base grp rest).1.length = 1 → ∃ lv ks, passF t most base grp rest = ([(base, lv)], [ks])
  | [], _, _, h, _, _ => absurd rfl h
  | x :: rest, base, grp, _, h1, h2 => by
    by_cases h : x.2 < t ∧ grp.length + 1 < most ∧ 0 < rest.length
    · rw [passF_on t most base grp x rest h] at h2 ⊢
      exact passF_last t most rest base _ (fun e => by rw [e] at h; exact absurd h.2.2 (by simp)) (by simp at h1 ⊢; omega) h2
    · have hr : ∀ b, (passF t most b [] rest).1.length = 0 → rest = [] := fun b hb => by
        by_cases e : rest = []
        · exact e
        · have := passF_pos t most rest b [] e; omega
      by_cases hg : 0 < grp.length
      · rw [passF_group t most base grp x rest h hg] at h2 ⊢
        simp only [List.length_cons] at h2
        have e := hr (base + 1) (by omega)
        subst e
        rw [passF_nil]
        exact ⟨_, _, rfl⟩
      · rw [passF_one t most base grp x rest h hg] at h2
        simp only [List.length_cons] at h2
        have e := hr base (by omega)
        subst e
        simp at h1; omega
/-- .. where all levels are below t, half as many -/
theorem passF_half (t most : Nat) (hm : 2 ≤ most) : ∀ (rest : List (Nat × Nat)) (base : Nat) (grp : List (Nat × Nat)), (∀ x ∈ rest, x.2 < t) → (passF t most base grp rest).1.length * 2 ≤ grp.length + rest.length + 1
  | [], base, grp, _ => by rw [passF_nil]; simp
  | x :: rest, base, grp, hl => by
    have hr := fun z hz => hl z (List.mem_cons_of_mem _ hz)
    by_cases h : x.2 < t ∧ grp.length + 1 < most ∧ 0 < rest.length
    · rw [passF_on t most base grp x rest h]
      have := passF_half t most hm rest base (grp ++ [x]) hr
      simp only [List.length_append, List.length_cons, List.length_nil] at this ⊢; omega
    · by_cases hg : 0 < grp.length
      · rw [passF_group t most base grp x rest h hg]
        have := passF_half t most hm rest (base + 1) [] hr
        simp only [List.length_cons, List.length_nil] at this ⊢; omega
      · rw [passF_one t most base grp x rest h hg]
        have hx := hl x List.mem_cons_self
        obtain rfl : rest = [] := List.eq_nil_of_length_eq_zero (by omega)
        rw [passF_nil]
        simp
/-- items in, items out -/
def total (os : List (List Nat)) : Nat := (os.map List.length).sum
theorem total_append (a b : List (List Nat)) : total (a ++ b) = total a + total b := by unfold total; rw [List.map_append, List.sum_append]
theorem total_cons (a : List Nat) (b : List (List Nat)) : total (a :: b) = a.length + total b := by unfold total; rw [List.map_cons, List.sum_cons]
theorem passF_count (t most : Nat) : ∀ (rest : List (Nat × Nat)) (base : Nat) (grp : List (Nat × Nat)), (rest = [] → grp = []) → (passF t most base grp rest).1.length + total (passF t most base grp rest).2 = grp.length + rest.length + (passF t most base grp rest).2.length
  | [], base, grp, h0 => by rw [passF_nil, h0 rfl]; rfl
  | x :: rest, base, grp, _ => by
    by_cases h : x.2 < t ∧ grp.length + 1 < most ∧ 0 < rest.length
    · rw [passF_on t most base grp x rest h]
      have := passF_count t most rest base (grp ++ [x]) (fun e => by rw [e] at h; exact absurd h.2.2 (by simp))
      simp only [List.length_append, List.length_cons, List.length_nil] at this ⊢; omega
    · by_cases hg : 0 < grp.length
      · rw [passF_group t most base grp x rest h hg]
        have := passF_count t most rest (base + 1) [] (fun _ => rfl)
        simp only [List.length_cons, List.length_nil, total_cons, List.length_map, List.length_append] at this ⊢; omega
      · rw [passF_one t most base grp x rest h hg]
        have := passF_count t most rest base [] (fun _ => rfl)
        simp only [List.length_cons, List.length_nil] at this ⊢; omega
theorem passF_sizes (t most : Nat) : ∀ (rest : List (Nat × Nat)) (base : Nat) (grp : List (Nat × Nat)), grp.length < most → ∀ ks ∈ (passF t most base grp rest).2, 2 ≤ ks.length ∧ ks.length ≤ most
  | [], base, grp, _, ks, hk => by rw [passF_nil] at hk; cases hk
  | x :: rest, base, grp, hgm, ks, hk => by
    by_cases h : x.2 < t ∧ grp.length + 1 < most ∧ 0 < rest.length
    · rw [passF_on t most base grp x rest h] at hk
      exact passF_sizes t most rest base (grp ++ [x]) (by simp; exact h.2.1) ks hk
    · by_cases hg : 0 < grp.length
      · rw [passF_group t most base grp x rest h hg] at hk
        rcases List.mem_cons.1 hk with rfl | hk
        · simp; omega
        · exact passF_sizes t most rest (base + 1) [] (by simp; omega) ks hk
      · rw [passF_one t most base grp x rest h hg] at hk
        exact passF_sizes t most rest base [] (by simp; omega) ks hk

/-- the whole tree -/
theorem tiersF_lays (most n : Nat) (hm : 2 ≤ most) : ∀ (f h : Nat) (now : List (Nat × Nat)) (T : List (List Nat)) (base : Nat) (l : List Nat), meas (h + 1) now.length < f → (∀ x ∈ now, x.2 ≤ 32) → base = n + T.length → (∀ x ∈ now, x.1 < base) → LaysOf (lvOK T n h) (now.map (·.1)) l → 1 < now.length →
    (now.length - 1) * 2 ^ (h + 1 - 33) ≤ 2000 → tiersF f most (h + 1) base now ≠ [] ∧ ∃ h', h' ≤ 50 ∧ lvOK (T ++ tiersF f most (h + 1) base now) n h' (base + (tiersF f most (h + 1) base now).length - 1) l
  | 0, _, _, _, _, _, hf, _, _, _, _, _, _ => by omega
  | f + 1, h, now, T, base, l, hf, h32, hb, hlt, hl, h1, hpow => by
    have hne : now ≠ [] := fun e => by rw [e] at h1; simp at h1
    obtain ⟨hlay, hnum⟩ := passF_lays (h + 1) most n h now [] T base l hb (fun e => absurd e hne) hlt hl
    have hlev := passF_lev (h + 1) most 32 now base [] h32
    have hlen := passF_len (h + 1) most now base []
    have hpos := passF_pos (h + 1) most now base [] hne
    have hlast := passF_last (h + 1) most now base [] hne (by simpa using h1)
    have hhalf : 33 ≤ h + 1 → (passF (h + 1) most base [] now).1.length * 2 ≤ now.length + 1 := fun h33 => by
      have := passF_half (h + 1) most hm now base [] (fun x hx => by have := h32 x hx; omega)
      simpa using this
    have hless : 33 ≤ h + 1 → (passF (h + 1) most base [] now).1.length < now.length := fun h33 => passF_less (h + 1) most hm now base [] (fun x hx => by have := h32 x hx; omega) (by omega) rfl
    have hh : h ≤ 42 := by
      by_cases h33 : h ≤ 42
      · exact h33
      · have h2 : 2 ^ 11 ≤ 2 ^ (h + 1 - 33) := Nat.pow_le_pow_right (by omega) (by omega)
        have h3 : 1 * 2 ^ (h + 1 - 33) ≤ (now.length - 1) * 2 ^ (h + 1 - 33) := Nat.mul_le_mul_right _ (by omega)
        omega
    rw [tiersF, if_pos h1]
    generalize hP : passF (h + 1) most base [] now = P at *
    obtain ⟨nx, os⟩ := P
    dsimp only at *
    by_cases hn1 : nx.length = 1
    · obtain ⟨lv, ks, e⟩ := hlast hn1
      injection e with e1 e2
      subst e1; subst e2
      have hend : tiersF f most (h + 1 + 1) (base + [ks].length) [(base, lv)] = [] := by
        cases f with
        | zero => rfl
        | succ f => rw [tiersF, if_neg (by simp)]
      rw [hend, List.append_nil]
      refine ⟨by simp, h + 1, by omega, ?_⟩
      obtain ⟨a, b, rfl, q1, q2⟩ := hlay
      have q2 : b = [] := q2
      subst q2
      rw [List.append_nil]
      exact q1
    · have hpow2 : (nx.length - 1) * 2 ^ (h + 1 + 1 - 33) ≤ 2000 := by
        by_cases h33 : 33 ≤ h + 1
        · have := hhalf h33
          rw [show h + 1 + 1 - 33 = h + 1 - 33 + 1 by omega, Nat.pow_succ]
          have h4 : (nx.length - 1) * 2 * 2 ^ (h + 1 - 33) ≤ (now.length - 1) * 2 ^ (h + 1 - 33) := Nat.mul_le_mul_right _ (by omega)
          have h5 : (nx.length - 1) * (2 ^ (h + 1 - 33) * 2) = (nx.length - 1) * 2 * 2 ^ (h + 1 - 33) := by rw [Nat.mul_assoc, Nat.mul_comm 2]
          omega
        · rw [show h + 1 + 1 - 33 = 0 by omega]
          rw [show h + 1 - 33 = 0 by omega] at hpow
          omega
      have hmeas : meas (h + 1 + 1) nx.length < f := by
        unfold meas at *
        by_cases h33 : 33 ≤ h + 1
        · have := hless h33; omega
        · omega
      obtain ⟨r1, h', r2, r3⟩ := tiersF_lays most n hm f (h + 1) nx (T ++ os) (base + os.length) l hmeas hlev (by rw [List.length_append]; omega) hnum hlay (by omega) hpow2
      refine ⟨fun e => r1 (List.append_eq_nil_iff.1 e).2, h', r2, ?_⟩
      rw [List.append_assoc] at r3
      rw [List.length_append, show base + (os.length + (tiersF f most (h + 1 + 1) (base + os.length) nx).length) - 1 = base + os.length + (tiersF f most (h + 1 + 1) (base + os.length) nx).length - 1 by omega]
      exact r3
theorem tiersF_count (most : Nat) (hm : 2 ≤ most) : ∀ (f t : Nat) (now : List (Nat × Nat)) (base : Nat), meas t now.length < f → (∀ x ∈ now, x.2 ≤ 32) → 0 < now.length → total (tiersF f most t base now) + 1 = now.length + (tiersF f most t base now).length ∧ ∀ ks ∈ tiersF f most t base now, 2 ≤ ks.length ∧ ks.length ≤ most
  | 0, _, _, _, hf, _, _ => by omega
  | f + 1, t, now, base, hf, h32, h0 => by
    rw [tiersF]
    by_cases h1 : 1 < now.length
    · rw [if_pos h1]
      have hne : now ≠ [] := fun e => by rw [e] at h1; simp at h1
      have hc := passF_count t most now base [] (fun e => absurd e hne)
      have hp := passF_pos t most now base [] hne
      have hlen := passF_len t most now base []
      have hsz := passF_sizes t most now base [] (by simp; omega)
      have hmeas : meas (t + 1) (passF t most base [] now).1.length < f := by
        unfold meas at *
        by_cases h33 : 33 ≤ t
        · have := passF_less t most hm now base [] (fun x hx => by have := h32 x hx; omega) (by omega) rfl; omega
        · omega
      obtain ⟨i1, i2⟩ := tiersF_count most hm f (t + 1) (passF t most base [] now).1 (base + (passF t most base [] now).2.length) hmeas (passF_lev t most 32 now base [] h32) hp
      rw [total_append, List.length_append]
      refine ⟨by simp only [List.length_nil] at hc; omega, fun ks hk => ?_⟩
      rcases List.mem_append.1 hk with hk | hk
      · exact hsz ks hk
      · exact i2 ks hk
    · rw [if_neg h1]
      exact ⟨by show 0 + 1 = _; simp; omega, fun ks hk => by cases hk⟩
theorem lays_range (T : List (List Nat)) (n : Nat) : ∀ (k : Nat) (lv : List Nat), lv.length + k ≤ n → LaysOf (lvOK T n 0) (((List.range' k lv.length).zip lv).map (·.1)) (List.range' k lv.length)
  | k, [], _ => rfl
  | k, x :: lv, h => by
    simp only [List.length_cons] at h ⊢
    rw [List.range'_succ]
    exact ⟨[k], List.range' (k + 1) lv.length, rfl, ⟨(show k < n from by omega), rfl⟩, lays_range T n (k + 1) lv (by omega)⟩

/-- how full nodes are where no level is above 0 -/
def fullF (most : Nat) : Nat → Nat → List Nat
  | 0, _ => []
  | f + 1, left => if 1 < left then min left most :: fullF most f (left - most) else []
def zF (most : Nat) : Nat → Nat → List Nat
  | 0, _ => []
  | f + 1, n => if 1 < n then fullF most n n ++ zF most f ((n + most - 1) / most) else []
theorem fullF_more (most : Nat) (hm : 0 < most) : ∀ (f g left : Nat), left ≤ f → left ≤ g → fullF most f left = fullF most g left
  | 0, 0, _, _, _ => rfl
  | 0, g + 1, left, h, _ => by rw [fullF, fullF, if_neg (by omega)]
  | f + 1, 0, left, _, h => by rw [fullF, fullF, if_neg (by omega)]
  | f + 1, g + 1, left, h1, h2 => by
    rw [fullF, fullF]
    by_cases h : 1 < left
    · rw [if_pos h, if_pos h, fullF_more most hm f g (left - most) (by omega) (by omega)]
    · rw [if_neg h, if_neg h]
theorem passF_zero (t most : Nat) (hm : 2 ≤ most) : ∀ (rest : List (Nat × Nat)) (base : Nat) (grp : List (Nat × Nat)), (∀ x ∈ rest, x.2 < t) → grp.length < most → (rest = [] → grp = []) →
    (passF t most base grp rest).2.map List.length = fullF most (grp.length + rest.length) (grp.length + rest.length) ∧ (passF t most base grp rest).1.length = (grp.length + rest.length + most - 1) / most
  | [], base, grp, _, _, h0 => by
    rw [passF_nil, h0 rfl]
    refine ⟨rfl, ?_⟩
    show 0 = (0 + 0 + most - 1) / most
    rw [Nat.div_eq_of_lt (by omega)]
  | x :: rest, base, grp, hl, hgm, _ => by
    have hr := fun z hz => hl z (List.mem_cons_of_mem _ hz)
    have hx := hl x List.mem_cons_self
    by_cases h : x.2 < t ∧ grp.length + 1 < most ∧ 0 < rest.length
    · rw [passF_on t most base grp x rest h]
      have := passF_zero t most hm rest base (grp ++ [x]) hr (by simp; exact h.2.1) (fun e => by rw [e] at h; exact absurd h.2.2 (by simp))
      rw [List.length_append, List.length_cons, List.length_nil] at this
      rw [List.length_cons, show grp.length + (rest.length + 1) = grp.length + (0 + 1) + rest.length by omega]
      exact this
    · by_cases hg : 0 < grp.length
      · rw [passF_group t most base grp x rest h hg]
        obtain ⟨i1, i2⟩ := passF_zero t most hm rest (base + 1) [] hr (by simp; omega) (fun _ => rfl)
        simp only [List.length_nil, Nat.zero_add] at i1 i2
        rw [List.length_cons, show grp.length + (rest.length + 1) = (grp.length + rest.length) + 1 by omega]
        refine ⟨?_, ?_⟩
        · rw [List.map_cons, i1, List.length_map, List.length_append, List.length_cons, List.length_nil, fullF, if_pos (by omega)]
          by_cases hk : grp.length + 1 = most
          · rw [show min (grp.length + rest.length + 1) most = grp.length + (0 + 1) by omega, show grp.length + rest.length + 1 - most = rest.length by omega, fullF_more most (by omega) rest.length (grp.length + rest.length) rest.length (Nat.le_refl _) (by omega)]
          · obtain rfl : rest = [] := List.eq_nil_of_length_eq_zero (by omega)
            simp only [List.length_nil, Nat.add_zero]
            rw [show min (grp.length + 1) most = grp.length + (0 + 1) by omega, show grp.length + 1 - most = 0 by omega, fullF_more most (by omega) grp.length 0 0 (by omega) (Nat.le_refl _)]
        · show (passF t most (base + 1) [] rest).1.length + 1 = _
          rw [i2]
          by_cases hk : grp.length + 1 = most
          · rw [show grp.length + rest.length + 1 + most - 1 = (rest.length + most - 1) + most by omega, Nat.add_div_right _ (by omega)]
          · obtain rfl : rest = [] := List.eq_nil_of_length_eq_zero (by omega)
            simp only [List.length_nil, Nat.add_zero, Nat.zero_add]
            rw [show grp.length + 1 + most - 1 = grp.length + most by omega, Nat.add_div_right _ (by omega), Nat.div_eq_of_lt (by omega : grp.length < most), Nat.div_eq_of_lt (by omega)]
      · obtain rfl : grp = [] := List.eq_nil_of_length_eq_zero (by omega)
        rw [passF_one t most base [] x rest h hg]
        obtain rfl : rest = [] := List.eq_nil_of_length_eq_zero (by simp only [List.length_nil] at h; omega)
        rw [passF_nil]
        refine ⟨rfl, ?_⟩
        show 1 = (0 + 1 + most - 1) / most
        rw [show 0 + 1 + most - 1 = most by omega, Nat.div_self (by omega)]
theorem tiersF_zero (most : Nat) (hm : 2 ≤ most) : ∀ (f t : Nat) (now : List (Nat × Nat)) (base : Nat), 1 ≤ t → (∀ x ∈ now, x.2 ≤ 0) → (tiersF f most t base now).map List.length = zF most f now.length
  | 0, _, _, _, _, _ => rfl
  | f + 1, t, now, base, ht, h0 => by
    rw [tiersF, zF]
    by_cases h1 : 1 < now.length
    · rw [if_pos h1, if_pos h1, List.map_append]
      obtain ⟨a, b⟩ := passF_zero t most hm now base [] (fun x hx => by have := h0 x hx; omega) (by simp; omega) (fun _ => rfl)
      simp only [List.length_nil, Nat.zero_add] at a b
      rw [a, tiersF_zero most hm f (t + 1) _ _ (by omega) (passF_lev t most 0 now base [] h0), b]
    · rw [if_neg h1, if_neg h1]; rfl
end TiersP
