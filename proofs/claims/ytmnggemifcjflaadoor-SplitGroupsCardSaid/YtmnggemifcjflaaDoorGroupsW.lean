/-
  SplitGroups: words for its walk.
-/
import Derived.Test.YtmnggemifcjflaaDoorLeavesW
import Derived.Test.YtmnggemifcjflaaDoorAwakeW
namespace TiersP
theorem total_ge (T : List (List Nat)) (h : ∀ ks ∈ T, 2 ≤ ks.length) : 2 * T.length ≤ total T := by
  induction T with
  | nil => exact Nat.le_refl _
  | cons a t ih =>
    have h1 := h a List.mem_cons_self
    have h2 := ih (fun ks hk => h ks (List.mem_cons_of_mem _ hk))
    rw [total_cons, List.length_cons]; omega
theorem total_take (T : List (List Nat)) (i : Nat) (ks : List Nat) (h : T[i]? = some ks) : total (T.take (i + 1)) = total (T.take i) + ks.length := by
  rw [List.take_add_one, h, total_append]
  show _ + total [ks] = _
  rw [total_cons]; rfl
theorem total_le (T : List (List Nat)) (m : Nat) (h : ∀ ks ∈ T, ks.length ≤ m) : total T ≤ T.length * m := by
  induction T with
  | nil => exact Nat.zero_le _
  | cons a t ih =>
    have h1 := h a List.mem_cons_self
    have h2 := ih (fun ks hk => h ks (List.mem_cons_of_mem _ hk))
    rw [total_cons, List.length_cons, Nat.add_mul]; omega
theorem full_end (M g left : Nat) (h : ¬ 1 < left) : fullF M g left = [] := by
  cases g with
  | zero => rfl
  | succ g => rw [fullF, if_neg h]
theorem zF_end (M g n : Nat) (h : ¬ 1 < n) : zF M g n = [] := by
  cases g with
  | zero => rfl
  | succ g => rw [zF, if_neg h]
theorem full_step (M g left : Nat) (h : 1 < left) (hg : left ≤ g) (hM : 2 ≤ M) : ∃ g', left - M ≤ g' ∧ fullF M g left = min left M :: fullF M g' (left - M) := by
  cases g with
  | zero => omega
  | succ g => exact ⟨g, by omega, by rw [fullF, if_pos h]⟩
theorem zF_step (M g n : Nat) (h : 1 < n) (hg : n < g) (hM : 2 ≤ M) : ∃ g', (n + M - 1) / M < g' ∧ zF M g n = fullF M n n ++ zF M g' ((n + M - 1) / M) ∧ (n + M - 1) / M < n := by
  have hlt : (n + M - 1) / M < n := by
    rw [Nat.div_lt_iff_lt_mul (by omega)]
    have h1 : n * 2 ≤ n * M := Nat.mul_le_mul_left n hM
    have h2 : 2 * M ≤ n * M := Nat.mul_le_mul_right M h
    omega
  cases g with
  | zero => omega
  | succ g => exact ⟨g, by omega, by rw [zF, if_pos h], hlt⟩
end TiersP
namespace Go.Proofs.YtmnggemifcjflaaDoor.Tier
open Go.RowKit PlainP TiersP

theorem levels_of {B : Nat} {W : World} {a : Option Addr} {n cap : Nat} {lv : List Nat} (h : IRow B W (.slice a n cap, lv)) (hl : lv.length = n) (h32 : ∀ x ∈ lv, x ≤ 32) : Levels W a n cap lv := by
  have hb : n ≤ cap ∧ cap ≤ maxLen := by
    rcases h.2 with ⟨e, -⟩ | ⟨g, cap', cur, e, -, -, hc, hm, -⟩
    · cases e; exact ⟨Nat.le_refl _, Nat.zero_le _⟩
    · dsimp only at e hc
      injection e with e1 e2 e3
      subst e3
      exact ⟨by omega, hm⟩
  refine ⟨hl, hb.1, hb.2, h32, fun i x hi => ?_⟩
  obtain ⟨g, rfl, hc⟩ := h.cell hi
  exact ⟨g, 0, rfl, (World.ownsRow.lt h g rfl).2, by rw [Nat.zero_add]; exact hc⟩
theorem make_zeros (W : World) (c : Nat) (h : c ≤ 1048576) :
    (Instr.makeSlice 75 (.int .i64 c) (.int .i64 c)).run Tryd.prog W = .ok (.slice (some ⟨W.heap.size, 0, none⟩) c c) (W.alloc (.cells (madeCells #[Value.int .i64 0] c) 3)) := by
  obtain ⟨i, hi, hz, hs, hb⟩ := info_parts int_info
  have h1 := run_make (P := Tryd.prog) W 75 3 i (.int .i64 0) Tryd.underlying75 hi hz .i64 .i64 c c (by omega) (Int.le_refl _) (by rw [hb]; omega) (by omega)
  rw [hs, Nat.mul_one, Int.toNat_natCast] at h1
  exact h1
theorem zeros_levels (W : World) (c : Nat) (e : TypeId) (h : c ≤ 1048576) : Levels (W.alloc (.cells (madeCells #[Value.int .i64 0] c) e)) (some ⟨W.heap.size, 0, none⟩) c c (List.replicate c 0) := by
  refine ⟨List.length_replicate, Nat.le_refl _, by unfold maxLen; omega, fun x hx => by rw [(List.mem_replicate.1 hx).2]; omega, fun j x hx => ⟨W.heap.size, 0, rfl, by simp, ?_⟩⟩
  rw [List.getElem?_replicate] at hx
  split at hx
  · rename_i hj
    injection hx with hx
    subst hx
    rw [Nat.zero_add, cell_of_row _ W.heap.size j _ e (0, 0) (heap_alloc_new W _)]
    unfold madeCells
    simp [hj]
    rw [Nat.mod_one]; rfl
  · cases hx
/-- what the law asks of the tree -/
theorem tree_facts (M n : Nat) (lv : List Nat) (hM : 2 ≤ M) (hn : lv.length = n) (h2 : n ≤ 2000) (h32 : ∀ x ∈ lv, x ≤ 32) :
    (n < 2 → tiersA M 1 n (enumF lv) = []) ∧ (2 ≤ n → tiersA M 1 n (enumF lv) ≠ [] ∧ total (tiersA M 1 n (enumF lv)) + 1 = n + (tiersA M 1 n (enumF lv)).length ∧ ∃ h, h ≤ 50 ∧ lvOK (tiersA M 1 n (enumF lv)) n h (n + (tiersA M 1 n (enumF lv)).length - 1) (List.range' 0 n)) ∧
      (∀ ks ∈ tiersA M 1 n (enumF lv), 2 ≤ ks.length ∧ ks.length ≤ M) ∧ (tiersA M 1 n (enumF lv)).length ≤ n := by
  have hel := enumF_len lv
  rw [hn] at hel
  have h32' := enumF_lev lv h32
  by_cases h : n < 2
  · have e := tiersA_end M 1 n (enumF lv) (by omega)
    rw [e]
    exact ⟨fun _ => rfl, fun q => by omega, fun ks hk => by (cases hk), Nat.zero_le _⟩
  · have hc := tiersF_count M hM (meas 1 (enumF lv).length + 1) 1 (enumF lv) n (Nat.lt_succ_self _) h32' (by omega)
    have hlay : LaysOf (lvOK [] n 0) ((enumF lv).map (·.1)) (List.range' 0 n) := by
      have := lays_range [] n 0 lv (by omega)
      unfold enumF
      rw [List.range_eq_range']
      rwa [hn] at this ⊢
    have hnum : ∀ x ∈ enumF lv, x.1 < n := fun x hx => by
      unfold enumF at hx
      have := (List.of_mem_zip hx).1
      rw [hn] at this
      exact List.mem_range.1 this
    have hl := tiersF_lays M n hM (meas 1 (enumF lv).length + 1) 0 (enumF lv) [] n (List.range' 0 n) (Nat.lt_succ_self _) h32' rfl hnum hlay (by omega) (by rw [hel]; simp; omega)
    rw [List.nil_append] at hl
    unfold tiersA
    have hg := total_ge _ (fun ks hk => (hc.2 ks hk).1)
    refine ⟨fun q => absurd q h, fun _ => ⟨hl.1, by rw [hc.1, hel], hl.2⟩, hc.2, ?_⟩
    have := hc.1
    omega
theorem tree_zero (M Z : Nat) (hM : 2 ≤ M) : (tiersA M 1 Z (enumF (List.replicate Z 0))).map List.length = zF M (meas 1 Z + 1) Z := by
  have hel := enumF_len (List.replicate Z 0)
  rw [List.length_replicate] at hel
  have h := tiersF_zero M hM (meas 1 (enumF (List.replicate Z 0)).length + 1) 1 (enumF (List.replicate Z 0)) Z (Nat.le_refl _) (fun x hx => by
    unfold enumF at hx
    have := (List.of_mem_zip hx).2
    rw [(List.mem_replicate.1 this).2]; exact Nat.le_refl _)
  unfold tiersA
  rw [h, hel]
end Go.Proofs.YtmnggemifcjflaaDoor.Tier
