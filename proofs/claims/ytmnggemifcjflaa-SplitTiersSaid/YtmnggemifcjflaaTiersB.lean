/-
  Tiers, the program's and the reference's: what they refuse; both, whatever comes in.
-/
import Derived.Test.YtmnggemifcjflaaTiersR3
import Derived.Test.YtmnggemifcjflaaGroupsP
namespace Go.Proofs.Ytmnggemifcjflaa.Tier
open Go.RowKit PlainP TiersP
set_option linter.unusedVariables false

/-- numbers in block g -/
def Src (w : World) (g n cap : Nat) (zs : List Int) : Prop := zs.length = n ∧ n ≤ cap ∧ cap ≤ maxLen ∧ g < w.heap.size ∧ ∀ (i : Nat) (z : Int), zs[i]? = some z → w.cell? ⟨g, i, none⟩ = some (.int .i64 z)
theorem first_bad : ∀ zs : List Int, (¬ ∀ z ∈ zs, 0 ≤ z ∧ z ≤ 32) → ∃ (q : Nat) (z : Int), zs[q]? = some z ∧ ¬ (0 ≤ z ∧ z ≤ 32) ∧ ∀ (i : Nat) (y : Int), i < q → zs[i]? = some y → 0 ≤ y ∧ y ≤ 32
  | [], h => absurd (fun z hz => by cases hz) h
  | x :: t, h => by
    by_cases hx : 0 ≤ x ∧ x ≤ 32
    · obtain ⟨q, z, h1, h2, h3⟩ := first_bad t (fun ht => h (fun z hz => by
        rcases List.mem_cons.1 hz with rfl | hz
        · exact hx
        · exact ht z hz))
      refine ⟨q + 1, z, h1, h2, fun i y hi hy => ?_⟩
      cases i with
      | zero => simp at hy; subst hy; exact hx
      | succ i => exact h3 i y (by omega) hy
    · exact ⟨0, x, rfl, hx, fun i y hi => by omega⟩
theorem Src.levels {w : World} {g n cap : Nat} {zs : List Int} (h : Src w g n cap zs) (h32 : ∀ z ∈ zs, 0 ≤ z ∧ z ≤ 32) : Levels w (some ⟨g, 0, none⟩) n cap (zs.map Int.toNat) := by
  obtain ⟨h1, h2, h3, h4, h5⟩ := h
  refine ⟨by rw [List.length_map]; exact h1, h2, h3, fun x hx => ?_, fun i x hi => ?_⟩
  · obtain ⟨z, hz, rfl⟩ := List.mem_map.1 hx
    have := h32 z hz; omega
  · rw [List.getElem?_map] at hi
    obtain ⟨z, hz, rfl⟩ := Option.map_eq_some_iff.1 hi
    have := h32 z (List.mem_of_getElem? hz)
    refine ⟨g, 0, rfl, h4, ?_⟩
    rw [Nat.zero_add, h5 i z hz, Int.toNat_of_nonneg this.1]

set_option maxRecDepth 100000 in
set_option maxHeartbeats 1000000 in
theorem tiers_out (g n cap : Nat) (most : Int) (w : World) (hn : n ≤ cap) (hc : cap ≤ maxLen) (hb : 1048576 < n ∨ most < 2 ∨ 1024 < most) :
    Calls Try.prog 16 #[.slice (some ⟨g, 0, none⟩) n cap, .int .i64 most] w fun e w' => e = .returned (.tuple #[.slice none 0 0, .int .i64 1]) ∧ w = w' := by
  unfold maxLen at hc
  by_cases h1 : 1048576 < n
  · have hq1 : decide ((1048576 : Int) < (n : Int)) = true := decide_eq_true (by omega)
    go_enter Try.func16, Try.ntmps16
    go_wp2_with fail
    go_ret2
    exact ⟨rfl, rfl⟩
  · have hq1 : decide ((1048576 : Int) < (n : Int)) = false := decide_eq_false (by omega)
    by_cases h2 : most < 2
    · have hq2 : decide (most < 2) = true := decide_eq_true (by omega)
      go_enter Try.func16, Try.ntmps16
      go_wp2_with fail
      go_ret2
      exact ⟨rfl, rfl⟩
    · have hq2 : decide (most < 2) = false := decide_eq_false (by omega)
      have hq3 : decide (1024 < most) = true := decide_eq_true (by omega)
      go_enter Try.func16, Try.ntmps16
      go_wp2_with fail
      go_ret2
      exact ⟨rfl, rfl⟩
set_option maxRecDepth 100000 in
set_option maxHeartbeats 1000000 in
theorem rtiers_out (g n cap : Nat) (most : Int) (w : World) (hn : n ≤ cap) (hc : cap ≤ maxLen) (hb : 1048576 < n ∨ most < 2 ∨ 1024 < most) :
    Calls Try.prog 15 #[.slice (some ⟨g, 0, none⟩) n cap, .int .i64 most] w fun e w' => e = .returned (.tuple #[.slice none 0 0, .int .i64 1]) ∧ w = w' := by
  unfold maxLen at hc
  by_cases h1 : 1048576 < n
  · have hq1 : decide ((1048576 : Int) < (n : Int)) = true := decide_eq_true (by omega)
    go_enter Try.func15, Try.ntmps15
    go_wp2_with fail
    go_ret2
    exact ⟨rfl, rfl⟩
  · have hq1 : decide ((1048576 : Int) < (n : Int)) = false := decide_eq_false (by omega)
    by_cases h2 : most < 2
    · have hq2 : decide (most < 2) = true := decide_eq_true (by omega)
      go_enter Try.func15, Try.ntmps15
      go_wp2_with fail
      go_ret2
      exact ⟨rfl, rfl⟩
    · have hq2 : decide (most < 2) = false := decide_eq_false (by omega)
      have hq3 : decide (1024 < most) = true := decide_eq_true (by omega)
      go_enter Try.func15, Try.ntmps15
      go_wp2_with fail
      go_ret2
      exact ⟨rfl, rfl⟩

set_option maxRecDepth 100000 in
set_option maxHeartbeats 2000000 in
theorem rtiers_bad (g n cap : Nat) (zs : List Int) (most : Nat) (w : World) (hs : Src w g n cap zs) (h1 : n ≤ 1048576) (h2 : 2 ≤ most) (h3 : most ≤ 1024) (hbad : ¬ ∀ z ∈ zs, 0 ≤ z ∧ z ≤ 32) :
    Calls Try.prog 15 #[.slice (some ⟨g, 0, none⟩) n cap, .int .i64 most] w fun e w' => e = .returned (.tuple #[.slice none 0 0, .int .i64 1]) ∧ Below w.heap.size w w' := by
  obtain ⟨hz, hn, hc, hg, hcell⟩ := hs
  unfold maxLen at hc
  obtain ⟨q, z, hq, hzb, hbef⟩ := first_bad zs hbad
  have hqn : q < n := by rw [← hz]; exact (List.getElem?_eq_some_iff.1 hq).1
  have hq1 : decide ((1048576 : Int) < (n : Int)) = false := decide_eq_false (by omega)
  have hq2 : decide ((most : Int) < 2) = false := decide_eq_false (by omega)
  have hq3 : decide ((1024 : Int) < (most : Int)) = false := decide_eq_false (by omega)
  have HC := Lib.hid hcell; have HQ := Lib.hid hq; have HBEF := Lib.hid hbef; have HZ := Lib.hid hz
  clear hcell hq hbef hbad hz
  go_enter Try.func15, Try.ntmps15
  go_wp2_with fail
  go_loopw [6] (fun i wr => ∃ k : Nat, i = .int .i64 k ∧ k ≤ q ∧ Hid (Below w.heap.size w wr)) (fun i _ => q - (intOf i).toNat)
  case atStart => exact ⟨0, rfl, Nat.zero_le _, Below.refl _ _⟩
  case round =>
    obtain ⟨k, rfl, hk, H⟩ := hrel
    have hd0 : decide ((k : Int) < (n : Int)) = true := decide_eq_true (by omega)
    have hkn : k < n := by omega
    by_cases hlt : k < q
    · obtain ⟨x, hx⟩ : ∃ x, zs[k]? = some x := ⟨_, List.getElem?_eq_getElem (by rw [HZ.out]; omega)⟩
      have hb := HBEF.out k x hlt hx
      have hc := (H.out.cell (p := ⟨g, k, none⟩) hg).trans (HC.out k x hx)
      have hd1 : decide (x < 0) = false := decide_eq_false (by omega)
      have hd2 : decide (32 < x) = false := decide_eq_false (by omega)
      clear hx
      go_wp2_with fail
      go_roundw
      case rel => exact ⟨k + 1, by go_num, by omega, by first | exact H.out | exact below_drew1 H.out⟩
      case measure => simp [intOf]; omega
    · obtain rfl : q = k := by omega
      have hc := (H.out.cell (p := ⟨g, q, none⟩) hg).trans (HC.out q z HQ.out)
      by_cases h0 : z < 0
      · have hd1 : decide (z < 0) = true := decide_eq_true h0
        go_wp2_with fail
        go_ret2
        first | exact ⟨rfl, H.out⟩ | exact ⟨rfl, below_drew1 H.out⟩
      · have hd1 : decide (z < 0) = false := decide_eq_false h0
        have hd2 : decide (32 < z) = true := decide_eq_true (by omega)
        go_wp2_with fail
        go_ret2
        first | exact ⟨rfl, H.out⟩ | exact ⟨rfl, below_drew1 H.out⟩

set_option maxRecDepth 100000 in
set_option maxHeartbeats 2000000 in
theorem tiers_bad (g n cap : Nat) (zs : List Int) (most : Nat) (w : World) (hs : Src w g n cap zs) (h1 : n ≤ 1048576) (h2 : 2 ≤ most) (h3 : most ≤ 1024) (hbad : ¬ ∀ z ∈ zs, 0 ≤ z ∧ z ≤ 32) :
    Calls Try.prog 16 #[.slice (some ⟨g, 0, none⟩) n cap, .int .i64 most] w fun e w' => e = .returned (.tuple #[.slice none 0 0, .int .i64 1]) ∧ Below w.heap.size w w' := by
  obtain ⟨hz, hn, hc, hg, hcell⟩ := hs
  unfold maxLen at hc
  obtain ⟨i0, hi0, hz0, hs0, hy0⟩ := info_parts item_info
  obtain ⟨q, z, hq, hzb, hbef⟩ := first_bad zs hbad
  have hqn : q < n := by rw [← hz]; exact (List.getElem?_eq_some_iff.1 hq).1
  have hq1 : decide ((1048576 : Int) < (n : Int)) = false := decide_eq_false (by omega)
  have hq2 : decide ((most : Int) < 2) = false := decide_eq_false (by omega)
  have hq3 : decide ((1024 : Int) < (most : Int)) = false := decide_eq_false (by omega)
  have hmk0 := fun W => make_items W n h1
  have hrow0 := items_new w.heap.size w n (Nat.le_refl _) h1
  have HC := Lib.hid hcell; have HQ := Lib.hid hq; have HBEF := Lib.hid hbef; have HZ := Lib.hid hz; have HI0 := Lib.hid hrow0
  clear hcell hq hbef hbad hz hrow0
  go_enter Try.func16, Try.ntmps16
  go_wp2_with fail
  go_loopw [6, 7, 8, 35] (fun v _ _ i wr => ∃ k : Nat, v = .slice (some ⟨w.heap.size, 0, none⟩) k n ∧ i = .int .i64 k ∧ k ≤ q ∧ Hid (Below w.heap.size w wr ∧ ∃ xs, wr.ownsRow w.heap.size 59 2 (.slice (some ⟨w.heap.size, 0, none⟩) k n) k xs)) (fun _ _ _ i _ => q - (intOf i).toNat)
  case atStart => exact ⟨0, rfl, rfl, Nat.zero_le _, (Below.refl _ _).alloc (Nat.le_refl _) _, _, HI0.out⟩
  case round =>
    obtain ⟨k, rfl, rfl, hk, H⟩ := hrel
    obtain ⟨hB, xs, hxs⟩ := H.out
    have hd0 : decide ((k : Int) < (n : Int)) = true := decide_eq_true (by omega)
    have hkn : k < n := by omega
    clear hmk0
    by_cases hlt : k < q
    · obtain ⟨x, hx⟩ : ∃ x, zs[k]? = some x := ⟨_, List.getElem?_eq_getElem (by rw [HZ.out]; omega)⟩
      have hb := HBEF.out k x hlt hx
      have hc := (hB.cell (p := ⟨g, k, none⟩) hg).trans (HC.out k x hx)
      have hd1 : decide (x < 0) = false := decide_eq_false (by omega)
      have hd2 : decide (32 < x) = false := decide_eq_false (by omega)
      have hbw := hB.size
      have HOW := Lib.hid (World.ownsRow.alloc hxs (.cells #[.int .i64 k, .int .i64 x] 59)); have HNW := Lib.hid (news wr #[.int .i64 k, .int .i64 x] 59 wr.heap.size rfl); have HB := Lib.hid hB
      clear hx hxs hB H
      go_wp2_with (at_builtin; refine wpList_append_own_spare _ rfl _ _ 57 rfl w.heap.size 59 i0 2 Try.underlying57 hi0 hs0 w.heap.size k n _ rfl HOW.out ⟨wr.heap.size, 0, none⟩ 1 1 [.int .i64 k, .int .i64 x] rfl rfl HNW.out (by intro u hu; simp at hu; rcases hu with rfl | rfl <;> rfl) (by omega) ?_; intro w3 hown3 hgrow3; have HO := Lib.hid hown3; have HG := Lib.hid hgrow3; clear hown3 hgrow3)
      go_roundw
      case rel => exact ⟨k + 1, rfl, by go_num, by omega, below_of_only (HB.out.alloc hbw _) HG.out (by simp; omega) (Nat.le_refl _), _, HO.out⟩
      case measure => simp [intOf]; omega
    · obtain rfl : q = k := by omega
      have hc := (hB.cell (p := ⟨g, q, none⟩) hg).trans (HC.out q z HQ.out)
      have HB := Lib.hid hB
      clear hB hxs H
      by_cases h0 : z < 0
      · have hd1 : decide (z < 0) = true := decide_eq_true h0
        go_wp2_with fail
        go_ret2
        first | exact ⟨rfl, HB.out⟩ | exact ⟨rfl, below_drew1 HB.out⟩
      · have hd1 : decide (z < 0) = false := decide_eq_false h0
        have hd2 : decide (32 < z) = true := decide_eq_true (by omega)
        go_wp2_with fail
        go_ret2
        first | exact ⟨rfl, HB.out⟩ | exact ⟨rfl, below_drew1 HB.out⟩

theorem total_ge' (T : List (List Nat)) (h : ∀ ks ∈ T, 2 ≤ ks.length) : 2 * T.length ≤ total T := by
  induction T with
  | nil => exact Nat.le_refl _
  | cons a t ih =>
    have h1 := h a List.mem_cons_self
    have h2 := ih (fun ks hk => h ks (List.mem_cons_of_mem _ hk))
    rw [total_cons, List.length_cons]; omega
theorem tree_small (M n : Nat) (lv : List Nat) (hM : 2 ≤ M) (hM2 : M ≤ 1024) (hn : lv.length = n) (h2 : n ≤ 1048576) (h32 : ∀ x ∈ lv, x ≤ 32) : (∀ ks ∈ tiersA M 1 n (enumF lv), ks.length ≤ 1024) ∧ (tiersA M 1 n (enumF lv)).length ≤ 1048576 := by
  have hel := enumF_len lv
  rw [hn] at hel
  have h32' := enumF_lev lv h32
  by_cases h : n = 0
  · rw [tiersA_end M 1 n (enumF lv) (by omega)]
    exact ⟨fun ks hk => by (cases hk), Nat.zero_le _⟩
  · have hc := tiersF_count M hM (meas 1 (enumF lv).length + 1) 1 (enumF lv) n (Nat.lt_succ_self _) h32' (by omega)
    have hg := total_ge' _ (fun ks hk => (hc.2 ks hk).1)
    unfold tiersA
    exact ⟨fun ks hk => Nat.le_trans (hc.2 ks hk).2 hM2, by have := hc.1; omega⟩
/-- both, whatever comes in -/
theorem both (n : Nat) (zs : List Int) (most : Int) (hz : zs.length = n) : ∃ (T : List (List Nat)) (E : Int), T.length ≤ 1048576 ∧ (∀ ks ∈ T, ks.length ≤ 1024) ∧
    (∀ (W : World) (g cap : Nat), Src W g n cap zs → Calls Try.prog 15 #[.slice (some ⟨g, 0, none⟩) n cap, .int .i64 most] W fun e w' => ∃ v K, e = .returned (.tuple #[v, .int .i64 E]) ∧ Below W.heap.size W w' ∧ Fam W.heap.size w' K ∧ KRow W.heap.size w' v K ∧ K.map (·.2) = T) ∧
    (∀ (W : World) (g cap : Nat), Src W g n cap zs → Calls Try.prog 16 #[.slice (some ⟨g, 0, none⟩) n cap, .int .i64 most] W fun e w' => ∃ v, e = .returned (.tuple #[v, .int .i64 E]) ∧ Below W.heap.size W w' ∧ Nodes W.heap.size w' v T) := by
  by_cases ho : 1048576 < n ∨ most < 2 ∨ 1024 < most
  · refine ⟨[], 1, Nat.zero_le _, fun ks hk => (by cases hk), fun W g cap hs => (rtiers_out g n cap most W hs.2.1 hs.2.2.1 ho).mono ?_, fun W g cap hs => (tiers_out g n cap most W hs.2.1 hs.2.2.1 ho).mono ?_⟩
    · rintro e w' ⟨rfl, rfl⟩
      exact ⟨_, [], rfl, Below.refl _ _, Fam.nil, World.ownsRow_nil _ _ _ _, rfl⟩
    · rintro e w' ⟨rfl, rfl⟩
      exact ⟨_, rfl, Below.refl _ _, nodes_start _ _⟩
  · obtain ⟨m, rfl⟩ : ∃ m : Nat, most = (m : Int) := ⟨most.toNat, by omega⟩
    by_cases hb : ∀ z ∈ zs, 0 ≤ z ∧ z ≤ 32
    · obtain ⟨t1, t2⟩ := tree_small m n (zs.map Int.toNat) (by omega) (by omega) (by rw [List.length_map]; exact hz) (by omega) (fun x hx => by
        obtain ⟨z, hz, rfl⟩ := List.mem_map.1 hx
        have := hb z hz; omega)
      refine ⟨_, 0, t2, t1, fun W g cap hs => rtiers_any ⟨g, 0, none⟩ n cap (zs.map Int.toNat) m W (hs.levels hb) (by omega) (by omega) (by omega), fun W g cap hs => tiers_any (some ⟨g, 0, none⟩) n cap (zs.map Int.toNat) m W (hs.levels hb) (by omega) (by omega) (by omega)⟩
    · refine ⟨[], 1, Nat.zero_le _, fun ks hk => (by cases hk), fun W g cap hs => (rtiers_bad g n cap zs m W hs (by omega) (by omega) (by omega) hb).mono ?_, fun W g cap hs => (tiers_bad g n cap zs m W hs (by omega) (by omega) (by omega) hb).mono ?_⟩
      · rintro e w' ⟨rfl, hbl⟩
        exact ⟨_, [], rfl, hbl, Fam.nil, World.ownsRow_nil _ _ _ _, rfl⟩
      · rintro e w' ⟨rfl, hbl⟩
        exact ⟨_, rfl, hbl, nodes_start _ _⟩
end Go.Proofs.Ytmnggemifcjflaa.Tier
