/-
  leaves: the items under an item, in order.
-/
import Derived.Test.YtmnggemifcjflaaDoorTiersR
import Derived.Test.YtmnggemifcjflaaDoorGroupsP
namespace Go.Proofs.YtmnggemifcjflaaDoor.Tier
open Go.RowKit PlainP TiersP
set_option linter.unusedVariables false

set_option maxRecDepth 100000 in
set_option maxHeartbeats 1000000 in
theorem leaf_any (tv : Value) (n x deep : Nat) (outv : Value) (xs : List Nat) (w0 W : World) (hB : Below w0.heap.size w0 W) (hO : IRow w0.heap.size W (outv, xs)) (hx : x < n) (hn : n ≤ 1048576) (hl : xs.length ≤ 1048576) (hd : deep ≤ 100) :
    Calls Tryd.prog 36 #[tv, .int .i64 n, .int .i64 x, .int .i64 deep, outv] W fun e w' => ∃ v, e = .returned (.tuple #[v, .bool true]) ∧ Below w0.heap.size w0 w' ∧ IRow w0.heap.size w' (v, xs ++ [x]) := by
  obtain ⟨i1, hi1, hz1, hs1, hy1⟩ := info_parts int_info
  have hnw := news W #[.int .i64 x] 3 W.heap.size rfl
  obtain ⟨N, hN⟩ : ∃ N, xs.length = N := ⟨_, rfl⟩
  obtain ⟨a, cap, rfl⟩ := own_val hO hN
  have hown : (W.alloc (.cells #[.int .i64 x] 3)).ownsRow w0.heap.size 3 1 (.slice a N cap) N (xs.map (fun n : Nat => Value.int .i64 (n : Int))) := by
    have := World.ownsRow.alloc hO (.cells #[.int .i64 x] 3)
    dsimp only at this
    rwa [hN] at this
  rw [hN] at hl
  have hbw := hB.size
  have hq : decide ((x : Int) < (n : Int)) = true := decide_eq_true (by omega)
  have hq2 : decide ((0 : Int) ≤ (x : Int)) = true := decide_eq_true (by omega)
  have HNW := Lib.hid hnw; have HOW := Lib.hid hown; have HB := Lib.hid hB; have HN := Lib.hid hN
  clear hnw hown hB hN hO
  go_enter Tryd.func36, Tryd.ntmps36
  go_wp2_with (at_builtin; refine wpList_append_own _ rfl _ _ 75 rfl w0.heap.size 3 i1 (.int .i64 0) 1 8 Tryd.underlying75 hi1 hz1 hs1 hy1 rfl (by decide) (.slice a N cap) N _ rfl HOW.out ⟨W.heap.size, 0, none⟩ 1 1 [.int .i64 x] rfl rfl HNW.out (by intro u hu; simp at hu; subst hu; rfl) (by unfold maxLen; omega) (by omega) (by simp; omega) ?_; intro v3 w3 hown3 hgrow3 _; have HO := Lib.hid hown3; have HG := Lib.hid hgrow3; clear hown3 hgrow3)
  go_ret2
  refine ⟨v3, rfl, Below.grown (HB.out.alloc hbw _) HG.out (by simp; omega) (fun q hq => (World.ownsRow.lt HOW.out q hq).1), ?_⟩
  unfold IRow
  rw [List.length_append, List.map_append, HN.out]
  exact HO.out

set_option maxRecDepth 100000 in
set_option maxHeartbeats 2000000 in
theorem node_any (T : List (List Nat)) (n h x deep : Nat) (l ks : List Nat) (tv outv : Value) (xs : List Nat) (w0 W : World) (hN : NRow w0 tv T) (hTl : T.length ≤ 2097152) (hB : Below w0.heap.size w0 W) (hO : IRow w0.heap.size W (outv, xs)) (hx : n ≤ x) (hks : T[x - n]? = some ks)
    (hkx : ∀ k ∈ ks, k < x) (hL : LaysOf (fun k a => lvOK T n h k a) ks l) (hn : n ≤ 1048576) (hl : xs.length + l.length ≤ 1048576) (hkl : ks.length ≤ 1048576) (hd : deep + (h + 1) ≤ 100)
    (IH : ∀ (k : Nat) (a : List Nat) (W : World) (outv : Value) (ys : List Nat) (dp : Nat), lvOK T n h k a → Below w0.heap.size w0 W → IRow w0.heap.size W (outv, ys) → ys.length + a.length ≤ 1048576 → dp + h ≤ 100 →
      Calls Tryd.prog 36 #[tv, .int .i64 n, .int .i64 k, .int .i64 dp, outv] W fun e w' => ∃ v, e = .returned (.tuple #[v, .bool true]) ∧ Below w0.heap.size w0 w' ∧ IRow w0.heap.size w' (v, ys ++ a)) :
    Calls Tryd.prog 36 #[tv, .int .i64 n, .int .i64 x, .int .i64 deep, outv] W fun e w' => ∃ v, e = .returned (.tuple #[v, .bool true]) ∧ Below w0.heap.size w0 w' ∧ IRow w0.heap.size w' (v, xs ++ l) := by
  obtain ⟨a0, cap0, rfl, hc0, hat⟩ := hN
  obtain ⟨xi, hxi⟩ : ∃ xi, x - n = xi := ⟨_, rfl⟩
  rw [hxi] at hks
  obtain ⟨b, off, rfl, hb, g, c, hc, hgc, hkc⟩ := hat _ _ hks
  have hlt : xi < T.length := (List.getElem?_eq_some_iff.1 hks).1
  clear hat hks
  obtain ⟨TL, hTL⟩ : ∃ TL, T.length = TL := ⟨_, rfl⟩
  obtain ⟨KL, hKL⟩ : ∃ KL, ks.length = KL := ⟨_, rfl⟩
  rw [hTL] at hlt hTl hc0 IH ⊢
  rw [hKL] at hc hgc hkl
  clear hTL
  obtain rfl : x = n + xi := by omega
  have hcell : ∀ W, Below w0.heap.size w0 W → W.cell? ⟨b, off + xi, none⟩ = some (.slice g KL c) := fun W hW => (hW.cell (p := ⟨b, _, none⟩) hb).trans hc
  have hkid : ∀ (i k : Nat), ks[i]? = some k → ∃ bg, g = some ⟨bg, 0, none⟩ ∧ ∀ W, Below w0.heap.size w0 W → W.cell? ⟨bg, i, none⟩ = some (.int .i64 (k : Int)) := fun i k hi => by
    obtain ⟨bg, e, hbg, hcc⟩ := hkc i k hi
    exact ⟨bg, e, fun W hW => (hW.cell (p := ⟨bg, _, none⟩) hbg).trans hcc⟩
  have hsub : (((n + xi : Nat) : Int) - (n : Int)) = (xi : Int) := by omega
  have hq1 : decide (((n + xi : Nat) : Int) < (n : Int)) = false := decide_eq_false (by omega)
  have hq2 : decide ((TL : Int) ≤ (xi : Int)) = false := decide_eq_false (by omega)
  have hq3 : decide ((100 : Int) < (deep : Int)) = false := decide_eq_false (by omega)
  have hq2n : decide (TL ≤ xi) = false := decide_eq_false (by omega)
  obtain ⟨x, hxx⟩ : ∃ x, n + xi = x := ⟨_, rfl⟩
  have hq1n : decide (n + xi < n) = false := decide_eq_false (by omega)
  rw [hxx] at hsub hq1 hq1n hkx ⊢
  have hx9 : x ≤ 3145728 := by omega
  have HC := Lib.hid hcell; have HK := Lib.hid hkid; have HB := Lib.hid hB; have HO := Lib.hid hO; have HL := Lib.hid hL; have HKX := Lib.hid hkx; have HKL := Lib.hid hKL; have HIH := Lib.hid IH; have HXX := Lib.hid hxx
  have hc1 := hcell W hB
  clear hc hkc hcell hkid hB hO hL hkx hKL IH hxx hxi hx
  go_enter Tryd.func36, Tryd.ntmps36
  go_wp2_with fail
  go_loopw [4, 12, 13, 14] (fun v4 v12 v13 _ wr => ∃ i : Nat, v13 = .int .i64 i ∧ v12 = .bool true ∧ i ≤ KL ∧ Hid (∃ a b, l = a ++ b ∧ LaysOf (fun k a => lvOK T n h k a) (ks.drop i) b ∧ Below w0.heap.size w0 wr ∧ IRow w0.heap.size wr (v4, xs ++ a))) (fun _ _ i _ _ => KL - (intOf i).toNat)
  case atStart => exact ⟨0, rfl, rfl, Nat.zero_le _, [], l, rfl, HL.out, HB.out, by rw [List.append_nil]; exact HO.out⟩
  case round =>
    obtain ⟨i, rfl, rfl, hi, H⟩ := hrel
    obtain ⟨a, b', hab, hLd, hBr, hOr⟩ := H.out
    have hc2 := HC.out wr hBr
    clear hc1
    by_cases hik : i < KL
    · obtain ⟨k, hk⟩ : ∃ k, ks[i]? = some k := ⟨_, List.getElem?_eq_getElem (by rw [HKL.out]; exact hik)⟩
      obtain ⟨bg, rfl, hkc⟩ := HK.out i k hk
      have hc3 := hkc wr hBr
      have hkx := HKX.out k (List.mem_of_getElem? hk)
      have hd0 : ks.drop i = k :: ks.drop (i + 1) := by
        obtain ⟨h1, h2⟩ := List.getElem?_eq_some_iff.1 hk
        rw [List.drop_eq_getElem_cons h1, h2]
      rw [hd0] at hLd
      obtain ⟨b1, b2, rfl, hk1, hk2⟩ := hLd
      have hll : l.length = a.length + (b1.length + b2.length) := by rw [hab]; simp
      have hcall := HIH.out k b1 wr u4 (xs ++ a) (deep + 1) hk1 hBr hOr (by rw [List.length_append]; omega) (by omega)
      rw [show ((deep + 1 : Nat) : Int) = (deep : Int) + 1 from rfl] at hcall
      have hq4 : decide ((x : Int) ≤ (k : Int)) = false := decide_eq_false (by omega)
      have HAB := Lib.hid hab; have HK2 := Lib.hid hk2; have HCALL := Lib.hid hcall
      clear hab hk1 hk2 hBr hOr hcall hd0 hk hkc hll H
      go_wp2_with fail
      refine HCALL.out.mono ?_
      rintro e w' ⟨v, rfl, hb', ho'⟩
      have HB' := Lib.hid hb'; have HO' := Lib.hid ho'
      clear hb' ho'
      go_wp2_with fail
      go_roundw
      case rel => exact ⟨i + 1, by go_num, rfl, by omega, a ++ b1, b2, by rw [HAB.out, List.append_assoc], HK2.out, HB'.out, by rw [← List.append_assoc]; exact HO'.out⟩
      case measure => simp [intOf]; omega
    · obtain rfl : i = KL := by omega
      rw [List.drop_eq_nil_of_le (by rw [HKL.out]; exact Nat.le_refl _)] at hLd
      have hLd : b' = [] := hLd
      subst hLd
      rw [List.append_nil] at hab
      subst hab
      have HBR := Lib.hid hBr; have HOR := Lib.hid hOr
      clear hBr hOr H
      go_wp2_with fail
      go_ret2
      exact ⟨u4, rfl, HBR.out, HOR.out⟩

theorem leaves_any (T : List (List Nat)) (n : Nat) (tv : Value) (w0 : World) (hN : NRow w0 tv T) (hTl : T.length ≤ 2097152) (hn : n ≤ 1048576) (hkl : ∀ ks ∈ T, ks.length ≤ 1048576) : ∀ (h x : Nat) (l : List Nat) (W : World) (outv : Value) (ys : List Nat) (dp : Nat), lvOK T n h x l → Below w0.heap.size w0 W → IRow w0.heap.size W (outv, ys) → ys.length + l.length ≤ 1048576 → dp + h ≤ 100 →
      Calls Tryd.prog 36 #[tv, .int .i64 n, .int .i64 x, .int .i64 dp, outv] W fun e w' => ∃ v, e = .returned (.tuple #[v, .bool true]) ∧ Below w0.heap.size w0 w' ∧ IRow w0.heap.size w' (v, ys ++ l)
  | 0, x, l, W, outv, ys, dp, hl, hB, hO, hs, hd => by
    obtain ⟨h1, rfl⟩ := hl
    exact leaf_any tv n x dp outv ys w0 W hB hO h1 hn (by omega) (by omega)
  | h + 1, x, l, W, outv, ys, dp, hl, hB, hO, hs, hd => by
    rcases hl with ⟨h1, rfl⟩ | ⟨h1, ks, h2, h3, h4⟩
    · exact leaf_any tv n x dp outv ys w0 W hB hO h1 hn (by omega) (by omega)
    · exact node_any T n h x dp l ks tv outv ys w0 W hN hTl hB hO h1 h2 h3 h4 hn hs (hkl ks (List.mem_of_getElem? h2)) hd (fun k a W outv ys dp => leaves_any T n tv w0 hN hTl hn hkl h k a W outv ys dp)
end Go.Proofs.YtmnggemifcjflaaDoor.Tier
