/-
  The reference's writers, the walk: Put, PutText, Len, fits, PutFixed.
-/
import Derived.Test.YtdoaajjmibkfeaaHexW2
import Derived.Test.YtdoaajjmibkfeaaWireBackP
namespace Go.Proofs.Ytdoaajjmibkfeaa
open Go.RowKit PlainP WireP HexP

theorem mkS_snoc (s : ByteArray) (l : List Nat) (x : Nat) : s ++ mkS l ++ mkS [x] = s ++ mkS (l ++ [x]) := by
  rw [ByteArray.append_assoc]
  congr 1
  show _ = (⟨((l ++ [x]).map UInt8.ofNat).toArray⟩ : ByteArray)
  rw [List.map_append]
  apply ByteArray.ext
  rw [ByteArray.data_append]
  simp [mkS]
theorem mkS_nil (s : ByteArray) : s ++ mkS [] = s := by
  apply ByteArray.ext
  rw [ByteArray.data_append]
  simp [mkS]
theorem mkS_app (s : ByteArray) (l : List Nat) : (s ++ mkS l).size = s.size + l.length := by
  rw [ByteArray.size_append, mkS_size]

set_option maxRecDepth 100000 in
theorem rput_any (s : ByteArray) (n : Nat) (w : World) (hs : s.size ≤ 9223372036854775000) (hn : n < 18446744073709551616) :
    Calls Try.prog 33 #[.string s, .int .u64 n] w fun e w' => e = .returned (.string (s ++ mkS (put n))) ∧ Below w.heap.size w w' := by
  have HN := Lib.hid hn; clear hn
  go_enter Try.func33, Try.ntmps33
  go_wp2_with fail
  go_loopw [0, 1] (fun v m wr => ∃ (a : ByteArray) (m' : Nat), v = .string a ∧ m = .int .u64 m' ∧ a.size ≤ 9223372036854775100 ∧ Hid (m' < 18446744073709551616 ∧ Below w.heap.size w wr ∧ ∃ l k, a = s ++ mkS l ∧ PutAt n k m' l)) (fun _ m _ => (intOf m).toNat)
  case atStart => exact ⟨s, n, rfl, rfl, by omega, HN.out, Below.refl _ _, [], 0, (mkS_nil s).symm, PutAt.start n⟩
  case round =>
    obtain ⟨a, m, rfl, rfl, ha, H⟩ := hrel
    obtain ⟨hm64, hbw, l, k, hal, hp⟩ := H.out
    have HM := Lib.hid hm64; clear hm64
    have HP := Lib.hid hp; clear hp
    have HA := Lib.hid hal; clear hal
    have HW := Lib.hid hbw; clear hbw
    clear H
    by_cases hge : 128 ≤ m
    · have hk9 := HP.out.lt9 HN.out hge
      have hmv := HM.out
      have hob := fun W => one_back W (m % 128 + 128) (by omega)
      rw [show ((m % 128 + 128 : Nat) : Int) = (m : Int) % 128 + 128 by omega] at hob
      have hz1 : (mkS [m % 128 + 128]).size = 1 := mkS_size _
      obtain ⟨q, hq⟩ : ∃ q, mkS [m % 128 + 128] = q := ⟨_, rfl⟩
      rw [hq] at hob hz1
      have HQ := Lib.hid hq; clear hq
      go_wp2_with fail
      go_roundw
      case rel =>
        refine ⟨a ++ q, m / 128, rfl, by go_num, ?_, by have := HM.out; omega, HW.out.alloc HW.out.size _, l ++ [m % 128 + 128], k + 1, ?_, HP.out.next HN.out hge⟩
        · have h1 := congrArg ByteArray.size HA.out
          rw [mkS_app, HP.out.len] at h1
          rw [ByteArray.size_append]; omega
        · rw [HA.out, ← HQ.out, mkS_snoc]
      case measure => simp [intOf]; omega
    · have hob := fun W => one_back W m (by omega)
      have hz1 : (mkS [m]).size = 1 := mkS_size _
      go_wp2_with fail
      go_ret
      refine ⟨?_, HW.out.alloc HW.out.size _⟩
      show Ending.returned (Value.string (a ++ mkS [m])) = _
      rw [HA.out, mkS_snoc, ← HP.out.done (by omega)]

set_option maxRecDepth 100000 in
theorem rputText_any (s t : ByteArray) (w : World) (hs : s.size ≤ 1048576) (ht : t.size ≤ 1048576) :
    Calls Try.prog 35 #[.string s, .string t] w fun e w' => e = .returned (.string (s ++ mkS (put t.size) ++ t)) ∧ Below w.heap.size w w' := by
  have hpl : (mkS (put t.size)).size ≤ 10 := by rw [mkS_size]; exact (put_length t.size).2
  go_enter Try.func35, Try.ntmps35
  go_wp2_with fail
  refine (rput_any s t.size w (by omega) (by omega)).mono ?_
  rintro e w1 ⟨rfl, hb1⟩
  go_wp2_with fail
  go_ret
  exact ⟨rfl, hb1⟩
set_option maxRecDepth 100000 in
theorem rlen_any (n : Nat) (w : World) (hn : n < 18446744073709551616) :
    Calls Try.prog 37 #[.int .u64 n] w fun e w' => e = .returned (.int .i64 (put n).length) ∧ Below w.heap.size w w' := by
  go_enter Try.func37, Try.ntmps37
  go_wp2_with fail
  refine (rput_any _ n w (by decide) hn).mono ?_
  rintro e w1 ⟨rfl, hb1⟩
  have hz : ((⟨#[]⟩ : ByteArray) ++ mkS (put n)).size = (put n).length := by rw [mkS_app]; show 0 + _ = _; omega
  go_wp2_with fail
  go_ret
  exact ⟨rfl, hb1⟩

theorem fits_eq (n wd c : Nat) (h8 : wd < 8) (hc : 256 ^ wd = c) : decide ((n : Int) < (c : Int)) = fits n wd := by
  unfold fits; rw [hc]; apply decide_eq_decide.2; omega
set_option maxRecDepth 100000 in
theorem fits_any (n wd : Nat) (w : World) (h1 : 1 ≤ wd) (h8 : wd ≤ 8) :
    Calls Try.prog 55 #[.int .u64 n, .int .i64 wd] w fun e w' => e = .returned (.bool (fits n wd)) ∧ w = w' := by
  have : wd = 1 ∨ wd = 2 ∨ wd = 3 ∨ wd = 4 ∨ wd = 5 ∨ wd = 6 ∨ wd = 7 ∨ wd = 8 := by omega
  rcases this with rfl | rfl | rfl | rfl | rfl | rfl | rfl | rfl
  all_goals go_enter Try.func55, Try.ntmps55
  all_goals go_wp2_with fail
  all_goals go_ret
  all_goals refine ⟨?_, rfl⟩
  · exact congrArg (fun b => Ending.returned (Value.bool b)) (fits_eq n 1 256 (by omega) (by decide))
  · exact congrArg (fun b => Ending.returned (Value.bool b)) (fits_eq n 2 65536 (by omega) (by decide))
  · exact congrArg (fun b => Ending.returned (Value.bool b)) (fits_eq n 3 16777216 (by omega) (by decide))
  · exact congrArg (fun b => Ending.returned (Value.bool b)) (fits_eq n 4 4294967296 (by omega) (by decide))
  · exact congrArg (fun b => Ending.returned (Value.bool b)) (fits_eq n 5 1099511627776 (by omega) (by decide))
  · exact congrArg (fun b => Ending.returned (Value.bool b)) (fits_eq n 6 281474976710656 (by omega) (by decide))
  · exact congrArg (fun b => Ending.returned (Value.bool b)) (fits_eq n 7 72057594037927936 (by omega) (by decide))
  · rfl
theorem be_get (w n j : Nat) (h : j < w) : (be w n)[j]? = some (n / 256 ^ (w - 1 - j) % 256) := by
  have hd := be_drop (w - j) j n
  rw [show w - j + j = w by omega] at hd
  obtain ⟨v, hv⟩ : ∃ v, w - j = v + 1 := ⟨w - j - 1, by omega⟩
  rw [hv, be] at hd
  have h0 := congrArg (fun l : List Nat => l[0]?) hd
  simp only [List.getElem?_drop, Nat.add_zero, List.getElem?_cons_zero] at h0
  rw [h0, show w - 1 - j = v by omega]

set_option maxRecDepth 100000 in
theorem rputFixed_any (s : ByteArray) (n : Nat) (width : Int) (w : World) (hs : s.size ≤ 1048576) (hn : n < 18446744073709551616) (hw1 : -9223372036854775808 ≤ width) (hw2 : width ≤ 9223372036854775807) :
    Calls Try.prog 29 #[.string s, .int .u64 n, .int .i64 width] w fun e w' => e = .returned (fixedV s n width) ∧ Below w.heap.size w w' := by
  by_cases h1 : width < 1
  · have hv : fixedV s n width = .tuple #[.string ⟨#[]⟩, .int .i64 1] := by rw [fixedV, if_neg (by omega)]
    rw [hv]
    go_enter Try.func29, Try.ntmps29
    go_wp2_with fail
    go_ret2
    exact ⟨rfl, Below.refl _ _⟩
  by_cases h8 : 8 < width
  · have hv : fixedV s n width = .tuple #[.string ⟨#[]⟩, .int .i64 1] := by rw [fixedV, if_neg (by omega)]
    rw [hv]
    go_enter Try.func29, Try.ntmps29
    go_wp2_with fail
    go_ret2
    exact ⟨rfl, Below.refl _ _⟩
  obtain ⟨wd, rfl⟩ : ∃ wd : Nat, width = wd := ⟨width.toNat, by omega⟩
  have hfa := fun W => fits_any n wd W (by omega) (by omega)
  by_cases hf : fits n wd = true
  · have hv : fixedV s n (wd : Nat) = .tuple #[.string (s ++ mkS (be wd n)), .int .i64 0] := by rw [fixedV, if_pos ⟨by omega, by omega, by rw [Int.toNat_natCast]; exact hf⟩, Int.toNat_natCast]
    rw [hf] at hfa
    rw [hv]
    have HFA := Lib.hid hfa; clear hfa hv
    have HN := Lib.hid hn; clear hn
    clear hf
    go_enter Try.func29, Try.ntmps29
    go_wp2_with fail
    refine (HFA.out _).mono ?_
    rintro e w1 ⟨rfl, rfl⟩
    go_wp2_with fail
    go_loopw [0, 8] (fun v i wr => ∃ (a : ByteArray) (k : Nat), v = .string a ∧ i = .int .i64 ((k : Int) - 1) ∧ k ≤ wd ∧ a.size ≤ 1048600 ∧ Hid (Below w.heap.size w wr ∧ a = s ++ mkS ((be wd n).take (wd - k)))) (fun _ i _ => ((intOf i) + 1).toNat)
    case atStart => exact ⟨s, wd, rfl, rfl, Nat.le_refl _, by omega, Below.refl _ _, by rw [Nat.sub_self, List.take_zero, mkS_nil]⟩
    case round =>
      obtain ⟨a, k, rfl, rfl, hk, ha, H⟩ := hrel
      by_cases hk0 : 0 < k
      · obtain ⟨j, rfl⟩ : ∃ j, k = j + 1 := ⟨k - 1, by omega⟩
        have hob := fun W => one_back W (n / 256 ^ j % 256) (by omega)
        have hsb := shr_byte n j
        have hg := be_get wd n (wd - (j + 1)) (by omega)
        rw [show wd - 1 - (wd - (j + 1)) = j by omega] at hg
        have hz1 : (mkS [n / 256 ^ j % 256]).size = 1 := mkS_size _
        have hb : n / 256 ^ j % 256 < 256 := by omega
        generalize n / 256 ^ j % 256 = x at *
        obtain ⟨q, hq⟩ : ∃ q, mkS [x] = q := ⟨_, rfl⟩
        rw [hq] at hob hz1
        have HQ := Lib.hid hq; clear hq
        have HG := Lib.hid hg; clear hg
        have hnv := HN.out
        go_wp2_with fail
        go_roundw
        case rel =>
          refine ⟨a ++ q, j, rfl, rfl, by omega, ?_, H.out.1.alloc H.out.1.size _, ?_⟩
          · have h1 := congrArg ByteArray.size H.out.2
            rw [mkS_app, List.length_take, be_length] at h1
            rw [ByteArray.size_append]; omega
          · rw [show wd - j = (wd - (j + 1)) + 1 by omega, take_snoc _ _ _ HG.out, H.out.2, ← HQ.out, mkS_snoc]
        case measure => simp [intOf]
      · obtain rfl : k = 0 := by omega
        go_wp2_with fail
        go_ret2
        refine ⟨?_, H.out.1⟩
        rw [← show a = s ++ mkS (be wd n) by rw [H.out.2, Nat.sub_zero, List.take_of_length_le (by rw [be_length]; omega)]]
        rfl
  · have hv : fixedV s n (wd : Nat) = .tuple #[.string ⟨#[]⟩, .int .i64 1] := by rw [fixedV, if_neg (by rw [Int.toNat_natCast]; intro h; exact hf h.2.2)]
    rw [Bool.not_eq_true] at hf
    rw [hf] at hfa
    rw [hv]
    have HFA := Lib.hid hfa; clear hfa hv hf
    go_enter Try.func29, Try.ntmps29
    go_wp2_with fail
    refine (HFA.out _).mono ?_
    rintro e w1 ⟨rfl, rfl⟩
    go_wp2_with fail
    go_ret2
    exact ⟨rfl, Below.refl _ _⟩
end Go.Proofs.Ytdoaajjmibkfeaa
