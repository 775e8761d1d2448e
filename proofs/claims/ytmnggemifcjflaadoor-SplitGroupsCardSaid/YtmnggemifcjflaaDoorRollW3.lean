/-
  The walks over roll.Of and the reference's Of; awake.
-/
import Derived.Test.YtmnggemifcjflaaDoorRollW2
import Derived.PlainAid
namespace Go.Proofs.YtmnggemifcjflaaDoor
open Go.RowKit PlainP RollP

theorem win_of (s : List Nat) : (win [] ++ s).drop s.length = win s := by rw [win_nil]; rfl

theorem win_cut (s : ByteArray) : win (nats (s.extract (s.size - 64) s.size)) = win (nats s) := by
  rw [nats_extract, List.take_of_length_le (by rw [List.length_drop, nats_length]; omega), ← nats_length, win_last]

/-- what Write makes of a fresh roll -/
theorem fresh_write {w : World} {g : Nat} {s : ByteArray} (h : RollAt w g ((win [] ++ nats s).drop s.size)) : RollAt w g (win (nats s)) := by
  rw [← nats_length, win_of] at h; exact h

theorem of_any (s : ByteArray) (w : World) (hs : s.size ≤ 9223372036854775807) :
    Calls Tryd.prog 12 #[.string s] w fun e w' => e = .returned (.int .u32 (digS s : Nat)) ∧ Below w.heap.size w w' := by
  by_cases h64 : 64 ≤ s.size
  · go_enter Tryd.func12, Tryd.ntmps12
    go_wp2_with fail
    refine (new_roll _).mono ?_
    rintro e w1 ⟨W, rfl, rfl, hgr, hlt, hra⟩
    go_wp2_with fail
    refine (write_any _ _ _ _ hra (by simp; omega)).mono ?_
    rintro e w2 ⟨rfl, hgr2, hra2⟩
    have hra3 := fresh_write hra2
    rw [win_cut] at hra3
    go_wp2_with fail
    refine (digest_any _ _ _ hra3).mono ?_
    rintro e w3 ⟨rfl, n, rfl⟩
    go_wp2_with fail
    go_ret
    refine ⟨rfl, ?_⟩
    exact below_drewN (below_of_only ((Below.refl _ _).grown hgr (Nat.le_refl _) (by simp)) hgr2 hgr.size (Nat.le_refl _)) n
  · have h64' : s.size < 64 := by omega
    go_enter Tryd.func12, Tryd.ntmps12
    go_wp2_with fail
    refine (new_roll _).mono ?_
    rintro e w1 ⟨W, rfl, rfl, hgr, hlt, hra⟩
    go_wp2_with fail
    refine (write_any _ _ _ _ hra hs).mono ?_
    rintro e w2 ⟨rfl, hgr2, hra2⟩
    have hra3 := fresh_write hra2
    go_wp2_with fail
    refine (digest_any _ _ _ hra3).mono ?_
    rintro e w3 ⟨rfl, n, rfl⟩
    go_wp2_with fail
    go_ret
    refine ⟨rfl, ?_⟩
    exact below_drewN (below_of_only ((Below.refl _ _).grown hgr (Nat.le_refl _) (by simp)) hgr2 hgr.size (Nat.le_refl _)) n

theorem ref_lo (A v : Int) (h1 : 0 ≤ A) (h2 : A ≤ 18304) (h3 : 0 ≤ v) (h4 : v < 256) : (A + (31 + v) % 4294967296) % 4294967296 = A + (v + 31) := by omega
theorem ref_lo0 (A : Int) (h1 : 0 ≤ A) (h2 : A ≤ 18304) : (A + 31) % 4294967296 = A + (0 + 31) := by omega
theorem ref_hi (B k v : Int) (h1 : 0 ≤ B) (h2 : B ≤ 1189760) (h3 : 0 ≤ v) (h4 : v < 256) (h5 : 0 ≤ k) (h6 : k < 64) : (B + (k + 1) * ((31 + v) % 4294967296) % 4294967296) % 4294967296 = B + (k + 1) * (v + 31) := by
  have e : (31 + v) % 4294967296 = v + 31 := by omega
  have h7 : 0 ≤ (k + 1) * (v + 31) := Int.mul_nonneg (by omega) (by omega)
  have h8 : (k + 1) * (v + 31) ≤ 64 * 286 := Int.mul_le_mul (by omega) (by omega) (by omega) (by omega)
  rw [e]; omega

/-- the reference's Of -/
theorem ref_any (s : ByteArray) (w : World) (hs : s.size ≤ 9223372036854775807) :
    Calls Tryd.prog 13 #[.string s] w fun e w' => e = .returned (.int .u32 (digS s : Nat)) ∧ w = w' := by
  have hb := PlainAid.get_bt s
  have hwl := win_length (nats s)
  have hwb := bytes_win _ (nats_bytes s)
  have hwg := win_get (nats s)
  have hbn := bt_nats s
  generalize hdg : digS s = dg
  unfold digS at hdg
  generalize win (nats s) = W at *
  have HD := Lib.hid hdg; clear hdg
  have HWL := Lib.hid hwl; clear hwl
  have HWB := Lib.hid hwb; clear hwb
  have HWG := Lib.hid hwg; clear hwg
  have HBN := Lib.hid hbn; clear hbn
  go_enter Tryd.func13, Tryd.ntmps13
  go_wp2_with fail
  go_loop [3, 4, 5] (fun lo hi i => ∃ k : Nat, k ≤ 64 ∧ i = .int .i64 ((k : Int) + 1) ∧ lo = .int .u32 (low (W.take k) : Nat) ∧ hi = .int .u32 (hisum 1 (W.take k) : Nat)) (fun _ _ i => 65 - (intOf i).toNat)
  case atStart => exact ⟨0, by omega, rfl, rfl, rfl⟩
  case round =>
    obtain ⟨k, hk, rfl, rfl, rfl⟩ := hrel
    have hbt : Bytes (W.take k) := fun y hy => HWB.out y (List.mem_of_mem_take hy)
    have a1 := low_le _ hbt
    have a2 := hs_le _ hbt 1 (by rw [List.length_take]; omega)
    have a3 : (W.take k).length ≤ 64 := by rw [List.length_take]; omega
    have HBT := Lib.hid hbt; clear hbt
    by_cases hlt : k < 64
    · have hv := HWG.out k hlt
      by_cases hge : 64 ≤ s.size + k
      · rw [if_neg (by rw [nats_length]; omega)] at hv
        generalize hvx : (nats s).getD ((nats s).length + k - 64) 0 = v at hv
        have hvb : v < 256 := HWB.out v (List.mem_of_getElem? hv)
        have hlo := low_take W k v hv
        have hhi := hs_take W k v hv
        have hbtv := HBN.out (s.size + k - 64) v (by
          rw [nats_length] at hvx
          rw [← hvx, List.getD_eq_getElem?_getD, List.getElem?_eq_getElem (by rw [nats_length]; omega)]; rfl)
        have hidx : ((s.size : Int) - 64 + ((k : Int) + 1)).toNat - 1 = s.size + k - 64 := by omega
        have HLO := Lib.hid hlo; clear hlo
        have HHI := Lib.hid hhi; clear hhi
        have HV := Lib.hid hv; clear hv
        have HVX := Lib.hid hvx; clear hvx
        have HI := Lib.hid hidx; clear hidx
        have HBV := Lib.hid hbtv; clear hbtv
        generalize low (W.take k) = A at *
        generalize hisum 1 (W.take k) = B at *
        go_wp2_with fail
        go_round
        case rel =>
          rw [HI.out, HBV.out]
          refine ⟨k + 1, by omega, by go_num, ?_, ?_⟩
          · rw [ref_lo _ _ (by omega) (by omega) (by omega) (by omega), HLO.out]; rfl
          · rw [ref_hi _ _ _ (by omega) (by omega) (by omega) (by omega) (by omega) (by omega), HHI.out, Int.natCast_add, Int.natCast_mul]; rfl
        case measure => simp [intOf]; omega
      · rw [if_pos (by rw [nats_length]; omega)] at hv
        have hlo := low_take W k 0 hv
        have hhi := hs_take W k 0 hv
        have HLO := Lib.hid hlo; clear hlo
        have HHI := Lib.hid hhi; clear hhi
        have HV := Lib.hid hv; clear hv
        generalize low (W.take k) = A at *
        generalize hisum 1 (W.take k) = B at *
        go_wp2_with fail
        go_round
        case rel =>
          refine ⟨k + 1, by omega, by go_num, ?_, ?_⟩
          · rw [HLO.out]; rfl
          · rw [HHI.out, Int.natCast_add, Int.natCast_mul]; rfl
        case measure => simp [intOf]; omega
    · obtain rfl : k = 64 := by omega
      have hall : W.take 64 = W := List.take_of_length_le (by rw [HWL.out]; exact Nat.le_refl _)
      rw [hall] at a1 a2 a3 ⊢
      have HA := Lib.hid hall; clear hall
      go_wp2_with fail
      go_ret
      refine ⟨?_, rfl⟩
      rw [← HD.out]
      show Ending.returned (Value.int .u32 _) = Ending.returned (Value.int .u32 _)
      congr 2

theorem digS_empty : digS ByteArray.empty = 130087904 := by decide +kernel
theorem digS_one : digS ⟨#[1]⟩ = 130153504 := by decide +kernel

end Go.Proofs.YtmnggemifcjflaaDoor
