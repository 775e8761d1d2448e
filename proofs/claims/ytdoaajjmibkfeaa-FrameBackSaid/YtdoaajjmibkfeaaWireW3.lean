/-
  The walks over wire.PutText, PutFixed.
-/
import Derived.Test.YtdoaajjmibkfeaaWireW2
namespace Go.Proofs.Ytdoaajjmibkfeaa
open Go.RowKit PlainP WireP

theorem putText_any (s t : ByteArray) (w : World) (hs : s.size ≤ 9223372036854775000 - 9000000000000000) (ht : t.size ≤ 8999999999999000) :
    Calls Try.prog 34 #[.string s, .string t] w fun e w' => e = .returned (.string (s ++ mkS (put t.size) ++ t)) ∧ Below w.heap.size w w' := by
  have hpl : (mkS (put t.size)).size ≤ 10 := by rw [mkS_size]; exact (put_length _).2
  have hc := put_any s t.size
  have HC := Lib.hid hc; clear hc
  go_enter Try.func34, Try.ntmps34
  go_wp2_with fail
  refine (HC.out _ (by omega) (by omega)).mono ?_
  rintro e w1 ⟨rfl, hb1⟩
  have hsz : (s ++ mkS (put t.size)).size ≤ s.size + 10 := by rw [ByteArray.size_append]; omega
  go_wp2_with fail
  go_ret
  exact ⟨rfl, hb1⟩

/-- what PutFixed answers -/
def fixedV (s : ByteArray) (n : Nat) (width : Int) : Value :=
  if 1 ≤ width ∧ width ≤ 8 ∧ fits n width.toNat = true then .tuple #[.string (s ++ mkS (be width.toNat n)), .int .i64 0] else .tuple #[.string ⟨#[]⟩, .int .i64 1]

theorem arr8 : Try.prog.arrayLen 79 = 8 := by kernel_rfl
theorem size8 (W : World) : (sizeOf (Try.prog.elem 79)).run Try.prog W = .ok 1 W := by kernel_rfl
theorem under8 : Try.prog.underlying 79 = some (.array (Try.prog.arrayLen 79) (Try.prog.elem 79)) := by kernel_rfl
/-- b[8-width:] -/
theorem cut8 (W : World) (g wd : Nat) (h1 : 1 ≤ wd) (h8 : wd ≤ 8) : (Instr.sliceAt 79 (.pointer (some ⟨g, 0, none⟩)) (some (.int .i64 (8 - (wd : Int)))) none none).run Try.prog W = .ok (.slice (some ⟨g, 8 - wd, none⟩) wd wd) W := by
  rw [run_sliceAt_array_l W 79 ⟨g, 0, none⟩ under8 .i64 _ (by omega) (by rw [arr8]; omega), size8, arr8]
  have e : (8 - (wd : Int)).toNat = 8 - wd := by omega
  simp only [Result.andThen_ok, slicedAt, e]
  rw [if_neg (by omega), show 8 - (8 - wd) = wd by omega]
  congr 1
  unfold Addr.add
  split <;> simp_all

theorem shr_byte (n k : Nat) : (n : Int) / 2 ^ (8 * k) % 256 = ((n / 256 ^ k % 256 : Nat) : Int) := by
  have e : (2 : Nat) ^ (8 * k) = 256 ^ k := by rw [Nat.pow_mul]
  rw [← e, Int.natCast_emod, Int.natCast_ediv, Int.natCast_pow]; rfl
theorem fixed_yes (n k : Nat) (h : k = 8 ∨ n < 256 ^ k) (h1 : 1 ≤ k := by omega) (h8 : k ≤ 8 := by omega) : (!(decide (1 ≤ (k : Int) ∧ (k : Int) ≤ 8 ∧ fits n (k : Int).toNat = true))) = false := by
  rw [decide_eq_true ⟨by omega, by omega, by rw [Int.toNat_natCast]; exact decide_eq_true h⟩]; rfl
theorem fixed_no (n k : Nat) (h8 : k ≠ 8) (h : ¬ n < 256 ^ k) : (!(decide (1 ≤ (k : Int) ∧ (k : Int) ≤ 8 ∧ fits n (k : Int).toNat = true))) = true := by
  rw [decide_eq_false (by
    rintro ⟨-, -, h3⟩
    rw [Int.toNat_natCast] at h3
    rcases of_decide_eq_true h3 with h4 | h4
    · exact h8 h4
    · exact h h4)]; rfl
set_option maxRecDepth 100000 in
theorem putFixed_any (s : ByteArray) (n : Nat) (width : Int) (w : World) (hs : s.size ≤ 9223372036854775000) (hn : n < 18446744073709551616) (hw1 : -9223372036854775808 ≤ width) (hw2 : width ≤ 9223372036854775807) :
    Calls Try.prog 28 #[.string s, .int .u64 n, .int .i64 width] w fun e w' => e = .returned (fixedV s n width) ∧ Below w.heap.size w w' := by
  have HN := Lib.hid hn; clear hn
  generalize hv : fixedV s n width = v
  have HV := Lib.hid hv; clear hv
  go_enter Try.func28, Try.ntmps28
  go_upto_region 1 with (fail)
  go_cut [27] (fun b wx => b = .bool (!(decide (1 ≤ width ∧ width ≤ 8 ∧ fits n width.toNat = true))) ∧ wx = w)
  case first =>
    by_cases h1 : width < 1
    · go_wp2_with fail
      go_meet
      case rel => exact ⟨by rw [decide_eq_false (by omega)]; rfl, rfl⟩
    · by_cases h8 : 8 < width
      · go_wp2_with fail
        go_meet
        case rel => exact ⟨by rw [decide_eq_false (by omega)]; rfl, rfl⟩
      · have hwd : width = 1 ∨ width = 2 ∨ width = 3 ∨ width = 4 ∨ width = 5 ∨ width = 6 ∨ width = 7 ∨ width = 8 := by omega
        rcases hwd with rfl | rfl | rfl | rfl | rfl | rfl | rfl | rfl
        · by_cases hf : n < 256
          · go_wp2_with fail
            go_meet
            case rel => exact ⟨(congrArg Value.bool (fixed_yes n 1 (.inr hf))).symm, rfl⟩
          · go_wp2_with fail
            go_meet
            case rel => exact ⟨(congrArg Value.bool (fixed_no n 1 (by omega) hf)).symm, rfl⟩
        · by_cases hf : n < 65536
          · go_wp2_with fail
            go_meet
            case rel => exact ⟨(congrArg Value.bool (fixed_yes n 2 (.inr hf))).symm, rfl⟩
          · go_wp2_with fail
            go_meet
            case rel => exact ⟨(congrArg Value.bool (fixed_no n 2 (by omega) hf)).symm, rfl⟩
        · by_cases hf : n < 16777216
          · go_wp2_with fail
            go_meet
            case rel => exact ⟨(congrArg Value.bool (fixed_yes n 3 (.inr hf))).symm, rfl⟩
          · go_wp2_with fail
            go_meet
            case rel => exact ⟨(congrArg Value.bool (fixed_no n 3 (by omega) hf)).symm, rfl⟩
        · by_cases hf : n < 4294967296
          · go_wp2_with fail
            go_meet
            case rel => exact ⟨(congrArg Value.bool (fixed_yes n 4 (.inr hf))).symm, rfl⟩
          · go_wp2_with fail
            go_meet
            case rel => exact ⟨(congrArg Value.bool (fixed_no n 4 (by omega) hf)).symm, rfl⟩
        · by_cases hf : n < 1099511627776
          · go_wp2_with fail
            go_meet
            case rel => exact ⟨(congrArg Value.bool (fixed_yes n 5 (.inr hf))).symm, rfl⟩
          · go_wp2_with fail
            go_meet
            case rel => exact ⟨(congrArg Value.bool (fixed_no n 5 (by omega) hf)).symm, rfl⟩
        · by_cases hf : n < 281474976710656
          · go_wp2_with fail
            go_meet
            case rel => exact ⟨(congrArg Value.bool (fixed_yes n 6 (.inr hf))).symm, rfl⟩
          · go_wp2_with fail
            go_meet
            case rel => exact ⟨(congrArg Value.bool (fixed_no n 6 (by omega) hf)).symm, rfl⟩
        · by_cases hf : n < 72057594037927936
          · go_wp2_with fail
            go_meet
            case rel => exact ⟨(congrArg Value.bool (fixed_yes n 7 (.inr hf))).symm, rfl⟩
          · go_wp2_with fail
            go_meet
            case rel => exact ⟨(congrArg Value.bool (fixed_no n 7 (by omega) hf)).symm, rfl⟩
        · go_wp2_with fail
          all_goals
            go_meet
            case rel => exact ⟨(congrArg Value.bool (fixed_yes n 8 (.inl rfl))).symm, rfl⟩
  case rest =>
    obtain ⟨rfl, rfl⟩ := hcut
    by_cases hok : 1 ≤ width ∧ width ≤ 8 ∧ fits n width.toNat = true
    · have hv : v = .tuple #[.string (s ++ mkS (be width.toNat n)), .int .i64 0] := by rw [← HV.out, fixedV, if_pos hok]
      have HV2 := Lib.hid hv; clear hv
      rw [decide_eq_true hok]
      obtain ⟨h1, h8, -⟩ := hok
      obtain ⟨wd, rfl⟩ : ∃ wd : Nat, width = (wd : Int) := ⟨width.toNat, by omega⟩
      rw [Int.toNat_natCast] at HV2
      have hbs : (mkS (be wd n)).size ≤ 8 := by rw [mkS_size, be_length]; omega
      go_wp2_with fail
      go_loopw [28] (fun i wr => ∃ k : Nat, i = .int .i64 k ∧ k ≤ 8 ∧ Hid (Below wc.heap.size wc wr ∧ Blk wr wc.heap.size 79 (bcs (List.replicate (8 - k) 0 ++ be k n)))) (fun i _ => 8 - (intOf i).toNat)
      case atStart => exact ⟨0, rfl, by omega, (Below.refl _ _).alloc (Nat.le_refl _) _, Blk.new wc _ _⟩
      case round =>
        obtain ⟨k, rfl, hk, H⟩ := hrel
        obtain ⟨hbw, hblk⟩ := H.out
        have HBW := Lib.hid hbw; clear hbw
        by_cases hlt : k < 8
        · have c0 : wr.cell? ⟨wc.heap.size, 7 - k, none⟩ = some (.int .u8 0) := by
            rw [hblk.cell, bcs_get, List.getElem?_append_left (by rw [List.length_replicate]; omega), List.getElem?_replicate, if_pos (by omega)]; rfl
          have f0 := hblk.frozen (7 - k)
          have HB := Lib.hid hblk; clear hblk
          go_wp2_with fail
          go_roundw
          case rel =>
            refine ⟨k + 1, by go_num, by omega, HBW.out.setCell (Nat.le_refl _) _, ?_⟩
            rw [shr_byte n k]
            have hb := HB.out.set_ (7 - k) (.int .u8 ((n / 256 ^ k % 256 : Nat) : Int))
            rw [bcs_set, be_snoc_set n k hlt] at hb
            exact hb
          case measure => simp [intOf]; omega
        · have HB := Lib.hid hblk; clear hblk
          obtain rfl : k = 8 := by omega
          have hh := (bcs_holds HB.out).drop (8 - wd)
          rw [show List.replicate (8 - 8) 0 ++ be 8 n = be 8 n by rfl] at hh
          have hdr : (be 8 n).drop (8 - wd) = be wd n := by
            have := be_drop wd (8 - wd) n
            rw [show wd + (8 - wd) = 8 by omega] at this
            exact this
          rw [hdr] at hh
          have hback := back_bytes_at (cap := wd) hh (be_bytes wd n)
          rw [be_length] at hback
          have hcut := fun W => cut8 W wc.heap.size wd (by omega) (by omega)
          have HH := Lib.hid hh; clear hh
          have HDR := Lib.hid hdr; clear hdr
          go_wp2_with fail
          go_ret2
          exact ⟨by rw [HV2.out]; rfl, HBW.out⟩
    · have hv : v = .tuple #[.string ⟨#[]⟩, .int .i64 1] := by rw [← HV.out, fixedV, if_neg hok]
      have HV2 := Lib.hid hv; clear hv
      rw [decide_eq_false hok]
      go_wp2_with fail
      go_ret2
      exact ⟨by rw [HV2.out]; rfl, Below.refl _ _⟩
end Go.Proofs.Ytdoaajjmibkfeaa
