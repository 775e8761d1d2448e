/-
  The walks over wire.Put, PutText, Len.
-/
import Derived.Test.YtdoaajjmibkfeaaWireW
namespace Go.Proofs.Ytdoaajjmibkfeaa
open Go.RowKit PlainP WireP

theorem or_128 (m : Nat) : bits BinOp.or IntKind.u8 ((m : Int) % 256) 128 = ((m % 128 + 128 : Nat) : Int) := by
  have h0 : (m : Int) % 256 = ((m % 256 : Nat) : Int) := by omega
  have h1 : (BitVec.ofInt 8 ((m % 256 : Nat) : Int)).toNat = m % 256 := by rw [BitVec.ofInt_natCast, BitVec.toNat_ofNat]; omega
  have h2 : (BitVec.ofInt 8 128).toNat = 128 := by decide
  have h3 : ∀ x, x < 256 → x ||| 128 = x % 128 + 128 := by decide +kernel
  rw [h0]
  show IntKind.u8.wrap ((BitVec.ofInt 8 ((m % 256 : Nat) : Int) ||| BitVec.ofInt 8 128).toNat : Int) = _
  rw [BitVec.toNat_or, h1, h2, h3 _ (by omega), IntKind.wrap_u8]
  omega

theorem arr10 : Try.prog.arrayLen 85 = 10 := by kernel_rfl
theorem size10 (W : World) : (sizeOf (Try.prog.elem 85)).run Try.prog W = .ok 1 W := by kernel_rfl
theorem under10 : Try.prog.underlying 85 = some (.array (Try.prog.arrayLen 85) (Try.prog.elem 85)) := by kernel_rfl
/-- b[:k+1] -/
theorem cut10 (W : World) (g k : Nat) (hk : k ≤ 9) : (Instr.sliceAt 85 (.pointer (some ⟨g, 0, none⟩)) none (some (.int .i64 ((k : Int) + 1))) none).run Try.prog W = .ok (.slice (some ⟨g, 0, none⟩) (k + 1) 10) W := by
  rw [run_sliceAt_array_h W 85 ⟨g, 0, none⟩ under10 .i64 _ (by omega) (by rw [arr10]; omega), size10, arr10]
  have e : ((k : Int) + 1).toNat = k + 1 := by omega
  simp only [Result.andThen_ok, slicedAt, e]
  have e2 : (⟨g, 0, none⟩ : Addr).add (0 * 1) = ⟨g, 0, none⟩ := by rfl
  rw [e2]
  simp

set_option maxRecDepth 100000 in
theorem put_any (s : ByteArray) (n : Nat) (w : World) (hs : s.size ≤ 9223372036854775000) (hn : n < 18446744073709551616) :
    Calls Try.prog 32 #[.string s, .int .u64 n] w fun e w' => e = .returned (.string (s ++ mkS (put n))) ∧ Below w.heap.size w w' := by
  have HN := Lib.hid hn; clear hn
  go_enter Try.func32, Try.ntmps32
  go_wp2_with fail
  go_loopw [1, 6] (fun m k wr => ∃ m' k' : Nat, m = .int .u64 m' ∧ k = .int .i64 k' ∧ k' ≤ 9 ∧ Hid (m' < 18446744073709551616 ∧ Below w.heap.size w wr ∧ ∃ l, PutAt n k' m' l ∧ Blk wr w.heap.size 85 (bcs (l ++ List.replicate (10 - k') 0)))) (fun m _ _ => (intOf m).toNat)
  case atStart => exact ⟨n, 0, rfl, rfl, by omega, HN.out, (Below.refl _ _).alloc (Nat.le_refl _) _, [], PutAt.start n, Blk.new w _ _⟩
  case round =>
    obtain ⟨m, k, rfl, rfl, hk, H⟩ := hrel
    obtain ⟨hm64, hbw, l, hp, hblk⟩ := H.out
    have c0 : wr.cell? ⟨w.heap.size, k, none⟩ = some (.int .u8 0) := by rw [hblk.cell, bcs_get, pad_get l k 10 hp.len (by omega)]; rfl
    have f0 := hblk.frozen k
    have HM := Lib.hid hm64; clear hm64
    have HP := Lib.hid hp; clear hp
    have HB := Lib.hid hblk; clear hblk
    have HW := Lib.hid hbw; clear hbw
    by_cases hge : 128 ≤ m
    · have hk9 := HP.out.lt9 HN.out hge
      have hor := or_128 m
      go_wp2_with fail
      go_roundw
      case rel =>
        refine ⟨m / 128, k + 1, by go_num, by go_num, by omega, by have := HM.out; omega, HW.out.setCell (Nat.le_refl _) _, l ++ [m % 128 + 128], HP.out.next HN.out hge, ?_⟩
        have hb := HB.out.set_ k (.int .u8 ((m % 128 + 128 : Nat) : Int))
        rw [bcs_set, pad_set l k 10 _ HP.out.len (by omega)] at hb
        exact hb
      case measure => simp [intOf]; omega
    · have hcut := fun W => cut10 W w.heap.size k hk
      have hb := HB.out.set_ k (.int .u8 (m : Int))
      rw [bcs_set, pad_set l k 10 _ HP.out.len (by omega)] at hb
      have hh := (bcs_holds hb).take (k + 1)
      have hlen : (l ++ [m]).length = k + 1 := by rw [List.length_append, HP.out.len]; rfl
      rw [List.take_left' hlen] at hh
      have hback := back_bytes (cap := 10) hh (HP.out.bytes.append (Bytes.one (by omega)))
      rw [hlen, ← HP.out.done (by omega)] at hback
      have hpl : (mkS (put n)).size ≤ 10 := by rw [mkS_size]; exact (put_length n).2
      have HH := Lib.hid hh; clear hh
      have HBB := Lib.hid hb; clear hb
      have HL := Lib.hid hlen; clear hlen
      go_wp2_with fail
      go_ret
      exact ⟨rfl, HW.out.setCell (Nat.le_refl _) _⟩

set_option maxRecDepth 100000 in
theorem len_any (n : Nat) (w : World) (hn : n < 18446744073709551616) :
    Calls Try.prog 36 #[.int .u64 n] w fun e w' => e = .returned (.int .i64 (put n).length) ∧ w = w' := by
  have HN := Lib.hid hn; clear hn
  go_enter Try.func36, Try.ntmps36
  go_wp2_with fail
  go_loop [0, 3] (fun m k => ∃ m' k' : Nat, m = .int .u64 m' ∧ k = .int .i64 ((k' : Int) + 1) ∧ k' ≤ 9 ∧ Hid (m' < 18446744073709551616 ∧ ∃ l, PutAt n k' m' l)) (fun m _ => (intOf m).toNat)
  case atStart => exact ⟨n, 0, rfl, rfl, by omega, HN.out, [], PutAt.start n⟩
  case round =>
    obtain ⟨m, k, rfl, rfl, hk, H⟩ := hrel
    obtain ⟨hm64, l, hp⟩ := H.out
    have HM := Lib.hid hm64; clear hm64
    have HP := Lib.hid hp; clear hp
    by_cases hge : 128 ≤ m
    · have hk9 := HP.out.lt9 HN.out hge
      go_wp2_with fail
      go_round
      case rel => exact ⟨m / 128, k + 1, by go_num, by go_num, by omega, by have := HM.out; omega, l ++ [m % 128 + 128], HP.out.next HN.out hge⟩
      case measure => simp [intOf]; omega
    · go_wp2_with fail
      go_ret
      refine ⟨?_, rfl⟩
      rw [HP.out.done (by omega), List.length_append, HP.out.len]; rfl
end Go.Proofs.Ytdoaajjmibkfeaa
