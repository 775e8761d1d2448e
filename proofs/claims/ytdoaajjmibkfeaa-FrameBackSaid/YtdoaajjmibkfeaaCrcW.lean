/-
  The checksum, the walk: On, Crc of the program and of the reference.
-/
import Derived.Test.YtdoaajjmibkfeaaCrcP
import Derived.Test.YtdoaajjmibkfeaaWireX
import Derived.Test.YtdoaajjmibkfeaaHexW
import Derived.Laws.BitsAllLaws
import Derived.Handy
namespace Go.Proofs.Ytdoaajjmibkfeaa
open Go.RowKit PlainP CrcP

theorem and_one32 (n : Nat) (h : n < 4294967296) : bits BinOp.and IntKind.u32 (n : Int) 1 = ((n % 2 : Nat) : Int) := by
  have h1 := u32_and_nat n 1 h (by omega)
  rw [Nat.and_one_is_mod] at h1
  exact h1
theorem xor32 (a b : Nat) (ha : a < 4294967296) (hb : b < 4294967296) : bits BinOp.xor IntKind.u32 (a : Int) (b : Int) = ((a ^^^ b : Nat) : Int) := u32_xor_nat a b ha hb

theorem and_poly1 : bits BinOp.and IntKind.u32 3988292384 4294967295 = 3988292384 := by decide
theorem and_poly0 : bits BinOp.and IntKind.u32 3988292384 0 = 0 := by decide
set_option maxRecDepth 100000 in
/-- the closure of On: one byte more -/
theorem take8_any (g n b : Nat) (w : World) (h : Blk w g 33 #[.int .u32 n]) (hn : n < 4294967296) (hb : b < 256) :
    Calls Try.prog 49 #[.int .u8 b, .pointer (some ⟨g, 0, none⟩)] w fun e w' => e = .returned (.tuple #[]) ∧ w.grownBy w' (some g) ∧ Blk w' g 33 #[.int .u32 (byteC n b : Nat)] := by
  have c0 : w.cell? ⟨g, 0, none⟩ = some (.int .u32 n) := by rw [h.cell]; rfl
  have f0 := h.frozen 0
  have hx := xor32 n b hn (by omega)
  have hs := h.set_ 0 (.int .u32 ((n ^^^ b : Nat) : Int))
  have hx32 := xor_lt32 n b hn (by omega)
  have HH := Lib.hid h; clear h
  have HS := Lib.hid hs; clear hs
  have HX := Lib.hid hx32; clear hx32
  go_enter Try.func49, Try.ntmps49
  go_wp2_with fail
  go_loopw [7] (fun i wr => ∃ k : Nat, i = .int .i64 k ∧ k ≤ 8 ∧ Hid (w.grownBy wr (some g) ∧ Blk wr g 33 #[.int .u32 (bitsN k (n ^^^ b) : Nat)])) (fun i _ => 8 - (intOf i).toNat)
  case atStart => exact ⟨0, rfl, by omega, only_setCell (only_refl w (some g)) (.inl rfl) _, HS.out⟩
  case round =>
    obtain ⟨k, rfl, hk, H⟩ := hrel
    obtain ⟨hg, hbk⟩ := H.out
    have hm := bitsN_lt k _ HX.out
    by_cases hlt : k < 8
    · have c1 : wr.cell? ⟨g, 0, none⟩ = some (.int .u32 (bitsN k (n ^^^ b) : Nat)) := by rw [hbk.cell]; rfl
      have f1 := hbk.frozen 0
      have hnx := bitsN_succ k (n ^^^ b)
      generalize bitsN k (n ^^^ b) = m at *
      have ha := and_one32 m hm
      have HG := Lib.hid hg; clear hg
      have HB := Lib.hid hbk; clear hbk H
      have HN := Lib.hid hnx; clear hnx
      by_cases hp : m % 2 = 1
      · rw [hp] at ha
        have hx2 := xor32 (m / 2) poly (by omega) (by decide)
        have hbit : bit m = m / 2 ^^^ poly := if_pos hp
        rw [← hbit, show ((poly : Nat) : Int) = 3988292384 from rfl] at hx2
        have q5 : (m : Int) / 2 = ((m / 2 : Nat) : Int) := by omega
        have hpa := and_poly1
        have HP := Lib.hid hp; clear hp
        have HBT := Lib.hid hbit; clear hbit
        generalize m / 2 = m2 at *
        go_wp2_with fail
        go_roundw
        case rel =>
          have hs2 := HB.out.set_ 0 (.int .u32 (bit m : Nat))
          rw [← HN.out] at hs2
          exact ⟨k + 1, by go_num, by omega, only_setCell HG.out (.inl rfl) _, by rw [HN.out] at hs2 ⊢; exact hs2⟩
        case measure => simp [intOf]; omega
      · rw [show m % 2 = 0 by omega] at ha
        have hx2 := xor32 (m / 2) 0 (by omega) (by decide)
        have hbit : bit m = m / 2 := if_neg hp
        rw [Nat.xor_zero, ← hbit, show ((0 : Nat) : Int) = 0 from rfl] at hx2
        have q5 : (m : Int) / 2 = ((bit m : Nat) : Int) := by rw [hbit]; omega
        have hpa := and_poly0
        have HP := Lib.hid hp; clear hp
        have HBT := Lib.hid hbit; clear hbit
        obtain ⟨m2, hm2⟩ : ∃ m2, bit m = m2 := ⟨_, rfl⟩
        rw [hm2] at hx2 q5
        have HM2 := Lib.hid hm2; clear hm2
        go_wp2_with fail
        go_roundw
        case rel =>
          have hs2 := HB.out.set_ 0 (.int .u32 (m2 : Nat))
          exact ⟨k + 1, by go_num, by omega, only_setCell HG.out (.inl rfl) _, by rw [HN.out, HM2.out]; exact hs2⟩
        case measure => simp [intOf]; omega
    · obtain rfl : k = 8 := by omega
      go_wp2_with fail
      go_end0
      exact ⟨rfl, hg, hbk⟩

theorem inv32 (n : Nat) (h : n < 4294967296) : bits BinOp.xor IntKind.u32 IntKind.u32.max (n : Int) = ((inv n : Nat) : Int) := by
  have e : IntKind.u32.max = ((mask : Nat) : Int) := by decide
  rw [e, inv_def, xor32 mask n (by decide) h]

set_option maxRecDepth 100000 in
theorem on_any (c : Nat) (s : ByteArray) (w : World) (hc : c < 4294967296) (hs : s.size ≤ 9223372036854775807) :
    Calls Try.prog 21 #[.int .u32 c, .string s] w fun e w' => e = .returned (.int .u32 (onC c (nats s) : Nat)) ∧ Below w.heap.size w w' := by
  have hn := nats_length s
  have HN := Lib.hid hn; clear hn
  have hcv := fun W : World => run_bytes_of_string (P := Try.prog) W 9 28 5 s Try.underlying9 Try.underlying28 Try.underlying5
  have hi := inv32 c hc
  have hil := inv_lt c hc
  have HIL := Lib.hid hil; clear hil
  obtain ⟨d, hd⟩ : ∃ d, inv c = d := ⟨_, rfl⟩
  rw [hd] at hi
  have HD := Lib.hid hd; clear hd
  go_enter Try.func21, Try.ntmps21
  go_wp2_with fail
  generalize grownCap _ s.size 0 5 = cc
  go_loopw [7, 14] (fun x i wr => ∃ k : Nat, i = .int .i64 k ∧ k ≤ s.size ∧ Hid (Below w.heap.size w wr ∧ Blk wr w.heap.size 33 #[.int .u32 (crcL d ((nats s).take k) : Nat)] ∧ HoldsB wr (w.heap.size + 1) (nats s) ∧ w.heap.size + 1 < wr.heap.size)) (fun _ i _ => s.size - (intOf i).toNat)
  case atStart =>
    refine ⟨0, rfl, Nat.zero_le _, ?_, ?_, ?_, ?_⟩
    · go_grown
    · exact ((Blk.new w _ _).alloc _).drew
    · exact laid_at _ s _ _ _ _ (by simp)
    · simp
  case round =>
    obtain ⟨k, rfl, hk, H⟩ := hrel
    obtain ⟨hB, hblk, hh, hlt1⟩ := H.out
    have hbt : Bytes ((nats s).take k) := (nats_bytes s).take k
    have hm := crcL_lt ((nats s).take k) d (by rw [← HD.out]; exact HIL.out) hbt
    by_cases hlt : k < s.size
    · obtain ⟨x, hx⟩ : ∃ x, (nats s)[k]? = some x := ⟨_, List.getElem?_eq_getElem (by rw [HN.out]; exact hlt)⟩
      have hxb : x < 256 := nats_bytes s x (List.mem_of_getElem? hx)
      have hcell : wr.cell? ⟨w.heap.size + 1, k, none⟩ = some (.int .u8 (x : Int)) := hh k x hx
      have ht8 := take8_any w.heap.size (crcL d ((nats s).take k)) x wr hblk hm hxb
      rw [← crcL_snoc, ← take_snoc _ _ _ hx] at ht8
      have hs1 := hB.size
      have HT := Lib.hid ht8; clear ht8 hx H hblk
      have HB := Lib.hid hB; clear hB
      have HH := Lib.hid hh; clear hh
      go_wp2_with fail
      refine HT.out.mono ?_
      rintro e w2 ⟨rfl, hg2, hb2⟩
      have HG2 := Lib.hid hg2; clear hg2
      have HB2 := Lib.hid hb2; clear hb2
      go_wp2_with fail
      go_roundw
      case rel =>
        exact ⟨k + 1, by go_num, by omega, below_of_only HB.out HG2.out hs1 (Nat.le_refl _), HB2.out, HH.out.grown HG2.out hlt1 (by simp), Nat.lt_of_lt_of_le hlt1 HG2.out.size⟩
      case measure => simp [intOf]; omega
    · obtain rfl : k = s.size := by omega
      rw [List.take_of_length_le (by rw [HN.out]; omega)] at hm hblk
      have c1 : wr.cell? ⟨w.heap.size, 0, none⟩ = some (.int .u32 (crcL d (nats s) : Nat)) := by rw [hblk.cell]; rfl
      have hi2 := inv32 _ hm
      have HB := Lib.hid hB; clear hB hblk hh H
      go_wp2_with fail
      go_ret
      refine ⟨?_, HB.out⟩
      show _ = Ending.returned (.int .u32 (inv (crcL (inv c) (nats s)) : Nat))
      rw [HD.out]
      rfl
theorem crc_any (s : ByteArray) (w : World) (hs : s.size ≤ 9223372036854775807) :
    Calls Try.prog 19 #[.string s] w fun e w' => e = .returned (.int .u32 (crcC (nats s) : Nat)) ∧ Below w.heap.size w w' := by
  go_enter Try.func19, Try.ntmps19
  go_wp2_with fail
  refine (on_any 0 s w (by omega) hs).mono ?_
  rintro e w1 ⟨rfl, hb⟩
  have HB := Lib.hid hb; clear hb
  go_wp2_with fail
  go_ret
  exact ⟨rfl, HB.out⟩

set_option maxRecDepth 100000 in
theorem rstep_any (n b : Nat) (w : World) (hn : n < 4294967296) (hb : b < 256) :
    Calls Try.prog 50 #[.int .u32 n, .int .u8 b] w fun e w' => e = .returned (.int .u32 (byteC n b : Nat)) ∧ w = w' := by
  have hx := xor32 n b hn (by omega)
  have hx32 := xor_lt32 n b hn (by omega)
  have HX := Lib.hid hx32; clear hx32
  go_enter Try.func50, Try.ntmps50
  go_wp2_with fail
  go_loop [0, 5, 6] (fun m i o => ∃ k m' : Nat, m = .int .u32 m' ∧ i = .int .i64 k ∧ k ≤ 8 ∧ Hid (m' = bitsN k (n ^^^ b))) (fun _ i _ => 8 - (intOf i).toNat)
  case atStart => exact ⟨0, n ^^^ b, rfl, rfl, by omega, rfl⟩
  case round =>
    obtain ⟨k, m, rfl, rfl, hk, H⟩ := hrel
    have hm : m < 4294967296 := by rw [H.out]; exact bitsN_lt k _ HX.out
    have hnx := bitsN_succ k (n ^^^ b)
    rw [← H.out] at hnx
    have HN := Lib.hid hnx; clear hnx
    by_cases hlt : k < 8
    · by_cases hp : m % 2 = 1
      · have hx2 := xor32 (m / 2) poly (by omega) (by decide)
        have hbit : bit m = m / 2 ^^^ poly := if_pos hp
        rw [← hbit, show ((poly : Nat) : Int) = 3988292384 from rfl] at hx2
        have q5 : (m : Int) / 2 = ((m / 2 : Nat) : Int) := by omega
        have q6 : (m : Int).tmod 2 = 1 := by rw [Int.tmod_eq_emod_of_nonneg (by omega)]; omega
        have q7 : IntKind.u32.wrap ((m / 2 : Nat) : Int) = ((m / 2 : Nat) : Int) := by rw [IntKind.wrap_u32]; omega
        have HP := Lib.hid hp; clear hp
        have HBT := Lib.hid hbit; clear hbit
        obtain ⟨m2, hm2⟩ : ∃ m2, m / 2 = m2 := ⟨_, rfl⟩
        rw [hm2] at hx2 q5 q7
        clear hm2
        go_wp2_with fail
        go_round
        case rel => exact ⟨k + 1, bit m, rfl, by go_num, by omega, HN.out.symm⟩
        case measure => simp [intOf]; omega
      · have hbit : bit m = m / 2 := if_neg hp
        have q6 : (m : Int).tmod 2 = 0 := by rw [Int.tmod_eq_emod_of_nonneg (by omega)]; omega
        have q5 : (m : Int) / 2 = ((m / 2 : Nat) : Int) := by omega
        have q7 : IntKind.u32.wrap ((m / 2 : Nat) : Int) = ((m / 2 : Nat) : Int) := by rw [IntKind.wrap_u32]; omega
        have HP := Lib.hid hp; clear hp
        obtain ⟨m2, hm2⟩ : ∃ m2, m / 2 = m2 := ⟨_, rfl⟩
        rw [hm2] at q5 q7 hbit
        have HBT := Lib.hid hbit; clear hbit hm2
        go_wp2_with fail
        go_round
        case rel => exact ⟨k + 1, m2, rfl, by go_num, by omega, by rw [← HBT.out]; exact HN.out.symm⟩
        case measure => simp [intOf]; omega
    · obtain rfl : k = 8 := by omega
      go_wp2_with fail
      go_ret
      refine ⟨?_, rfl⟩
      show Ending.returned (Value.int .u32 (m : Int)) = _
      rw [H.out]; rfl

set_option maxRecDepth 100000 in
theorem ron_any (c : Nat) (s : ByteArray) (w : World) (hc : c < 4294967296) (hs : s.size ≤ 9223372036854775807) :
    Calls Try.prog 22 #[.int .u32 c, .string s] w fun e w' => e = .returned (.int .u32 (onC c (nats s) : Nat)) ∧ w = w' := by
  have hn := nats_length s
  have HN := Lib.hid hn; clear hn
  have hi := inv32 c hc
  have hil := inv_lt c hc
  have HIL := Lib.hid hil; clear hil
  obtain ⟨d, hd⟩ : ∃ d, inv c = d := ⟨_, rfl⟩
  rw [hd] at hi
  have HD := Lib.hid hd; clear hd
  go_enter Try.func22, Try.ntmps22
  go_wp2_with fail
  go_loop [5, 6] (fun m i => ∃ k m' : Nat, m = .int .u32 m' ∧ i = .int .i64 k ∧ k ≤ s.size ∧ Hid (m' = crcL d ((nats s).take k))) (fun _ i => s.size - (intOf i).toNat)
  case atStart => exact ⟨0, d, rfl, rfl, by omega, rfl⟩
  case round =>
    obtain ⟨k, m, rfl, rfl, hk, H⟩ := hrel
    have hbt : Bytes ((nats s).take k) := (nats_bytes s).take k
    have hm : m < 4294967296 := by rw [H.out]; exact crcL_lt ((nats s).take k) d (by rw [← HD.out]; exact HIL.out) hbt
    by_cases hlt : k < s.size
    · obtain ⟨x, hx⟩ : ∃ x, (nats s)[k]? = some x := ⟨_, List.getElem?_eq_getElem (by rw [HN.out]; exact hlt)⟩
      have hxb : x < 256 := nats_bytes s x (List.mem_of_getElem? hx)
      have hbx : ((s[k]'hlt).toNat : Int) = (x : Int) := (PlainAid.get_bt s k hlt).trans (bt_nats s k x hx)
      have ht8 := rstep_any m x w hm hxb
      have hnx : byteC m x = crcL d ((nats s).take (k + 1)) := by rw [take_snoc _ _ _ hx, crcL_snoc, H.out]
      have HT := Lib.hid ht8; clear ht8 hx
      have HNX := Lib.hid hnx; clear hnx
      go_wp2_with fail
      refine HT.out.mono ?_
      rintro e w2 ⟨rfl, rfl⟩
      go_wp2_with fail
      go_round
      case rel => exact ⟨k + 1, byteC m x, rfl, by go_num, by omega, HNX.out⟩
      case measure => simp [intOf]; omega
    · obtain rfl : k = s.size := by omega
      have hi2 := inv32 _ hm
      go_wp2_with fail
      go_ret
      refine ⟨?_, rfl⟩
      show Ending.returned (.int .u32 (inv m : Nat)) = Ending.returned (.int .u32 (inv (crcL (inv c) (nats s)) : Nat))
      rw [HD.out, H.out, List.take_of_length_le (by rw [HN.out]; omega)]
theorem rcrc_any (s : ByteArray) (w : World) (hs : s.size ≤ 9223372036854775807) :
    Calls Try.prog 20 #[.string s] w fun e w' => e = .returned (.int .u32 (crcC (nats s) : Nat)) ∧ w = w' := by
  go_enter Try.func20, Try.ntmps20
  go_wp2_with fail
  refine (ron_any 0 s w (by omega) hs).mono ?_
  rintro e w1 ⟨rfl, rfl⟩
  go_wp2_with fail
  go_ret
  exact ⟨rfl, rfl⟩
end Go.Proofs.Ytdoaajjmibkfeaa
