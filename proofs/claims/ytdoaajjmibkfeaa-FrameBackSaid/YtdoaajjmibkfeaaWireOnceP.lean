/-
  WireOnce in plain words: what was taken, put again, is the bytes that were taken.
-/
import Derived.Test.YtdoaajjmibkfeaaWireBackP
import Derived.Test.YtdoaajjmibkfeaaHexP
namespace Go.Proofs.Ytdoaajjmibkfeaa
open Go.RowKit PlainP WireP HexP

/-- taken and put again: again, then what is left, is the whole -/
def Split (s a u : ByteArray) : Prop := nats s = nats a ++ nats u
theorem Split.start (s : ByteArray) : Split s ⟨#[]⟩ s := rfl
theorem Split.size {s a u : ByteArray} (h : Split s a u) : s.size = a.size + u.size := by
  rw [← nats_length, h, List.length_append, nats_length, nats_length]
theorem Split.front {s a u : ByteArray} (h : Split s a u) : s.extract 0 a.size = a := nats_inj (by
  rw [front_of h (nats_length a).symm])
theorem Split.put {s a u : ByteArray} (h : Split s a u) (k : Nat) (l : List Nat) (hk : (nats u).take k = l) : Split s (a ++ mkS l) (u.extract k u.size) := by
  have hl := nats_length u
  have hb : Bytes l := by rw [← hk]; exact (nats_bytes u).take k
  unfold Split
  have e : l ++ ((nats u).drop k).take (u.size - k) = nats u := by
    rw [← hk, List.take_of_length_le (i := u.size - k) (by rw [List.length_drop]; omega), List.take_append_drop]
  rw [nats_append, nats_mkS hb, nats_extract, List.append_assoc, e]
  exact h

theorem once_uint {s a u : ByteArray} (h : Split s a u) (n k : Nat) (hs : short (nats u) = some (n, k)) : n < 18446744073709551616 ∧ Split s (a ++ mkS (WireP.put n)) (restU u (short (nats u))) := by
  obtain ⟨h1, h2, h3⟩ := short_some (nats_bytes u) hs
  refine ⟨h1, ?_⟩
  rw [hs]
  exact h.put k _ h3
theorem once_fix {s a u : ByteArray} (h : Split s a u) (wd : Nat) (h1 : 1 ≤ wd) (h8 : wd ≤ 8) (hle : wd ≤ u.size) :
    ∃ n, n < 18446744073709551616 ∧ fixV u (wd : Int) = .tuple #[.int .u64 (n : Nat), .int .i64 0] ∧ fixedV a n (wd : Int) = .tuple #[.string (a ++ mkS (be wd n)), .int .i64 0] ∧ Split s (a ++ mkS (be wd n)) (fixRest u (wd : Int)) := by
  have hl := nats_length u
  have hlt := beVal_lt0 (nats u) wd (nats_bytes u) (by omega)
  have hp : 256 ^ wd ≤ 256 ^ 8 := Nat.pow_le_pow_right (by omega) h8
  have e8 : (256 : Nat) ^ 8 = 18446744073709551616 := by decide
  refine ⟨beVal 0 ((nats u).take wd), by omega, ?_, ?_, ?_⟩
  · rw [fixV, if_neg (by omega), if_pos (by omega), Int.toNat_natCast]
  · rw [fixedV, if_pos ⟨by omega, by omega, decide_eq_true (.inr (by rw [Int.toNat_natCast]; exact hlt))⟩, Int.toNat_natCast]
  · rw [fixRest, if_pos ⟨by omega, by omega, by omega⟩, Int.toNat_natCast]
    refine h.put wd _ ?_
    have hb := be_beVal ((nats u).take wd) 0 ((nats_bytes u).take wd)
    rw [List.length_take, Nat.min_eq_left (by omega)] at hb
    exact hb.symm
theorem once_fix_no (u : ByteArray) (wd : Nat) (h1 : 1 ≤ wd) (h8 : wd ≤ 8) (hle : ¬ wd ≤ u.size) : fixV u (wd : Int) = .tuple #[.int .u64 0, .int .i64 4] ∧ fixRest u (wd : Int) = u := by
  constructor
  · rw [fixV, if_neg (by omega), if_neg (by omega)]
  · rw [fixRest, if_neg (by omega)]
theorem once_text {s a u : ByteArray} (h : Split s a u) (m n k : Nat) (ht : txt u m = some (n, k)) :
    ∃ t, textV u (m : Int) = .tuple #[.string t, .int .i64 0] ∧ t.size ≤ u.size ∧ Split s (a ++ mkS (WireP.put t.size) ++ t) (textRest u (m : Int)) := by
  have hle := txt_le u m n k ht
  have hs : short (nats u) = some (n, k) := by
    unfold txt at ht
    split at ht
    · cases ht
    · rename_i n' k' hs'
      split at ht
      · simp only [Option.some.injEq, Prod.mk.injEq] at ht
        rw [hs', ht.1, ht.2]
      · cases ht
  obtain ⟨h1, h2, h3⟩ := short_some (nats_bytes u) hs
  have hz : (u.extract k (k + n)).size = n := by rw [ByteArray.size_extract]; omega
  refine ⟨u.extract k (k + n), ?_, by omega, ?_⟩
  · rw [textV, if_neg (by omega), Int.toNat_natCast, ht]
    rfl
  · rw [textRest, if_neg (by omega), Int.toNat_natCast, ht, hz]
    have hp := h.put (k + n) _ rfl
    have e : mkS ((nats u).take (k + n)) = mkS (WireP.put n) ++ u.extract k (k + n) := by
      apply nats_inj
      rw [nats_mkS ((nats_bytes u).take _), nats_append, nats_mkS (put_byte h1), nats_extract, ← h3, Nat.add_sub_cancel_left, ← List.take_add]
    rw [e, ← ByteArray.append_assoc] at hp
    exact hp
theorem once_text_no (u : ByteArray) (m : Nat) (ht : txt u m = none) : textV u (m : Int) = .tuple #[.string ⟨#[]⟩, .int .i64 4] ∧ textRest u (m : Int) = u := by
  constructor
  · rw [textV, if_neg (by omega), Int.toNat_natCast, ht]; rfl
  · rw [textRest, if_neg (by omega), Int.toNat_natCast, ht]; rfl
theorem once_hex (s : ByteArray) : unhexL (nats (mkS (hexL (nats s)))) = some (nats s) := by
  rw [nats_mkS (hexL_bytes _ (nats_bytes s)), unhexL_hexL _ (nats_bytes s)]
theorem once_unhex (s : ByteArray) (r : List Nat) (h : unhexL (nats s) = some r) : mkS (hexL (nats (mkS r))) = s ∧ (mkS r).size ≤ s.size := by
  have hb := unhexL_bytes _ _ _ (Nat.le_refl _) h
  have hl := unhexL_len _ _ _ (Nat.le_refl _) h
  rw [nats_mkS hb, hexL_unhexL _ _ _ (Nat.le_refl _) h, mkS_nats]
  rw [nats_length] at hl
  exact ⟨rfl, by rw [mkS_size]; omega⟩
end Go.Proofs.Ytdoaajjmibkfeaa
