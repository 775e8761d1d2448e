/-
  FrameTold in plain words: one byte that is turned is told, and a frame that is cut short is none.
-/
import Derived.Test.YtdoaajjmibkfeaaFrameP
namespace Go.Proofs.Ytdoaajjmibkfeaa
open Go.RowKit PlainP WireP CrcP

theorem unf_bad (s : ByteArray) (n : Nat) (c4 p tl : List Nat) (h : nats s = be 4 n ++ (c4 ++ (p ++ tl))) (hn : n < 4294967296) (hc : c4.length = 4) (hp : p.length = n) (hbad : crcC (be 4 n ++ p) ≠ beVal 0 c4) : unfS s = none := by
  have ht4 : (nats s).take 4 = be 4 n := by rw [h]; exact List.take_left' (be_length _ _)
  have hd4 : (nats s).drop 4 = c4 ++ (p ++ tl) := by rw [h]; exact List.drop_left' (be_length _ _)
  have hd8 : (nats s).drop 8 = p ++ tl := by
    rw [show 8 = 4 + 4 from rfl, ← List.drop_drop, hd4]; exact List.drop_left' hc
  have hv : beVal 0 (be 4 n) = n := by
    rw [beVal_be, Nat.mod_eq_of_lt (by have : (256 : Nat) ^ 4 = 4294967296 := by decide
                                       omega)]; omega
  unfold unfS
  rw [ht4, hd4, hd8, hv, List.take_left' hc, List.take_left' hp]
  exact if_neg fun hh => hbad hh.2.2.2
theorem beVal_inj4 {a b : List Nat} (ha : Bytes a) (hb : Bytes b) (hl : a.length = b.length) (h : beVal 0 a = beVal 0 b) : a = b := by
  have h1 := be_beVal a 0 ha
  have h2 := be_beVal b 0 hb
  rw [← h1, h, hl, h2]
theorem set_ne (l : List Nat) (j x z : Nat) (h : l[j]? = some x) (hz : z ≠ x) : l.set j z ≠ l := by
  intro e
  have h1 : (l.set j z)[j]? = some z := by
    rw [List.getElem?_set, if_pos rfl, if_pos (List.getElem?_eq_some_iff.1 h).1]
  rw [e, h] at h1
  injection h1 with h1
  exact hz h1.symm
theorem set_split (l : List Nat) (j x z : Nat) (h : l[j]? = some x) : l = l.take j ++ x :: l.drop (j + 1) ∧ l.set j z = l.take j ++ z :: l.drop (j + 1) := by
  obtain ⟨hj, rfl⟩ := List.getElem?_eq_some_iff.1 h
  constructor
  · rw [← List.drop_eq_getElem_cons hj, List.take_append_drop]
  · rw [List.set_eq_take_append_cons_drop, if_pos hj]

theorem told (p tail : ByteArray) (hp : p.size ≤ 2000) (q x z : Nat) (h4 : 4 ≤ q) (hq : q < 8 + p.size) (hx : (nats (fr p ++ tail))[q]? = some x) (hz : z < 256) (hne : z ≠ x) :
    unfS (mkS ((nats (fr p ++ tail)).set q z)) = none := by
  have hn : nats (fr p ++ tail) = be 4 p.size ++ (be 4 (sumB (nats p)) ++ (nats p ++ nats tail)) := by
    rw [nats_append, nats_fr]; simp only [List.append_assoc]
  have hb := (nats_bytes (fr p ++ tail)).set q hz
  have hsum := sumB_lt (nats p) (nats_bytes p)
  have hv2 : beVal 0 (be 4 (sumB (nats p))) = sumB (nats p) := by
    rw [beVal_be, Nat.mod_eq_of_lt (by have : (256 : Nat) ^ 4 = 4294967296 := by decide
                                       omega)]; omega
  have hlp := nats_length p
  have hse : crcC (be 4 p.size ++ nats p) = sumB (nats p) := by unfold sumB; rw [hlp]
  rw [hn, List.getElem?_append_right (by rw [be_length]; exact h4), be_length] at hx
  by_cases h8 : q < 8
  · rw [List.getElem?_append_left (by rw [be_length]; omega)] at hx
    have e : (nats (fr p ++ tail)).set q z = be 4 p.size ++ ((be 4 (sumB (nats p))).set (q - 4) z ++ (nats p ++ nats tail)) := by
      rw [hn, List.set_append_right _ _ (by rw [be_length]; exact h4), be_length, List.set_append_left _ _ (by rw [be_length]; omega)]
    refine unf_bad _ p.size _ (nats p) (nats tail) (by rw [nats_mkS hb, e]) (by omega) (by rw [List.length_set, be_length]) hlp ?_
    rw [hse]
    intro hbad
    rw [← hv2] at hbad
    exact set_ne _ _ _ _ hx hne (beVal_inj4 (be_bytes _ _) ((be_bytes _ _).set _ hz) (by rw [List.length_set]) (by rw [hv2] at hbad ⊢; exact hbad)).symm
  · rw [List.getElem?_append_right (by rw [be_length]; omega), be_length, List.getElem?_append_left (by rw [hlp]; omega)] at hx
    have e : (nats (fr p ++ tail)).set q z = be 4 p.size ++ (be 4 (sumB (nats p)) ++ ((nats p).set (q - 4 - 4) z ++ nats tail)) := by
      rw [hn, List.set_append_right _ _ (by rw [be_length]; exact h4), be_length, List.set_append_right _ _ (by rw [be_length]; omega), be_length, List.set_append_left _ _ (by rw [hlp]; omega)]
    refine unf_bad _ p.size (be 4 (sumB (nats p))) _ (nats tail) (by rw [nats_mkS hb, e]) (by omega) (be_length _ _) (by rw [List.length_set, hlp]) ?_
    rw [hv2, ← hse]
    obtain ⟨e1, e2⟩ := set_split (nats p) (q - 4 - 4) x z hx
    intro hbad
    rw [e2] at hbad
    conv at hbad => rhs; rw [e1]
    rw [← List.append_assoc, ← List.append_assoc] at hbad
    have hbp := nats_bytes p
    exact hne (crc_told _ _ z x ((be_bytes _ _).append (hbp.take _)) (hbp.drop _) hz (hbp.get hx) hbad)
theorem cut_none (p : ByteArray) (hp : p.size ≤ 2000) (k : Nat) (hk : k < 8 + p.size) : unfS ((fr p).extract 0 k) = none := by
  have hz : ((fr p).extract 0 k).size = k := by rw [ByteArray.size_extract, fr_size]; omega
  by_cases h8 : k < 8
  · exact if_neg (by omega)
  · have ht4 : (nats ((fr p).extract 0 k)).take 4 = be 4 p.size := by
      rw [nats_extract, List.drop_zero, Nat.sub_zero, List.take_take, Nat.min_eq_left (by omega), nats_fr]
      exact List.take_left' (be_length _ _)
    have hv : beVal 0 (be 4 p.size) = p.size := by
      rw [beVal_be, Nat.mod_eq_of_lt (by have : (256 : Nat) ^ 4 = 4294967296 := by decide
                                         omega)]; omega
    unfold unfS
    rw [ht4, hv]
    exact if_neg (by omega)
theorem turn_ne (x b : Nat) : x ^^^ (b % 255 + 1) ≠ x := by
  intro h
  have h1 : x ^^^ (x ^^^ (b % 255 + 1)) = x ^^^ x := by rw [h]
  rw [xor_back, Nat.xor_self] at h1
  omega
end Go.Proofs.Ytdoaajjmibkfeaa
