/-
  Frames, the walk: Frame, Unframe of the program.
-/
import Derived.Test.YtdoaajjmibkfeaaFrameP
import Derived.Deep.QuietTactic
import Derived.BigQuiet
namespace Go.Proofs.Ytdoaajjmibkfeaa
open Go.RowKit PlainP WireP CrcP

theorem fixedV4 (a : ByteArray) (n : Nat) (h : n < 4294967296) : fixedV a n 4 = .tuple #[.string (a ++ mkS (be 4 n)), .int .i64 0] := by
  rw [fixedV, if_pos ⟨by omega, by omega, decide_eq_true (.inr (by have : (256 : Nat) ^ (4 : Int).toNat = 4294967296 := by decide
                                                                   omega))⟩]
  rfl

set_option maxRecDepth 100000 in
theorem frame_any (s : ByteArray) (w : World) (hs : s.size ≤ 9000000000000000) :
    Calls Try.prog 12 #[.string s] w fun e w' => e = .returned (frameV s) ∧ Below w.heap.size w w' := by
  by_cases hbig : 67108864 < s.size
  · have hv : frameV s = .tuple #[.string ⟨#[]⟩, .int .i64 1] := if_pos hbig
    rw [hv]
    go_enter Try.func12, Try.ntmps12
    go_wp2_with fail
    go_ret2
    exact ⟨rfl, Below.refl _ _⟩
  · have hv : frameV s = .tuple #[.string (fr s), .int .i64 0] := if_neg hbig
    have hfr : mkS (be 4 s.size) ++ mkS (be 4 (sumB (nats s))) ++ s = fr s := rfl
    have h1 := fun W => putFixed_any ⟨#[]⟩ s.size 4 W (by decide) (by omega) (by omega) (by omega)
    rw [fixedV4 _ _ (by omega), empty_app] at h1
    have hz4 : (mkS (be 4 s.size)).size = 4 := by rw [mkS_size, be_length]
    have h2 := fun W => crc_any (mkS (be 4 s.size)) W (by omega)
    have hsl := sumB_lt (nats s) (nats_bytes s)
    have hc4 : crcC (nats (mkS (be 4 s.size))) < 4294967296 := onC_lt _ _ (by omega) (nats_bytes _)
    have h3 := fun W => on_any (crcC (nats (mkS (be 4 s.size)))) s W hc4 (by omega)
    have e3 : onC (crcC (nats (mkS (be 4 s.size)))) (nats s) = sumB (nats s) := by
      unfold crcC sumB; rw [onC_append, nats_mkS (be_bytes _ _), nats_length]; rfl
    rw [e3] at h3
    generalize crcC (nats (mkS (be 4 s.size))) = c4 at *
    have h4 := fun W => putFixed_any (mkS (be 4 s.size)) (sumB (nats s)) 4 W (by omega) (by omega) (by omega) (by omega)
    rw [fixedV4 _ _ hsl] at h4
    have hz8 : (mkS (be 4 (sumB (nats s)))).size = 4 := by rw [mkS_size, be_length]
    have hz84 : (mkS (be 4 s.size) ++ mkS (be 4 (sumB (nats s)))).size = 8 := by rw [ByteArray.size_append]; omega
    generalize sumB (nats s) = sm at *
    rw [hv, ← hfr]
    clear hfr hv e3
    generalize mkS (be 4 s.size) = z4 at *
    generalize z4 ++ mkS (be 4 sm) = z8 at *
    have H1 := Lib.hid h1; have H2 := Lib.hid h2; have H3 := Lib.hid h3; have H4 := Lib.hid h4
    clear h1 h2 h3 h4
    go_enter Try.func12, Try.ntmps12
    go_wp2_with fail
    refine (H1.out _).mono ?_
    rintro e w1 ⟨rfl, hb1⟩
    have HB1 := Lib.hid hb1; clear hb1
    go_wp2_with fail
    refine (H2.out _).mono ?_
    rintro e w2 ⟨rfl, hb⟩
    have hB2 : Below w.heap.size w w2 := HB1.out.trans (hb.mono HB1.out.size)
    have HB2 := Lib.hid hB2; clear hb hB2
    go_wp2_with fail
    refine (H3.out _).mono ?_
    rintro e w3 ⟨rfl, hb⟩
    have hB3 : Below w.heap.size w w3 := HB2.out.trans (hb.mono HB2.out.size)
    have HB3 := Lib.hid hB3; clear hb hB3
    go_wp2_with fail
    refine (H4.out _).mono ?_
    rintro e w4 ⟨rfl, hb⟩
    have hB4 : Below w.heap.size w w4 := HB3.out.trans (hb.mono HB3.out.size)
    have HB4 := Lib.hid hB4; clear hb hB4
    go_wp2_with fail
    go_ret2
    exact ⟨rfl, HB4.out⟩

theorem fixV_yes (s : ByteArray) (h : 4 ≤ s.size) : fixV s 4 = .tuple #[.int .u64 (beVal 0 ((nats s).take 4) : Nat), .int .i64 0] ∧ fixRest s 4 = s.extract 4 s.size := by
  constructor
  · rw [fixV, if_neg (by omega), if_pos (by omega)]; rfl
  · rw [fixRest, if_pos ⟨by omega, by omega, by omega⟩]; rfl
theorem fixV_no (s : ByteArray) (h : s.size < 4) : fixV s 4 = .tuple #[.int .u64 0, .int .i64 4] ∧ fixRest s 4 = s := by
  constructor
  · rw [fixV, if_neg (by omega), if_neg (by omega)]
  · rw [fixRest, if_neg (by omega)]
theorem be4_lt (l : List Nat) (h : Bytes l) (hl : l.length ≤ 4) : beVal 0 l < 4294967296 := by
  have h1 := beVal_lt l 0 h
  have h2 : 256 ^ l.length ≤ 256 ^ 4 := Nat.pow_le_pow_right (by omega) hl
  have : (256 : Nat) ^ 4 = 4294967296 := by decide
  omega
theorem take4_lt (l : List Nat) (h : Bytes l) : beVal 0 (l.take 4) < 4294967296 := be4_lt _ (h.take 4) (List.length_take_le _ _)

set_option maxRecDepth 100000 in
set_option maxHeartbeats 1000000 in
theorem unframe_any (s : ByteArray) (w : World) (hs : s.size ≤ 9000000000000000) :
    Calls Try.prog 13 #[.string s] w fun e w' => e = .returned (unfV (unfS s)) ∧ Below w.heap.size w w' := by
  have hN := nats_length s
  have hb0 := nats_bytes s
  obtain ⟨g, hg⟩ : ∃ g, w.heap.size = g := ⟨_, rfl⟩
  have hgw : w.heap.size ≤ g := by omega
  have hnew : Below w.heap.size w (w.alloc (.cells #[.string s] 78)) ∧ Blk (w.alloc (.cells #[.string s] 78)) g 78 #[.string s] := ⟨(Below.refl _ _).alloc (Nat.le_refl _) _, by rw [← hg]; exact Blk.new w _ _⟩
  by_cases h8 : s.size < 8
  · have hu : unfS s = none := if_neg (by omega)
    rw [hu]
    have hf1 := fun W (h : Blk W g 78 #[.string s]) => fixed_any g s 4 W h (by omega)
    by_cases h4 : s.size < 4
    · obtain ⟨e1, e2⟩ := fixV_no s h4
      rw [e1, e2] at hf1
      have HF1 := Lib.hid hf1; clear hf1 e1 e2
      have HNW := Lib.hid hnew; clear hnew
      clear hb0 hN
      go_enter Try.func13, Try.ntmps13
      go_wp2_with fail
      refine (wnew_any s w).mono ?_
      rintro e w1 ⟨rfl, rfl⟩
      rw [hg]
      generalize w.alloc (.cells #[.string s] 78) = W1 at *
      clear hg
      go_wp2_with fail
      refine (HF1.out _ HNW.out.2).mono ?_
      rintro e w2 ⟨rfl, hg2, hb2⟩
      have hB2 := below_of_only HNW.out.1 hg2 HNW.out.1.size hgw
      have HB2 := Lib.hid hB2; have HK2 := Lib.hid hb2; clear hg2 hb2 hB2
      go_wp2_with fail
      refine (HF1.out _ HK2.out).mono ?_
      rintro e w3 ⟨rfl, hg3, hb3⟩
      have hB3 := below_of_only HB2.out hg3 HB2.out.size hgw
      have HB3 := Lib.hid hB3; clear hg3 hb3 hB3
      go_wp2_with fail
      go_ret3
      exact ⟨rfl, HB3.out⟩
    · obtain ⟨e1, e2⟩ := fixV_yes s (by omega)
      rw [e1, e2] at hf1
      have hz1 : (s.extract 4 s.size).size < 4 := by rw [ByteArray.size_extract]; omega
      have hf2 := fun W (h : Blk W g 78 #[.string (s.extract 4 s.size)]) => fixed_any g (s.extract 4 s.size) 4 W h (by omega)
      obtain ⟨e3, e4⟩ := fixV_no (s.extract 4 s.size) hz1
      rw [e3, e4] at hf2
      generalize s.extract 4 s.size = s1 at *
      generalize beVal 0 ((nats s).take 4) = n at *
      have HF1 := Lib.hid hf1; clear hf1 e1 e2
      have HF2 := Lib.hid hf2; clear hf2 e3 e4
      have HNW := Lib.hid hnew; clear hnew
      clear hb0 hN
      go_enter Try.func13, Try.ntmps13
      go_wp2_with fail
      refine (wnew_any s w).mono ?_
      rintro e w1 ⟨rfl, rfl⟩
      rw [hg]
      generalize w.alloc (.cells #[.string s] 78) = W1 at *
      clear hg
      go_wp2_with fail
      refine (HF1.out _ HNW.out.2).mono ?_
      rintro e w2 ⟨rfl, hg2, hb2⟩
      have hB2 := below_of_only HNW.out.1 hg2 HNW.out.1.size hgw
      have HB2 := Lib.hid hB2; have HK2 := Lib.hid hb2; clear hg2 hb2 hB2
      go_wp2_with fail
      refine (HF2.out _ HK2.out).mono ?_
      rintro e w3 ⟨rfl, hg3, hb3⟩
      have hB3 := below_of_only HB2.out hg3 HB2.out.size hgw
      have HB3 := Lib.hid hB3; clear hg3 hb3 hB3
      go_wp2_with fail
      go_ret3
      exact ⟨rfl, HB3.out⟩
  · have hf1 := fun W (h : Blk W g 78 #[.string s]) => fixed_any g s 4 W h (by omega)
    obtain ⟨e1, e2⟩ := fixV_yes s (by omega)
    rw [e1, e2] at hf1
    have hn1 : nats (s.extract 4 s.size) = (nats s).drop 4 := by rw [nats_extract]; exact List.take_of_length_le (by rw [List.length_drop]; omega)
    have hz1 : (s.extract 4 s.size).size = s.size - 4 := by rw [ByteArray.size_extract]; omega
    have hf2 := fun W (h : Blk W g 78 #[.string (s.extract 4 s.size)]) => fixed_any g (s.extract 4 s.size) 4 W h (by omega)
    obtain ⟨e3, e4⟩ := fixV_yes (s.extract 4 s.size) (by omega)
    rw [e3, e4, hn1] at hf2
    have hn2 : nats ((s.extract 4 s.size).extract 4 (s.extract 4 s.size).size) = (nats s).drop 8 := by rw [nats_extract, hn1, List.drop_drop]; exact List.take_of_length_le (by rw [List.length_drop]; omega)
    have hz2 : ((s.extract 4 s.size).extract 4 (s.extract 4 s.size).size).size = s.size - 8 := by rw [ByteArray.size_extract]; omega
    have hu : unfS s = if 8 ≤ s.size ∧ _ then _ else _ := rfl
    have hn32 := take4_lt (nats s) hb0
    have hc32 := take4_lt ((nats s).drop 4) (hb0.drop 4)
    generalize hS2 : (s.extract 4 s.size).extract 4 (s.extract 4 s.size).size = s2 at *
    generalize s.extract 4 s.size = s1 at *
    generalize beVal 0 (((nats s).drop 4).take 4) = c at *
    clear e1 e2 e3 e4 hn1 hz1 hS2
    have HF1 := Lib.hid hf1; clear hf1
    have HF2 := Lib.hid hf2; clear hf2
    have HNW := Lib.hid hnew; clear hnew
    by_cases hbig : 67108864 < beVal 0 ((nats s).take 4)
    · rw [if_neg (by omega)] at hu
      rw [hu]
      generalize beVal 0 ((nats s).take 4) = n at *
      clear hb0 hN hu hn2 hz2
      go_enter Try.func13, Try.ntmps13
      go_wp2_with fail
      refine (wnew_any s w).mono ?_
      rintro e w1 ⟨rfl, rfl⟩
      rw [hg]
      generalize w.alloc (.cells #[.string s] 78) = W1 at *
      clear hg
      go_wp2_with fail
      refine (HF1.out _ HNW.out.2).mono ?_
      rintro e w2 ⟨rfl, hg2, hb2⟩
      have hB2 := below_of_only HNW.out.1 hg2 HNW.out.1.size hgw
      have HB2 := Lib.hid hB2; have HK2 := Lib.hid hb2; clear hg2 hb2 hB2
      go_wp2_with fail
      refine (HF2.out _ HK2.out).mono ?_
      rintro e w3 ⟨rfl, hg3, hb3⟩
      have hB3 := below_of_only HB2.out hg3 HB2.out.size hgw
      have HB3 := Lib.hid hB3; have HK3 := Lib.hid hb3; clear hg3 hb3 hB3
      go_wp2_with fail
      go_ret3
      exact ⟨rfl, HB3.out⟩
    by_cases hsh : s2.size < beVal 0 ((nats s).take 4)
    · rw [if_neg (by omega)] at hu
      rw [hu]
      generalize beVal 0 ((nats s).take 4) = n at *
      have htk := fun W (h : Blk W g 78 #[.string s2]) => take_any g s2 n W h (by omega) (by omega)
      have hv : takeV s2 n = .tuple #[.string ⟨#[]⟩, .int .i64 4] := by rw [takeV, if_neg (by omega), if_neg (by omega)]
      rw [hv] at htk
      have HTK := Lib.hid htk; clear htk hv
      clear hb0 hN hu hn2 hz2 hsh
      go_enter Try.func13, Try.ntmps13
      go_wp2_with fail
      refine (wnew_any s w).mono ?_
      rintro e w1 ⟨rfl, rfl⟩
      rw [hg]
      generalize w.alloc (.cells #[.string s] 78) = W1 at *
      clear hg
      go_wp2_with fail
      refine (HF1.out _ HNW.out.2).mono ?_
      rintro e w2 ⟨rfl, hg2, hb2⟩
      have hB2 := below_of_only HNW.out.1 hg2 HNW.out.1.size hgw
      have HB2 := Lib.hid hB2; have HK2 := Lib.hid hb2; clear hg2 hb2 hB2
      go_wp2_with fail
      refine (HF2.out _ HK2.out).mono ?_
      rintro e w3 ⟨rfl, hg3, hb3⟩
      have hB3 := below_of_only HB2.out hg3 HB2.out.size hgw
      have HB3 := Lib.hid hB3; have HK3 := Lib.hid hb3; clear hg3 hb3 hB3
      go_wp2_with fail
      refine (HTK.out _ HK3.out).mono ?_
      rintro e w4 ⟨rfl, hg4, -⟩
      have hB4 := below_of_only HB3.out hg4 HB3.out.size hgw
      have HB4 := Lib.hid hB4; clear hg4 hB4
      go_wp2_with fail
      go_ret3
      exact ⟨rfl, HB4.out⟩
    · have hnz : beVal 0 ((nats s).take 4) ≤ s2.size := by omega
      have htk := fun W (h : Blk W g 78 #[.string s2]) => take_any g s2 (beVal 0 ((nats s).take 4) : Nat) W h (by omega) (by omega)
      have hv : takeV s2 (beVal 0 ((nats s).take 4) : Nat) = .tuple #[.string (s2.extract 0 (beVal 0 ((nats s).take 4))), .int .i64 0] := by rw [takeV, if_neg (by omega), if_pos (by omega), Int.toNat_natCast]
      rw [hv] at htk
      have hp : s2.extract 0 (beVal 0 ((nats s).take 4)) = s.extract 8 (8 + beVal 0 ((nats s).take 4)) := nats_inj (by
        rw [nats_extract, nats_extract, hn2, List.drop_zero, Nat.sub_zero, Nat.add_sub_cancel_left])
      have hpz : (s.extract 8 (8 + beVal 0 ((nats s).take 4))).size = beVal 0 ((nats s).take 4) := by rw [ByteArray.size_extract]; omega
      have hpn : nats (s.extract 8 (8 + beVal 0 ((nats s).take 4))) = ((nats s).drop 8).take (beVal 0 ((nats s).take 4)) := by rw [nats_extract, Nat.add_sub_cancel_left]
      rw [hp] at htk
      have h4z : (s.extract 0 4).size = 4 := by rw [ByteArray.size_extract]; omega
      have h4n : nats (s.extract 0 4) = (nats s).take 4 := by rw [nats_extract]; rfl
      have hc1 := fun W => crc_any (s.extract 0 4) W (by omega)
      have hc4 : crcC (nats (s.extract 0 4)) < 4294967296 := onC_lt _ _ (by omega) (nats_bytes _)
      have hc2 := fun W => on_any (crcC (nats (s.extract 0 4))) (s.extract 8 (8 + beVal 0 ((nats s).take 4))) W hc4 (by omega)
      have e3 : onC (crcC (nats (s.extract 0 4))) (nats (s.extract 8 (8 + beVal 0 ((nats s).take 4)))) = crcC ((nats s).take 4 ++ ((nats s).drop 8).take (beVal 0 ((nats s).take 4))) := by
        rw [hpn, h4n]; unfold crcC; rw [onC_append]
      rw [e3] at hc2
      have hccl : crcC ((nats s).take 4 ++ ((nats s).drop 8).take (beVal 0 ((nats s).take 4))) < 4294967296 := onC_lt _ _ (by omega) ((hb0.take 4).append ((hb0.drop 8).take _))
      clear e3 hp hv hpn h4n hn2
      generalize crcC (nats (s.extract 0 4)) = c4 at *
      generalize crcC ((nats s).take 4 ++ ((nats s).drop 8).take (beVal 0 ((nats s).take 4))) = cc at *
      have h4s : s.extract 0 4 = s.extract 0 4 := rfl
      generalize hn : beVal 0 ((nats s).take 4) = n at *
      clear hn
      generalize hP : s.extract 8 (8 + n) = p at *
      have HTK := Lib.hid htk; clear htk
      have HC1 := Lib.hid hc1; clear hc1
      have HC2 := Lib.hid hc2; clear hc2
      have HPP := Lib.hid hP; clear hP h4s
      clear hb0 hN
      by_cases hcc : cc = c
      · rw [if_pos ⟨by omega, by omega, by omega, hcc⟩] at hu
        rw [hu]
        subst hcc
        have hpi : (8 : Int) + (p.size : Int) = ((8 + n : Nat) : Int) := by omega
        clear hu
        go_enter Try.func13, Try.ntmps13
        go_wp2_with fail
        refine (wnew_any s w).mono ?_
        rintro e w1 ⟨rfl, rfl⟩
        rw [hg]
        generalize w.alloc (.cells #[.string s] 78) = W1 at *
        clear hg
        go_wp2_with fail
        refine (HF1.out _ HNW.out.2).mono ?_
        rintro e w2 ⟨rfl, hg2, hb2⟩
        have hB2 := below_of_only HNW.out.1 hg2 HNW.out.1.size hgw
        have HB2 := Lib.hid hB2; have HK2 := Lib.hid hb2; clear hg2 hb2 hB2
        go_wp2_with fail
        refine (HF2.out _ HK2.out).mono ?_
        rintro e w3 ⟨rfl, hg3, hb3⟩
        have hB3 := below_of_only HB2.out hg3 HB2.out.size hgw
        have HB3 := Lib.hid hB3; have HK3 := Lib.hid hb3; clear hg3 hb3 hB3
        go_wp2_with fail
        refine (HTK.out _ HK3.out).mono ?_
        rintro e w4 ⟨rfl, hg4, -⟩
        have hB4 := below_of_only HB3.out hg4 HB3.out.size hgw
        have HB4 := Lib.hid hB4; clear hg4 hB4
        go_wp2_with fail
        refine (HC1.out _).mono ?_
        rintro e w5 ⟨rfl, hb⟩
        have hB5 : Below w.heap.size w w5 := HB4.out.trans (hb.mono HB4.out.size)
        have HB5 := Lib.hid hB5; clear hb hB5
        go_wp2_with fail
        refine (HC2.out _).mono ?_
        rintro e w6 ⟨rfl, hb⟩
        have hB6 : Below w.heap.size w w6 := HB5.out.trans (hb.mono HB5.out.size)
        have HB6 := Lib.hid hB6; clear hb hB6
        go_wp2_with fail
        go_quiet (fail)
        go_wp2_with fail
        go_ret3
        exact ⟨rfl, below_drewN HB6.out _⟩
      · rw [if_neg (fun h => hcc h.2.2.2)] at hu
        rw [hu]
        clear hu
        have hcd : ((cc : Int) != (c : Int)) = true := by rw [bne_iff_ne]; omega
        go_enter Try.func13, Try.ntmps13
        go_wp2_with fail
        refine (wnew_any s w).mono ?_
        rintro e w1 ⟨rfl, rfl⟩
        rw [hg]
        generalize w.alloc (.cells #[.string s] 78) = W1 at *
        clear hg
        go_wp2_with fail
        refine (HF1.out _ HNW.out.2).mono ?_
        rintro e w2 ⟨rfl, hg2, hb2⟩
        have hB2 := below_of_only HNW.out.1 hg2 HNW.out.1.size hgw
        have HB2 := Lib.hid hB2; have HK2 := Lib.hid hb2; clear hg2 hb2 hB2
        go_wp2_with fail
        refine (HF2.out _ HK2.out).mono ?_
        rintro e w3 ⟨rfl, hg3, hb3⟩
        have hB3 := below_of_only HB2.out hg3 HB2.out.size hgw
        have HB3 := Lib.hid hB3; have HK3 := Lib.hid hb3; clear hg3 hb3 hB3
        go_wp2_with fail
        refine (HTK.out _ HK3.out).mono ?_
        rintro e w4 ⟨rfl, hg4, -⟩
        have hB4 := below_of_only HB3.out hg4 HB3.out.size hgw
        have HB4 := Lib.hid hB4; clear hg4 hB4
        go_wp2_with fail
        refine (HC1.out _).mono ?_
        rintro e w5 ⟨rfl, hb⟩
        have hB5 : Below w.heap.size w w5 := HB4.out.trans (hb.mono HB4.out.size)
        have HB5 := Lib.hid hB5; clear hb hB5
        go_wp2_with fail
        refine (HC2.out _).mono ?_
        rintro e w6 ⟨rfl, hb⟩
        have hB6 : Below w.heap.size w w6 := HB5.out.trans (hb.mono HB5.out.size)
        have HB6 := Lib.hid hB6; clear hb hB6
        go_wp2_with fail
        go_ret3
        exact ⟨rfl, HB6.out⟩
end Go.Proofs.Ytdoaajjmibkfeaa
