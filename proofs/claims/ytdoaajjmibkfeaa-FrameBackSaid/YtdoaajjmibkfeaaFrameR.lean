/-
  Frames, the walk over the reference: Fixed, Laid, Frame, Unframe, All; and 'same' of the law.
-/
import Derived.Test.YtdoaajjmibkfeaaFrameNoneW
import Derived.Test.YtdoaajjmibkfeaaWireS2
namespace Go.Proofs.Ytdoaajjmibkfeaa
open Go.RowKit PlainP WireP CrcP

set_option maxRecDepth 100000 in
theorem rfix4_any (n : Nat) (w : World) (hn : n < 4294967296) :
    Calls Try.prog 65 #[.int .u64 n, .int .i64 4] w fun e w' => e = .returned (.string (mkS (be 4 n))) ∧ Below w.heap.size w w' := by
  have h1 := fun W => rputFixed_any ⟨#[]⟩ n 4 W (by decide) (by omega) (by omega) (by omega)
  rw [fixedV4 _ _ hn, empty_app] at h1
  have H1 := Lib.hid h1; clear h1
  go_enter Try.func65, Try.ntmps65
  go_wp2_with fail
  refine (H1.out _).mono ?_
  rintro e w1 ⟨rfl, hb⟩
  have HB := Lib.hid hb; clear hb
  go_wp2_with fail
  go_ret
  exact ⟨rfl, HB.out⟩

set_option maxRecDepth 100000 in
theorem rframe_any (s : ByteArray) (w : World) (hs : s.size ≤ 9000000000000000) :
    Calls Try.prog 15 #[.string s] w fun e w' => e = .returned (frameV s) ∧ Below w.heap.size w w' := by
  by_cases hbig : 67108864 < s.size
  · have hv : frameV s = .tuple #[.string ⟨#[]⟩, .int .i64 1] := if_pos hbig
    rw [hv]
    go_enter Try.func15, Try.ntmps15
    go_wp2_with fail
    go_ret2
    exact ⟨rfl, Below.refl _ _⟩
  · have hv : frameV s = .tuple #[.string (fr s), .int .i64 0] := if_neg hbig
    rw [hv]
    have hl : ∀ W, Calls Try.prog 47 #[.string s] W fun e w' => e = .returned (.string (fr s)) ∧ Below W.heap.size W w' := by
      intro W
      have hfr : mkS (be 4 s.size) ++ mkS (be 4 (sumB (nats s))) ++ s = fr s := rfl
      have h1 := fun W => rfix4_any s.size W (by omega)
      have hz4 : (mkS (be 4 s.size)).size = 4 := by rw [mkS_size, be_length]
      have hzz : (mkS (be 4 s.size) ++ s).size = 4 + s.size := by rw [ByteArray.size_append]; omega
      have h2 := fun W => rcrc_any (mkS (be 4 s.size) ++ s) W (by omega)
      have e2 : crcC (nats (mkS (be 4 s.size) ++ s)) = sumB (nats s) := by
        unfold sumB; rw [nats_append, nats_mkS (be_bytes _ _), nats_length]
      rw [e2] at h2
      have hsl := sumB_lt (nats s) (nats_bytes s)
      have h3 := fun W => rfix4_any (sumB (nats s)) W hsl
      have hz8 : (mkS (be 4 (sumB (nats s)))).size = 4 := by rw [mkS_size, be_length]
      have hz84 : (mkS (be 4 s.size) ++ mkS (be 4 (sumB (nats s)))).size = 8 := by rw [ByteArray.size_append]; omega
      generalize sumB (nats s) = sm at *
      rw [← hfr]
      clear hfr hv e2
      generalize mkS (be 4 sm) = y4 at *
      generalize mkS (be 4 s.size) = z4 at *
      have H1 := Lib.hid h1; have H2 := Lib.hid h2; have H3 := Lib.hid h3
      clear h1 h2 h3
      go_enter Try.func47, Try.ntmps47
      go_wp2_with fail
      refine (H1.out _).mono ?_
      rintro e w1 ⟨rfl, hb⟩
      have HB1 := Lib.hid hb; clear hb
      go_wp2_with fail
      refine (H2.out _).mono ?_
      rintro e w2 ⟨rfl, rfl⟩
      go_wp2_with fail
      refine (H3.out _).mono ?_
      rintro e w3 ⟨rfl, hb⟩
      have hB3 := HB1.out.trans (hb.mono HB1.out.size)
      have HB3 := Lib.hid hB3; clear hb hB3
      go_wp2_with fail
      go_ret
      exact ⟨rfl, HB3.out⟩
    have HL := Lib.hid hl; clear hl hv
    go_enter Try.func15, Try.ntmps15
    go_wp2_with fail
    refine (HL.out _).mono ?_
    rintro e w1 ⟨rfl, hb⟩
    have HB1 := Lib.hid hb; clear hb
    go_wp2_with fail
    go_ret2
    exact ⟨rfl, HB1.out⟩



set_option maxRecDepth 100000 in
set_option maxHeartbeats 1000000 in
theorem runframe_any (s : ByteArray) (w : World) (hs : s.size ≤ 9000000000000000) :
    Calls Try.prog 16 #[.string s] w fun e w' => e = .returned (unfV (unfS s)) ∧ Below w.heap.size w w' := by
  have hN := nats_length s
  have hb0 := nats_bytes s
  obtain ⟨g, hg⟩ : ∃ g, w.heap.size = g := ⟨_, rfl⟩
  have hgw : w.heap.size ≤ g := by omega
  have hnew : Below w.heap.size w (w.alloc (.cells #[.string s] 47)) ∧ Blk (w.alloc (.cells #[.string s] 47)) g 47 #[.string s] := ⟨(Below.refl _ _).alloc (Nat.le_refl _) _, by rw [← hg]; exact Blk.new w _ _⟩
  have hf1 := fun W (h : Blk W g 47 #[.string s]) => rfixed_any g s 4 W h (by omega)
  by_cases h8 : s.size < 8
  · have hu : unfS s = none := if_neg (by omega)
    rw [hu]
    clear hu
    by_cases h4 : s.size < 4
    · obtain ⟨e1, e2⟩ := fixV_no s h4
      rw [e1, e2] at hf1
      have hf2 := hf1
      have HF1 := Lib.hid hf1; clear hf1 e1 e2
      have HF2 := Lib.hid hf2; clear hf2
      have HNW := Lib.hid hnew; clear hnew
      clear hb0 hN
      go_enter Try.func16, Try.ntmps16
      go_wp2_with fail
      generalize w.alloc (.cells #[.string s] 47) = W1 at *
      clear hg
      refine (HF1.out _ HNW.out.2).mono ?_
      rintro e w2 ⟨rfl, hg2, hb2⟩
      have hB2 := below_of_only HNW.out.1 hg2 HNW.out.1.size hgw
      have HB2 := Lib.hid hB2; have HK2 := Lib.hid hb2; clear hg2 hb2 hB2
      go_wp2_with fail
      refine (HF2.out _ HK2.out).mono ?_
      rintro e w3 ⟨rfl, hg3, hb3⟩
      have hB3 := below_of_only HB2.out hg3 HB2.out.size hgw
      have HB3 := Lib.hid hB3; have HK3 := Lib.hid hb3; clear hg3 hb3 hB3
      go_wp2_with fail
      go_ret3
      exact ⟨rfl, HB3.out⟩
    · obtain ⟨e1, e2⟩ := fixV_yes s (by omega)
      rw [e1, e2] at hf1
      have hz1 : (s.extract 4 s.size).size < 4 := by rw [ByteArray.size_extract]; omega
      have hf2 := fun W (h : Blk W g 47 #[.string (s.extract 4 s.size)]) => rfixed_any g (s.extract 4 s.size) 4 W h (by omega)
      obtain ⟨e3, e4⟩ := fixV_no (s.extract 4 s.size) hz1
      rw [e3, e4] at hf2
      generalize s.extract 4 s.size = s1 at *
      generalize beVal 0 ((nats s).take 4) = n at *
      have HF1 := Lib.hid hf1; clear hf1 e1 e2
      have HF2 := Lib.hid hf2; clear hf2 e3 e4
      have HNW := Lib.hid hnew; clear hnew
      clear hb0 hN
      go_enter Try.func16, Try.ntmps16
      go_wp2_with fail
      generalize w.alloc (.cells #[.string s] 47) = W1 at *
      clear hg
      refine (HF1.out _ HNW.out.2).mono ?_
      rintro e w2 ⟨rfl, hg2, hb2⟩
      have hB2 := below_of_only HNW.out.1 hg2 HNW.out.1.size hgw
      have HB2 := Lib.hid hB2; have HK2 := Lib.hid hb2; clear hg2 hb2 hB2
      go_wp2_with fail
      refine (HF2.out _ HK2.out).mono ?_
      rintro e w3 ⟨rfl, hg3, hb3⟩
      have hB3 := below_of_only HB2.out hg3 HB2.out.size hgw
      have HB3 := Lib.hid hB3; have HK3 := Lib.hid hb3; clear hg3 hb3 hB3
      go_wp2_with fail
      go_ret3
      exact ⟨rfl, HB3.out⟩
  · obtain ⟨e1, e2⟩ := fixV_yes s (by omega)
    rw [e1, e2] at hf1
    have hn1 : nats (s.extract 4 s.size) = (nats s).drop 4 := by rw [nats_extract]; exact List.take_of_length_le (by rw [List.length_drop]; omega)
    have hz1 : (s.extract 4 s.size).size = s.size - 4 := by rw [ByteArray.size_extract]; omega
    have hf2 := fun W (h : Blk W g 47 #[.string (s.extract 4 s.size)]) => rfixed_any g (s.extract 4 s.size) 4 W h (by omega)
    obtain ⟨e3, e4⟩ := fixV_yes (s.extract 4 s.size) (by omega)
    rw [e3, e4, hn1] at hf2
    have hn2 : nats ((s.extract 4 s.size).extract 4 (s.extract 4 s.size).size) = (nats s).drop 8 := by rw [nats_extract, hn1, List.drop_drop]; exact List.take_of_length_le (by rw [List.length_drop]; omega)
    have hz2 : ((s.extract 4 s.size).extract 4 (s.extract 4 s.size).size).size = s.size - 8 := by rw [ByteArray.size_extract]; omega
    have hu : unfS s = if 8 ≤ s.size ∧ _ then _ else _ := rfl
    have hn32 := take4_lt (nats s) hb0
    have hc32 := take4_lt ((nats s).drop 4) (hb0.drop 4)
    generalize hS2 : (s.extract 4 s.size).extract 4 (s.extract 4 s.size).size = s2 at *
    generalize s.extract 4 s.size = s1 at *
    generalize beVal 0 (((nats s).drop 4).take 4) = c at *
    clear e1 e2 e3 e4 hn1 hz1 hS2
    have HF1 := Lib.hid hf1; clear hf1
    have HF2 := Lib.hid hf2; clear hf2
    have HNW := Lib.hid hnew; clear hnew
    by_cases hbig : 67108864 < beVal 0 ((nats s).take 4)
    · rw [if_neg (by omega)] at hu
      rw [hu]
      generalize beVal 0 ((nats s).take 4) = n at *
      clear hb0 hN hu hn2 hz2
      go_enter Try.func16, Try.ntmps16
      go_wp2_with fail
      generalize w.alloc (.cells #[.string s] 47) = W1 at *
      clear hg
      refine (HF1.out _ HNW.out.2).mono ?_
      rintro e w2 ⟨rfl, hg2, hb2⟩
      have hB2 := below_of_only HNW.out.1 hg2 HNW.out.1.size hgw
      have HB2 := Lib.hid hB2; have HK2 := Lib.hid hb2; clear hg2 hb2 hB2
      go_wp2_with fail
      refine (HF2.out _ HK2.out).mono ?_
      rintro e w3 ⟨rfl, hg3, hb3⟩
      have hB3 := below_of_only HB2.out hg3 HB2.out.size hgw
      have HB3 := Lib.hid hB3; have HK3 := Lib.hid hb3; clear hg3 hb3 hB3
      go_wp2_with fail
      go_ret3
      exact ⟨rfl, HB3.out⟩
    by_cases hsh : s2.size < beVal 0 ((nats s).take 4)
    · rw [if_neg (by omega)] at hu
      rw [hu]
      generalize beVal 0 ((nats s).take 4) = n at *
      clear hb0 hN hu hn2 hz2
      go_enter Try.func16, Try.ntmps16
      go_wp2_with fail
      generalize w.alloc (.cells #[.string s] 47) = W1 at *
      clear hg
      refine (HF1.out _ HNW.out.2).mono ?_
      rintro e w2 ⟨rfl, hg2, hb2⟩
      have hB2 := below_of_only HNW.out.1 hg2 HNW.out.1.size hgw
      have HB2 := Lib.hid hB2; have HK2 := Lib.hid hb2; clear hg2 hb2 hB2
      go_wp2_with fail
      refine (HF2.out _ HK2.out).mono ?_
      rintro e w3 ⟨rfl, hg3, hb3⟩
      have hB3 := below_of_only HB2.out hg3 HB2.out.size hgw
      have HB3 := Lib.hid hB3; have HK3 := Lib.hid hb3; clear hg3 hb3 hB3
      have c3 : w3.cell? ⟨g, 0, none⟩ = some (.string s2) := by rw [HK3.out.cell]; rfl
      go_wp2_with fail
      go_ret3
      exact ⟨rfl, HB3.out⟩
    · have hnz : beVal 0 ((nats s).take 4) ≤ s2.size := by omega
      have hp : s2.extract 0 (beVal 0 ((nats s).take 4)) = s.extract 8 (8 + beVal 0 ((nats s).take 4)) := nats_inj (by
        rw [nats_extract, nats_extract, hn2, List.drop_zero, Nat.sub_zero, Nat.add_sub_cancel_left])
      have hr : s2.extract (beVal 0 ((nats s).take 4)) s2.size = s.extract (8 + beVal 0 ((nats s).take 4)) s.size := nats_inj (by
        rw [nats_extract, nats_extract, hn2, List.drop_drop, show s2.size - beVal 0 ((nats s).take 4) = s.size - (8 + beVal 0 ((nats s).take 4)) by omega])
      rw [hz2] at hr
      have hpz : (s.extract 8 (8 + beVal 0 ((nats s).take 4))).size = beVal 0 ((nats s).take 4) := by rw [ByteArray.size_extract]; omega
      have hpn : nats (s.extract 8 (8 + beVal 0 ((nats s).take 4))) = ((nats s).drop 8).take (beVal 0 ((nats s).take 4)) := by rw [nats_extract, Nat.add_sub_cancel_left]
      have h4z : (s.extract 0 4).size = 4 := by rw [ByteArray.size_extract]; omega
      have h4n : nats (s.extract 0 4) = (nats s).take 4 := by rw [nats_extract]; rfl
      have hpz4 : (s.extract 0 4 ++ s.extract 8 (8 + beVal 0 ((nats s).take 4))).size = 4 + beVal 0 ((nats s).take 4) := by rw [ByteArray.size_append]; omega
      have hc1 := fun W => rcrc_any (s.extract 0 4 ++ s.extract 8 (8 + beVal 0 ((nats s).take 4))) W (by omega)
      have e3 : crcC (nats (s.extract 0 4 ++ s.extract 8 (8 + beVal 0 ((nats s).take 4)))) = crcC ((nats s).take 4 ++ ((nats s).drop 8).take (beVal 0 ((nats s).take 4))) := by
        rw [nats_append, hpn, h4n]
      rw [e3] at hc1
      have hccl : crcC ((nats s).take 4 ++ ((nats s).drop 8).take (beVal 0 ((nats s).take 4))) < 4294967296 := onC_lt _ _ (by omega) ((hb0.take 4).append ((hb0.drop 8).take _))
      clear e3 hpn h4n hn2
      generalize crcC ((nats s).take 4 ++ ((nats s).drop 8).take (beVal 0 ((nats s).take 4))) = cc at *
      generalize hn : beVal 0 ((nats s).take 4) = n at *
      clear hn
      generalize s.extract 8 (8 + n) = p at *
      generalize s.extract (8 + n) s.size = r at *
      have HC1 := Lib.hid hc1; clear hc1
      clear hb0 hN
      by_cases hcc : cc = c
      · rw [if_pos ⟨by omega, by omega, by omega, hcc⟩] at hu
        rw [hu]
        subst hcc
        clear hu
        go_enter Try.func16, Try.ntmps16
        go_wp2_with fail
        generalize w.alloc (.cells #[.string s] 47) = W1 at *
        clear hg
        refine (HF1.out _ HNW.out.2).mono ?_
        rintro e w2 ⟨rfl, hg2, hb2⟩
        have hB2 := below_of_only HNW.out.1 hg2 HNW.out.1.size hgw
        have HB2 := Lib.hid hB2; have HK2 := Lib.hid hb2; clear hg2 hb2 hB2
        go_wp2_with fail
        refine (HF2.out _ HK2.out).mono ?_
        rintro e w3 ⟨rfl, hg3, hb3⟩
        have hB3 := below_of_only HB2.out hg3 HB2.out.size hgw
        have HB3 := Lib.hid hB3; have HK3 := Lib.hid hb3; clear hg3 hb3 hB3
        have c3 : w3.cell? ⟨g, 0, none⟩ = some (.string s2) := by rw [HK3.out.cell]; rfl
        go_wp2_with fail
        refine (HC1.out _).mono ?_
        rintro e w5 ⟨rfl, rfl⟩
        go_wp2_with fail
        go_quiet (fail)
        go_wp2_with fail
        go_ret3
        exact ⟨rfl, below_drewN HB3.out _⟩
      · rw [if_neg (fun h => hcc h.2.2.2)] at hu
        rw [hu]
        clear hu
        have hcd : ((cc : Int) != (c : Int)) = true := by rw [bne_iff_ne]; omega
        go_enter Try.func16, Try.ntmps16
        go_wp2_with fail
        generalize w.alloc (.cells #[.string s] 47) = W1 at *
        clear hg
        refine (HF1.out _ HNW.out.2).mono ?_
        rintro e w2 ⟨rfl, hg2, hb2⟩
        have hB2 := below_of_only HNW.out.1 hg2 HNW.out.1.size hgw
        have HB2 := Lib.hid hB2; have HK2 := Lib.hid hb2; clear hg2 hb2 hB2
        go_wp2_with fail
        refine (HF2.out _ HK2.out).mono ?_
        rintro e w3 ⟨rfl, hg3, hb3⟩
        have hB3 := below_of_only HB2.out hg3 HB2.out.size hgw
        have HB3 := Lib.hid hB3; have HK3 := Lib.hid hb3; clear hg3 hb3 hB3
        have c3 : w3.cell? ⟨g, 0, none⟩ = some (.string s2) := by rw [HK3.out.cell]; rfl
        go_wp2_with fail
        refine (HC1.out _).mono ?_
        rintro e w5 ⟨rfl, rfl⟩
        go_wp2_with fail
        go_ret3
        exact ⟨rfl, HB3.out⟩
end Go.Proofs.Ytdoaajjmibkfeaa
