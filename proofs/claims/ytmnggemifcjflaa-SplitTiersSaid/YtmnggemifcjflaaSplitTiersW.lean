/-
  The walk over SplitTiers.
-/
import Derived.Test.YtmnggemifcjflaaSplitTiersP
import Derived.Deep.RegionWith
import Derived.Deep.QuietTactic
import Derived.BigQuiet
import Derived.BigRegion
import Derived.Deep.CutRange
import Derived.Deep.CutBlock
namespace Go.Proofs.Ytmnggemifcjflaa.splitTiers
open Go.RowKit PlainP TiersP Tier Go.BigFrame
set_option linter.unusedVariables false

set_option maxRecDepth 100000 in
set_option maxHeartbeats 4000000 in
theorem walk (a0 : Option Addr) (len0 cap0 : Nat) (z0 : List Int) (m : Int) (w : World) (h0 : IsRow .i64 w a0 len0 cap0 z0) (hs : len0 * 8 ≤ 140737488351232) (wm : (Lit.int .i64 m).wf = true) :
    Calls Try.prog 7 #[.slice a0 len0 cap0, .int .i64 m] w fun e w' => e = .returned (.bool true) ∧ Below w.heap.size w w' := by
  clear wm
  obtain ⟨i1, hi1, hz1, hs1, hy1⟩ := info_parts int_info
  have hlen : len0 ≤ 17592186043904 := by omega
  have H0 := Lib.hid h0
  clear h0 hs
  go_enter Try.func7, Try.ntmps7
  go_upto_region 2 with (fail)
  go_cut [6] from 23 to 29 (fun v6 wx => ∃ gx capx zs, v6 = .slice (some ⟨gx, 0, none⟩) len0 capx ∧ Hid (Below w.heap.size w wx ∧ XRow w.heap.size wx gx len0 capx zs))
  case first =>
    have HOW := Lib.hid (World.ownsRow_made (base := w.heap.size) (e := 3) (size := 1) w #[] 0 (Nat.le_refl _) (Nat.zero_le _) rfl)
    have hB0 := (Below.refl w.heap.size w).alloc (Nat.le_refl _) (.cells #[] 3)
    have HNN := Lib.hid (fun W : World => news W #[.int .i64 987] 3 W.heap.size rfl)
    cases a0 with
    | none =>
      obtain ⟨rfl, rfl⟩ : len0 = 0 ∧ cap0 = 0 := by
        rcases H0.out with ⟨-, h1, h2, -⟩ | ⟨x, h1, -⟩
        · exact ⟨h1, h2⟩
        · cases h1
      have HO := Lib.hid (World.ownsRow.alloc HOW.out (.cells #[.int .i64 987] 3))
      have HB0 := Lib.hid hB0
      have HN0 := Lib.hid (news (w.alloc (.cells #[] 3)) #[.int .i64 987] 3 (w.heap.size + 1) (by simp))
      clear hB0
      go_wp2_with (at_builtin; first
        | (refine wpList_append_own_none rfl _ _ 40 rfl w.heap.size 3 i1 1 Try.underlying40 hi1 _ _ _ rfl HOW.out rfl ?_)
        | (refine wpList_append_own _ rfl _ _ 40 rfl w.heap.size 3 i1 (.int .i64 0) 1 8 Try.underlying40 hi1 hz1 hs1 hy1 rfl (by decide) (.slice (some ⟨w.heap.size, 0, none⟩) 0 0) 0 _ rfl HO.out ⟨w.heap.size + 1, 0, none⟩ 1 1 [.int .i64 987] rfl rfl HN0.out (by intro u hu; simp at hu; subst hu; rfl) (by unfold maxLen; omega) (by omega) (by simp; omega) ?_; intro v4 w4 hown4 hgrow4 _; rw [Nat.zero_add] at hown4; obtain ⟨gx, capx, rfl, hcx⟩ := slice_some hown4 (Nat.succ_pos _); have HO4 := Lib.hid hown4; have HG4 := Lib.hid hgrow4; clear hown4 hgrow4))
      go_meet
      case rel => exact ⟨gx, capx, [], rfl, (HB0.out.alloc (by simp) _).grown HG4.out (by simp; omega) (fun q hq => by simp [Value.ownBlock] at hq; omega), rfl, HO4.out⟩
    | some ad =>
      obtain ⟨hlc, htl, hnews⟩ := IsRow.news H0.out hB0
      have htk : (zv (z0.take len0)).length = len0 * 1 := by rw [List.length_map, htl, Nat.mul_one]
      have HNW := Lib.hid hnews; have HB0 := Lib.hid hB0; have HTL := Lib.hid htl
      clear hnews hB0 htl
      go_wp2_with (at_builtin; first
        | (refine wpList_append_own _ rfl _ _ 40 rfl w.heap.size 3 i1 (.int .i64 0) 1 8 Try.underlying40 hi1 hz1 hs1 hy1 rfl (by decide) (.slice (some ⟨w.heap.size, 0, none⟩) 0 0) 0 _ rfl HOW.out ad len0 cap0 (zv (z0.take len0)) rfl htk HNW.out (zv_one _) (by unfold maxLen; omega) (by omega) (by simp) ?_; intro v3 w3 hown3 hgrow3 _; have HB3 := Lib.hid (HB0.out.grown hgrow3 (by simp) (fun q hq => by simp [Value.ownBlock] at hq; omega)); have HO := Lib.hid (World.ownsRow.alloc hown3 (.cells #[.int .i64 987] 3)); clear hown3 hgrow3)
        | (refine wpList_append_own _ rfl _ _ 40 rfl w.heap.size 3 i1 (.int .i64 0) 1 8 Try.underlying40 hi1 hz1 hs1 hy1 rfl (by decide) v3 (0 + len0) _ rfl HO.out ⟨w3.heap.size, 0, none⟩ 1 1 [.int .i64 987] rfl rfl (HNN.out _) (by intro u hu; simp at hu; subst hu; rfl) (by unfold maxLen; omega) (by omega) (by have := HB3.out.size; simp; omega) ?_; intro v4 w4 hown4 hgrow4 _; rw [Nat.zero_add] at hown4; obtain ⟨gx, capx, rfl, hcx⟩ := slice_some hown4 (Nat.succ_pos _); have HO4 := Lib.hid hown4; have HG4 := Lib.hid hgrow4; clear hown4 hgrow4))
      go_meet
      case rel => exact ⟨gx, capx, z0.take len0, rfl, (HB3.out.alloc HB3.out.size _).grown HG4.out (by have := HB3.out.size; simp; omega) (fun q hq => (World.ownsRow.lt HO.out q hq).1), HTL.out, HO4.out⟩
  case rest =>
  obtain ⟨gx, capx, zs0, rfl, H6⟩ := hcut
  go_wp2_with fail
  go_loopw [7, 8, 9, 10, 11, 12, 13, 14, 15, 16, 17, 18, 19, 20] (fun v7 _ _ _ _ _ _ _ _ _ _ _ _ _ wr => ∃ r : Nat, v7 = .int .i64 r ∧ r ≤ 2 ∧ Hid (∃ zs, Below w.heap.size w wr ∧ XRow w.heap.size wr gx len0 capx zs)) (fun v7 _ _ _ _ _ _ _ _ _ _ _ _ _ _ => 2 - (intOf v7).toNat)
  case atStart => exact ⟨0, rfl, Nat.zero_le _, zs0, H6.out⟩
  case round =>
    obtain ⟨r, rfl, hr, H⟩ := hrel
    obtain ⟨zs, hB, hX⟩ := H.out
    have hcx := hX.cap
    by_cases hr2 : r < 2
    · obtain ⟨T, E, t1, t2, hRT, hPT⟩ := both len0 zs m hX.1
      have hsrc := hX.src
      have hzl : (zv zs).length = len0 * 1 := by rw [List.length_map, hX.1, Nat.mul_one]
      have hnews : ∀ j u, (zv zs)[j]? = some u → (wr.alloc (.cells #[] 3)).cell? ((⟨gx, 0, none⟩ : Addr).add j) = some u := fun j u hu => by
        rw [List.getElem?_map] at hu
        obtain ⟨z, hz, rfl⟩ := Option.map_eq_some_iff.1 hu
        rw [show (⟨gx, 0, none⟩ : Addr).add j = ⟨gx, j, none⟩ by unfold Addr.add; split <;> simp_all]
        exact (World.grownBy_alloc wr _ none).cell (hX.cell hz) (by simp)
      have HOW := Lib.hid (World.ownsRow_made (base := wr.heap.size) (e := 3) (size := 1) wr #[] 0 (Nat.le_refl _) (Nat.zero_le _) rfl)
      have HNW := Lib.hid hnews; have HB := Lib.hid hB; have HX := Lib.hid hX; have HRT := Lib.hid hRT; have HPT := Lib.hid hPT; have HT2 := Lib.hid t2
      clear hnews hB hX hRT hPT hsrc H6 H t2
      go_upto_region 7 with (at_builtin; refine wpList_append_own _ rfl _ _ 40 rfl wr.heap.size 3 i1 (.int .i64 0) 1 8 Try.underlying40 hi1 hz1 hs1 hy1 rfl (by decide) (.slice (some ⟨wr.heap.size, 0, none⟩) 0 0) 0 _ rfl HOW.out ⟨gx, 0, none⟩ len0 capx (zv zs) rfl hzl HNW.out (zv_one _) (by unfold maxLen; omega) (by omega) (by simp) ?_; intro v3 w3 hown3 hgrow3 hnil; have hne : v3 ≠ .slice none 0 0 := (fun e => by have := (hnil.1 e).1; cases this); rw [Nat.zero_add, List.nil_append] at hown3; obtain ⟨gw, capw, rfl, hcw⟩ := slice_some' hown3 hne; have HO := Lib.hid hown3; have HG := Lib.hid hgrow3; clear hown3 hgrow3 hnil hne)
      have hB3 : Below wr.heap.size wr w3 := ((Below.refl wr.heap.size wr).alloc (Nat.le_refl _) _).grown HG.out (by simp) (fun q hq => by simp [Value.ownBlock] at hq; omega)
      have hX3 := HX.out.below hB3
      have hsw := src_of_own HX.out.1 HO.out
      have hgxw := HX.out.lt.2
      have HB3 := Lib.hid hB3; have HX3 := Lib.hid hX3; have HSW := Lib.hid hsw
      clear hB3 hX3 hsw HG HO HOW HNW HX
      go_wp2_with fail
      refine (HRT.out w3 gw capw HSW.out).mono ?_
      rintro e w4 ⟨v9, K, rfl, hb, hfam, hkrow, rfl⟩
      have hX4 := HX3.out.below hb
      have hW4 := Src.below HSW.out hb
      have hB4 := (HB.out.trans (HB3.out.mono HB.out.size)).trans (hb.mono (HB.out.trans (HB3.out.mono HB.out.size)).size)
      have hN4 := hkrow.nrow hfam
      obtain ⟨TL, hTL⟩ : ∃ TL, (K.map (·.2)).length = TL := ⟨_, rfl⟩
      generalize K.map (·.2) = T at *
      have HX4 := Lib.hid hX4; have HW4 := Lib.hid hW4; have HB4 := Lib.hid hB4; have HN4 := Lib.hid hN4; have HTL := Lib.hid hTL
      clear hb hfam hkrow hX4 hW4 hB4 hN4 hTL HX3 HSW HB3 HB HRT
      go_wp2_with fail
      refine (HPT.out w4 gx capx HX4.out.src).mono ?_
      rintro e w5 ⟨v11, rfl, hb5, hno5⟩
      have HB5 := Lib.hid hb5; have HN5 := Lib.hid hno5; have HX5 := Lib.hid (HX4.out.below hb5)
      clear hb5 hno5
      go_wp2_with fail
      refine (HPT.out w5 gx capx HX5.out.src).mono ?_
      rintro e w6 ⟨v13, rfl, hb6, hno6⟩
      have hb46 := HB5.out.trans (hb6.mono HB5.out.size)
      have hL3 : L3 w4 w5 w6 v11 v13 T 0 := ⟨hb46, (ANodes.of HN5.out).kept hb6, hno6⟩
      have hwant := HN4.out.below hb46
      have hX6 := HX5.out.below hb6
      have hW6 := Src.below HW4.out hb46
      have hBw6 := HB4.out.trans (hb46.mono HB4.out.size)
      have hc1 := numbers_any v11 v9 T w6 (HN5.out.nrow.below hb6) hwant (by omega) (fun ks hk => by have := HT2.out ks hk; omega)
      have hc2 := fun k => numbers_any v13 v9 T (w6.drewN k) (hno6.nrow.drewN k) (hwant.drewN k) (by omega) (fun ks hk => by have := HT2.out ks hk; omega)
      have c987 := hX6.last
      have hEE : (E != E) = false := by simp
      have h987 : ((987 : Int) != 987) = false := by decide
      have HL3 := Lib.hid hL3; have HX6 := Lib.hid hX6; have HW6 := Lib.hid hW6; have HBW := Lib.hid hBw6; have HC1 := Lib.hid hc1; have HC2 := Lib.hid hc2
      clear hb6 hno6 hb46 hL3 hwant hX6 hW6 hBw6 hc1 hc2 HB5 HN5 HX5 HW4 HPT
      go_wp2_with fail
      refine HC1.out.mono ?_
      rintro e w7 ⟨rfl, m1, rfl⟩
      go_wp2_with fail
      refine (HC2.out m1).mono ?_
      rintro e w8 ⟨rfl, m2, rfl⟩
      have c988 : ((w6.drewN m1).drewN m2).cell? ⟨gx, len0, none⟩ = some (.int .i64 987) := c987
      have hL3 := (HL3.out.drewN m1).drewN m2
      have hX6 := (HX6.out.below (below_dr (Below.refl _ _) m1)).below (below_dr (Below.refl _ _) m2)
      have hW6 := Src.below (Src.below HW6.out (below_dr (Below.refl _ _) m1)) (below_dr (Below.refl _ _) m2)
      have hBw := below_dr (below_dr HBW.out m1) m2
      generalize (w6.drewN m1).drewN m2 = w9 at *
      have HL3 := Lib.hid hL3; have HX9 := Lib.hid hX6; have HW9 := Lib.hid hW6; have HBW := Lib.hid hBw
      clear HC1 HC2 hL3 hX6 hW6 hBw HX6 HW6 c987
      go_upto_region 12 with (fail)
      clear c988
      go_wp2_with fail
      go_loopw [15] (fun v15 wr => ∃ i : Nat, v15 = .int .i64 i ∧ i ≤ len0 ∧ Hid (∃ md, wr = w9.drewN md)) (fun i _ => len0 - (intOf i).toNat)
      case atStart => exact ⟨0, rfl, Nat.zero_le _, 0, rfl⟩
      case round =>
        obtain ⟨i, rfl, hi, H⟩ := hrel
        obtain ⟨md, rfl⟩ := H.out
        clear H
        by_cases hil : i < len0
        · obtain ⟨z, hz⟩ : ∃ z, zs[i]? = some z := ⟨_, List.getElem?_eq_getElem (by rw [HX9.out.1]; exact hil)⟩
          have c1 := HX9.out.cell hz
          have c2 := HW9.out.2.2.2.2 i z hz
          have hzz : (z != z) = false := by simp
          clear hz
          go_wp2_with fail
          go_quiet (fail)
          go_wp2_with fail
          go_roundw
          case rel => exact ⟨i + 1, by go_num, by omega, by first | exact drew_more _ _ _ | exact ⟨_, rfl⟩⟩
          case measure => simp [intOf]; omega
        · obtain rfl : len0 = i := by omega
          have hL3 := HL3.out.drewN md
          have hX9 := HX9.out.below (below_dr (Below.refl _ _) md)
          have hBw := below_dr HBW.out md
          generalize w9.drewN md = wA at *
          have HL3 := Lib.hid hL3; have HXA := Lib.hid hX9; have HBA := Lib.hid hBw
          have hA : NRow wA v11 T := by
            obtain ⟨aa, ca, rfl, h1, h2⟩ := hL3.a.tail (Nat.zero_le _)
            have := h2 aa ca (fun _ => by cases aa with | none => rfl | some p => simp [Addr.add]) (by omega)
            rwa [Nat.sub_zero, List.drop_zero] at this
          obtain ⟨a11, cap11, rfl, hc11, -⟩ := hA
          obtain ⟨a9, cap9, e9, hc9, hn9⟩ := HN4.out
          have hN9 : NRow w4 (.slice a9 T.length cap9) T := ⟨a9, cap9, rfl, hc9, hn9⟩
          subst e9
          have hTLb : TL ≤ 1048576 := by rw [← HTL.out]; exact t1
          rw [HTL.out] at hc11 hc9 hN9
          have HN9 := Lib.hid hN9
          rw [HTL.out]
          clear hL3 hX9 hBw HX9 HW9 HBW hn9 hN9 HN4
          have hl3 := HL3.out
          rw [HTL.out] at hl3
          have HL3A := Lib.hid hl3
          clear hl3 HL3
          go_wp2_with fail
          go_loopw [16, 17, 18, 19] (fun v16 _ _ _ wr => ∃ i : Nat, v16 = .int .i64 i ∧ i ≤ TL ∧ Hid (L3 w4 w5 wr (.slice a11 TL cap11) v13 T i)) (fun i _ _ _ _ => TL - (intOf i).toNat)
          case atStart => exact ⟨0, rfl, Nat.zero_le _, HL3A.out⟩
          case round =>
            obtain ⟨i, rfl, hi, H⟩ := hrel
            clear HL3A
            by_cases hiT : i < TL
            · obtain ⟨ks, hks⟩ : ∃ ks, T[i]? = some ks := ⟨_, List.getElem?_eq_getElem (by rw [HTL.out]; exact hiT)⟩
              have hks2 := HT2.out ks (List.mem_of_getElem? hks)
              obtain ⟨gv, capv, g, cap, ev, hcv, hcell, hint, hg5, hg4, hstep⟩ := H.out.a.kid hks
              obtain ⟨KL, hKL⟩ : ∃ KL, ks.length = KL := ⟨_, rfl⟩
              rw [hKL] at hcell hks2
              obtain ⟨_, _, e9, -, hat9⟩ := HN9.out
              injection e9 with e91 e92 e93
              subst e91
              obtain ⟨b9, o9, rfl, -⟩ := hat9 i ks hks
              clear hat9 e92 e93
              injection ev with ev1 ev2 ev3
              subst ev1
              have hint' : wr.ownsRow w4.heap.size 3 1 (.slice (some ⟨g, 0, none⟩) KL cap) KL (ints ks) := by
                have h := hint
                unfold Ints at h
                rwa [hKL] at h
              have hcapk := hint.capOk
              rw [hKL] at hcapk
              have HINT := Lib.hid hint'; have HSTEP := Lib.hid hstep; have HL := Lib.hid H.out
              clear hks hKL hint hint' hstep H ev2 ev3
              go_wp2_with fail
              generalize wr = wS at *
              go_loopw [18] (fun v18 wx => ∃ k : Nat, v18 = .int .i64 k ∧ k ≤ KL ∧ Hid (∃ xs, wS.grownBy wx (some g) ∧ wx.ownsRow w4.heap.size 3 1 (.slice (some ⟨g, 0, none⟩) KL cap) KL xs)) (fun i _ => KL - (intOf i).toNat)
              case atStart => exact ⟨0, rfl, Nat.zero_le _, _, only_refl _ _, HINT.out⟩
              case round =>
                obtain ⟨k, rfl, hk, H⟩ := hrel
                obtain ⟨xs, hgw, hxs⟩ := H.out
                by_cases hkl : k < KL
                · obtain ⟨f1, ⟨y, y1⟩, hset⟩ := set_one hxs k hkl (.int .i64 (-1))
                  have HNX := Lib.hid (show ∃ xs, wS.grownBy (wr.setCell ⟨g, k, none⟩ (.int .i64 (-1))) (some g) ∧ (wr.setCell ⟨g, k, none⟩ (.int .i64 (-1))).ownsRow w4.heap.size 3 1 (.slice (some ⟨g, 0, none⟩) KL cap) KL xs from ⟨_, only_setCell hgw (.inl rfl) _, hset⟩)
                  clear hgw hxs hset H
                  go_wp2_with fail
                  go_roundw
                  case rel => exact ⟨k + 1, by go_num, by omega, HNX.out⟩
                  case measure => simp [intOf]; omega
                · obtain rfl : KL = k := by omega
                  have HST := Lib.hid (show ∃ xs, wS.grownBy wr (some g) ∧ wr.ownsRow w4.heap.size 3 1 (.slice (some ⟨g, 0, none⟩) KL cap) (KL + 0) xs ∧ ∀ q, (Value.slice (some ⟨g, 0, none⟩) KL cap).ownBlock = some q → q = g ∨ wS.heap.size ≤ q from ⟨xs, hgw, hxs, fun q hq => by simp [Value.ownBlock] at hq; omega⟩)
                  clear hgw hxs H HINT
                  go_wp2_with fail
                  go_loopw [17, 19] (fun v17 v19 wx => ∃ j : Nat, v19 = .int .i64 j ∧ j ≤ 20 ∧ Hid (∃ xs, wS.grownBy wx (some g) ∧ wx.ownsRow w4.heap.size 3 1 v17 (KL + j) xs ∧ ∀ q, v17.ownBlock = some q → q = g ∨ wS.heap.size ≤ q)) (fun _ j _ => 20 - (intOf j).toNat)
                  case atStart => exact ⟨0, rfl, Nat.zero_le _, HST.out⟩
                  case round =>
                    obtain ⟨j, rfl, hj, H⟩ := hrel
                    obtain ⟨xs, hgw, hxs, hat⟩ := H.out
                    clear HST
                    by_cases hj20 : j < 20
                    · have hbw := Nat.le_trans HL.out.below.size hgw.size
                      have HOW := Lib.hid (World.ownsRow.alloc hxs (.cells #[.int .i64 (-2)] 3))
                      have HNW := Lib.hid (news wr #[.int .i64 (-2)] 3 wr.heap.size rfl)
                      have HGW := Lib.hid hgw; have HATT := Lib.hid hat
                      clear hgw hxs hat H
                      go_wp2_with (at_builtin; refine wpList_append_own_at _ rfl _ _ 40 rfl w4.heap.size 3 i1 (.int .i64 0) 1 8 Try.underlying40 hi1 hz1 hs1 hy1 rfl (by decide) u17 (KL + j) _ rfl HOW.out ⟨wr.heap.size, 0, none⟩ 1 1 [.int .i64 (-2)] rfl rfl HNW.out (by intro u hu; simp at hu; subst hu; rfl) (by unfold maxLen; omega) (by omega) (by simp; omega) ?_; intro v3 wz hown3 hgrow3 _ hat3; have HO := Lib.hid hown3; have HG := Lib.hid hgrow3; have HA3 := Lib.hid hat3; clear hown3 hgrow3 hat3)
                      go_roundw
                      case rel =>
                        refine ⟨j + 1, by go_num, by omega, _, grown_more (only_alloc HGW.out _) (fun q hq => by
                          rcases HATT.out q hq with e | e
                          · exact .inl (by rw [e])
                          · exact .inr e) HG.out, HO.out, fun q hq => ?_⟩
                        rcases HA3.out with e | e
                        · exact HATT.out q (by rw [← e]; exact hq)
                        · rw [e] at hq
                          injection hq with hq
                          have := HGW.out.size
                          simp at hq
                          omega
                      case measure => simp [intOf]; omega
                    · obtain rfl : j = 20 := by omega
                      obtain ⟨N17, hN17⟩ : ∃ N17, KL + 20 = N17 := ⟨_, rfl⟩
                      obtain ⟨a17, cap17, rfl⟩ := own_val hxs hN17
                      have hN18 : 20 ≤ N17 := by omega
                      have hN19 : N17 ≤ 1044 := by omega
                      have hd20 : decide ((N17 : Int) < 20) = false := decide_eq_false (by omega)
                      clear hN17
                      have hL1 := HL.out.step hgw hg4 hg5 (HSTEP.out wr hgw)
                      have HL1 := Lib.hid hL1
                      clear hgw hxs hat H HL HSTEP hL1
                      obtain ⟨S, hS⟩ : ∃ S : World → Prop, ∀ W, S W ↔ L3 w4 w5 W (.slice (some ⟨gv, 0, none⟩) TL cap11) v13 T (i + 1) := ⟨_, fun _ => Iff.rfl⟩
                      have hN1 : ∀ (a' b' : Option Addr) (n1 n2 c1 c2 : Nat), n1 = TL - (i + 1) → n2 = TL - (i + 1) → TL - (i + 1) ≤ c1 → TL - (i + 1) ≤ c2 → (i + 1 < TL → a' = some ⟨gv, i + 1, none⟩) → (i + 1 < TL → b' = some ⟨b9, o9 + (i + 1), none⟩) → ∀ W, S W →
                          Calls Try.prog 17 #[.slice a' n1 c1, .slice b' n2 c2] W fun e w' => e = .returned (.bool true) ∧ S w' := by
                        intro a' b' n1 n2 c1 c2 hn1 hn2 hc1 hc2 ha hb W hSW
                        subst hn1
                        subst hn2
                        have hL := (hS W).1 hSW
                        have hTL := HTL.out
                        obtain ⟨aa, ca, ea, -, h2⟩ := hL.a.tail (by rw [hTL]; omega)
                        injection ea with ea
                        subst ea
                        obtain ⟨ab, cb, eb, -, h4⟩ := NRow.tail (HN9.out.below hL.below) (i + 1) (by rw [hTL]; omega)
                        injection eb with eb
                        subst eb
                        have q1 := h2 a' c1 (fun h => by
                          rw [hTL] at h
                          rw [ha h]
                          show _ = some ((⟨gv, 0, none⟩ : Addr).add (i + 1))
                          rw [addr_add, Nat.zero_add]) (by rw [hTL]; omega)
                        have q2 := h4 b' c2 (fun h => by
                          rw [hTL] at h
                          rw [hb h]
                          show _ = some ((⟨b9, o9, none⟩ : Addr).add (i + 1))
                          rw [addr_add]) (by rw [hTL]; omega)
                        rw [hTL] at q1 q2
                        refine (numbers_any _ _ (T.drop (i + 1)) W q1 q2 (by rw [List.length_drop, hTL]; omega) (fun ks hk => by have := HT2.out ks (List.mem_of_mem_drop hk); omega)).mono ?_
                        rintro e w' ⟨he, md, rfl⟩
                        exact ⟨he, (hS _).2 (hL.drewN md)⟩
                      have hN2 : ∀ W, S W → Calls Try.prog 17 #[v13, .slice (some ⟨b9, o9, none⟩) TL cap9] W fun e w' => e = .returned (.bool true) ∧ S w' := by
                        intro W hSW
                        have hL := (hS W).1 hSW
                        refine (numbers_any _ _ T W hL.b.nrow (HN9.out.below hL.below) (by rw [HTL.out]; omega) (fun ks hk => by have := HT2.out ks hk; omega)).mono ?_
                        rintro e w' ⟨he, md, rfl⟩
                        exact ⟨he, (hS _).2 (hL.drewN md)⟩
                      have hC1 := hN1 (if cap11 = i + 1 then some ⟨gv, 0, none⟩ else some ⟨gv, i + 1, none⟩) (if cap9 = i + 1 then some ⟨b9, o9, none⟩ else some ⟨b9, o9 + (i + 1), none⟩) (TL - (i + 1)) (TL - (i + 1)) (cap11 - (i + 1)) (cap9 - (i + 1)) rfl rfl (by omega) (by omega) (fun h => by rw [if_neg (by omega)]) (fun h => by rw [if_neg (by omega)])
                      have HC1 := Lib.hid hC1; have HN2 := Lib.hid hN2; have HS := Lib.hid hS
                      have HS1 := Lib.hid ((hS _).2 (HL1.out.drewN 1))
                      clear hN1 hC1 hN2 hS
                      go_upto_region 29 with (fail)
                      refine wp_region_good (S := S) (by kernel_rfl) (by kernel_rfl) HS1.out ?_
                      haveI : Nonempty (GoodW S) := ⟨⟨_, HS1.out⟩⟩
                      repeat (go_big_quiet_step ((first
                        | (go_at_call_of 17 (v13); exact good_of _ (HN2.out _ (GoodW.h _)))
                        | (go_at_call 17; exact good_of _ (HC1.out _ (GoodW.h _))))))
                      refine wpQuiet_nil ?_
                      rintro wd ⟨⟨wd', hSd⟩, rfl⟩
                      have HLD := Lib.hid ((HS.out _).1 hSd)
                      clear hSd HC1 HN2 HS HS1 HL1
                      go_wp2_with fail
                      go_roundw
                      case rel => exact ⟨i + 1, by go_num, by omega, HLD.out⟩
                      case measure => simp [intOf]; omega
            · obtain rfl : TL = i := by omega
              have hX := HX4.out.below H.out.below
              have hB := HB4.out.trans (H.out.below.mono HB4.out.size)
              obtain ⟨H2, hH2⟩ : ∃ H2, len0 / 2 = H2 := ⟨_, rfl⟩
              have hq2 : (len0 : Int).tdiv 2 = (H2 : Int) := by rw [← hH2, Int.ofNat_tdiv]; rfl
              have hq3 : (len0 : Int) / 2 = (H2 : Int) := by omega
              have hH3 : H2 ≤ len0 := by omega
              have HXE := Lib.hid (show ∃ zs, Below w.heap.size w wr ∧ XRow w.heap.size wr gx len0 capx zs from ⟨zs, hB, hX⟩)
              have HH2 := Lib.hid hH2
              clear hX hB H hH2 HX4 HB4
              go_wp2_with fail
              go_loopw [20] (fun v20 wx => ∃ k : Nat, v20 = .int .i64 k ∧ k ≤ H2 ∧ Hid (∃ zs, Below w.heap.size w wx ∧ XRow w.heap.size wx gx len0 capx zs)) (fun i _ => H2 - (intOf i).toNat)
              case atStart => exact ⟨0, rfl, Nat.zero_le _, HXE.out⟩
              case round =>
                obtain ⟨k, rfl, hk, H⟩ := hrel
                clear HXE
                by_cases hk2 : k < H2
                · obtain ⟨zs2, hB, hX⟩ := H.out
                  obtain ⟨j, hj⟩ : ∃ j, len0 - 1 - k = j := ⟨_, rfl⟩
                  have hh := HH2.out
                  have hj1 : (len0 : Int) - 1 - (k : Int) = (j : Int) := by omega
                  have hjl : j < len0 := by omega
                  have hkl : k < len0 := by omega
                  have hkj : k ≠ j := by omega
                  have hzl2 := hX.1
                  obtain ⟨zk, hzk⟩ : ∃ z, zs2[k]? = some z := ⟨_, List.getElem?_eq_getElem (by omega)⟩
                  obtain ⟨zj, hzj⟩ : ∃ z, zs2[j]? = some z := ⟨_, List.getElem?_eq_getElem (by omega)⟩
                  have ck := hX.cell hzk
                  have cj := hX.cell hzj
                  have fk := (hX.set hkl 0).2
                  have fj := (hX.set hjl 0).2
                  have hgr1 : wr.grownBy ((wr.setCell ⟨gx, k, none⟩ (.int .i64 zj)).setCell ⟨gx, j, none⟩ (.int .i64 zk)) (some gx) := only_setCell (only_setCell (only_refl wr (some gx)) (.inl rfl) _) (.inl rfl) _
                  have hgr2 : wr.grownBy ((wr.setCell ⟨gx, j, none⟩ (.int .i64 zk)).setCell ⟨gx, k, none⟩ (.int .i64 zj)) (some gx) := only_setCell (only_setCell (only_refl wr (some gx)) (.inl rfl) _) (.inl rfl) _
                  have HN1 := Lib.hid (show ∃ zs, Below w.heap.size w ((wr.setCell ⟨gx, k, none⟩ (.int .i64 zj)).setCell ⟨gx, j, none⟩ (.int .i64 zk)) ∧ XRow w.heap.size ((wr.setCell ⟨gx, k, none⟩ (.int .i64 zj)).setCell ⟨gx, j, none⟩ (.int .i64 zk)) gx len0 capx zs from
                    ⟨_, below_of_only hB hgr1 hB.size hX.lt.1, ((hX.set hkl zj).1.set hjl zk).1⟩)
                  have HN2 := Lib.hid (show ∃ zs, Below w.heap.size w ((wr.setCell ⟨gx, j, none⟩ (.int .i64 zk)).setCell ⟨gx, k, none⟩ (.int .i64 zj)) ∧ XRow w.heap.size ((wr.setCell ⟨gx, j, none⟩ (.int .i64 zk)).setCell ⟨gx, k, none⟩ (.int .i64 zj)) gx len0 capx zs from
                    ⟨_, below_of_only hB hgr2 hB.size hX.lt.1, ((hX.set hjl zk).1.set hkl zj).1⟩)
                  clear hB hX hzk hzj hj hh hzl2 H hgr1 hgr2
                  go_wp2_with fail
                  go_region
                  all_goals (
                    go_wp2_with fail
                    go_roundw
                    case rel =>
                      have hfin := HN1.out
                      have hfin2 := HN2.out
                      obtain ⟨za, ba, xa⟩ := hfin
                      obtain ⟨zb, bb, xb⟩ := hfin2
                      exact ⟨k + 1, by go_num, by omega, by first | exact ⟨za, below_drew1 ba, xa.below (below_drew1 (Below.refl _ _))⟩ | exact ⟨zb, below_drew1 bb, xb.below (below_drew1 (Below.refl _ _))⟩⟩
                    case measure => simp [intOf]; omega)
                · obtain rfl : H2 = k := by omega
                  have HE := Lib.hid H.out
                  clear H
                  go_wp2_with fail
                  go_roundw
                  case rel => exact ⟨r + 1, by go_num, by omega, HE.out⟩
                  case measure => simp [intOf]; omega
    · have HBE := Lib.hid hB
      clear hB hX H
      go_wp2_with fail
      go_ret
      exact ⟨rfl, HBE.out⟩
end Go.Proofs.Ytmnggemifcjflaa.splitTiers
