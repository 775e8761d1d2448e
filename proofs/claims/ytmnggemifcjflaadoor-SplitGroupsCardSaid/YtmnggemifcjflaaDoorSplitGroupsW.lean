/-
  The walk over SplitGroups.
-/
import Derived.Test.YtmnggemifcjflaaDoorGroupsW
import Derived.Deep.CutRange
import Derived.Deep.CutBlock
namespace Go.Proofs.YtmnggemifcjflaaDoor.splitGroups
open Go.RowKit PlainP RollP OnesP SplitP TiersP Tier
set_option linter.unusedVariables false

set_option maxRecDepth 100000 in
set_option maxHeartbeats 4000000 in
theorem walk (a0 : Option Addr) (len0 cap0 : Nat) (z0 : List Int) (m z : Int) (w : World) (h0 : IsRow .u8 w a0 len0 cap0 z0) (wm : (Lit.int .i64 m).wf = true) (wz : (Lit.int .i64 z).wf = true) (hT : Tab w) :
    Calls Tryd.prog 8 #[.slice a0 len0 cap0, .int .i64 m, .int .i64 z] w fun e w' => e = .returned (.bool true) ∧ Below w.heap.size w w' := by
  have bm : -9223372036854775808 ≤ m ∧ m ≤ 9223372036854775807 := by simpa [Lit.wf, IntKind.min, IntKind.max, IntKind.signed, IntKind.bits] using wm
  have bz : -9223372036854775808 ≤ z ∧ z ≤ 9223372036854775807 := by simpa [Lit.wf, IntKind.min, IntKind.max, IntKind.signed, IntKind.bits] using wz
  clear wm wz
  have hm1 : -299 ≤ m.tmod 300 ∧ m.tmod 300 ≤ 299 := by have := tmod_bd m 300 (by omega); omega
  have hz1 : -1999 ≤ z.tmod 2000 ∧ z.tmod 2000 ≤ 1999 := by have := tmod_bd z 2000 (by omega); omega
  obtain ⟨M0, hM0⟩ : ∃ M0 : Nat, (m.tmod 300 + 300) % 300 = (M0 : Int) := ⟨((m.tmod 300 + 300) % 300).toNat, by omega⟩
  obtain ⟨Z, hZ⟩ : ∃ Z : Nat, (z.tmod 2000 + 2000) % 2000 = (Z : Int) := ⟨((z.tmod 2000 + 2000) % 2000).toNat, by omega⟩
  have hM00 : M0 < 300 := by omega
  have hZ0 : Z < 2000 := by omega
  obtain ⟨i1, hi1, hz1', hs1, hy1⟩ := info_parts int_info
  have hcap : len0 ≤ cap0 ∧ cap0 ≤ 9223372036854775807 := by
    rcases h0 with ⟨-, rfl, rfl, -⟩ | ⟨x, -, h1, h2, -⟩
    · omega
    · unfold maxLen at h2; omega
  have HT := Lib.hid hT; have H0 := Lib.hid h0
  clear hT h0
  go_enter Tryd.func8, Tryd.ntmps8
  go_wp2_with fail
  refine (awake_any _ HT.out).mono ?_
  rintro e w1 ⟨rfl, hb⟩
  have HB1 := Lib.hid hb
  clear hb
  go_upto_region 4 with (fail)
  obtain ⟨M, hM⟩ : ∃ M : Nat, 2 + (M0 : Int) = (M : Int) := ⟨2 + M0, by omega⟩
  have hM2 : 2 ≤ M := by omega
  have hM3 : M ≤ 301 := by omega
  rw [hM]
  clear hM hM0 hm1
  generalize (m.tmod 300 + 300) % 300 = J1
  generalize m.tmod 300 + 300 = J2
  generalize m.tmod 300 = J3
  clear bm hM00
  go_upto_if 28 with (fail)
  go_cut [0] from 28 to 30 (fun v0 wx => ∃ n : Nat, v0 = .slice a0 n cap0 ∧ n ≤ len0 ∧ n ≤ 2000 ∧ w1 = wx)
  case first =>
    by_cases hbig : 2000 < len0
    · have hd : decide ((2000 : Int) < (len0 : Int)) = true := decide_eq_true (by omega)
      go_wp2_with fail
      go_meet
      case rel => exact ⟨2000, rfl, by omega, Nat.le_refl _, rfl⟩
    · have hd : decide ((2000 : Int) < (len0 : Int)) = false := decide_eq_false (by omega)
      go_wp2_with fail
      go_meet
      case rel => exact ⟨len0, rfl, Nat.le_refl _, by omega, rfl⟩
  case rest =>
  obtain ⟨n, rfl, hn0, hn2, rfl⟩ := hcut
  go_wp2_with fail
  go_loopw [7, 8] (fun v7 i wr => ∃ k : Nat, i = .int .i64 k ∧ k ≤ n ∧ Hid (Below w.heap.size w wr ∧ ∃ lv : List Nat, lv.length = k ∧ (∀ x ∈ lv, x ≤ 32) ∧ IRow w.heap.size wr (v7, lv))) (fun _ i _ => n - (intOf i).toNat)
  case atStart => exact ⟨0, rfl, Nat.zero_le _, HB1.out, [], rfl, fun x hx => (by cases hx), World.ownsRow_nil _ _ _ _⟩
  case round =>
    obtain ⟨k, rfl, hk, H⟩ := hrel
    obtain ⟨hB, lv, hlv, h32, hI⟩ := H.out
    by_cases hlt : k < n
    · obtain ⟨cb, co, c, rfl, hlc, hcell, hcw⟩ := H0.out.at_ hB (i := k) (by omega)
      have hcb : 0 ≤ c ∧ c ≤ 255 := by simpa [Lit.wf, IntKind.min, IntKind.max, IntKind.signed, IntKind.bits] using hcw
      obtain ⟨x, hx, hx32⟩ : ∃ x : Nat, c.tmod 33 = (x : Int) ∧ x ≤ 32 := ⟨(c % 33).toNat, by rw [Int.tmod_eq_emod_of_nonneg (by omega)]; omega, by omega⟩
      have hx2 : c % 33 = (x : Int) := by rw [← hx, Int.tmod_eq_emod_of_nonneg (by omega)]
      obtain ⟨a7, cap7, rfl⟩ := own_val hI hlv
      have hbw := hB.size
      have hown : (wr.alloc (.cells #[.int .i64 x] 3)).ownsRow w.heap.size 3 1 (.slice a7 k cap7) k (lv.map (fun n : Nat => Value.int .i64 (n : Int))) := by
        have := World.ownsRow.alloc hI (.cells #[.int .i64 x] 3)
        dsimp only at this
        rwa [hlv] at this
      have HOW := Lib.hid hown; have HNW := Lib.hid (news wr #[.int .i64 x] 3 wr.heap.size rfl); have HB := Lib.hid hB; have HLV := Lib.hid hlv; have H32 := Lib.hid h32
      clear hown hB hlv h32 hI H
      go_wp2_with (at_builtin; refine wpList_append_own _ rfl _ _ 75 rfl w.heap.size 3 i1 (.int .i64 0) 1 8 Tryd.underlying75 hi1 hz1' hs1 hy1 rfl (by decide) (.slice a7 k cap7) k _ rfl HOW.out ⟨wr.heap.size, 0, none⟩ 1 1 [.int .i64 x] rfl rfl HNW.out (by intro u hu; simp at hu; subst hu; rfl) (by unfold maxLen; omega) (by omega) (by simp; omega) ?_; intro v3 w3 hown3 hgrow3 _; have HO := Lib.hid hown3; have HG := Lib.hid hgrow3; clear hown3 hgrow3)
      go_roundw
      case rel =>
        refine ⟨k + 1, by go_num, by omega, Below.grown (HB.out.alloc hbw _) HG.out (by simp; omega) (fun q hq => (World.ownsRow.lt HOW.out q hq).1), lv ++ [x], by rw [List.length_append, HLV.out]; rfl, fun y hy => ?_, ?_⟩
        · rcases List.mem_append.1 hy with hy | hy
          · exact H32.out y hy
          · rw [List.mem_singleton.1 hy]; exact hx32
        · unfold IRow
          rw [List.length_append, List.map_append, HLV.out]
          exact HO.out
      case measure => simp [intOf]; omega
    · obtain rfl : n = k := by omega
      obtain ⟨a7, cap7, rfl⟩ := own_val hI hlv
      have hlev := levels_of hI hlv h32
      have htier := tiers_any a7 n cap7 lv M wr hlev (by omega) hM2 (by omega)
      obtain ⟨hT0, hT1, hT2, hT3⟩ := tree_facts M n lv hM2 hlv hn2 h32
      generalize tiersA M 1 n (enumF lv) = T at *
      have HTI := Lib.hid htier; have HT0 := Lib.hid hT0; have HT1 := Lib.hid hT1; have HT2 := Lib.hid hT2; have HB := Lib.hid hB
      clear htier hlev hT0 hT1 hT2 hB hI hlv h32 H
      go_wp2_with fail
      refine HTI.out.mono ?_
      rintro e w3 ⟨v9, rfl, hb, hno⟩
      have hB3 := HB.out.trans (hb.mono HB.out.size)
      have hNR := hno.nrow
      obtain ⟨TL, hTL⟩ : ∃ TL, T.length = TL := ⟨_, rfl⟩
      obtain ⟨a9, cap9, rfl, hc9, hN9⟩ := hNR
      have hNR : NRow w3 (.slice a9 T.length cap9) T := ⟨a9, cap9, rfl, hc9, hN9⟩
      rw [hTL] at hT3 hc9 hNR
      rw [hTL]
      have HB3 := Lib.hid hB3; have HNR := Lib.hid hNR; have HN9 := Lib.hid hN9; have HTL := Lib.hid hTL
      clear hb hno hB3 hNR hN9 hTL HTI HB
      go_upto_region 12 with (fail)
      go_cut [62] from 52 to 62 (fun v62 wx => v62 = .bool false ∧ w3 = wx)
      case first =>
        by_cases h2n : n < 2
        · have h0 : TL = 0 := by rw [← HTL.out, HT0.out h2n]; rfl
          subst h0
          have hd1 : decide ((n : Int) < 2) = true := decide_eq_true (by omega)
          go_wp2_with fail
          go_meet
          case rel => exact ⟨rfl, rfl⟩
        · have h0 : ¬ (TL = 0) := fun e => (HT1.out (by omega)).1 (List.eq_nil_of_length_eq_zero (by rw [HTL.out]; exact e))
          have hd1 : decide ((n : Int) < 2) = false := decide_eq_false (by omega)
          have hd2 : ((TL : Int) == 0) = false := by simp; omega
          go_wp2_with fail
          go_meet
          case rel => exact ⟨rfl, rfl⟩
      case rest =>
      obtain ⟨rfl, rfl⟩ := hcut
      go_wp2_with fail
      go_loopw [11, 12] (fun v11 v12 wr => ∃ i : Nat, v12 = .int .i64 i ∧ i ≤ TL ∧ v11 = .int .i64 (total (T.take i)) ∧ total (T.take i) ≤ i * 301 ∧ Hid (∃ md, wr = w3.drewN md)) (fun _ i _ => TL - (intOf i).toNat)
      case atStart => exact ⟨0, rfl, Nat.zero_le _, rfl, Nat.le_refl _, 0, rfl⟩
      case round =>
        obtain ⟨i, rfl, hi, rfl, htt, H⟩ := hrel
        obtain ⟨md, rfl⟩ := H.out
        clear H
        by_cases hiT : i < TL
        · obtain ⟨ks, hks⟩ : ∃ ks, T[i]? = some ks := ⟨_, List.getElem?_eq_getElem (by rw [HTL.out]; exact hiT)⟩
          obtain ⟨b9, o9, rfl, -, g, c, hc, hgc, -⟩ := HN9.out i ks hks
          obtain ⟨hk1, hk2⟩ := HT2.out ks (List.mem_of_getElem? hks)
          have htk := total_take T i ks hks
          obtain ⟨KL, hKL⟩ : ∃ KL, ks.length = KL := ⟨_, rfl⟩
          rw [hKL] at hc hgc hk1 hk2 htk
          have hd1 : decide ((KL : Int) < 2) = false := decide_eq_false (by omega)
          have hd2 : decide ((M : Int) < (KL : Int)) = false := decide_eq_false (by omega)
          have hd3 : decide (M < KL) = false := decide_eq_false (by omega)
          generalize total (T.take i) = tt at *
          have HTK := Lib.hid htk
          clear hks hKL htk
          go_wp2_with fail
          go_roundw
          case rel => exact ⟨i + 1, by go_num, by omega, by rw [HTK.out]; go_num, by rw [HTK.out, Nat.add_mul]; omega, _, rfl⟩
          case measure => simp [intOf]; omega
        · obtain rfl : TL = i := by omega
          have hfull : T.take TL = T := List.take_of_length_le (by rw [HTL.out]; exact Nat.le_refl _)
          rw [hfull] at htt ⊢
          generalize hTT : total T = TT at *
          have HTT := Lib.hid hTT
          clear hfull hTT
          have hB4 : Below w.heap.size w (w3.drewN md) := ⟨HB3.out.os, HB3.out.tape, HB3.out.output, HB3.out.size, HB3.out.block⟩
          have hN4 : NRow (w3.drewN md) (.slice a9 TL cap9) T := HNR.out
          generalize w3.drewN md = w5 at *
          have HB5 := Lib.hid hB4; have HN5 := Lib.hid hN4
          clear hB4 hN4 HB3 HNR
          go_upto_if 96 with (fail)
          go_cut [13, 14, 15] from 96 to 140 (fun v13 v14 v15 wx => Hid (Below w.heap.size w wx))
          case first =>
            by_cases hpos : 0 < TL
            · have h2n : 2 ≤ n := by
                rcases Nat.lt_or_ge n 2 with h | h
                · have := congrArg List.length (HT0.out h); rw [HTL.out] at this; simp at this; omega
                · exact h
              obtain ⟨-, hcount, h, hh, hlv⟩ := HT1.out h2n
              rw [HTL.out] at hcount
              rw [HTL.out] at hlv
              have hrl : (List.range' 0 n).length = n := List.length_range'
              have hcall := leaves_any T n (.slice a9 TL cap9) w5 HN5.out (by rw [HTL.out]; omega) (by omega) (fun ks hk => by have := (HT2.out ks hk).2; omega) h (n + TL - 1) (List.range' 0 n) w5 (.slice none 0 0) [] 0 hlv (Below.refl _ _) (World.ownsRow_nil _ _ _ _) (by rw [hrl]; simp; omega) (by omega)
              rw [show ((n + TL - 1 : Nat) : Int) = (n : Int) + (TL : Int) - 1 by omega, show ((0 : Nat) : Int) = 0 from rfl, List.nil_append] at hcall
              have hcn : (TT : Int) = (n : Int) + (TL : Int) - 1 := by omega
              have hd1 : decide ((0 : Int) < (TL : Int)) = true := decide_eq_true (by omega)
              have hd2 : ((n : Int) != (n : Int)) = false := by simp
              have hd3 : ((TT : Int) != ((n : Int) + (TL : Int) - 1)) = false := by rw [hcn]; simp
              have HCALL := Lib.hid hcall; have HRL := Lib.hid hrl
              clear hcall hlv hrl hcn hcount htt
              go_wp2_with fail
              refine HCALL.out.mono ?_
              rintro e w6 ⟨v13, rfl, hb6, ho6⟩
              obtain ⟨a13, cap13, rfl⟩ := own_val ho6 HRL.out
              have hB6 := HB5.out.trans (hb6.mono HB5.out.size)
              have HB6 := Lib.hid hB6; have HO6 := Lib.hid ho6
              clear hb6 ho6 hB6 HCALL
              go_wp2_with fail
              go_loopw [15] (fun v15 wr => ∃ i : Nat, v15 = .int .i64 i ∧ i ≤ n ∧ Hid (∃ md, wr = w6.drewN md)) (fun i _ => n - (intOf i).toNat)
              case atStart => exact ⟨0, rfl, Nat.zero_le _, 0, rfl⟩
              case round =>
                obtain ⟨i, rfl, hi, H⟩ := hrel
                obtain ⟨md, rfl⟩ := H.out
                clear H
                by_cases hin : i < n
                · have hri : (List.range' 0 n)[i]? = some i := by rw [List.getElem?_range' hin]; simp
                  obtain ⟨g13, rfl, c13⟩ := HO6.out.cell hri
                  have hd4 : ((i : Int) != (i : Int)) = false := by simp
                  clear hri
                  go_wp2_with fail
                  go_roundw
                  case rel => exact ⟨i + 1, by go_num, by omega, _, rfl⟩
                  case measure => simp [intOf]; omega
                · obtain rfl : n = i := by omega
                  go_wp2_with fail
                  go_meet
                  case rel => exact below_drewN HB6.out _
            · have hd1 : decide ((0 : Int) < (TL : Int)) = false := decide_eq_false (by omega)
              go_wp2_with fail
              go_meet
              case rel => exact HB5.out
          case rest =>
          have HB7 := Lib.hid hcut.out
          clear hcut HB5 HN5 HTT htt HT0 HT1 HT2 HN9 HTL
          go_upto_region 31 with (fail)
          rw [hZ]
          generalize z.tmod 2000 + 2000 = J4
          generalize z.tmod 2000 = J5
          clear hZ hz1 bz
          have hmk := make_zeros wc Z (by omega)
          have hlev := zeros_levels wc Z 3 (by omega)
          have hel : (List.replicate Z 0).length = Z := List.length_replicate
          have hB8 := HB7.out.alloc HB7.out.size (.cells (madeCells #[Value.int .i64 0] Z) 3)
          obtain ⟨-, hT1, -, hT3⟩ := tree_facts M Z (List.replicate Z 0) hM2 hel (by omega) (fun x hx => by rw [(List.mem_replicate.1 hx).2]; omega)
          have hzt := tree_zero M Z hM2
          have htier := tiers_any (some ⟨wc.heap.size, 0, none⟩) Z Z (List.replicate Z 0) M _ hlev (by omega) hM2 (by omega)
          generalize tiersA M 1 Z (enumF (List.replicate Z 0)) = T2 at *
          have HTI := Lib.hid htier; have HZT := Lib.hid hzt; have HB8 := Lib.hid hB8
          clear htier hlev hel hT1 hzt hB8
          go_wp2_with fail
          refine HTI.out.mono ?_
          rintro e w8 ⟨v9, rfl, hb, hno⟩
          have hB9 := HB8.out.trans (hb.mono HB8.out.size)
          obtain ⟨TZ, hTZ⟩ : ∃ TZ, T2.length = TZ := ⟨_, rfl⟩
          obtain ⟨b9, capb, rfl, hcb, hNB⟩ := hno.nrow
          rw [hTZ] at hT3 hcb
          rw [hTZ]
          have HB9 := Lib.hid hB9; have HNB := Lib.hid hNB; have HTZ := Lib.hid hTZ
          clear hb hno hB9 hNB hTZ HTI HB8 HB7 hmk
          go_wp2_with fail
          go_loopw [16, 17, 18] (fun v16 v17 _ wr => ∃ at_ N : Nat, v16 = .int .i64 at_ ∧ v17 = .int .i64 N ∧ at_ ≤ TZ ∧ N ≤ 2000 ∧ Hid (∃ md f, wr = w8.drewN md ∧ N < f ∧ (T2.map List.length).drop at_ = zF M f N)) (fun _ v17 _ _ => (intOf v17).toNat)
          case atStart => exact ⟨0, Z, rfl, rfl, Nat.zero_le _, by omega, 0, _, rfl, (by unfold meas; omega), HZT.out⟩
          case round =>
            obtain ⟨at_, N, rfl, rfl, hat, hN, H⟩ := hrel
            obtain ⟨md, f, rfl, hf, hd⟩ := H.out
            clear H
            by_cases hN1 : 1 < N
            · obtain ⟨f', hf', hzf, hlt⟩ := zF_step M f N hN1 hf hM2
              rw [hzf] at hd
              obtain ⟨N', hN'⟩ : ∃ N', (N + M - 1) / M = N' := ⟨_, rfl⟩
              rw [hN'] at hd hf' hlt
              have hq1 : ((N : Int) + (M : Int) - 1).tdiv (M : Int) = (N' : Int) := by rw [← hN', show (N : Int) + (M : Int) - 1 = ((N + M - 1 : Nat) : Int) by omega, Int.ofNat_tdiv]
              have HD := Lib.hid (show ∃ g, (N : Int).toNat ≤ g ∧ (T2.map List.length).drop at_ = fullF M g (N : Int).toNat ++ zF M f' N' from ⟨N, by simp, by simpa using hd⟩)
              have HF := Lib.hid hf'
              clear hd hzf hN'
              go_wp2_with fail
              go_loopw [16, 18] (fun v16 v18 wr => ∃ (a : Nat) (li : Int), v16 = .int .i64 a ∧ v18 = .int .i64 li ∧ a ≤ TZ ∧ -1000 ≤ li ∧ li ≤ 2000 ∧ Hid (∃ md g, wr = w8.drewN md ∧ li.toNat ≤ g ∧ (T2.map List.length).drop a = fullF M g li.toNat ++ zF M f' N')) (fun _ v18 _ => (intOf v18).toNat)
              case atStart => exact ⟨at_, N, rfl, rfl, hat, by omega, by omega, _, HD.out.choose, rfl, HD.out.choose_spec⟩
              case round =>
                obtain ⟨a, li, rfl, rfl, ha, hli, hli2, H⟩ := hrel
                obtain ⟨md, g, rfl, hg, hd⟩ := H.out
                clear H
                by_cases hl1 : 1 < li
                · obtain ⟨Lf, rfl⟩ : ∃ Lf : Nat, li = (Lf : Int) := ⟨li.toNat, by omega⟩
                  rw [Int.toNat_natCast] at hg hd
                  obtain ⟨g', hg', hfl⟩ := full_step M g Lf (by omega) hg hM2
                  rw [hfl, List.cons_append] at hd
                  have haT : a < TZ := by
                    rcases Nat.lt_or_ge a TZ with h | h
                    · exact h
                    · rw [List.drop_eq_nil_of_le (by rw [List.length_map, HTZ.out]; exact h)] at hd
                      cases hd
                  have haM : a < (T2.map List.length).length := by rw [List.length_map, HTZ.out]; exact haT
                  rw [List.drop_eq_getElem_cons haM] at hd
                  injection hd with hd1 hd2
                  rw [List.getElem_map] at hd1
                  obtain ⟨ks, hks⟩ : ∃ ks, T2[a]? = some ks := ⟨_, List.getElem?_eq_getElem (by rw [HTZ.out]; exact haT)⟩
                  have hks2 : ks.length = min Lf M := by rw [← hd1]; congr 1; exact ((List.getElem?_eq_some_iff.1 hks).2).symm
                  obtain ⟨bb, o9, rfl, -, gg, c, hc, hgc, -⟩ := HNB.out a ks hks
                  obtain ⟨KL, hKL⟩ : ∃ KL, min Lf M = KL := ⟨_, rfl⟩
                  rw [hks2, hKL] at hc hgc
                  have HD2 := Lib.hid (show ∃ g, ((Lf : Int) - (M : Int)).toNat ≤ g ∧ (T2.map List.length).drop (a + 1) = fullF M g ((Lf : Int) - (M : Int)).toNat ++ zF M f' N' from ⟨g', by omega, by rw [hd2, show ((Lf : Int) - (M : Int)).toNat = Lf - M by omega]⟩)
                  have hm1 : ((KL : Int) != if M < Lf then (M : Int) else (Lf : Int)) = false := by
                    by_cases h : M < Lf
                    · rw [if_pos h]; simp; omega
                    · rw [if_neg h]; simp; omega
                  have hm2 : ((KL : Int) != if (M : Int) < (Lf : Int) then (M : Int) else (Lf : Int)) = false := by
                    by_cases h : M < Lf
                    · rw [if_pos (by omega)]; simp; omega
                    · rw [if_neg (by omega)]; simp; omega
                  have hm3 : decide (TZ ≤ a) = false := decide_eq_false (by omega)
                  have hm4 : decide ((TZ : Int) ≤ (a : Int)) = false := decide_eq_false (by omega)
                  clear hKL
                  clear hd1 hd2 hks hks2 hfl hg hg' haM
                  go_wp2_with fail
                  go_roundw
                  case rel =>
                    obtain ⟨g2, r1, r2⟩ := HD2.out
                    exact ⟨a + 1, (Lf : Int) - (M : Int), by go_num, rfl, by omega, by omega, by omega, _, g2, rfl, r1, r2⟩
                  case measure => simp [intOf]; omega
                · have he := full_end M g li.toNat (by omega)
                  rw [he, List.nil_append] at hd
                  have hd5 : decide (1 < li) = false := decide_eq_false hl1
                  have HD2 := Lib.hid hd
                  clear hd he hg
                  have hM0' : ¬ (M = 0) := by omega
                  go_wp2_with fail
                  go_roundw
                  case rel => exact ⟨a, N', rfl, by go_num, ha, by omega, _, f', rfl, HF.out, HD2.out⟩
                  case measure => simp [intOf]; omega
            · have he := zF_end M f N hN1
              rw [he] at hd
              have hle := List.drop_eq_nil_iff.1 hd
              rw [List.length_map, HTZ.out] at hle
              obtain rfl : at_ = TZ := by omega
              have hB10 : Below w.heap.size w (w8.drewN md) := ⟨HB9.out.os, HB9.out.tape, HB9.out.output, HB9.out.size, HB9.out.block⟩
              have HBX := Lib.hid hB10
              have hd6 : ((at_ : Int) == (at_ : Int)) = true := by simp
              clear hd he hB10
              go_wp2_with fail
              go_ret
              exact ⟨rfl, HBX.out⟩
end Go.Proofs.YtmnggemifcjflaaDoor.splitGroups
