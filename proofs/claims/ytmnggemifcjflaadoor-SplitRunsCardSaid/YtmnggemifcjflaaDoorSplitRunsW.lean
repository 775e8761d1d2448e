/-
  The walk over SplitRuns.
-/
import Derived.Test.YtmnggemifcjflaaDoorRunsP
import Derived.Test.YtmnggemifcjflaaDoorRecs
namespace Go.Proofs.YtmnggemifcjflaaDoor.splitRuns
open Go.RowKit PlainP RollP OnesP SplitP
set_option linter.unusedVariables false

set_option maxRecDepth 100000 in
set_option maxHeartbeats 4000000 in
theorem walk (b f m b2 f2 m2 : Int) (a0 : Option Addr) (len0 cap0 : Nat) (w : World) (wb : (Lit.int .i64 b).wf = true) (wf : (Lit.int .i64 f).wf = true) (wm : (Lit.int .i64 m).wf = true) (wb2 : (Lit.int .i64 b2).wf = true) (wf2 : (Lit.int .i64 f2).wf = true) (wm2 : (Lit.int .i64 m2).wf = true) (w0 : Recs [some .i64, some .i64, none] w a0 len0 cap0) (hT : Tab w) :
    Calls Tryd.prog 6 #[.agg #[.int .i64 b, .int .i64 f, .int .i64 m], .agg #[.int .i64 b2, .int .i64 f2, .int .i64 m2], .slice a0 len0 cap0] w fun e w' => e = .returned (.bool true) ∧ Below w.heap.size w w' := by
  clear wb wf wm wb2 wf2 wm2
  obtain ⟨hlc0, hlm0⟩ := w0.len_le
  unfold maxLen at hlm0
  have hl0 : len0 ≤ 9223372036854775807 := by omega
  have hB0 : Below w.heap.size w ((w.alloc (.cells #[.int .i64 b, .int .i64 f, .int .i64 m] 33)).alloc (.cells #[.int .i64 b2, .int .i64 f2, .int .i64 m2] 33)) := ((Below.refl _ _).alloc (Nat.le_refl _) _).alloc (by simp) _
  have hK0 := (Blk.new w 33 #[.int .i64 b, .int .i64 f, .int .i64 m]).alloc (.cells #[.int .i64 b2, .int .i64 f2, .int .i64 m2] 33)
  have hK1 := Blk.new (w.alloc (.cells #[.int .i64 b, .int .i64 f, .int .i64 m] 33)) 33 #[.int .i64 b2, .int .i64 f2, .int .i64 m2]
  rw [show (w.alloc (.cells #[.int .i64 b, .int .i64 f, .int .i64 m] 33)).heap.size = w.heap.size + 1 by simp] at hK1
  obtain ⟨C, hC⟩ : ∃ C, w.heap.size = C := ⟨_, rfl⟩
  rw [hC] at hK0 hK1
  have hin := fun W => in_any b f m W
  have hin2 := fun W => in_any b2 f2 m2 W
  have hsn := fun W (h : Tab W) => snew_gen b f m W h
  have hsn2 := fun W (h : Tab W) => snew_gen b2 f2 m2 W h
  have hck := fun W => rcheck_any b f m W
  have hck2 := fun W => rcheck_any b2 f2 m2 W
  unfold planV at hin hin2 hsn hsn2 hck hck2
  have HT := Lib.hid hT; have H0 := Lib.hid w0; have HB0 := Lib.hid hB0; have HK0 := Lib.hid hK0; have HK1 := Lib.hid hK1; have HC := Lib.hid hC
  have HIN := Lib.hid hin; have HIN2 := Lib.hid hin2; have HSN := Lib.hid hsn; have HSN2 := Lib.hid hsn2; have HCK := Lib.hid hck; have HCK2 := Lib.hid hck2
  have x0 := hK0.cell 0
  have x1 := hK0.cell 1
  have x2 := hK0.cell 2
  have y0 := hK1.cell 0
  have y1 := hK1.cell 1
  have y2 := hK1.cell 2
  clear hT w0 hB0 hK0 hK1 hC hin hin2 hsn hsn2 hck hck2
  go_enter Tryd.func6, Tryd.ntmps6
  go_wp2_with fail
  rw [HC.out]
  generalize ((w.alloc (.cells #[.int .i64 b, .int .i64 f, .int .i64 m] 33)).alloc (.cells #[.int .i64 b2, .int .i64 f2, .int .i64 m2] 33)) = W0 at *
  refine (HIN.out _).mono ?_
  rintro e w1 ⟨rfl, hb⟩
  have hB1 := HB0.out.trans (hb.mono HB0.out.size)
  have hK0 := HK0.out.below hb HK0.out.lt
  have hK1 := HK1.out.below hb HK1.out.lt
  have HB1 := Lib.hid hB1; have HK01 := Lib.hid hK0; have HK11 := Lib.hid hK1
  clear hb hB1 hK0 hK1 HB0 HK0 HK1 x0 x1 x2 y0 y1 y2
  go_wp2_with fail
  refine (HSN.out _ (HT.out.below HB1.out HT.out.1)).mono ?_
  rintro e w2 ⟨v7, rfl, hb, hv7⟩
  have hB2 := HB1.out.trans (hb.mono HB1.out.size)
  have hK0 := HK01.out.below hb HK01.out.lt
  have hK1 := HK11.out.below hb HK11.out.lt
  have y0 : w2.cell? ⟨C + 1, 0, none⟩ = some (.int .i64 b2) := hK1.cell 0
  have y1 : w2.cell? ⟨C + 1, 1, none⟩ = some (.int .i64 f2) := hK1.cell 1
  have y2 : w2.cell? ⟨C + 1, 2, none⟩ = some (.int .i64 m2) := hK1.cell 2
  have hw1 : w.heap.size ≤ w1.heap.size := HB1.out.size
  have HB2 := Lib.hid hB2; have HK02 := Lib.hid hK0; have HK12 := Lib.hid hK1; have HV7 := Lib.hid hv7; have HLT2 := Lib.hid (show w1.heap.size ≤ w2.heap.size from hb.size)
  clear hb hB2 hK0 hK1 HB1 HK01 HK11 HSN HIN hv7
  go_wp2_with fail
  refine (HIN2.out _).mono ?_
  rintro e w3 ⟨rfl, hb⟩
  have hB3 := HB2.out.trans (hb.mono HB2.out.size)
  have hK0 := HK02.out.below hb HK02.out.lt
  have hK1 := HK12.out.below hb HK12.out.lt
  have HB3 := Lib.hid hB3; have HK03 := Lib.hid hK0; have HK13 := Lib.hid hK1; have HB23 := Lib.hid hb
  clear hb hB3 hK0 hK1 HB2 HK02 HK12 y0 y1 y2
  go_wp2_with fail
  refine (HSN2.out _ (HT.out.below HB3.out HT.out.1)).mono ?_
  rintro e w4 ⟨v9, rfl, hb, hv9⟩
  have hB4 := HB3.out.trans (hb.mono HB3.out.size)
  have hK0 := HK03.out.below hb HK03.out.lt
  have hK1 := HK13.out.below hb HK13.out.lt
  have x0 : w4.cell? ⟨C, 0, none⟩ = some (.int .i64 b) := hK0.cell 0
  have x1 : w4.cell? ⟨C, 1, none⟩ = some (.int .i64 f) := hK0.cell 1
  have x2 : w4.cell? ⟨C, 2, none⟩ = some (.int .i64 m) := hK0.cell 2
  have y0 : w4.cell? ⟨C + 1, 0, none⟩ = some (.int .i64 b2) := hK1.cell 0
  have y1 : w4.cell? ⟨C + 1, 1, none⟩ = some (.int .i64 f2) := hK1.cell 1
  have y2 : w4.cell? ⟨C + 1, 2, none⟩ = some (.int .i64 m2) := hK1.cell 2
  have hw3 : w.heap.size ≤ w3.heap.size := HB3.out.size
  have hC0 : C < w4.heap.size := hK0.lt
  have hC1 : C + 1 < w4.heap.size := hK1.lt
  have hb24 : Below w2.heap.size w2 w4 := HB23.out.trans (hb.mono HB23.out.size)
  have HB4 := Lib.hid hB4; have HK04 := Lib.hid hK0; have HK14 := Lib.hid hK1; have HV9 := Lib.hid hv9; have HLT4 := Lib.hid (show w3.heap.size ≤ w4.heap.size from hb.size); have HB24 := Lib.hid hb24; have HLT23 := Lib.hid (show w2.heap.size ≤ w3.heap.size from HB23.out.size)
  clear hb hB4 hK0 hK1 HB3 HK03 HK13 HSN2 HIN2 hv9 hb24 HB23
  go_upto_region 5 with (fail)
  have hB6 : Below w.heap.size w ((w4.alloc (.cells #[.int .i64 b, .int .i64 f, .int .i64 m, .string ⟨#[]⟩, .int .i64 0, .bool false] 55)).alloc (.cells #[.int .i64 b2, .int .i64 f2, .int .i64 m2, .string ⟨#[]⟩, .int .i64 0, .bool false] 55)) := (HB4.out.alloc HB4.out.size _).alloc (by simp; have := HB4.out.size; omega) _
  have hN1 := (Blk.new w4 55 #[.int .i64 b, .int .i64 f, .int .i64 m, .string ⟨#[]⟩, .int .i64 0, .bool false]).alloc (.cells #[.int .i64 b2, .int .i64 f2, .int .i64 m2, .string ⟨#[]⟩, .int .i64 0, .bool false] 55)
  have hN2 := Blk.new (w4.alloc (.cells #[.int .i64 b, .int .i64 f, .int .i64 m, .string ⟨#[]⟩, .int .i64 0, .bool false] 55)) 55 #[.int .i64 b2, .int .i64 f2, .int .i64 m2, .string ⟨#[]⟩, .int .i64 0, .bool false]
  rw [show (w4.alloc (.cells #[.int .i64 b, .int .i64 f, .int .i64 m, .string ⟨#[]⟩, .int .i64 0, .bool false] 55)).heap.size = w4.heap.size + 1 by simp] at hN2
  have hK0 := (HK04.out.alloc (.cells #[.int .i64 b, .int .i64 f, .int .i64 m, .string ⟨#[]⟩, .int .i64 0, .bool false] 55)).alloc (.cells #[.int .i64 b2, .int .i64 f2, .int .i64 m2, .string ⟨#[]⟩, .int .i64 0, .bool false] 55)
  have hK1 := (HK14.out.alloc (.cells #[.int .i64 b, .int .i64 f, .int .i64 m, .string ⟨#[]⟩, .int .i64 0, .bool false] 55)).alloc (.cells #[.int .i64 b2, .int .i64 f2, .int .i64 m2, .string ⟨#[]⟩, .int .i64 0, .bool false] 55)
  have hb46 : Below w4.heap.size w4 ((w4.alloc (.cells #[.int .i64 b, .int .i64 f, .int .i64 m, .string ⟨#[]⟩, .int .i64 0, .bool false] 55)).alloc (.cells #[.int .i64 b2, .int .i64 f2, .int .i64 m2, .string ⟨#[]⟩, .int .i64 0, .bool false] 55)) := ((Below.refl _ _).alloc (Nat.le_refl _) _).alloc (by simp) _
  generalize ((w4.alloc (.cells #[.int .i64 b, .int .i64 f, .int .i64 m, .string ⟨#[]⟩, .int .i64 0, .bool false] 55)).alloc (.cells #[.int .i64 b2, .int .i64 f2, .int .i64 m2, .string ⟨#[]⟩, .int .i64 0, .bool false] 55)) = W6 at *
  obtain ⟨O1, hO1, hS1⟩ := side_start HV7.out (HB24.out.trans (hb46.mono HB24.out.size)) hN1
  obtain ⟨O2, hO2, hS2⟩ := side_start HV9.out hb46 hN2
  have htwo := two_start hB6 hO1 hO2 hS1 hS2 hw1 HLT23.out HLT2.out HLT4.out (Nat.le_refl _) (Nat.lt_succ_self _) hN2.lt
  have z0 : W6.cell? ⟨C, 0, none⟩ = some (.int .i64 b) := hK0.cell 0
  have z1 : W6.cell? ⟨C, 1, none⟩ = some (.int .i64 f) := hK0.cell 1
  have z2 : W6.cell? ⟨C, 2, none⟩ = some (.int .i64 m) := hK0.cell 2
  obtain ⟨G, hG⟩ : ∃ G, w4.heap.size = G := ⟨_, rfl⟩
  rw [hG] at htwo ⊢
  have HTW := Lib.hid htwo; have HK1 := Lib.hid hK1
  have hv7 : (planE b f m = 0 ∧ ∃ gx, v7 = .pointer (some ⟨gx, 0, none⟩)) ∨ (planE b f m = 90 ∧ v7 = .pointer none) := by
    rcases HV7.out with ⟨e, gx, h, -⟩ | h
    · exact .inl ⟨e, gx, h⟩
    · exact .inr h
  have hv9 : (planE b2 f2 m2 = 0 ∧ ∃ gx, v9 = .pointer (some ⟨gx, 0, none⟩)) ∨ (planE b2 f2 m2 = 90 ∧ v9 = .pointer none) := by
    rcases HV9.out with ⟨e, gx, h, -⟩ | h
    · exact .inl ⟨e, gx, h⟩
    · exact .inr h
  clear HV7 HV9 hb46 hN1 hN2 hK0 hK1 hB6 htwo hS1 hS2 hO1 hO2 HB24 HLT2 HLT4 HLT23 HB4 HK04 HK14 x0 x1 x2 y0 y1 y2
  go_cut [63] from 40 to 62 (fun v63 wx => v63 = .bool false ∧ Hid (Below W6.heap.size W6 wx))
  case first =>
    generalize planE b f m = E1 at *
    generalize planE b2 f2 m2 = E2 at *
    rcases hv7 with ⟨rfl, gx, rfl⟩ | ⟨rfl, rfl⟩ <;> rcases hv9 with ⟨rfl, gy, rfl⟩ | ⟨rfl, rfl⟩
    all_goals (
      go_wp2_with fail
      refine (HCK.out _).mono ?_
      rintro e wA ⟨rfl, hb⟩
      have hK1 := HK1.out.below hb HK1.out.lt
      have y0 : wA.cell? ⟨C + 1, 0, none⟩ = some (.int .i64 b2) := hK1.cell 0
      have y1 : wA.cell? ⟨C + 1, 1, none⟩ = some (.int .i64 f2) := hK1.cell 1
      have y2 : wA.cell? ⟨C + 1, 2, none⟩ = some (.int .i64 m2) := hK1.cell 2
      have HBA := Lib.hid hb
      clear hb hK1
      go_wp2_with fail
      refine (HCK2.out _).mono ?_
      rintro e wB ⟨rfl, hb⟩
      have HBB := Lib.hid (HBA.out.trans (hb.mono HBA.out.size))
      clear hb
      go_wp2_with fail
      go_meet
      case rel => exact ⟨rfl, HBB.out⟩)
  case rest =>
  obtain ⟨rfl, hb⟩ := hcut
  have hTW := HTW.out.more (only_of_below hb.out none)
  have HTW2 := Lib.hid (show ∃ O1 O2, Two w wc v7 v9 G (G + 1) O1 O2 from ⟨_, _, hTW⟩)
  clear hTW hb HTW HK1 HCK HCK2 z0 z1 z2 hv7 hv9
  obtain ⟨G2, hG2⟩ : ∃ G2, G + 1 = G2 := ⟨_, rfl⟩
  rw [hG2] at HTW2 ⊢
  clear hG2 hG
  go_wp2_with fail
  generalize wc = wL at *
  go_loopw [13, 14, 15, 16, 17, 18, 19, 20, 21] (fun v13 v14 _ _ _ _ _ _ _ wr => ∃ k A : Nat, v14 = .int .i64 k ∧ v13 = .int .i64 A ∧ k ≤ 100 ∧ A ≤ k * 140737488351232 ∧ Hid (∃ O1 O2, Two w wr v7 v9 G G2 O1 O2)) (fun _ i _ _ _ _ _ _ _ _ => 100 - (intOf i).toNat)
  case atStart => exact ⟨0, 0, rfl, rfl, by omega, by omega, HTW2.out⟩
  case round =>
    obtain ⟨k, A, rfl, rfl, hk, hA, H⟩ := hrel
    obtain ⟨O1, O2, hTW⟩ := H.out
    have HTW := Lib.hid hTW
    clear hTW H HTW2
    by_cases hlt : k < len0 ∧ k < 100
    · obtain ⟨hlt, hlt3⟩ := hlt
      have hA2 : A ≤ 14073748835123200 := by omega
      have hd100 : decide ((k : Int) < 100) = true := decide_eq_true (by omega)
      have hd101 : decide ((k : Int) < (len0 : Int)) = true := decide_eq_true (by omega)
      obtain ⟨bb, off, rfl, hbl, hf⟩ := H0.out.at_ (Below.refl _ _) hlt
      obtain ⟨_, c0, kind, rfl, wk⟩ := hf 0 _ rfl
      obtain ⟨_, c1, who, rfl, ww⟩ := hf 1 _ rfl
      obtain ⟨_, c2, s, rfl, ws⟩ := hf 2 _ rfl
      simp only [List.length_cons, List.length_nil, Nat.zero_add, Nat.reduceAdd, Nat.add_zero] at c0 c1 c2
      have hrec : ∀ X : World, Below w.heap.size w X → X.cell? ⟨bb, off + k * 3, none⟩ = some (.int .i64 kind) ∧ X.cell? ⟨bb, off + k * 3 + 1, none⟩ = some (.int .i64 who) ∧ X.cell? ⟨bb, off + k * 3 + 2, none⟩ = some (.string s) := fun X hX =>
        ⟨by rw [hX.cell (p := ⟨bb, _, none⟩) hbl]; exact c0, by rw [hX.cell (p := ⟨bb, _, none⟩) hbl]; exact c1, by rw [hX.cell (p := ⟨bb, _, none⟩) hbl]; exact c2⟩
      obtain ⟨d0, d1, d2⟩ := hrec wr HTW.out.below
      have HREC := Lib.hid hrec
      clear hf c0 c1 c2 hrec
      go_upto_if 81 with (fail)
      go_cut [15, 16] from 82 to 83 (fun v15 v16 wx => wr = wx ∧ ∃ g16 : Nat, v16 = .pointer (some ⟨g16, 0, none⟩) ∧ Hid (∃ vo go O1 O2, Two w wr v15 vo g16 go O1 O2 ∧ ∀ wx' O1 O2, Two w wx' v15 vo g16 go O1 O2 → ∃ O1 O2, Two w wx' v7 v9 G G2 O1 O2))
      case first =>
        by_cases hw0 : who = 0
        · have hb : (who != 0) = false := by simp [hw0]
          go_wp2_with fail
          go_meet
          case rel => exact ⟨rfl, _, rfl, _, _, _, _, HTW.out, fun wx' O1 O2 h => ⟨_, _, h⟩⟩
        · have hb : (who != 0) = true := by simp [hw0]
          go_wp2_with fail
          go_meet
          case rel => exact ⟨rfl, _, rfl, _, _, _, _, HTW.out.swap, fun wx' O1 O2 h => ⟨_, _, h.swap⟩⟩
      case rest =>
      obtain ⟨rfl, g16, rfl, H16⟩ := hcut
      obtain ⟨vo, go, P1, P2, hTP, hback⟩ := H16.out
      have HTP := Lib.hid hTP; have HBACK := Lib.hid hback
      clear hTP hback H16
      have hs9 : s.size ≤ 140737488351232 := ws
      have hAs : A + s.size ≤ (k + 1) * 140737488351232 := by omega
      rcases HTP.out.s1 with rfl | ⟨gx, p, r, all, cl, rfl, hSA, hSB, hp, hcl, hrm, hra, hal⟩
      · go_wp2_with fail
        go_roundw
        case rel => exact ⟨k + 1, A + s.size, by go_num, by go_num, by omega, hAs, _, _, HTW.out⟩
        case measure => simp [intOf]; omega
      by_cases h3 : 3000 < A + s.size
      · have hd3 : decide ((3000 : Int) < (A : Int) + (s.size : Int)) = true := decide_eq_true (by omega)
        go_wp2_with fail
        go_roundw
        case rel => exact ⟨k + 1, A + s.size, by go_num, by go_num, by omega, hAs, _, _, HTW.out⟩
        case measure => simp [intOf]; omega
      have hd3 : decide ((3000 : Int) < (A : Int) + (s.size : Int)) = false := decide_eq_false (by omega)
      have HSA := Lib.hid hSA; have HSB := Lib.hid hSB; have HP := Lib.hid hp; have HCL := Lib.hid hcl
      clear hSA hSB hp hcl HTW
      have hTw := HT.out.below HTP.out.below HT.out.1
      have hby := nats_bytes r
      have hnr := nats_length r
      go_upto_if 103 with (fail)
      go_cut [17, 18, 19, 20] from 98 to 133 (fun v17 v18 v19 v20 wx => ∃ e : Int, v19 = .int .i64 e ∧ v20 = .int .i64 e ∧ Hid (Res w (.pointer (some ⟨gx, 0, none⟩)) vo g16 go wx v17 v18))
      case first =>
        have HTw := Lib.hid hTw
        clear hTw
        by_cases hk0 : kind = 0
        · have hbk : (kind == 0) = true := by simp [hk0]
          cases cl with
          | true =>
            have h1 := swrite_done HSA.out s
            have h2 := rwrite_done HSB.out s
            have H1 := Lib.hid h1; have H2 := Lib.hid h2
            clear h1 h2
            go_wp2_with fail
            refine H1.out.mono ?_
            rintro e w7 ⟨rfl, rfl⟩
            go_wp2_with fail
            refine H2.out.mono ?_
            rintro e w8 ⟨rfl, rfl⟩
            go_wp2_with fail
            go_meet
            case rel => exact ⟨5, rfl, rfl, res_none HTP.out⟩
          | false =>
            by_cases hfit : all + s.size ≤ 1048576
            · have h1 := swrite_any P1 wr gx p (nats r) all s HP.out HSA.out HTw.out (by rw [hnr]; exact hrm) hby hfit
              have H1 := Lib.hid h1
              clear h1
              go_wp2_with fail
              refine H1.out.mono ?_
              rintro e w7 ⟨ov, rfl, hk, hA, hPr, hOw⟩
              have hB7 := HTP.out.ref hk HSB.out
              have hbel := below_kept HTP.out.below HTP.out.below.size hk (fun b hb => (HTP.out.o1 b hb).1)
              obtain ⟨_, _, e2⟩ := HREC.out w7 hbel
              have h2 := rwrite_any w7 g16 p r all s HP.out hB7 HCL.out hra hfit
              have H2 := Lib.hid h2; have HK := Lib.hid hk; have HA := Lib.hid hA; have HPR := Lib.hid hPr; have HOW := Lib.hid hOw; have HB7 := Lib.hid hB7
              clear h2 hk hA hPr hOw hB7 hbel
              go_wp2_with fail
              refine H2.out.mono ?_
              rintro e w8 ⟨u, r', rfl, hr', hk8, hB8, hR8⟩
              have hA7 := HA.out
              rw [← hr'] at hA7
              have hseg := pieceF_seg p (by have := HP.out.m64; omega) (nats s) (nats r) (by rw [hnr]; exact hrm)
              have hsub := pieceF_sub p (nats s) (nats r)
              have hcln := clean_rest p (nats s) (nats r) HCL.out
              have hpl := pieceF_len p (nats s) (nats r)
              rw [← hr'] at hseg hsub hcln
              rw [nats_length] at hseg hsub hpl
              rw [nats_length, nats_length] at hsub
              have hres := res_some HTP.out HK.out hA7 HPR.out HOW.out HB7.out hk8 hB8 hR8 (by omega) HP.out hcln hseg (by omega) hfit
              have HRES := Lib.hid hres
              clear hA7 hseg hsub hcln hpl hres hr' hk8 hB8 hR8
              go_wp2_with fail
              go_meet
              case rel => exact ⟨0, rfl, rfl, HRES.out⟩
            · have h1 := swrite_full HSA.out s hal (by omega)
              have h2 := rwrite_full HSB.out s hal (by omega)
              have H1 := Lib.hid h1; have H2 := Lib.hid h2
              clear h1 h2
              go_wp2_with fail
              refine H1.out.mono ?_
              rintro e w7 ⟨rfl, rfl⟩
              go_wp2_with fail
              refine H2.out.mono ?_
              rintro e w8 ⟨rfl, rfl⟩
              go_wp2_with fail
              go_meet
              case rel => exact ⟨1, rfl, rfl, res_none HTP.out⟩
        · have hbk : (kind == 0) = false := by simp [hk0]
          cases cl with
          | true =>
            have h1 := sclose_done HSA.out
            have h2 := rclose_done HSB.out
            have H1 := Lib.hid h1; have H2 := Lib.hid h2
            clear h1 h2
            go_wp2_with fail
            refine H1.out.mono ?_
            rintro e w7 ⟨rfl, rfl⟩
            go_wp2_with fail
            refine H2.out.mono ?_
            rintro e w8 ⟨rfl, rfl⟩
            go_wp2_with fail
            go_meet
            case rel => exact ⟨5, rfl, rfl, res_none HTP.out⟩
          | false =>
            have h1 := sclose_any P1 wr gx p (nats r) all HSA.out hby HTw.out
            have H1 := Lib.hid h1
            clear h1
            go_wp2_with fail
            refine H1.out.mono ?_
            rintro e w7 ⟨ov, rfl, hk, hA, hPr, hOw⟩
            have hB7 := HTP.out.ref hk HSB.out
            have h2 := rclose_any w7 g16 p r all hB7
            have H2 := Lib.hid h2; have HK := Lib.hid hk; have HA := Lib.hid hA; have HPR := Lib.hid hPr; have HOW := Lib.hid hOw; have HB7 := Lib.hid hB7
            clear h2 hk hA hPr hOw hB7
            go_wp2_with fail
            refine H2.out.mono ?_
            rintro e w8 ⟨u, rfl, hk8, hB8, hR8⟩
            have hla1 : (lastP (nats r)).length ≤ 1048577 := by unfold lastP; split <;> simp
            have hres := res_some HTP.out HK.out HA.out HPR.out HOW.out HB7.out hk8 hB8 hR8 hla1 HP.out HCL.out hrm hra hal
            have HRES := Lib.hid hres
            clear hres hk8 hB8 hR8
            go_wp2_with fail
            go_meet
            case rel => exact ⟨0, rfl, rfl, HRES.out⟩
      case rest =>
      obtain ⟨e, rfl, rfl, H17⟩ := hcut
      obtain ⟨ps, B, Q1, Q2, hPR, hRR, hpl, hnew, hTQ⟩ := H17.out
      have hpc := pieces_any _ _ ps wc.drew B hPR hRR hpl
      have HPC0 := Lib.hid (pieces_any _ _ ps wc B hPR hRR hpl)
      have HPR := Lib.hid hPR; have HNEW := Lib.hid hnew; have HTQ := Lib.hid hTQ
      have hee : (e != e) = false := by simp
      clear hPR hRR hnew hTQ H17 HSA HSB HTP hpc
      go_wp2_with fail
      refine HPC0.out.mono ?_
      rintro e3 w9 ⟨rfl, md, rfl⟩
      rcases HPR.out.2 with ⟨rfl, h0⟩ | ⟨gq, capq, cur, rfl, -, hgq, hcq, hmq, hsq, -⟩
      · have HB9 := Lib.hid (HBACK.out _ _ _ (HTQ.out.more (only_drewN (only_refl wc none) md)))
        clear HPC0 HPR HTQ
        generalize wc.drewN md = wd at *
        go_wp2_with fail
        go_loopw [21] (fun v21 wr => v21 = .int .i64 ((0 : Nat) : Int) ∧ Hid (wr = wd)) (fun _ _ => 0)
        case atStart => exact ⟨rfl, rfl⟩
        case round =>
          obtain ⟨rfl, H⟩ := hrel
          obtain rfl := H.out
          clear H
          go_wp2_with fail
          go_roundw
          case rel => exact ⟨k + 1, A + s.size, by go_num, by go_num, by omega, hAs, HB9.out⟩
          case measure => simp [intOf]; omega
      · have hbq : Blk (wc.drewN md) gq 68 cur := hgq
        have HT9 := Lib.hid (HTQ.out.more (only_drewN (only_refl wc none) md))
        have hwq := HNEW.out gq rfl
        obtain ⟨N9, hN9⟩ : ∃ N9, ps.length = N9 := ⟨_, rfl⟩
        rw [hN9] at hcq hpl ⊢
        generalize wc.drewN md = wd at *
        have HBQ := Lib.hid hbq; have HSQ := Lib.hid hsq
        clear HPC0 HPR HTQ hgq hbq HNEW hN9 hsq hmq
        go_wp2_with fail
        go_loopw [21] (fun v21 wr => ∃ j : Nat, v21 = .int .i64 j ∧ j ≤ N9 ∧ Hid (∃ cs : Array Value, cs.size = capq * 2 ∧ Blk wr gq 68 cs ∧ wd.grownBy wr (some gq))) (fun i _ => N9 - (intOf i).toNat)
        case atStart => exact ⟨0, rfl, Nat.zero_le _, cur, HSQ.out, HBQ.out, only_refl _ _⟩
        case round =>
          obtain ⟨j, rfl, hj, H⟩ := hrel
          obtain ⟨cs, hcs, hbk, hgw⟩ := H.out
          by_cases hjn : j < N9
          · have f1 := hbk.frozen (j * 2)
            have f2 := hbk.frozen (j * 2 + 1)
            have c1 : wr.cell? ⟨gq, j * 2, none⟩ = some cs[j * 2] := by rw [hbk.cell, Array.getElem?_eq_getElem (by omega)]
            have c2 : wr.cell? ⟨gq, j * 2 + 1, none⟩ = some cs[j * 2 + 1] := by rw [hbk.cell, Array.getElem?_eq_getElem (by omega)]
            generalize cs[j * 2] = y1 at *
            generalize cs[j * 2 + 1] = y2 at *
            have hset := (hbk.set_ (j * 2) (.string ⟨#[]⟩)).set_ (j * 2 + 1) (.int .i64 (-1))
            have hgr : wd.grownBy ((wr.setCell ⟨gq, j * 2, none⟩ (.string ⟨#[]⟩)).setCell ⟨gq, j * 2 + 1, none⟩ (.int .i64 (-1))) (some gq) := only_setCell (only_setCell hgw (.inl rfl) _) (.inl rfl) _
            have HNX := Lib.hid (show ∃ cs : Array Value, cs.size = capq * 2 ∧ Blk ((wr.setCell ⟨gq, j * 2, none⟩ (.string ⟨#[]⟩)).setCell ⟨gq, j * 2 + 1, none⟩ (.int .i64 (-1))) gq 68 cs ∧ wd.grownBy ((wr.setCell ⟨gq, j * 2, none⟩ (.string ⟨#[]⟩)).setCell ⟨gq, j * 2 + 1, none⟩ (.int .i64 (-1))) (some gq) from ⟨_, by simpa using hcs, hset, hgr⟩)
            clear hset hgr hbk hgw hcs H
            go_wp2_with fail
            go_roundw
            case rel => exact ⟨j + 1, by go_num, by omega, HNX.out⟩
            case measure => simp [intOf]; omega
          · obtain rfl : j = N9 := by omega
            have HB9 := Lib.hid (HBACK.out _ _ _ (HT9.out.piece HBQ.out hwq hgw))
            clear hbk hgw H
            go_wp2_with fail
            go_roundw
            case rel => exact ⟨k + 1, A + s.size, by go_num, by go_num, by omega, hAs, HB9.out⟩
            case measure => simp [intOf]; omega
    · have hB := HTW.out.below
      have HBB := Lib.hid hB
      clear hB HTW
      by_cases hl : k < len0
      · obtain rfl : k = 100 := by omega
        go_wp2_with fail
        go_ret
        exact ⟨rfl, HBB.out⟩
      · go_wp2_with fail
        go_ret
        exact ⟨rfl, HBB.out⟩
end Go.Proofs.YtmnggemifcjflaaDoor.splitRuns
