/-
  The walk over SplitAll.
-/
import Derived.Test.YtmnggemifcjflaaDoorGotW
import Derived.Test.YtmnggemifcjflaaDoorAskW
import Derived.BigQuiet
namespace Go.Proofs.YtmnggemifcjflaaDoor.splitAll
open Go.RowKit PlainP RollP OnesP SplitP Go.BigFrame
set_option linter.unusedVariables false

set_option maxRecDepth 100000 in
set_option maxHeartbeats 4000000 in
theorem walk (b f m : Int) (s0 : ByteArray) (a2 : Option Addr) (len2 cap2 : Nat) (z2 : List Int) (w : World) (wb : (Lit.int .i64 b).wf = true) (wf : (Lit.int .i64 f).wf = true) (wm : (Lit.int .i64 m).wf = true) (hs0 : s0.size ≤ 140737488351232) (h2 : IsRow .u16 w a2 len2 cap2 z2) (hT : Tab w) :
    Calls Tryd.prog 11 #[.agg #[.int .i64 b, .int .i64 f, .int .i64 m], .string s0, .slice a2 len2 cap2] w fun e w' => e = .returned (.bool true) ∧ Below w.heap.size w w' := by
  clear wb wf wm
  obtain ⟨i0, hi0, hz0, hs00, hy0⟩ := info_parts piece_info
  have hl2 : len2 ≤ 9223372036854775807 := by
    rcases h2 with ⟨-, rfl, -⟩ | ⟨x, -, q1, q2, -⟩
    · omega
    · unfold maxLen at q2; omega
  have hB0 : Below w.heap.size w (w.alloc (.cells #[.int .i64 b, .int .i64 f, .int .i64 m] 33)) := (Below.refl _ _).alloc (Nat.le_refl _) _
  have hK0 := Blk.new w 33 #[.int .i64 b, .int .i64 f, .int .i64 m]
  have HB0 := Lib.hid hB0; have HK0 := Lib.hid hK0; clear hB0 hK0
  have HT := Lib.hid hT; have H2 := Lib.hid h2; clear hT h2
  go_enter Tryd.func11, Tryd.ntmps11
  go_wp2_with fail
  refine (awake_any _ (HT.out.below HB0.out HT.out.1)).mono ?_
  rintro e w1 ⟨rfl, hb⟩
  have hB1 := HB0.out.trans (hb.mono HB0.out.size)
  have hK1 := HK0.out.below hb HK0.out.lt
  have c0 : w1.cell? ⟨w.heap.size, 0, none⟩ = some (.int .i64 b) := by rw [hK1.cell]; rfl
  have c1 : w1.cell? ⟨w.heap.size, 1, none⟩ = some (.int .i64 f) := by rw [hK1.cell]; rfl
  have c2 : w1.cell? ⟨w.heap.size, 2, none⟩ = some (.int .i64 m) := by rw [hK1.cell]; rfl
  have HB1 := Lib.hid hB1
  clear hb hB1 hK1 HB0 HK0
  have hpl := planOf_any b f m w1
  have hq := ask_ok b f m
  generalize askB b f m = qb at *
  generalize askF b f m = qf at *
  generalize askM b f m = qm at *
  obtain ⟨pb, pf, pm, rfl, rfl, rfl⟩ := plan_nat hq
  unfold planV at hpl
  have HPL := Lib.hid hpl; clear hpl
  go_wp2_with fail
  refine HPL.out.mono ?_
  rintro e w2 ⟨rfl, hb⟩
  have hB2 := HB1.out.trans (hb.mono HB1.out.size)
  have hB3 := hB2.alloc hB2.size (.cells #[.int .i64 pb, .int .i64 pf, .int .i64 pm] 41)
  have hK3 := Blk.new w2 41 #[.int .i64 pb, .int .i64 pf, .int .i64 pm]
  obtain ⟨Q, hQ⟩ : ∃ Q, w2.heap.size = Q := ⟨_, rfl⟩
  rw [hQ] at hK3
  have hta := fun W => text_any s0 100000 W (by omega) (by omega)
  have hA : (s0.extract 0 100000).size ≤ 100000 := by rw [ByteArray.size_extract]; omega
  generalize s0.extract 0 100000 = S at *
  have HTA := Lib.hid hta; have HB3 := Lib.hid hB3; have HK3 := Lib.hid hK3; have HQQ := Lib.hid hQ; have HQ := Lib.hid hq
  clear hb hB2 HB1 HPL c0 c1 c2 hta hB3 hK3 hQ hq
  go_wp2_with fail
  rw [HQQ.out]
  generalize (w2.alloc (.cells #[.int .i64 pb, .int .i64 pf, .int .i64 pm] 41)) = W3 at *
  clear HQQ
  refine (HTA.out _).mono ?_
  rintro e w4 ⟨rfl, rfl⟩
  clear HTA
  have p0 : w4.cell? ⟨Q, 0, none⟩ = some (.int .i64 pb) := by rw [HK3.out.cell]; rfl
  have p1 : w4.cell? ⟨Q, 1, none⟩ = some (.int .i64 pf) := by rw [HK3.out.cell]; rfl
  have p2 : w4.cell? ⟨Q, 2, none⟩ = some (.int .i64 pm) := by rw [HK3.out.cell]; rfl
  have hcut := fun W (h : Tab W) => cut_gen pb pf pm S W (by omega) h
  have hnew := fun W (h : Tab W) => snew_any pb pf pm W HQ.out h
  have h0E := HQ.out
  have hcs : ∀ l, csOf pb pf pm l = cutAll ⟨pb, pf, pm⟩ l := fun l => by unfold csOf; rw [if_pos h0E]; rfl
  have hp := (plan_of pb pf pm h0E).1
  simp only [h0E, hcs, Int.toNat_natCast] at hcut hnew hp
  unfold planV at hcut hnew
  have hnS := nats_length S
  have hby := nats_bytes S
  clear hcs h0E HQ
  obtain ⟨p, hpp⟩ : ∃ p : Plan, (⟨pb, pf, pm⟩ : Plan) = p := ⟨_, rfl⟩
  have e1 : p.bits = pb := by rw [← hpp]
  have e2 : p.fan = pf := by rw [← hpp]
  have e3 : p.most = pm := by rw [← hpp]
  rw [hpp] at hcut hnew hp
  clear hpp
  have HC := Lib.hid hcut; have HNW := Lib.hid hnew; have HNS := Lib.hid hnS; have HBY := Lib.hid hby; have HP := Lib.hid hp
  clear hcut hnew hnS hby hp
  go_wp2_with fail
  refine (HC.out _ (HT.out.below HB3.out HT.out.1)).mono ?_
  rintro e w5 ⟨v8, rfl, hb, hc⟩
  have hB5 := HB3.out.trans (hb.mono HB3.out.size)
  have hK5 := HK3.out.below hb HK3.out.lt
  have hP5 := prow_of hc
  have p0 : w5.cell? ⟨Q, 0, none⟩ = some (.int .i64 pb) := by rw [hK5.cell]; rfl
  have p1 : w5.cell? ⟨Q, 1, none⟩ = some (.int .i64 pf) := by rw [hK5.cell]; rfl
  have p2 : w5.cell? ⟨Q, 2, none⟩ = some (.int .i64 pm) := by rw [hK5.cell]; rfl
  have HB5 := Lib.hid hB5; have HK5 := Lib.hid hK5; have HP5 := Lib.hid hP5
  clear hb hc hB5 hK5 hP5 HB3 HK3
  go_wp2_with fail
  refine (HNW.out _ (HT.out.below HB5.out HT.out.1)).mono ?_
  rintro e w6 ⟨gx, rfl, hb, hA6⟩
  have HB6 := Lib.hid hb; have HA6 := Lib.hid hA6
  have hz5 := HB5.out.size
  clear hb hA6 HNW HC p0 p1 p2
  go_wp2_with fail
  go_loopw [12, 13, 14, 15, 16, 17] (fun v12 v13 v14 _ _ _ wr => ∃ at_ i : Nat, v13 = .int .i64 at_ ∧ v14 = .int .i64 i ∧ at_ ≤ S.size ∧ i ≤ 302 ∧ (i ≤ 301 ∨ at_ = S.size) ∧ Hid (∃ O, Below w5.heap.size w5 wr ∧ SplAt O wr gx p (pieceF p [] ((nats S).take at_)).2 at_ false ∧ (∀ b, O b → w5.heap.size ≤ b) ∧ Got w5.heap.size O wr v12 (pieceF p [] ((nats S).take at_)).1)) (fun _ _ i _ _ _ _ => 302 - (intOf i).toNat)
  case atStart => exact ⟨0, 0, rfl, rfl, Nat.zero_le _, by omega, .inl (by omega), _, HB6.out, HA6.out, fun b hb => hb.1, got_nil _ _ _⟩
  case round =>
    obtain ⟨at_, i, rfl, rfl, hat, hi, hor, H⟩ := hrel
    obtain ⟨O, hB7, hA7, hO7, hG7⟩ := H.out
    have HB7 := Lib.hid hB7; have HA7 := Lib.hid hA7; have HO7 := Lib.hid hO7; have HG7 := Lib.hid hG7
    clear hB7 hA7 hO7 hG7 H
    by_cases hlt : at_ < S.size
    · have hi1 : i ≤ 301 := by omega
      clear hor
      go_upto_if 59 with (fail)
      go_cut [15] from 56 to 66 (fun v15 wx => ∃ m : Nat, v15 = .int .i64 m ∧ at_ + m ≤ S.size ∧ wr = wx)
      case first =>
        by_cases hk : i < len2
        · obtain ⟨cb, co, c, rfl, hlc, hcell, hcw⟩ := H2.out.at_ (HB5.out.trans (HB7.out.mono hz5)) hk
          have hcb : 0 ≤ c ∧ c ≤ 65535 := by simpa [Lit.wf, IntKind.min, IntKind.max, IntKind.signed, IntKind.bits] using hcw
          by_cases hmin : (S.size : Int) - at_ ≤ c
          · go_wp2_with fail
            go_meet
            case rel => exact ⟨S.size - at_, by rw [Int.natCast_sub (by omega)], by omega, rfl⟩
          · go_wp2_with fail
            go_meet
            case rel => exact ⟨c.toNat, by rw [Int.toNat_of_nonneg (by omega)], by omega, rfl⟩
        · go_wp2_with fail
          go_meet
          case rel => exact ⟨S.size - at_, by rw [Int.natCast_sub (by omega)], by omega, rfl⟩
      case rest =>
      obtain ⟨m0, rfl, hm0, rfl⟩ := hcut
      go_upto_if 68 with (fail)
      go_cut [15] from 67 to 72 (fun v15 wx => ∃ m : Nat, v15 = .int .i64 m ∧ at_ + m ≤ S.size ∧ (i ≤ 300 ∨ at_ + m = S.size) ∧ wr = wx)
      case first =>
        by_cases hk : 300 < i
        · go_wp2_with fail
          go_meet
          case rel => exact ⟨S.size - at_, by rw [Int.natCast_sub (by omega)], by omega, .inr (by omega), rfl⟩
        · go_wp2_with fail
          go_meet
          case rel => exact ⟨m0, rfl, hm0, .inl (by omega), rfl⟩
      case rest =>
      obtain ⟨m, rfl, hm, hm2, rfl⟩ := hcut
      clear hm0
      have hex : nats (S.extract at_ (at_ + m)) = ((nats S).drop at_).take m := by rw [nats_extract]; congr 1; omega
      have hes : (S.extract at_ (at_ + m)).size = m := by rw [ByteArray.size_extract]; omega
      have happ := pieceF_append p ((nats S).take at_) [] (((nats S).drop at_).take m)
      rw [← List.take_add] at happ
      have hsg := pieceF_seg p (by have := HP.out.m64; omega) ((nats S).take at_) [] (by have := HP.out.m64; simp; omega)
      have hbt := (pieceF_bytes p ((nats S).take at_) [] (HBY.out.take at_) Bytes.nil).2
      have hl1 := pieceF_len p ((nats S).take at_) []
      have hl2' := pieceF_len p (((nats S).drop at_).take m) (pieceF p [] ((nats S).take at_)).2
      rw [List.length_take] at hl1 hl2'
      have hwr := swrite_any _ wr gx p _ at_ (S.extract at_ (at_ + m)) HP.out HA7.out (HT.out.below (HB5.out.trans (HB7.out.mono hz5)) HT.out.1) hsg hbt (by rw [hes]; omega)
      rw [hex, hes] at hwr
      generalize (pieceF p [] ((nats S).take at_)).1 = ps at *
      generalize (pieceF p [] ((nats S).take at_)).2 = sg at *
      generalize hq1 : (pieceF p sg (((nats S).drop at_).take m)).1 = qs at *
      generalize (pieceF p sg (((nats S).drop at_).take m)).2 = sg2 at *
      have HWR := Lib.hid hwr; have HAPP := Lib.hid happ
      have hps : ps.length + qs.length ≤ 200000 := by omega
      clear hwr happ hex hes hsg hbt hl1 hl2' hq1
      go_wp2_with fail
      refine HWR.out.mono ?_
      rintro e w7 ⟨ov, rfl, hk, hA, hPr, -⟩
      have hB8 := below_kept HB7.out HB7.out.size hk HO7.out
      have hG8 := HG7.out.kept hk
      have hz8 := hB8.size
      have hO8 : ∀ b, OF O wr w7 b → w5.heap.size ≤ b := fun b hb => by
        rcases hb.1 with e | e
        · exact HO7.out b e
        · exact Nat.le_trans HB7.out.size e
      have HB8 := Lib.hid hB8; have HA8 := Lib.hid hA; have HG8 := Lib.hid hG8; have HO8 := Lib.hid hO8
      clear hk hA hB8 hG8 hO8 HWR HB7 HA7 HO7 HG7
      have hF : ∀ v3 w8, w8.ownsRow 0 68 2 v3 (ps.length + qs.length) (pcCells ps ++ pcCells qs) → w7.grownBy w8 (Value.ownBlock u12) → (v3.ownBlock = Value.ownBlock u12 ∨ v3.ownBlock = some w7.heap.size) →
          Below w5.heap.size w5 w8 ∧ SplAt (OF O wr w7) w8 gx p sg2 (at_ + m) false ∧ Got w5.heap.size (OF O wr w7) w8 v3 (ps ++ qs) := fun v3 w8 ho hg hat3 =>
        ⟨below_append HG8.out HB8.out hz8 hg, HA8.out.append HG8.out hg, HG8.out.appended (fun b hb => hb.2) hz8 ho hat3⟩
      have hnq : ∀ n1, qs.length = n1 → ∀ v3 w8, w8.ownsRow 0 68 2 v3 (ps.length + n1) (pcCells ps ++ pcCells qs) → w7.grownBy w8 (Value.ownBlock u12) → (v3.ownBlock = Value.ownBlock u12 ∨ v3.ownBlock = some w7.heap.size) →
          Below w5.heap.size w5 w8 ∧ SplAt (OF O wr w7) w8 gx p sg2 (at_ + m) false ∧ Got w5.heap.size (OF O wr w7) w8 v3 (ps ++ qs) := fun n1 e => by subst e; exact hF
      have HQ1 := Lib.hid hnq
      clear hF hnq
      rcases piece_open hPr with ⟨rfl, rfl⟩ | ⟨g1, cap1, n1, rfl, hn1, -, -, hcell, -⟩
      · clear hPr
        go_wp2_with (at_builtin; refine wpList_append_own_none rfl _ _ 58 rfl 0 68 i0 2 Tryd.underlying58 hi0 _ _ _ rfl HG8.out.row rfl ?_)
        go_roundw
        case rel => exact ⟨at_ + m, i + 1, by go_num, by go_num, hm, by omega, by omega, _, HB8.out, by rw [HAPP.out]; exact HA8.out, HO8.out, by rw [HAPP.out, List.append_nil]; exact HG8.out⟩
        case measure => simp [intOf]; omega
      · clear hPr
        have hlen := pcCells_len qs
        rw [hn1] at hlen hps
        have hF := HQ1.out n1 hn1
        have HF := Lib.hid hF
        clear hF HQ1
        have HCL := Lib.hid hcell; have HLN := Lib.hid hlen; have HN1 := Lib.hid hn1
        clear hcell hlen hn1
        go_wp2_with (at_builtin; refine wpList_append_own_at _ rfl _ _ 58 rfl 0 68 i0 (.agg #[.string .empty, .int .i64 0]) 2 24 Tryd.underlying58 hi0 hz0 hs00 hy0 rfl (by decide) _ ps.length _ rfl HG8.out.row ⟨g1, 0, none⟩ n1 cap1 (pcCells qs) rfl HLN.out HCL.out (pcCells_one qs) (by unfold maxLen; omega) (by omega) (Nat.zero_le _) ?_; intro v3 w8 hown3 hgrow3 _ hat3; obtain ⟨t1, t2, t3⟩ := HF.out v3 w8 hown3 hgrow3 hat3; have T1 := Lib.hid t1; have T2 := Lib.hid t2; have T3 := Lib.hid t3; obtain ⟨a3, cap3, rfl⟩ := own_slice hown3; clear hown3 hgrow3 hat3 t1 t2 t3)
        go_roundw
        case rel => exact ⟨at_ + m, i + 1, by go_num, by go_num, hm, by omega, by omega, _, T1.out, by rw [HAPP.out]; exact T2.out, HO8.out, by rw [HAPP.out]; exact T3.out⟩
        case measure => simp [intOf]; omega
    · obtain rfl : at_ = S.size := by omega
      rw [List.take_of_length_le (by rw [HNS.out]; exact Nat.le_refl _)] at HA7 HG7
      clear hor hi
      have hcl := sclose_any _ wr gx p _ _ HA7.out (pieceF_bytes p (nats S) [] HBY.out Bytes.nil).2 (HT.out.below (HB5.out.trans (HB7.out.mono hz5)) HT.out.1)
      have HCL := Lib.hid hcl
      clear hcl hlt hat
      go_wp2_with fail
      refine HCL.out.mono ?_
      rintro e w7 ⟨ov, rfl, hk, hA, hPr, -⟩
      have hB8 := below_kept HB7.out HB7.out.size hk HO7.out
      have hG8 := HG7.out.kept hk
      have hz8 := hB8.size
      have hcd := sclose_done hA
      have HCD := Lib.hid hcd; have HB8 := Lib.hid hB8; have HA8 := Lib.hid hA; have HG8 := Lib.hid hG8; have HPR := Lib.hid hPr
      clear hk hA hB8 hG8 hPr hcd HCL HB7 HA7 HO7 HG7
      go_wp2_with fail
      refine HCD.out.mono ?_
      rintro e w8 ⟨rfl, rfl⟩
      clear HCD
      have hpl1 := pieceF_len p (nats S) []
      rw [HNS.out] at hpl1
      have hla1 : (lastP (pieceF p [] (nats S)).2).length ≤ 1 := by unfold lastP; split <;> simp
      have hall : allP p (nats S) = (pieceF p [] (nats S)).1 ++ lastP (pieceF p [] (nats S)).2 := rfl
      have hok := allP_ok p (by have := HP.out.m64; omega) (nats S)
      have hcuts := allP_cut p (nats S)
      have hcl9 := cutAll_len p (nats S)
      rw [hcuts, List.length_map, HNS.out] at hcl9
      have hatp := fun i c h => allP_at (p := p) (l := nats S) (i := i) (c := c) h
      have hend := offP_end p (nats S)
      rw [HNS.out] at hend
      have hP8 := HP5.out.below HB8.out
      rw [hcuts] at hP8
      have hK8 := HK5.out.below HB8.out HK5.out.lt
      have hf : ∀ n1, (lastP (pieceF p [] (nats S)).2).length = n1 → ∀ v3 w8, w8.ownsRow 0 68 2 v3 ((pieceF p [] (nats S)).1.length + n1) (pcCells (pieceF p [] (nats S)).1 ++ pcCells (lastP (pieceF p [] (nats S)).2)) → w7.grownBy w8 (Value.ownBlock u12) → (v3.ownBlock = Value.ownBlock u12 ∨ v3.ownBlock = some w7.heap.size) →
          Below w5.heap.size w5 w8 ∧ PieceRow w8 v3 (allP p (nats S)) := fun n1 e v3 w8 ho hg hat3 => by
        subst e
        refine ⟨below_append HG8.out HB8.out hz8 hg, ?_⟩
        rw [hall]
        exact (HG8.out.appended (fun b hb => hb.2) hz8 ho hat3).row
      have h00 : lastP (pieceF p [] (nats S)).2 = [] → PieceRow w7 u12 (allP p (nats S)) := fun e => by rw [hall, e, List.append_nil]; exact HG8.out.row
      generalize allP p (nats S) = ap at *
      have HFF := Lib.hid hf; have H00 := Lib.hid h00; have HOK := Lib.hid hok; have HATP := Lib.hid hatp; have HEND := Lib.hid hend
      clear hf h00 hall hok hatp hend hP8 hK8
      generalize (pieceF p [] (nats S)).1 = ps at *
      generalize lastP (pieceF p [] (nats S)).2 = qs at *
      clear HA8
      go_upto_region 26 with (fail)
      go_cut [12] from 102 to 104 (fun v12 wx => Hid (Below w5.heap.size w5 wx ∧ PieceRow wx v12 ap))
      case first =>
        rcases piece_open HPR.out with ⟨rfl, rfl⟩ | ⟨g1, cap1, n1, rfl, hn1, -, -, hcell, -⟩
        · go_wp2_with (at_builtin; refine wpList_append_own_none rfl _ _ 58 rfl 0 68 i0 2 Tryd.underlying58 hi0 _ _ _ rfl HG8.out.row rfl ?_)
          go_meet
          case rel => exact ⟨HB8.out, by first | exact H00.out rfl | exact H00.out trivial⟩
        · have hlen := pcCells_len qs
          rw [hn1] at hlen hla1
          have hF := HFF.out n1 hn1
          have HF := Lib.hid hF
          have HCL := Lib.hid hcell; have HLN := Lib.hid hlen; have HN1 := Lib.hid hn1
          clear hF HFF hcell hlen hn1 H00 HPR
          go_wp2_with (at_builtin; refine wpList_append_own_at _ rfl _ _ 58 rfl 0 68 i0 (.agg #[.string .empty, .int .i64 0]) 2 24 Tryd.underlying58 hi0 hz0 hs00 hy0 rfl (by decide) _ ps.length _ rfl HG8.out.row ⟨g1, 0, none⟩ n1 cap1 (pcCells qs) rfl HLN.out HCL.out (pcCells_one qs) (by unfold maxLen; omega) (by omega) (Nat.zero_le _) ?_; intro v3 w8 hown3 hgrow3 _ hat3; obtain ⟨t1, t2⟩ := HF.out v3 w8 hown3 hgrow3 hat3; have T1 := Lib.hid t1; have T2 := Lib.hid t2; obtain ⟨a3, cap3, rfl⟩ := own_slice hown3; clear hown3 hgrow3 hat3 t1 t2)
          go_meet
          case rel => exact ⟨T1.out, T2.out⟩
      case rest =>
      have hB9 := hcut.out.1
      obtain ⟨a12, cap12, N, rfl, hn, hcap12, hi12⟩ := piece_open2 hcut.out.2
      have hP9 := HP5.out.below hB9
      have hK9 := HK5.out.below hB9 HK5.out.lt
      rw [hcuts] at hP9
      obtain ⟨a8, cap8, n8, rfl, hn8, hcap8, hi8⟩ := prow_open hP9
      rw [List.length_map, hn] at hn8
      rw [hn] at hcl9
      subst hn8
      have q0 : wc.cell? ⟨Q, 0, none⟩ = some (.int .i64 pb) := by rw [hK9.cell]; rfl
      have q1 : wc.cell? ⟨Q, 1, none⟩ = some (.int .i64 pf) := by rw [hK9.cell]; rfl
      have q2 : wc.cell? ⟨Q, 2, none⟩ = some (.int .i64 pm) := by rw [hK9.cell]; rfl
      have HI12 := Lib.hid hi12; have HI8 := Lib.hid hi8; have HB9 := Lib.hid hB9; have HN := Lib.hid hn
      clear hi12 hi8 hB9 hn hP9 hK9 hcut HG8 HB8 HPR HFF H00 hpl1 hla1 hz8 HP5 HK5 hcuts
      generalize hw9 : wc = w9 at *
      go_wp2_with fail
      go_loopw [13, 22] (fun v13 v22 wr => ∃ i : Nat, v22 = .int .i64 i ∧ v13 = .int .i64 (offP ap i) ∧ i ≤ N ∧ Hid (∃ md, wr = w9.drewN md)) (fun _ i _ => N - (intOf i).toNat)
      case atStart => exact ⟨0, rfl, rfl, Nat.zero_le _, 0, rfl⟩
      case round =>
        obtain ⟨i, rfl, rfl, hi, H⟩ := hrel
        obtain ⟨md, rfl⟩ := H.out
        clear H
        by_cases hlt : i < N
        · obtain ⟨c, hc⟩ : ∃ c, ap[i]? = some c := ⟨_, List.getElem?_eq_getElem (by rw [HN.out]; exact hlt)⟩
          obtain ⟨o1, o2, o3⟩ := HOK.out c (List.mem_of_getElem? hc)
          obtain ⟨h1, h2⟩ := HATP.out i c hc
          have hst := offP_step hc
          obtain ⟨g12, rfl, -, t1, t2⟩ := HI12.out i c hc
          obtain ⟨g8, rfl, -, t3, t4⟩ := HI8.out i (c.1.length, c.2) (by rw [List.getElem?_map, hc]; rfl)
          rw [HNS.out] at h2
          have hE : S.extract (offP ap i) (offP ap i + c.1.length) = mkS c.1 := by
            apply nats_inj
            rw [nats_extract, ← h1, nats_mkS ((HBY.out.drop _).take _)]
            rw [h1, Nat.add_sub_cancel_left, h1]
          obtain ⟨bs, lev⟩ := c
          dsimp only at t1 t2 t3 t4 o1 o2 o3 h2 hst hE
          obtain ⟨k, hk⟩ : ∃ k, bs.length = k := ⟨_, rfl⟩
          rw [hk] at t3 o1 o2 h2 hst hE
          have HST := Lib.hid hst; have HE := Lib.hid hE
          clear hc h1 hk hst hE
          generalize mkS bs = D at *
          obtain ⟨n, hn⟩ : ∃ n, offP ap i = n := ⟨_, rfl⟩
          rw [hn] at h2 ⊢
          have HST2 := Lib.hid (by have := HST.out; rwa [hn] at this : offP ap (i + 1) = n + k)
          have hE : S.extract n (n + k) = D := by have := HE.out; rwa [hn] at this
          clear HST HE hn
          rw [e1, e2] at o3
          rw [e3] at o2
          have hpf : 1 ≤ pf := by rw [← e2]; exact HP.out.f1
          have hpb : pb ≤ 16 := by rw [← e1]; exact HP.out.b16
          have hpm : pm ≤ 65536 := by rw [← e3]; exact HP.out.m65536
          have z1 : decide ((k : Int) < 1) = false := decide_eq_false (by omega)
          have z2 : decide ((pm : Int) < (k : Int)) = false := decide_eq_false (by omega)
          have z2' : decide (pm < k) = false := decide_eq_false (by omega)
          have z3 : decide ((lev : Int) < 0) = false := decide_eq_false (by omega)
          obtain ⟨d, hd⟩ : ∃ d, (32 - pb) / pf = d := ⟨_, rfl⟩
          rw [hd] at o3
          have hd32 : d ≤ 32 := by rw [← hd]; exact Nat.le_trans (Nat.div_le_self _ _) (by omega)
          have hdq : ((32 : Int) - (pb : Int)).tdiv (pf : Int) = (d : Int) := by rw [← hd, show (32 : Int) - (pb : Int) = ((32 - pb : Nat) : Int) by omega, Int.ofNat_tdiv]
          have hdq2 : ((32 : Int) - (pb : Int)) / (pf : Int) = (d : Int) := by rw [← hd, show (32 : Int) - (pb : Int) = ((32 - pb : Nat) : Int) by omega, Int.natCast_ediv]
          have hpf0 : ¬ (pf = 0) := by omega
          have z4 : decide ((d : Int) < (lev : Int)) = false := decide_eq_false (by omega)
          have z4' : decide (d < lev) = false := decide_eq_false (by omega)
          have z5 : decide ((S.size : Int) < (n : Int) + (k : Int)) = false := decide_eq_false (by omega)
          have z5' : decide (S.size < n + k) = false := decide_eq_false (by omega)
          clear hd
          go_wp2_with fail
          refine wp_region_quiet_lit (by kernel_rfl) (by kernel_rfl) ?_
          dsimp only [List.append]
          repeat (go_big_quiet_step (fail))
          refine wpQuiet_nil ?_
          rintro wd ⟨nq, rfl⟩
          go_wp2_with fail
          go_roundw
          case rel => exact ⟨i + 1, by go_num, by rw [HST2.out]; go_num, by omega, _, rfl⟩
          case measure => simp [intOf]; omega
        · obtain rfl : i = N := by omega
          have he : offP ap i = S.size := by have := HEND.out; rwa [HN.out] at this
          rw [he]
          go_wp2_with fail
          go_ret
          exact ⟨rfl, HB5.out.trans ((below_drewN HB9.out md).mono hz5)⟩
end Go.Proofs.YtmnggemifcjflaaDoor.splitAll
