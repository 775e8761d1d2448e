/-
  The walk over SplitBegins.
-/
import Derived.Test.YtmnggemifcjflaaDoorCutsP
import Derived.Test.YtmnggemifcjflaaDoorAskW
import Derived.StillTailTactics
namespace Go.Proofs.YtmnggemifcjflaaDoor.splitBegins
open Go.RowKit PlainP RollP OnesP SplitP Tier
set_option linter.unusedVariables false

set_option maxRecDepth 100000 in
set_option maxHeartbeats 4000000 in
theorem walk (b f m : Int) (s0 s1 s2 : ByteArray) (w : World) (wb : (Lit.int .i64 b).wf = true) (wf : (Lit.int .i64 f).wf = true) (wm : (Lit.int .i64 m).wf = true) (hs0 : s0.size ≤ 140737488351232) (hs1 : s1.size ≤ 140737488351232) (hs2 : s2.size ≤ 140737488351232) (hT : Tab w) :
    Calls Tryd.prog 9 #[.agg #[.int .i64 b, .int .i64 f, .int .i64 m], .string s0, .string s1, .string s2] w fun e w' => e = .returned (.bool true) ∧ Below w.heap.size w w' := by
  clear wb wf wm
  have hB0 : Below w.heap.size w (w.alloc (.cells #[.int .i64 b, .int .i64 f, .int .i64 m] 33)) := (Below.refl _ _).alloc (Nat.le_refl _) _
  have hK0 := Blk.new w 33 #[.int .i64 b, .int .i64 f, .int .i64 m]
  have HB0 := Lib.hid hB0; have HK0 := Lib.hid hK0; clear hB0 hK0
  have HT := Lib.hid hT; clear hT
  go_enter Tryd.func9, Tryd.ntmps9
  go_wp2_with fail
  refine (awake_any _ (HT.out.below HB0.out HT.out.1)).mono ?_
  rintro e w1 ⟨rfl, hb⟩
  have hB1 := HB0.out.trans (hb.mono HB0.out.size)
  have hK1 := HK0.out.below hb HK0.out.lt
  have c0 : w1.cell? ⟨w.heap.size, 0, none⟩ = some (.int .i64 b) := by rw [hK1.cell]; rfl
  have c1 : w1.cell? ⟨w.heap.size, 1, none⟩ = some (.int .i64 f) := by rw [hK1.cell]; rfl
  have c2 : w1.cell? ⟨w.heap.size, 2, none⟩ = some (.int .i64 m) := by rw [hK1.cell]; rfl
  have HB1 := Lib.hid hB1
  clear hb hB1 hK1 HB0 HK0
  have hpl := planOf_any b f m w1
  have hq := ask_ok b f m
  generalize askB b f m = qb at *
  generalize askF b f m = qf at *
  generalize askM b f m = qm at *
  unfold planV at hpl
  have HPL := Lib.hid hpl; clear hpl
  go_wp2_with fail
  refine HPL.out.mono ?_
  rintro e w2 ⟨rfl, hb⟩
  have hB2 := HB1.out.trans (hb.mono HB1.out.size)
  have HB2 := Lib.hid hB2
  have hB3 := hB2.alloc hB2.size (.cells #[.int .i64 qb, .int .i64 qf, .int .i64 qm] 41)
  have hK3 := Blk.new w2 41 #[.int .i64 qb, .int .i64 qf, .int .i64 qm]
  obtain ⟨Q, hQ⟩ : ∃ Q, w2.heap.size = Q := ⟨_, rfl⟩
  have hQw : w.heap.size ≤ Q := by rw [← hQ]; exact hB2.size
  rw [hQ] at hK3
  have htx := fun W => text_any s0 20000 W (by omega) (by omega)
  have hta := fun W => text_any s1 5000 W (by omega) (by omega)
  have htb := fun W => text_any s2 5000 W (by omega) (by omega)
  have hF : (s0.extract 0 20000).size ≤ 20000 := by rw [ByteArray.size_extract]; omega
  have hA : (s1.extract 0 5000).size ≤ 5000 := by rw [ByteArray.size_extract]; omega
  have hC : (s2.extract 0 5000).size ≤ 5000 := by rw [ByteArray.size_extract]; omega
  generalize s0.extract 0 20000 = F at *
  generalize s1.extract 0 5000 = A at *
  generalize s2.extract 0 5000 = C at *
  have HTX := Lib.hid htx; have HTA := Lib.hid hta; have HTB := Lib.hid htb; have HB3 := Lib.hid hB3; have HK3 := Lib.hid hK3; have HQQ := Lib.hid hQ; have HQ := Lib.hid hq
  clear hb hB2 HB1 HB2 HPL c0 c1 c2 htx hta htb hB3 hK3 hQ hq
  go_wp2_with fail
  rw [HQQ.out]
  generalize (w2.alloc (.cells #[.int .i64 qb, .int .i64 qf, .int .i64 qm] 41)) = W3 at *
  clear HQQ
  refine (HTX.out _).mono ?_
  rintro e w4 ⟨rfl, rfl⟩
  have p0 : w4.cell? ⟨Q, 0, none⟩ = some (.int .i64 qb) := by rw [HK3.out.cell]; rfl
  have p1 : w4.cell? ⟨Q, 1, none⟩ = some (.int .i64 qf) := by rw [HK3.out.cell]; rfl
  have p2 : w4.cell? ⟨Q, 2, none⟩ = some (.int .i64 qm) := by rw [HK3.out.cell]; rfl
  have hcut1 := fun W (h : Tab W) => cut_gen qb qf qm (F ++ A) W (by rw [ByteArray.size_append]; omega) h
  have hcut2 := fun W (h : Tab W) => cut_gen qb qf qm (F ++ C) W (by rw [ByteArray.size_append]; omega) h
  rw [HQ.out] at hcut1 hcut2
  unfold planV at hcut1 hcut2
  have HC1 := Lib.hid hcut1; have HC2 := Lib.hid hcut2
  clear hcut1 hcut2 HTX
  go_upto_region 5 with (fail)
  go_cut [10, 11] from 22 to 30 (fun v10 v11 wx => v11 = .int .i64 0 ∧ Hid (Below w.heap.size w wx ∧ Blk wx Q 41 #[.int .i64 qb, .int .i64 qf, .int .i64 qm] ∧ PRow wx v10 (csOf qb qf qm (nats (F ++ A)))))
  case first =>
    go_region_with (first
      | (go_at_call 34; refine (HTA.out _).mono ?_; rintro e w' ⟨rfl, rfl⟩)
      | (go_at_call 21; refine (HC1.out _ (HT.out.below HB3.out.drew HT.out.1)).mono ?_; rintro e w' ⟨v, rfl, hb, hc⟩))
    all_goals (
      go_wp2_with fail
      go_meet
      case rel => exact ⟨rfl, HB3.out.drew.trans (hb.mono HB3.out.size), HK3.out.below (w := w4.drew) hb HK3.out.lt, prow_of hc⟩)
  case rest =>
  obtain ⟨rfl, H5⟩ := hcut
  obtain ⟨hB5, hK5, hP5⟩ := H5.out
  have p0 : wc.cell? ⟨Q, 0, none⟩ = some (.int .i64 qb) := by rw [hK5.cell]; rfl
  have p1 : wc.cell? ⟨Q, 1, none⟩ = some (.int .i64 qf) := by rw [hK5.cell]; rfl
  have p2 : wc.cell? ⟨Q, 2, none⟩ = some (.int .i64 qm) := by rw [hK5.cell]; rfl
  have HB5 := Lib.hid hB5; have HK5 := Lib.hid hK5; have HP5 := Lib.hid hP5
  clear hB5 hK5 hP5 H5 HB3 HK3
  go_upto_region 6 with (fail)
  go_cut [12, 13] from 31 to 39 (fun v10 v11 wx => v11 = .int .i64 0 ∧ Hid (Below w.heap.size w wx ∧ PRow wx u10 (csOf qb qf qm (nats (F ++ A))) ∧ PRow wx v10 (csOf qb qf qm (nats (F ++ C)))))
  case first =>
    go_region_with (first
      | (go_at_call 34; refine (HTB.out _).mono ?_; rintro e w' ⟨rfl, rfl⟩)
      | (go_at_call 21; refine (HC2.out _ (HT.out.below HB5.out.drew HT.out.1)).mono ?_; rintro e w' ⟨v, rfl, hb, hc⟩))
    all_goals (
      go_wp2_with fail
      go_meet
      case rel => exact ⟨rfl, HB5.out.drew.trans (hb.mono HB5.out.size), PRow.below (w := wc.drew) HP5.out hb, prow_of hc⟩)
  case rest =>
  obtain ⟨rfl, H6⟩ := hcut
  have h0E := HQ.out
  have HB6 := Lib.hid H6.out.1
  have hx := H6.out.2.1
  have hy := H6.out.2.2
  have hlx := csOf_len qb qf qm (nats (F ++ A))
  have hly := csOf_len qb qf qm (nats (F ++ C))
  rw [nats_length, ByteArray.size_append] at hlx hly
  have e1 : csOf qb qf qm (nats (F ++ A)) = cutAll ⟨qb.toNat, qf.toNat, qm.toNat⟩ (nats F ++ nats A) := by unfold csOf; rw [if_pos h0E, nats_append]
  have e2 : csOf qb qf qm (nats (F ++ C)) = cutAll ⟨qb.toNat, qf.toNat, qm.toNat⟩ (nats F ++ nats C) := by unfold csOf; rw [if_pos h0E, nats_append]
  have hnl := nats_length F
  have hnA := nats_length A
  have hnC := nats_length C
  rw [e1] at hx hlx
  rw [e2] at hy hly
  clear e1 e2 p0 p1 p2 HC1 HC2 HTA HTB HK5 HP5 HB5 H6 h0E HQ HT
  generalize (⟨qb.toNat, qf.toNat, qm.toNat⟩ : Plan) = p at *
  generalize nats F = lF at *
  generalize nats A = lA at *
  generalize nats C = lC at *
  obtain ⟨a1, cap1, nx, rfl, hnx, hcx, hix⟩ := prow_open hx
  obtain ⟨a2, cap2, ny, rfl, hny, hcy, hiy⟩ := prow_open hy
  rw [hnx] at hlx
  rw [hny] at hly
  have HIX := Lib.hid hix; have HIY := Lib.hid hiy; have HNX := Lib.hid hnx; have HNY := Lib.hid hny; have HNL := Lib.hid hnl; have HNA := Lib.hid hnA; have HNC := Lib.hid hnC
  clear hx hy hix hiy hnx hny hnl hnA hnC
  generalize hw6 : wc = w6 at *
  have hlA : (lF ++ lA).length ≤ 25000 := by rw [List.length_append, HNL.out, HNA.out]; omega
  have HLA := Lib.hid hlA; clear hlA
  go_wp2_with fail
  go_loopw [14, 15] (fun v14 v15 wr => ∃ n i : Nat, v14 = .int .i64 n ∧ v15 = .int .i64 i ∧ n ≤ F.size ∧ i ≤ nx ∧ Hid (AtCut p (lF ++ lA) i n ∧ AtCut p (lF ++ lC) i n ∧ ∃ m, wr = w6.drewN m)) (fun _ i _ => nx - (intOf i).toNat)
  case atStart => exact ⟨0, 0, rfl, rfl, Nat.zero_le _, Nat.zero_le _, at_start _ _, at_start _ _, 0, rfl⟩
  case round =>
    obtain ⟨n, i, rfl, rfl, hn, hi, H⟩ := hrel
    obtain ⟨hA1, hA2, md, rfl⟩ := H.out
    have HA1 := Lib.hid hA1; have HA2 := Lib.hid hA2
    clear hA1 hA2 H
    by_cases h1 : i < nx
    · by_cases h2 : i < ny
      · obtain ⟨c, hc⟩ : ∃ c, (cutAll p (lF ++ lA))[i]? = some c := ⟨_, List.getElem?_eq_getElem (by rw [HNX.out]; exact h1)⟩
        obtain ⟨d, hd⟩ : ∃ d, (cutAll p (lF ++ lC))[i]? = some d := ⟨_, List.getElem?_eq_getElem (by rw [HNY.out]; exact h2)⟩
        obtain ⟨s1, s2, s3, -⟩ := at_step HA1.out hc
        obtain ⟨t1, t2, t3, -⟩ := at_step HA2.out hd
        have hfr := at_front HA1.out HA2.out hc hd (by rw [HNL.out]; exact hn)
        rw [HNL.out, HNX.out] at hfr
        obtain ⟨g1, rfl, -, p1, p2⟩ := HIX.out i c hc
        obtain ⟨g2, rfl, -, q1, q2⟩ := HIY.out i d hd
        obtain ⟨x, y⟩ := c
        obtain ⟨x', y'⟩ := d
        dsimp only at p1 p2 q1 q2 s1 s2 s3 t1 t2 t3 hfr
        have hxs : n + x ≤ 25000 := Nat.le_trans s3 HLA.out
        have hxs' : n + x' ≤ 25000 := by rw [List.length_append, HNL.out, HNC.out] at t3; omega
        have HS1 := Lib.hid s1; have HT1 := Lib.hid t1; have HFR := Lib.hid hfr
        clear s1 s3 t1 t3 hc hd hfr
        by_cases h3 : F.size < n + x
        · go_wp2_with fail
          go_ret
          exact ⟨rfl, below_drewN HB6.out md⟩
        · by_cases h4 : F.size < n + x'
          · go_wp2_with fail
            go_ret
            exact ⟨rfl, below_drewN HB6.out md⟩
          · by_cases h5 : i + 1 = nx
            · have hd5 : ((i : Int) == (nx : Int) - 1) = true := by simp; omega
              go_wp2_with fail
              go_ret
              exact ⟨rfl, below_drewN HB6.out md⟩
            · have hd5 : ((i : Int) == (nx : Int) - 1) = false := by simp; omega
              by_cases h6 : i + 1 = ny
              · have hd6 : ((i : Int) == (ny : Int) - 1) = true := by simp; omega
                go_wp2_with fail
                go_ret
                exact ⟨rfl, below_drewN HB6.out md⟩
              · have hd6 : ((i : Int) == (ny : Int) - 1) = false := by simp; omega
                have heq := HFR.out (by omega) h5
                simp only [Prod.mk.injEq] at heq
                obtain ⟨rfl, rfl⟩ := heq
                have hd7 : ((x : Int) != (x : Int)) = false := by simp
                have hd8 : ((y : Int) != (y : Int)) = false := by simp
                clear h5 h6
                go_wp2_with fail
                go_quiet (fail)
                go_wp2_with fail
                go_roundw
                case rel => exact ⟨n + x, i + 1, by go_num, by go_num, by omega, by omega, HS1.out, HT1.out, _, rfl⟩
                case measure => simp [intOf]; omega
      · go_wp2_with fail
        go_ret
        exact ⟨rfl, below_drewN HB6.out md⟩
    · go_wp2_with fail
      go_ret
      exact ⟨rfl, below_drewN HB6.out md⟩
end Go.Proofs.YtmnggemifcjflaaDoor.splitBegins
