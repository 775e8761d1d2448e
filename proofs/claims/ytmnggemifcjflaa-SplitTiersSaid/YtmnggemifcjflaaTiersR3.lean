/-
  Tiers of the reference: the walk.
-/
import Derived.Test.YtmnggemifcjflaaTiersR2
import Derived.Laws.AppendOwnNone
import Derived.Deep.CutRange
import Derived.Deep.CutBlock
namespace Go.Proofs.Ytmnggemifcjflaa.Tier
open Go.RowKit PlainP TiersP
set_option linter.unusedVariables false

def ROut (lv : List Nat) (most len0 : Nat) (w W : World) (v7 v8 v10 : Value) (tt L : Nat) : Prop :=
  ∃ (now : List (Nat × Nat)) (lvls : List Nat) (K : List (Value × List Nat)), now.length = L ∧ RM w W v10 K ((v7, lvls) :: (v8, now.map (·.1)) :: K) ∧ tiersA most 1 len0 (enumF lv) = K.map (·.2) ++ tiersA most tt (len0 + K.length) now ∧ (∀ x ∈ now, x.2 ≤ 32) ∧
    lvls.length = len0 + K.length ∧ Lev lvls now ∧ now.length + K.length ≤ len0
structure RIn (w W : World) (v7 v8 v10 v12 v13 : Value) (most tt base : Nat) (now : List (Nat × Nat)) (kss : List (List Nat)) (q f : Nat) (nx : List (Nat × Nat)) (os : List (List Nat)) (lvls : List Nat) (K : List (Value × List Nat)) : Prop where
  rm : RM w W v10 K ((v7, lvls) :: (v8, now.map (·.1)) :: (v12, nx.map (·.1)) :: (v13, ((now.take q).drop f).map (·.1)) :: K)
  k : K.map (·.2) = kss ++ os
  eq : EqF tt most base now f q nx os
  ll : lvls.length = base + os.length
  lev : Lev lvls now
  lnx : Lev lvls nx
  sum : nx.length + os.length ≤ f
theorem below_drew1 {B : Nat} {a w : World} (h : Below B a w) : Below B a w.drew := ⟨h.os, h.tape, h.output, h.size, h.block⟩
theorem first_row {w : World} {c : Nat} {W : World} {v7 : Value} {lv : List Nat} (hB : Below w.heap.size w W) (hI : IRow w.heap.size W (v7, lv)) : RM w W (.slice none 0 0) [] [(.slice none 0 0, []), (v7, lv)] :=
  ⟨hB, Fam.addNil ⟨fun x hx => by rw [List.mem_singleton.1 hx]; exact hI, List.pairwise_singleton _ _⟩, World.ownsRow_nil _ _ _ _⟩

set_option maxRecDepth 100000 in
set_option maxHeartbeats 4000000 in
theorem rtiers_any (ad : Addr) (len0 cap0 : Nat) (lv : List Nat) (most : Nat) (w : World) (hl : Levels w (some ad) len0 cap0 lv) (h1 : len0 ≤ 1048576) (h2 : 2 ≤ most) (h3 : most ≤ 1024) :
    Calls Try.prog 15 #[.slice (some ad) len0 cap0, .int .i64 most] w fun e w' => ∃ v K, e = .returned (.tuple #[v, .int .i64 0]) ∧ Below w.heap.size w w' ∧ Fam w.heap.size w' K ∧ KRow w.heap.size w' v K ∧ K.map (·.2) = tiersA most 1 len0 (enumF lv) := by
  have HLV := Lib.hid hl
  obtain ⟨hlen, hlc, hcm, h32, hat⟩ := hl
  unfold maxLen at hcm
  obtain ⟨i1, hi1, hz1, hs1, hy1⟩ := info_parts int_info
  obtain ⟨i2, hi2, hz2, hs2, hy2⟩ := info_parts kinfo
  have hq1 : decide ((1048576 : Int) < (len0 : Int)) = false := decide_eq_false (by omega)
  have hq2 : decide ((most : Int) < 2) = false := decide_eq_false (by omega)
  have hq3 : decide ((1024 : Int) < (most : Int)) = false := decide_eq_false (by omega)
  have HLEN := Lib.hid hlen; have H32 := Lib.hid h32; have HAT := Lib.hid hat
  clear hlen h32 hat
  go_enter Try.func15, Try.ntmps15
  go_wp2_with fail
  go_loopw [6] (fun i wr => ∃ k : Nat, i = .int .i64 k ∧ k ≤ len0 ∧ Hid (Below w.heap.size w wr)) (fun i _ => len0 - (intOf i).toNat)
  case atStart => exact ⟨0, rfl, Nat.zero_le _, Below.refl _ _⟩
  case round =>
    obtain ⟨k, rfl, hk, H⟩ := hrel
    by_cases hlt : k < len0
    · obtain ⟨x, hx⟩ : ∃ x, lv[k]? = some x := ⟨_, List.getElem?_eq_getElem (by rw [HLEN.out]; exact hlt)⟩
      obtain ⟨b, off, e, hb, hc⟩ := HAT.out k x hx
      injection e with e
      subst e
      have hc := (H.out.cell (p := ⟨b, off + k, none⟩) hb).trans hc
      have hx32 := H32.out x (List.mem_of_getElem? hx)
      have hd1 : decide ((x : Int) < 0) = false := decide_eq_false (by omega)
      have hd2 : decide ((32 : Int) < (x : Int)) = false := decide_eq_false (by omega)
      clear hx
      go_wp2_with fail
      go_roundw
      case rel => exact ⟨k + 1, by go_num, by omega, by first | exact H.out | exact below_drew1 H.out⟩
      case measure => simp [intOf]; omega
    · obtain rfl : len0 = k := by omega
      go_upto_region 8 with (fail)
      go_cut [7] from 44 to 46 (fun v7 wx => ∃ a7 cap7, v7 = .slice a7 len0 cap7 ∧ Hid (Below w.heap.size w wx ∧ IRow w.heap.size wx (v7, lv)))
      case first =>
        have hbw := H.out.size
        have HOW := Lib.hid (World.ownsRow_made (base := w.heap.size) (e := 3) (size := 1) wr #[] 0 hbw (Nat.zero_le _) rfl)
        have HNW := Lib.hid (HLV.out.cellAt (H.out.alloc hbw (.cells #[] 3)))
        have hil : (ints lv).length = len0 := by rw [List.length_map, HLEN.out]
        go_wp2_with (at_builtin; refine wpList_append_own_at _ rfl _ _ 40 rfl w.heap.size 3 i1 (.int .i64 0) 1 8 Try.underlying40 hi1 hz1 hs1 hy1 rfl (by decide) (.slice (some ⟨wr.heap.size, 0, none⟩) 0 0) 0 _ rfl HOW.out ad len0 cap0 (ints lv) rfl (by rw [hil, Nat.mul_one]) HNW.out (ints_one lv) (by unfold maxLen; omega) (by omega) (by simp; omega) ?_; intro v3 w3 hown3 hgrow3 _ hat3; have HD := Lib.hid hown3; have HG := Lib.hid hgrow3; clear hown3 hgrow3 hat3)
        go_meet
        case rel =>
          have hd := HD.out
          rw [Nat.zero_add, List.nil_append] at hd
          obtain ⟨a7, cap7, rfl⟩ := own_val hd rfl
          exact ⟨a7, cap7, rfl, (H.out.alloc hbw _).grown HG.out (by simp; omega) (fun q hq => by simp [Value.ownBlock] at hq; omega), by unfold IRow; rw [HLEN.out]; exact hd⟩
      case rest =>
      obtain ⟨a7, cap7, rfl, H7⟩ := hcut
      have hR0 := first_row (c := 0) H7.out.1 H7.out.2
      have HR0 := Lib.hid hR0
      clear hR0 H7
      go_wp2_with fail
      go_loopw [8, 9] (fun v8 i wr => ∃ j : Nat, i = .int .i64 j ∧ j ≤ len0 ∧ Hid (RM w wr (.slice none 0 0) [] [(v8, List.range j), (.slice a7 len0 cap7, lv)])) (fun _ i _ => len0 - (intOf i).toNat)
      case atStart => exact ⟨0, rfl, Nat.zero_le _, HR0.out⟩
      case round =>
        obtain ⟨j, rfl, hj, H⟩ := hrel
        by_cases hjl : j < len0
        · obtain ⟨a8, cap8, rfl, -⟩ := H.out.val List.mem_cons_self (List.length_range (n := j))
          have hbw := H.out.below.size
          have HOW := Lib.hid (H.out.row (.cells #[.int .i64 j] 3) (List.length_range (n := j)))
          have HNW := Lib.hid (news wr #[.int .i64 j] 3 wr.heap.size rfl)
          go_wp2_with (at_builtin; refine wpList_append_own_at _ rfl _ _ 40 rfl w.heap.size 3 i1 (.int .i64 0) 1 8 Try.underlying40 hi1 hz1 hs1 hy1 rfl (by decide) (.slice a8 j cap8) j _ rfl HOW.out ⟨wr.heap.size, 0, none⟩ 1 1 [.int .i64 j] rfl rfl HNW.out (by intro u hu; simp at hu; subst hu; rfl) (by unfold maxLen; omega) (by omega) (by simp; omega) ?_; intro v3 w3 hown3 hgrow3 _ hat3; have HD := Lib.hid (RM.apped H.out (List.length_range (n := j)) hown3 hgrow3 hat3); clear hown3 hgrow3 hat3)
          go_roundw
          case rel => exact ⟨j + 1, by go_num, by omega, by have := HD.out; rwa [← List.range_succ] at this⟩
          case measure => simp [intOf]; omega
        · obtain rfl : len0 = j := by omega
          obtain ⟨a8, cap8, rfl, -⟩ := H.out.val List.mem_cons_self (List.length_range (n := len0))
          have hel : (enumF lv).length = len0 := by rw [enumF_len, HLEN.out]
          have hst : ROut lv most len0 w wr (.slice a7 len0 cap7) (.slice a8 len0 cap8) (.slice none 0 0) 1 len0 :=
            ⟨enumF lv, lv, [], hel, by rw [enum_fst, HLEN.out]; exact H.out.perm rot1, rfl, enumF_lev lv H32.out, HLEN.out, lev_enum lv, by rw [hel]; exact Nat.le_refl _⟩
          have HST := Lib.hid hst
          clear hst H HR0
          go_wp2_with fail
          go_loopw [7, 8, 10, 11, 12, 13, 14] (fun v7 v8 v10 t _ _ _ wr => ∃ (tt L : Nat) (a8 : Option Addr) (cap8 : Nat), v8 = .slice a8 L cap8 ∧ t = .int .i64 tt ∧ 1 ≤ tt ∧ tt + meas tt L ≤ 34 + len0 ∧ L ≤ len0 ∧ Hid (ROut lv most len0 w wr v7 v8 v10 tt L)) (fun _ v8 _ t _ _ _ _ => meas (intOf t).toNat (lenS v8))
          case atStart => exact ⟨1, len0, a8, cap8, rfl, rfl, by omega, by unfold meas; omega, Nat.le_refl _, HST.out⟩
          case round =>
            obtain ⟨tt, L, a9, cap9, rfl, rfl, ht1, htm, hLk, H⟩ := hrel
            have htb : tt ≤ 34 + len0 := by omega
            obtain ⟨now, lvls0, K0, hnl, hrm, hC, hl32, hll, hlv, hsum⟩ := H.out
            obtain ⟨kss, hkss⟩ : ∃ kss, K0.map (·.2) = kss := ⟨_, rfl⟩
            obtain ⟨base, hbase⟩ : ∃ base, len0 + K0.length = base := ⟨_, rfl⟩
            have hkl : kss.length = K0.length := by rw [← hkss, List.length_map]
            rw [hkss, hbase] at hC
            have HRM := Lib.hid hrm; have HNL := Lib.hid hnl; have HC := Lib.hid hC; have HL32 := Lib.hid hl32; have HLL := Lib.hid hll; have HLV0 := Lib.hid hlv; have HSUM := Lib.hid hsum; have HKS := Lib.hid hkss; have HBASE := Lib.hid hbase; have HKL := Lib.hid hkl
            clear hrm hnl hC hl32 hll hlv hsum hkss hbase hkl H HST
            by_cases hL : 1 < L
            · have hL1 : decide ((1 : Int) < (L : Int)) = true := decide_eq_true (by omega)
              have hI0 : RIn w wr u7 (.slice a9 L cap9) u10 (.slice none 0 0) (.slice none 0 0) most tt base now kss 0 0 [] [] lvls0 K0 :=
                ⟨by rw [List.take_zero, List.drop_nil]; exact HRM.out.fresh, by rw [List.append_nil]; exact HKS.out, eq_start, by rw [HLL.out, HBASE.out]; rfl, HLV0.out, fun x hx => by (cases hx), Nat.le_refl _⟩
              have HI0 := Lib.hid hI0; clear hI0
              go_wp2_with fail
              go_loopw [7, 10, 12, 13, 14] (fun v7 v10 v12 v13 i wr => ∃ q f : Nat, i = .int .i64 q ∧ q ≤ L ∧ f ≤ q ∧ Hid (∃ nx os lvls K, RIn w wr v7 (.slice a9 L cap9) v10 v12 v13 most tt base now kss q f nx os lvls K)) (fun _ _ _ _ i _ => L - (intOf i).toNat)
              case atStart => exact ⟨0, 0, rfl, Nat.zero_le _, Nat.le_refl _, [], [], _, _, HI0.out⟩
              case round =>
                obtain ⟨q, f, rfl, hq, hf, H⟩ := hrel
                obtain ⟨nx, os, lvls, K, hI⟩ := H.out
                have HI := Lib.hid hI; clear hI H HI0
                by_cases hqL : q < L
                · obtain ⟨x, hx⟩ : ∃ x, now[q]? = some x := ⟨_, List.getElem?_eq_getElem (by rw [HNL.out]; exact hqL)⟩
                  have hxm := List.mem_of_getElem? hx
                  have hx32 := HL32.out x hxm
                  have hlx := HI.out.lev x hxm
                  obtain ⟨n1, hn1⟩ : ∃ n1, q - f = n1 := ⟨_, rfl⟩
                  have hn1b : n1 ≤ 1048576 := by omega
                  have hgl : (((now.take q).drop f).map (·.1)).length = n1 := by rw [List.length_map, List.length_drop, List.length_take, HNL.out, ← hn1]; omega
                  obtain ⟨xn, xl⟩ := x
                  dsimp only at hx32 hlx
                  have hll := HI.out.ll
                  have hsum := HI.out.sum
                  have hkk := congrArg List.length HI.out.k
                  rw [List.length_map, List.length_append, HKL.out] at hkk
                  have hbs := HBASE.out
                  have hsm := HSUM.out
                  rw [HNL.out] at hsm
                  obtain ⟨n7, hn7⟩ : ∃ n7, lvls.length = n7 := ⟨_, rfl⟩
                  have hxn7 : xn < n7 := by rw [← hn7]; exact (List.getElem?_eq_some_iff.1 hlx).1
                  have hn7b : n7 ≤ 2097152 := by omega
                  obtain ⟨n10, hn10⟩ : ∃ n10, K.length = n10 := ⟨_, rfl⟩
                  have hn10b : n10 ≤ 1048576 := by omega
                  obtain ⟨n12, hn12⟩ : ∃ n12, nx.length = n12 := ⟨_, rfl⟩
                  have hn12b : n12 ≤ 1048576 := by omega
                  have hb10 : len0 + n10 = base + os.length := by omega
                  have hnxl : (nx.map (·.1)).length = n12 := by rw [List.length_map]; exact hn12
                  obtain ⟨a13, cap13, rfl, -⟩ := HI.out.rm.val (v := u13) (List.mem_cons_of_mem _ (List.mem_cons_of_mem _ (List.mem_cons_of_mem _ List.mem_cons_self))) hgl
                  obtain ⟨a7', cap7', rfl, hcap7⟩ := HI.out.rm.val (v := u7) List.mem_cons_self hn7
                  have hnq : (now.map (·.1))[q]? = some xn := by rw [List.getElem?_map, hx]; rfl
                  obtain ⟨g8, rfl, c8⟩ := HI.out.rm.at_ (List.mem_cons_of_mem _ List.mem_cons_self) hnq
                  have hbw := HI.out.rm.below.size
                  have HR3 := Lib.hid (HI.out.rm.perm rot3)
                  have HOW := Lib.hid (HR3.out.row (.cells #[.int .i64 xn] 3) hgl)
                  have HNW := Lib.hid (news wr #[.int .i64 xn] 3 wr.heap.size rfl)
                  have HGL := Lib.hid hgl; have HX := Lib.hid hx; have HLX := Lib.hid hlx; have HNQ := Lib.hid hnq; have HN1 := Lib.hid hn1; have HN7 := Lib.hid hn7; have HN10 := Lib.hid hn10; have HN12 := Lib.hid hn12; have HNX := Lib.hid hnxl; have HB10 := Lib.hid hb10; have HL9 := Lib.hid hll; have HS9 := Lib.hid hsum
                  clear hgl hx hlx hnq hn1 hn7 hn10 hn12 hnxl hb10 hll hsum hkk hbs hsm hxm
                  go_upto_region 23 with (at_builtin; refine wpList_append_own_at _ rfl _ _ 40 rfl w.heap.size 3 i1 (.int .i64 0) 1 8 Try.underlying40 hi1 hz1 hs1 hy1 rfl (by decide) (.slice a13 n1 cap13) n1 _ rfl HOW.out ⟨wr.heap.size, 0, none⟩ 1 1 [.int .i64 xn] rfl rfl HNW.out (by intro u hu; simp at hu; subst hu; rfl) (by unfold maxLen; omega) (by omega) (by simp; omega) ?_; intro v3 w3 hown3 hgrow3 _ hat3; have HD := Lib.hid (RM.apped HR3.out HGL.out hown3 hgrow3 hat3); clear hown3 hgrow3 hat3)
                  obtain ⟨grp, hgrp⟩ : ∃ grp, ((now.take (q + 1)).drop f).map (·.1) = grp := ⟨_, rfl⟩
                  have hD := HD.out.perm rot3.symm
                  have hge : ((now.take q).drop f).map (·.1) ++ [xn] = grp := by rw [← hgrp, grp_next HX.out hf, List.map_append]; rfl
                  rw [hge] at hD
                  have hgl2 : grp.length = n1 + 1 := by rw [← hge, List.length_append, HGL.out]; rfl
                  obtain ⟨a3, cap3, rfl, hcap3⟩ := hD.val (v := v3) (List.mem_cons_of_mem _ (List.mem_cons_of_mem _ (List.mem_cons_of_mem _ List.mem_cons_self))) hgl2
                  obtain ⟨g7, rfl, c7⟩ := hD.at_ List.mem_cons_self HLX.out
                  obtain ⟨_, e8, c8'⟩ := hD.at_ (List.mem_cons_of_mem _ List.mem_cons_self) HNQ.out
                  injection e8 with e8
                  injection e8 with e8
                  subst e8
                  have HDD := Lib.hid hD; have HGE := Lib.hid hge; have HGRP := Lib.hid hgrp; have HGL2 := Lib.hid hgl2
                  clear hD hge hgrp hgl2 HR3 HD HOW HNW c8 HGL HGE
                  go_cut [96] from 75 to 96 (fun v wx => v = .bool (decide (xl < tt ∧ n1 + 1 < most ∧ q + 1 < L)) ∧ wx = w3)
                  case first =>
                    by_cases c1 : xl < tt
                    · by_cases c2 : n1 + 1 < most
                      · by_cases c3 : q + 1 < L
                        · go_wp2_with fail
                          go_meet
                          case rel => exact ⟨by rw [decide_eq_true (show xl < tt ∧ n1 + 1 < most ∧ q + 1 < L from ⟨c1, c2, c3⟩), decide_eq_true (by omega)], rfl⟩
                        · go_wp2_with fail
                          go_meet
                          case rel => exact ⟨by rw [decide_eq_false (show ¬ (xl < tt ∧ n1 + 1 < most ∧ q + 1 < L) from fun h => c3 h.2.2), decide_eq_false (by omega)], rfl⟩
                      · go_wp2_with fail
                        go_meet
                        case rel => exact ⟨by rw [decide_eq_false (show ¬ (xl < tt ∧ n1 + 1 < most ∧ q + 1 < L) from fun h => c2 h.2.1)], rfl⟩
                    · go_wp2_with fail
                      go_meet
                      case rel => exact ⟨by rw [decide_eq_false (show ¬ (xl < tt ∧ n1 + 1 < most ∧ q + 1 < L) from fun h => c1 h.1)], rfl⟩
                  case rest =>
                  obtain ⟨rfl, rfl⟩ := hcut
                  by_cases hc : xl < tt ∧ n1 + 1 < most ∧ q + 1 < L
                  · rw [decide_eq_true hc]
                    go_wp2_with fail
                    go_roundw
                    case rel => exact ⟨q + 1, f, by go_num, by omega, by omega, nx, os, lvls, K, { HI.out with rm := by rw [HGRP.out]; exact HDD.out, eq := eq_on HI.out.eq HX.out hf (by have := HN1.out; rw [HNL.out]; omega) }⟩
                    case measure => simp [intOf]; omega
                  · have HC2 := Lib.hid hc
                    rw [decide_eq_false hc]
                    clear hc
                    have hnxm : (u12, nx.map (·.1)) ∈ (Value.slice (some ⟨g7, 0, none⟩) n7 cap7', lvls) :: (Value.slice (some ⟨g8, 0, none⟩) L cap9, now.map (·.1)) :: (u12, nx.map (·.1)) :: (Value.slice a3 (n1 + 1) cap3, grp) :: K := List.mem_cons_of_mem _ (List.mem_cons_of_mem _ List.mem_cons_self)
                    obtain ⟨a12, cap12, rfl, -⟩ := HDD.out.val hnxm HNX.out
                    obtain ⟨a10, cap10, rfl⟩ := HDD.out.out.val HN10.out
                    have hbw2 := HDD.out.below.size
                    have HR12 := Lib.hid (HDD.out.perm rot2)
                    clear hnxm
                    by_cases hgr : f < q
                    · have hn0 : ¬ (n1 = 0) := by have := HN1.out; omega
                      have hE : ((n1 : Int) + 1 == 1) = false := by simp; omega
                      have HOW := Lib.hid (HR12.out.row (.cells #[.int .i64 ((len0 : Int) + (n10 : Int))] 3) HNX.out)
                      have HNW := Lib.hid (news wc #[.int .i64 ((len0 : Int) + (n10 : Int))] 3 wc.heap.size rfl)
                      go_upto_region 27 with (at_builtin; refine wpList_append_own_at _ rfl _ _ 40 rfl w.heap.size 3 i1 (.int .i64 0) 1 8 Try.underlying40 hi1 hz1 hs1 hy1 rfl (by decide) (.slice a12 n12 cap12) n12 _ rfl HOW.out ⟨wc.heap.size, 0, none⟩ 1 1 [.int .i64 ((len0 : Int) + (n10 : Int))] rfl rfl HNW.out (by intro u hu; simp at hu; subst hu; rfl) (by unfold maxLen; omega) (by omega) (by simp; omega) ?_; intro v4 w4 hown3 hgrow3 _ hat3; have HD4 := Lib.hid (RM.apped (y := len0 + n10) HR12.out HNX.out hown3 hgrow3 hat3); clear hown3 hgrow3 hat3)
                      have hD4 := HD4.out.perm rot2.symm
                      obtain ⟨_, e7, d7⟩ := hD4.at_ List.mem_cons_self HLX.out
                      injection e7 with e7
                      injection e7 with e7
                      subst e7
                      obtain ⟨_, e8, d8⟩ := hD4.at_ (List.mem_cons_of_mem _ List.mem_cons_self) HNQ.out
                      injection e8 with e8
                      injection e8 with e8
                      subst e8
                      have hbw4 := hD4.below.size
                      have HR7 := Lib.hid hD4
                      have HOW7 := Lib.hid (hD4.row (.cells #[.int .i64 xl] 3) HN7.out)
                      have HNW7 := Lib.hid (news w4 #[.int .i64 xl] 3 w4.heap.size rfl)
                      clear hD4 HD4 HOW HNW HR12
                      go_upto_region 28 with (at_builtin; refine wpList_append_own_at _ rfl _ _ 40 rfl w.heap.size 3 i1 (.int .i64 0) 1 8 Try.underlying40 hi1 hz1 hs1 hy1 rfl (by decide) (.slice (some ⟨g7, 0, none⟩) n7 cap7') n7 _ rfl HOW7.out ⟨w4.heap.size, 0, none⟩ 1 1 [.int .i64 xl] rfl rfl HNW7.out (by intro u hu; simp at hu; subst hu; rfl) (by unfold maxLen; omega) (by omega) (by simp; omega) ?_; intro v5 w5 hown3 hgrow3 _ hat3; have HD5 := Lib.hid (RM.apped (y := xl) HR7.out HN7.out hown3 hgrow3 hat3); clear hown3 hgrow3 hat3)
                      have hbw5 := HD5.out.below.size
                      have HOW10 := Lib.hid (HD5.out.krow (.cells #[.slice a3 (n1 + 1) cap3] 40) HN10.out)
                      have HNW10 := Lib.hid (news w5 #[.slice a3 (n1 + 1) cap3] 40 w5.heap.size rfl)
                      clear HOW7 HNW7 HR7 d7 d8 c7 c8'
                      go_wp2_with (at_builtin; refine wpList_append_own _ rfl _ _ 41 rfl w.heap.size 40 i2 (.slice none 0 0) 1 24 Try.underlying41 hi2 hz2 hs2 hy2 rfl (by decide) (.slice a10 n10 cap10) n10 _ rfl HOW10.out ⟨w5.heap.size, 0, none⟩ 1 1 [.slice a3 (n1 + 1) cap3] rfl rfl HNW10.out (by intro u hu; simp at hu; subst hu; rfl) (by unfold maxLen; omega) (by omega) (by simp; omega) ?_; intro v6 w6 hown3 hgrow3 _; have HD6 := Lib.hid (RM.close HD5.out HN10.out hown3 hgrow3); clear hown3 hgrow3)
                      go_roundw
                      case rel =>
                        have hc2 : ¬ (xl < tt ∧ q + 1 - f < most ∧ q + 1 < now.length) := by have := HC2.out; have := HN1.out; rw [HNL.out]; omega
                        have heq := eq_group HI.out.eq HX.out hgr hc2
                        rw [HGRP.out] at heq
                        have hd6 := HD6.out
                        rw [HB10.out] at hd6
                        exact ⟨q + 1, q + 1, by go_num, by omega, Nat.le_refl _, nx ++ [(base + os.length, xl)], os ++ [grp], lvls ++ [xl], K ++ [(Value.slice a3 (n1 + 1) cap3, grp)],
                          { rm := by rw [grp_nil, List.map_nil, List.map_append]; exact hd6
                            k := by rw [List.map_append, HI.out.k, List.append_assoc]; rfl
                            eq := heq
                            ll := by rw [List.length_append, List.length_append, HL9.out]; rfl
                            lev := HI.out.lev.app xl
                            lnx := (HI.out.lnx.app xl).snoc (by rw [show (base + os.length, xl).1 = lvls.length from HL9.out.symm]; simp)
                            sum := by have := HS9.out; rw [List.length_append, List.length_append]; simp; omega }⟩
                      case measure => simp [intOf]; omega
                    · obtain rfl : f = q := by omega
                      obtain rfl : n1 = 0 := by have := HN1.out; omega
                      have hg0 : grp = [xn] := by rw [← HGRP.out, grp_next HX.out (Nat.le_refl _), grp_nil]; rfl
                      obtain ⟨g3, rfl, c3⟩ := HDD.out.at_ (i := 0) (x := xn) (List.mem_cons_of_mem _ (List.mem_cons_of_mem _ (List.mem_cons_of_mem _ List.mem_cons_self))) (by rw [hg0]; rfl)
                      have HOW := Lib.hid (HR12.out.row (.cells #[.int .i64 xn] 3) HNX.out)
                      have HNW := Lib.hid (news wc #[.int .i64 xn] 3 wc.heap.size rfl)
                      clear hg0
                      go_wp2_with (at_builtin; refine wpList_append_own_at _ rfl _ _ 40 rfl w.heap.size 3 i1 (.int .i64 0) 1 8 Try.underlying40 hi1 hz1 hs1 hy1 rfl (by decide) (.slice a12 n12 cap12) n12 _ rfl HOW.out ⟨wc.heap.size, 0, none⟩ 1 1 [.int .i64 xn] rfl rfl HNW.out (by intro u hu; simp at hu; subst hu; rfl) (by unfold maxLen; omega) (by omega) (by simp; omega) ?_; intro v4 w4 hown3 hgrow3 _ hat3; have HD4 := Lib.hid (RM.apped (y := xn) HR12.out HNX.out hown3 hgrow3 hat3); clear hown3 hgrow3 hat3)
                      go_roundw
                      case rel =>
                        have hc2 : ¬ (xl < tt ∧ f + 1 - f < most ∧ f + 1 < now.length) := by have := HC2.out; rw [HNL.out]; omega
                        exact ⟨f + 1, f + 1, by go_num, by omega, Nat.le_refl _, nx ++ [(xn, xl)], os, lvls, K,
                          { rm := by rw [grp_nil, List.map_nil, List.map_append]; exact (HD4.out.perm rot2.symm).noGroup
                            k := HI.out.k
                            eq := eq_one HI.out.eq HX.out rfl hc2
                            ll := HL9.out
                            lev := HI.out.lev
                            lnx := HI.out.lnx.snoc HLX.out
                            sum := by have := HS9.out; rw [List.length_append]; simp; omega }⟩
                      case measure => simp [intOf]; omega
                · obtain rfl : q = L := by omega
                  have hpf := eq_end HI.out.eq (by rw [HNL.out]; exact Nat.le_refl _)
                  have hbig : 1 < now.length := by rw [HNL.out]; exact hL
                  have hstep := tiersA_step most tt base now h2 HL32.out hbig
                  have hlev := passF_lev tt most 32 now base [] HL32.out
                  have hsm := passF_sum tt most now base []
                  have hlen := passF_len tt most now base []
                  rw [hpf] at hstep hlev hsm hlen
                  dsimp only at hstep hlev hsm hlen
                  rw [HNL.out] at hstep hsm hlen
                  obtain ⟨n12, hn12⟩ : ∃ n12, nx.length = n12 := ⟨_, rfl⟩
                  have hnxl : (nx.map (·.1)).length = n12 := by rw [List.length_map]; exact hn12
                  obtain ⟨a12, cap12, rfl, -⟩ := HI.out.rm.val (v := u12) (List.mem_cons_of_mem _ (List.mem_cons_of_mem _ List.mem_cons_self)) hnxl
                  rw [hn12] at hstep hsm hlen
                  have hms := hstep.2
                  have HST2 := Lib.hid hstep.1; have HLEV := Lib.hid hlev; have HSM := Lib.hid hsm; have HN12 := Lib.hid hn12
                  clear hpf hstep hlev hsm hn12 hnxl hbig
                  go_wp2_with fail
                  go_roundw
                  case rel =>
                    have hkk := congrArg List.length HI.out.k
                    rw [List.length_map, List.length_append, HKL.out] at hkk
                    have hb9 : base + os.length = len0 + K.length := by have := HBASE.out; omega
                    have hsum := HSUM.out
                    have hsm := HSM.out
                    rw [HNL.out] at hsum
                    refine ⟨tt + 1, n12, a12, cap12, rfl, by go_num, by omega, by omega, by omega, nx, lvls, K, HN12.out, HI.out.rm.next, ?_, HLEV.out, by rw [HI.out.ll]; exact hb9, HI.out.lnx, ?_⟩
                    · rw [HC.out, HST2.out, HI.out.k, hb9, List.append_assoc]
                    · rw [HN12.out]
                      simp only [List.length_nil] at hsm
                      omega
                  case measure => simp [intOf, lenS]; omega
            · have hfin : tiersA most 1 len0 (enumF lv) = kss := by rw [HC.out, tiersA_end most tt base now (by rw [HNL.out]; exact hL), List.append_nil]
              go_wp2_with fail
              go_ret2
              exact ⟨u10, K0, rfl, HRM.out.below, HRM.out.fam.tail.tail, HRM.out.out, by rw [HKS.out, hfin]⟩
end Go.Proofs.Ytmnggemifcjflaa.Tier
