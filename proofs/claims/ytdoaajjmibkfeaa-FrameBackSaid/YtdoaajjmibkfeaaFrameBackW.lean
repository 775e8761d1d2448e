/-
  The walk over FrameBack.
-/
import Derived.Test.YtdoaajjmibkfeaaFrameBackP
import Derived.Test.YtdoaajjmibkfeaaFrameR2
import Derived.Test.YtdoaajjmibkfeaaStrs
import Derived.StillTailTactics
import Derived.Deep.RegionWith
import Derived.Deep.DeepCutAuto
import Derived.Deep.CutRange
import Derived.Deep.CutBlock
namespace Go.Proofs.Ytdoaajjmibkfeaa.frameBack
open Go.RowKit PlainP WireP CrcP
set_option linter.unusedVariables false

theorem take_snocB (l : List ByteArray) (k : Nat) (x : ByteArray) (h : l[k]? = some x) : l.take (k + 1) = l.take k ++ [x] := by
  rw [List.take_add_one, h]; rfl
def S (w W : World) : Prop := Below w.heap.size w W

set_option maxRecDepth 100000 in
set_option maxHeartbeats 1000000 in
theorem walk (a0 : Option Addr) (len0 cap0 : Nat) (ps0 : List ByteArray) (tail : ByteArray) (w : World) (w0 : InStrs w a0 len0 cap0 ps0) (ht : tail.size ≤ 140737488351232) :
    Calls Try.prog 5 #[.slice a0 len0 cap0, .string tail] w fun e w' => e = .returned (.bool true) ∧ Below w.heap.size w w' := by
  have hcap := w0.cap_
  have hmax := w0.max_
  have hnil := w0.nil_
  unfold maxLen at hmax
  obtain ⟨ps, m, hL, hm, hm3, hml, hmm, hT⟩ : ∃ (ps : List ByteArray) (m : Nat), ps.length = m ∧ m ≤ 60 ∧ (m = 60 ∨ m = len0) ∧ m ≤ len0 ∧ m = min len0 60 ∧ ∀ i p, ps[i]? = some p → ∃ b off, a0 = some ⟨b, off, none⟩ ∧ w.cell? ⟨b, off + i, none⟩ = some (.string p) ∧ b < w.heap.size ∧ p.size ≤ 140737488351232 := by
    refine ⟨ps0.take 60, min len0 60, by rw [List.length_take, w0.len_]; omega, by omega, by omega, by omega, rfl, fun i p h => w0.at_ i p ?_⟩
    rw [List.getElem?_take] at h
    split at h
    · exact h
    · cases h
  clear w0
  have HL := Lib.hid hL; clear hL
  have HT := Lib.hid hT; clear hT
  have HMM := Lib.hid hmm; clear hmm
  have HNIL := Lib.hid hnil; clear hnil
  go_enter Try.func5, Try.ntmps5
  go_wp2_with fail
  go_loopw [5, 6, 7, 8, 9, 10, 11] (fun v i _ _ _ _ _ wr => ∃ (a : ByteArray) (k : Nat), v = .string a ∧ i = .int .i64 k ∧ k ≤ m ∧ a.size ≤ 5000000000 ∧ Hid (Below w.heap.size w wr ∧ a = frs (ps.take k) ∧ ∀ p ∈ ps.take k, p.size ≤ 67108864)) (fun _ i _ _ _ _ _ _ => m - (intOf i).toNat)
  case atStart => exact ⟨⟨#[]⟩, 0, rfl, rfl, by omega, by decide, Below.refl _ _, rfl, fun p hp => by simp at hp⟩
  case round =>
    obtain ⟨a, k, rfl, rfl, hk, ha, H⟩ := hrel
    obtain ⟨hB, haf, hps⟩ := H.out
    have HAF := Lib.hid haf; clear haf
    have HPS := Lib.hid hps; clear hps H
    go_upto_region 3 with (fail)
    go_cut [24] from 17 to 24 (fun v wx => v = .bool (decide (k < m)) ∧ wx = wr)
    case first =>
      by_cases h0 : k < len0
      · by_cases h3 : k < 60
        · go_wp2_with fail
          go_meet
          case rel => exact ⟨by rw [decide_eq_true (show k < m by omega), decide_eq_true (by omega)], rfl⟩
        · have hd : decide ((k : Int) < 60) = false := decide_eq_false (by omega)
          go_wp2_with fail
          go_meet
          case rel => exact ⟨by rw [decide_eq_false (show ¬ k < m by omega)], rfl⟩
      · go_wp2_with fail
        go_meet
        case rel => exact ⟨by rw [decide_eq_false (show ¬ k < m by omega)], rfl⟩
    case rest =>
    obtain ⟨rfl, rfl⟩ := hcut
    by_cases hlt : k < m
    · rw [decide_eq_true hlt]
      obtain ⟨p, hp⟩ : ∃ p, ps[k]? = some p := ⟨_, List.getElem?_eq_getElem (by rw [HL.out]; exact hlt)⟩
      have hlt0 : k < len0 := by omega
      obtain ⟨b, off, rfl, hcell, hbl, hpz⟩ := HT.out k p hp
      have hcw : ∀ W, Below w.heap.size w W → W.cell? ⟨b, off + k, none⟩ = some (.string p) := fun W hW => by rw [hW.cell hbl]; exact hcell
      have c0 := hcw wc hB
      have hf := fun W => frame_any p W (by omega)
      have HB := Lib.hid hB; clear hB
      have HCW := Lib.hid hcw; clear hcw hcell
      have HP := Lib.hid hp; clear hp
      by_cases hbig : 67108864 < p.size
      · have hv : frameV p = .tuple #[.string ⟨#[]⟩, .int .i64 1] := if_pos hbig
        rw [hv] at hf
        have HF := Lib.hid hf; clear hf hv
        go_wp2_with fail
        refine (HF.out _).mono ?_
        rintro e w2 ⟨rfl, hb⟩
        have hB2 := HB.out.trans (hb.mono HB.out.size)
        have c2 := HCW.out w2 hB2
        have HB2 := Lib.hid hB2; clear hB2 hb c0
        go_wp2_with fail
        refine (awake3_any _).mono ?_
        rintro e w3 ⟨rfl, hb⟩
        have HB3 := Lib.hid hb; clear hb
        go_wp2_with fail
        go_ret
        exact ⟨rfl, HB2.out.trans (HB3.out.mono HB2.out.size)⟩
      · have hv : frameV p = .tuple #[.string (fr p), .int .i64 0] := if_neg hbig
        rw [hv] at hf
        have hfz := fr_size p
        have hftz : (fr p ++ tail).size = 8 + p.size + tail.size := by rw [ByteArray.size_append]; omega
        have hun := fun W => unframe_any (fr p ++ tail) W (by omega)
        rw [unf_fr p tail (by omega), unfV] at hun
        have hc1 := fun W (h : S w W) => (crc_any tail W (by omega)).mono fun e w' ⟨he, hb⟩ => (⟨he, h.trans (hb.mono h.size)⟩ : _ ∧ S w w')
        have hc4 : crcC (nats tail) < 4294967296 := onC_lt _ _ (by omega) (nats_bytes _)
        have hc2 := fun W (h : S w W) => (on_any (crcC (nats tail)) p W hc4 (by omega)).mono fun e w' ⟨he, hb⟩ => (⟨he, h.trans (hb.mono h.size)⟩ : _ ∧ S w w')
        have htp : (tail ++ p).size = tail.size + p.size := by rw [ByteArray.size_append]
        have hc3 := fun W (h : S w W) => (crc_any (tail ++ p) W (by omega)).mono fun e w' ⟨he, hb⟩ => (⟨he, h.trans (hb.mono h.size)⟩ : _ ∧ S w w')
        have e3 : onC (crcC (nats tail)) (nats p) = crcC (nats (tail ++ p)) := by unfold crcC; rw [onC_append, nats_append]
        rw [e3] at hc2
        clear e3
        generalize crcC (nats (tail ++ p)) = ct at *
        generalize crcC (nats tail) = c4 at *
        have haz : (a ++ fr p).size ≤ 5000000000 := by
          have h1 : (frs (ps.take (k + 1))).size ≤ (ps.take (k + 1)).length * 67108872 := frs_size _ (by
            rw [take_snocB _ _ _ HP.out]
            intro q hq
            rcases List.mem_append.1 hq with hq | hq
            · exact HPS.out q hq
            · rw [List.mem_singleton.1 hq]; omega)
          rw [take_snocB _ _ _ HP.out, frs_snoc, ← HAF.out, List.length_append] at h1
          have h2 : (ps.take k).length ≤ k := List.length_take_le _ _
          have h3 : ((ps.take k).length + [p].length) * 67108872 ≤ 61 * 67108872 := Nat.mul_le_mul_right _ (by simp; omega)
          omega
        have hnx : a ++ fr p = frs (ps.take (k + 1)) ∧ ∀ q ∈ ps.take (k + 1), q.size ≤ 67108864 := by
          constructor
          · rw [take_snocB _ _ _ HP.out, frs_snoc, ← HAF.out]
          · rw [take_snocB _ _ _ HP.out]
            intro q hq
            rcases List.mem_append.1 hq with hq | hq
            · exact HPS.out q hq
            · rw [List.mem_singleton.1 hq]; omega
        have HNX := Lib.hid hnx; clear hnx
        generalize fr p = F at *
        have HF := Lib.hid hf; clear hf hv
        have HUN := Lib.hid hun; clear hun
        have HC1 := Lib.hid hc1; clear hc1
        have HC2 := Lib.hid hc2; clear hc2
        have HC3 := Lib.hid hc3; clear hc3
        go_wp2_with fail
        refine (HF.out _).mono ?_
        rintro e w2 ⟨rfl, hb⟩
        have hB2 := HB.out.trans (hb.mono HB.out.size)
        have HB2 := Lib.hid hB2; clear hB2 hb c0
        go_wp2_with fail
        refine (HUN.out _).mono ?_
        rintro e w3 ⟨rfl, hb⟩
        have hB3 : S w w3 := HB2.out.trans (hb.mono HB2.out.size)
        have HB3 := Lib.hid hB3; clear hB3 hb
        have e1 : ∀ y : GoodW (S w), y.w.cell? ⟨b, off + k, none⟩ = some (.string p) := fun y => HCW.out y.w y.h
        go_wp2_with fail
        refine wp_region_good (S := S w) (by kernel_rfl) (by kernel_rfl) (Below.drew HB3.out) ?_
        haveI : Nonempty (GoodW (S w)) := ⟨⟨_, HB3.out⟩⟩
        repeat (go_big_quiet_step ((first
          | (go_at_call_of 19 (Value.string tail); exact good_of _ (HC1.out _ (GoodW.h _)))
          | (go_at_call 19; exact good_of _ (HC3.out _ (GoodW.h _)))
          | (go_at_call 21; exact good_of _ (HC2.out _ (GoodW.h _))))))
        refine wpQuiet_nil ?_
        rintro wd ⟨⟨wd', hS⟩, rfl⟩
        have HS := Lib.hid hS; clear hS
        go_wp2_with fail
        go_roundw
        case rel => exact ⟨a ++ F, k + 1, rfl, by go_num, by omega, haz, HS.out, HNX.out⟩
        case measure => simp [intOf]; omega
    · obtain rfl : k = m := by omega
      rw [decide_eq_false (by omega)]
      have hru := fun W => runframe_any tail W (by omega)
      have HB := Lib.hid hB; clear hB
      cases hu : unfS tail with
      | some q =>
        rw [hu] at hru
        obtain ⟨q1, q2⟩ := q
        rw [unfV] at hru
        have HRU := Lib.hid hru; clear hru hu
        go_wp2_with fail
        refine (HRU.out _).mono ?_
        rintro e w2 ⟨rfl, hb⟩
        have hB2 := HB.out.trans (hb.mono HB.out.size)
        have HB2 := Lib.hid hB2; clear hB2 hb
        go_wp2_with fail
        refine (awake3_any _).mono ?_
        rintro e w3 ⟨rfl, hb⟩
        have HB3 := Lib.hid hb; clear hb
        go_wp2_with fail
        go_ret
        exact ⟨rfl, HB2.out.trans (HB3.out.mono HB2.out.size)⟩
      | none =>
        rw [hu, unfV] at hru
        have htk : ps.take k = ps := by rw [← HL.out]; exact List.take_length
        have hal : allA (a ++ tail) = (ps, tail) := by
          have h1 := HAF.out
          have h2 := HPS.out
          rw [htk] at h1 h2
          rw [h1]
          exact all_frs ps tail h2 hu
        have hatz : (a ++ tail).size = a.size + tail.size := ByteArray.size_append
        have hal2 := fun W => all_any (a ++ tail) W (by omega) (by rw [hal]; show ps.length ≤ _; rw [HL.out]; omega)
        rw [hal] at hal2
        have hzz : (((a ++ tail).size : Nat) : Int) - (tail.size : Int) = (a.size : Int) := by omega
        rw [hzz] at hal2
        have HRU := Lib.hid hru; clear hru hu
        have HAL := Lib.hid hal2; clear hal2 hal hzz
        go_wp2_with fail
        refine (HRU.out _).mono ?_
        rintro e w2 ⟨rfl, hb⟩
        have hB2 := HB.out.trans (hb.mono HB.out.size)
        have HB2 := Lib.hid hB2; clear hB2 hb
        go_wp2_with fail
        refine (HAL.out _).mono ?_
        rintro e w3 ⟨v, rfl, hb, hst⟩
        have hB3 := HB2.out.trans (hb.mono HB2.out.size)
        have HB3 := Lib.hid hB3; clear hB3 hb
        have HV := Lib.hid (srow_of hst (by rw [HL.out]; omega)); clear hst
        have hsl : SRow w3 (.slice a0 k cap0) ps := by
          refine ⟨a0, cap0, by rw [HL.out], by rw [HL.out]; omega, by rw [HL.out]; omega, fun i p hp => ?_⟩
          obtain ⟨b, off, ha0, hc, hbl, -⟩ := HT.out i p hp
          exact ⟨b, off, ha0, by rw [HB3.out.cell hbl]; exact hc⟩
        have HSL := Lib.hid hsl; clear hsl
        cases a0 with
        | none =>
          obtain ⟨rfl, rfl⟩ := HNIL.out rfl
          obtain rfl : k = 0 := by omega
          go_wp2_with fail
          have e0 : (min (0 : Int) 60).toNat = 0 := by decide
          rw [e0]
          refine (same3_any v _ ps _ HV.out HSL.out).mono ?_
          rintro e w4 ⟨rfl, hb⟩
          have hB4 := HB3.out.trans (hb.mono HB3.out.size)
          have HB4 := Lib.hid hB4; clear hB4 hb
          go_wp2_with fail
          refine (awake3_any _).mono ?_
          rintro e w5 ⟨rfl, hb⟩
          have HB5 := Lib.hid hb; clear hb
          go_wp2_with fail
          go_ret
          exact ⟨rfl, HB4.out.trans (HB5.out.mono HB4.out.size)⟩
        | some x =>
          go_wp2_with fail
          have e0 : (min (len0 : Int) 60).toNat = k := by have := HMM.out; omega
          rw [e0]
          refine (same3_any v _ ps _ HV.out HSL.out).mono ?_
          rintro e w4 ⟨rfl, hb⟩
          have hB4 := HB3.out.trans (hb.mono HB3.out.size)
          have HB4 := Lib.hid hB4; clear hB4 hb
          go_wp2_with fail
          refine (awake3_any _).mono ?_
          rintro e w5 ⟨rfl, hb⟩
          have HB5 := Lib.hid hb; clear hb
          go_wp2_with fail
          go_ret
          exact ⟨rfl, HB4.out.trans (HB5.out.mono HB4.out.size)⟩
end Go.Proofs.Ytdoaajjmibkfeaa.frameBack
