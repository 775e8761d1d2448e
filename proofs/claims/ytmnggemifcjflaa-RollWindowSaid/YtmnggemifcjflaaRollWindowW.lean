/-
  The walk over RollWindow.
-/
import Derived.Test.YtmnggemifcjflaaRollW3
import Derived.Deep.LoopGhost
import Derived.Deep.DeepCutAuto
import Derived.Deep.RegionWith
import Derived.Deep.CutRange
namespace Go.Proofs.Ytmnggemifcjflaa.rollWindow
open Go.RowKit PlainP RollP
set_option linter.unusedVariables false

/-- what holds of both rolls between the regions -/
def Both (w : World) (N A B : Nat) (la lb : List Nat) (W : World) : Prop := N ≤ W.heap.size ∧ Below w.heap.size w W ∧ RollAt W A la ∧ RollAt W B lb
theorem Both.drewN {w W : World} {N A B : Nat} {la lb : List Nat} (h : Both w N A B la lb W) (n : Nat) : Both w N A B la lb (W.drewN n) :=
  ⟨h.1, below_drewN h.2.1 n, h.2.2.1, h.2.2.2⟩
theorem Both.below {w W W' : World} {N A B : Nat} {la lb : List Nat} (h : Both w N A B la lb W) (hb : Below W.heap.size W W') (hw : w.heap.size ≤ W.heap.size) : Both w N A B la lb W' :=
  ⟨Nat.le_trans h.1 hb.size, h.2.1.trans (hb.mono hw), h.2.2.1.grown (only_of_below hb none) (by simp), h.2.2.2.grown (only_of_below hb none) (by simp)⟩
theorem digA {w : World} {N A B : Nat} {la lb : List Nat} (W : World) (h : Both w N A B la lb W) :
    Calls Try.prog 11 #[.pointer (some ⟨A, 0, none⟩)] W fun e w' => e = .returned (.int .u32 (dig la : Nat)) ∧ Both w N A B la lb w' :=
  (digest_any A la W h.2.2.1).mono fun e w' ⟨he, n, hw⟩ => ⟨he, by rw [hw]; exact h.drewN n⟩
theorem digB {w : World} {N A B : Nat} {la lb : List Nat} (W : World) (h : Both w N A B la lb W) :
    Calls Try.prog 11 #[.pointer (some ⟨B, 0, none⟩)] W fun e w' => e = .returned (.int .u32 (dig lb : Nat)) ∧ Both w N A B la lb w' :=
  (digest_any B lb W h.2.2.2).mono fun e w' ⟨he, n, hw⟩ => ⟨he, by rw [hw]; exact h.drewN n⟩
theorem digOf {w : World} {N A B : Nat} {la lb : List Nat} (s : ByteArray) (hs : s.size ≤ 9223372036854775807) (W : World) (h : Both w N A B la lb W) :
    Calls Try.prog 14 #[.string s] W fun e w' => e = .returned (.int .u32 (digS s : Nat)) ∧ Both w N A B la lb w' :=
  (of_any s W hs).mono fun e w' ⟨he, hb⟩ => ⟨he, h.below hb h.2.1.size⟩

def strLen : Value → Nat | .string t => t.size | _ => 0

set_option maxRecDepth 100000 in
set_option maxHeartbeats 1000000 in
theorem walk (ahead other s : ByteArray) (a0 : Option Addr) (len0 cap0 : Nat) (z0 : List Int) (w : World) (h1 : ahead.size ≤ maxLen) (h2 : other.size ≤ maxLen) (h3 : s.size ≤ maxLen) (w0 : IsRow .u8 w a0 len0 cap0 z0) :
    Calls Try.prog 4 #[.string ahead, .string other, .string s, .slice a0 len0 cap0] w fun e w' => e = .returned (.bool true) ∧ Below w.heap.size w w' := by
  unfold maxLen at h1 h2 h3
  have H0 := Lib.hid w0; clear w0
  go_enter Try.func4, Try.ntmps4
  go_wp2_with fail
  refine (awake_any _).mono ?_
  rintro e w1 ⟨rfl, hb1⟩
  go_wp2_with fail
  go_loop [2] (fun v => ∃ t : ByteArray, v = .string t ∧ t.size ≤ 9223372036854775807) (fun v => 64 - strLen v)
  case atStart => exact ⟨s, rfl, h3⟩
  case round =>
    obtain ⟨t, rfl, ht⟩ := hrel
    by_cases hlt : t.size < 64
    · go_wp2_with fail
      have hsz : (t ++ ⟨#[0]⟩ ++ t).size = t.size + 1 + t.size := by rw [ByteArray.size_append, ByteArray.size_append]; rfl
      go_round
      case rel => exact ⟨_, rfl, by rw [hsz]; omega⟩
      case measure => simp only [strLen]; rw [hsz]; omega
    · go_wp2_with fail
      refine (new_roll _).mono ?_
      rintro e wA ⟨WA, rfl, rfl, hgA, hltA, hrA⟩
      go_wp2_with fail
      refine (new_roll _).mono ?_
      rintro e wB ⟨WB, rfl, rfl, hgB, hltB, hrB⟩
      go_wp2_with fail
      have s1 := hb1.size
      have s2 := hgA.size
      have s3 := hgB.size
      have hB0 : Below w.heap.size w WB := (hb1.trans ((Below.refl _ _).grown hgA (Nat.le_refl _) (by simp) |>.mono s1)).trans ((Below.refl _ _).grown hgB (Nat.le_refl _) (by simp) |>.mono (by omega))
      have hrA2 := hrA.grown hgB (by simp)
      clear hgA hgB hb1 hrA
      refine (write_any _ _ _ _ hrA2 (by omega)).mono ?_
      rintro e w2 ⟨rfl, hg2, hr2⟩
      have hrB2 := hrB.grown hg2 (by simp; omega)
      have hB2 := below_of_only hB0 hg2 (by omega) (by omega)
      have hA2 := fresh_write hr2
      have s4 := hg2.size
      go_wp2_with fail
      refine (write_any _ _ _ _ hrB2 (by omega)).mono ?_
      rintro e w3 ⟨rfl, hg3, hr3⟩
      have hA3 := hA2.grown hg3 (by simp; omega)
      have hB3 := below_of_only hB2 hg3 (by omega) (by omega)
      have hR3 := fresh_write hr3
      have s5 := hg3.size
      clear hg3 hr3 hg2 hr2 hrB2 hB0 hB2 hA2 hrA2 hrB
      generalize w1.heap.size = A at *
      generalize WA.heap.size = B at *
      have HA := Lib.hid hA3; clear hA3
      have HB := Lib.hid hB3; clear hB3
      have HR := Lib.hid hR3; clear hR3
      have ht2 : 64 ≤ t.size := by omega
      clear hlt
      obtain ⟨N, hN⟩ : ∃ N, N = w3.heap.size := ⟨_, rfl⟩
      have hAB : A < B := by omega
      have hBN : B < N := by omega
      have hwA : w.heap.size ≤ A := by omega
      clear hltA hltB s1 s2 s3 s4 s5
      have HN := Lib.hid hN; clear hN
      go_wp2_with fail
      go_loopw [11, 12] (fun at_ i wr => ∃ a k : Nat, at_ = .int .i64 a ∧ i = .int .i64 k ∧ k ≤ a ∧ a ≤ t.size ∧ Hid (N ≤ wr.heap.size ∧ Below w.heap.size w wr ∧ RollAt wr A (win (nats ahead ++ (nats t).take a)) ∧ RollAt wr B (win (nats other ++ (nats t).take a)))) (fun at_ _ _ => t.size - (intOf at_).toNat)
      case atStart =>
        refine ⟨0, 0, rfl, rfl, Nat.le_refl _, Nat.zero_le _, ?_, HB.out, ?_, ?_⟩
        · rw [HN.out]; exact Nat.le_refl _
        · rw [List.take_zero, List.append_nil]; exact HA.out
        · rw [List.take_zero, List.append_nil]; exact HR.out
      case round =>
        obtain ⟨a, k, rfl, rfl, hka, hat, H⟩ := hrel
        by_cases hlt : a < t.size
        · go_upto_if 45 with (fail)
          go_cut [13] from 45 to 53 (fun v wx => ∃ m : Nat, v = .int .i64 m ∧ 1 ≤ m ∧ a + m ≤ t.size ∧ wx = wr)
          case first =>
            by_cases hk : k < len0
            · obtain ⟨cb, co, c, rfl, hlc, hcell, hcw⟩ := H0.out.at_ H.out.2.1 hk
              have hcb : 0 ≤ c ∧ c ≤ 255 := by simpa [Lit.wf, IntKind.min, IntKind.max, IntKind.signed, IntKind.bits] using hcw
              by_cases hmin : (t.size : Int) - a ≤ 1 + c
              · go_wp2_with fail
                go_meet
                case rel => exact ⟨t.size - a, by rw [Int.natCast_sub (by omega)], by omega, by omega, rfl⟩
              · go_wp2_with fail
                go_meet
                case rel => exact ⟨(1 + c).toNat, by rw [Int.toNat_of_nonneg (by omega)], by omega, by omega, rfl⟩
            · go_wp2_with fail
              go_meet
              case rel => exact ⟨t.size - a, by rw [Int.natCast_sub (by omega)], by omega, by omega, rfl⟩
          case rest =>
            obtain ⟨m, rfl, hm1, hm2, rfl⟩ := hcut
            obtain ⟨hN1, hbw, hra, hrb⟩ := H.out
            have hex : nats (t.extract a (a + m)) = ((nats t).drop a).take m := by rw [nats_extract]; congr 1; omega
            have hes : (t.extract a (a + m)).size = m := by rw [ByteArray.size_extract]; omega
            have HEX := Lib.hid hex; clear hex
            have HES := Lib.hid hes; clear hes
            have HRA := Lib.hid hra; clear hra
            have HRB := Lib.hid hrb; clear hrb
            have HBW := Lib.hid hbw; clear hbw
            go_wp2_with fail
            refine (write_any _ _ _ _ HRA.out (by rw [HES.out]; omega)).mono ?_
            rintro e w5 ⟨rfl, hg5, hr5⟩
            rw [← nats_length, HEX.out, win_app, List.append_assoc, take_cut] at hr5
            have hrb5 := HRB.out.grown hg5 (by simp; omega)
            have hbw5 := below_of_only HBW.out hg5 (by omega) hwA
            have hN5 := hg5.size
            have HR5 := Lib.hid hr5; clear hr5
            have HRB5 := Lib.hid hrb5; clear hrb5
            have HBW5 := Lib.hid hbw5; clear hbw5
            clear hg5
            go_wp2_with fail
            go_loopw [14] (fun v wr => ∃ j : Nat, v = .int .i64 j ∧ a ≤ j ∧ j ≤ a + m ∧ Hid (N ≤ wr.heap.size ∧ Below w.heap.size w wr ∧ RollAt wr A (win (nats ahead ++ (nats t).take (a + m))) ∧ RollAt wr B (win (nats other ++ (nats t).take j)))) (fun v _ => a + m - (intOf v).toNat)
            case atStart => exact ⟨a, rfl, Nat.le_refl _, by omega, by omega, HBW5.out, HR5.out, HRB5.out⟩
            case round =>
              obtain ⟨j, rfl, haj, hjm, HJ⟩ := hrel
              by_cases hjl : j < a + m
              · obtain ⟨x, hx⟩ : ∃ x, (nats t)[j]? = some x := ⟨_, List.getElem?_eq_getElem (by rw [nats_length]; omega)⟩
                have hxb : x < 256 := (nats_bytes t).get hx
                have hjt : j < t.size := by omega
                have hget : ((t[j]'hjt).toNat : Int) = (x : Int) := (PlainAid.get_bt t j hjt).trans (bt_nats t j x hx)
                have HX := Lib.hid hx; clear hx
                have HRJ := Lib.hid HJ.out.2.2.2
                go_wp2_with fail
                refine (add_any _ _ _ _ HRJ.out hxb).mono ?_
                rintro e w6 ⟨rfl, hg6, hr6⟩
                have hra6 := HJ.out.2.2.1.grown hg6 (by simp; omega)
                have hN6 := hg6.size
                rw [← win_snoc, List.append_assoc, ← take_succ _ _ _ HX.out] at hr6
                have hbw6 := below_of_only HJ.out.2.1 hg6 HJ.out.2.1.size (by omega)
                have hN7 := HJ.out.1
                go_wp2_with fail
                go_roundw
                case rel => exact ⟨j + 1, by go_num, by omega, by omega, Nat.le_trans HJ.out.1 hN6, hbw6, hra6, hr6⟩
                case measure => simp [intOf]; omega
              · obtain rfl : j = a + m := by omega
                go_upto_region 21 with (fail)
                go_cut [96] (fun v wx => v = .bool false ∧ Hid (N ≤ wx.heap.size ∧ Below w.heap.size w wx ∧ RollAt wx A (win (nats ahead ++ (nats t).take (a + m))) ∧ RollAt wx B (win (nats other ++ (nats t).take (a + m)))))
                case first =>
                  by_cases h64 : 64 ≤ a + m
                  · have hl : 64 ≤ ((nats t).take (a + m)).length := by rw [List.length_take, nats_length]; omega
                    obtain ⟨la, hla⟩ : ∃ la, la = win (nats ahead ++ (nats t).take (a + m)) := ⟨_, rfl⟩
                    obtain ⟨lb, hlb⟩ : ∃ lb, lb = win (nats other ++ (nats t).take (a + m)) := ⟨_, rfl⟩
                    have hQ : Both w N A B la lb wr := by rw [hla, hlb]; exact HJ.out
                    have ea : dig la = digS (t.extract 0 (a + m)) := by
                      rw [hla, win_append _ _ hl]; unfold digS
                      rw [nats_extract, List.drop_zero, Nat.sub_zero]
                    have eb : dig lb = digS (t.extract 0 (a + m)) := by
                      rw [hlb, win_append _ _ hl]; unfold digS
                      rw [nats_extract, List.drop_zero, Nat.sub_zero]
                    have hDA := digA (w := w) (N := N) (A := A) (B := B) (la := la) (lb := lb)
                    have hDB := digB (w := w) (N := N) (A := A) (B := B) (la := la) (lb := lb)
                    have hO := digOf (w := w) (N := N) (A := A) (B := B) (la := la) (lb := lb) (t.extract 0 (a + m)) (by rw [ByteArray.size_extract]; omega)
                    rw [ea] at hDA
                    rw [eb] at hDB
                    generalize digS (t.extract 0 (a + m)) = D at *
                    have HLA := Lib.hid hla; clear hla
                    have HLB := Lib.hid hlb; clear hlb
                    clear ea eb
                    have HDA := Lib.hid hDA; clear hDA
                    have HDB := Lib.hid hDB; clear hDB
                    have HO := Lib.hid hO; clear hO
                    have HQ := Lib.hid hQ; clear hQ
                    have hdd : ((D : Int) != (D : Int)) = false := by simp
                    have hge : decide ((64 : Int) ≤ (a : Int) + (m : Int)) = true := decide_eq_true (by omega)
                    refine wp_region_good (S := Both w N A B la lb) (by kernel_rfl) (by kernel_rfl) (HQ.out.drewN 1) ?_
                    haveI : Nonempty (GoodW (Both w N A B la lb)) := ⟨⟨_, HQ.out⟩⟩
                    repeat (go_big_quiet_step ((first
                      | (go_at_call_of 11 (Value.pointer (some (Addr.mk A 0 none))); exact good_of _ (HDA.out _ (GoodW.h _)))
                      | (go_at_call_of 11 (Value.pointer (some (Addr.mk B 0 none))); exact good_of _ (HDB.out _ (GoodW.h _)))
                      | (go_at_call 14; exact good_of _ (HO.out _ (GoodW.h _))))))
                    refine wpQuiet_nil ?_
                    rintro wd ⟨⟨wd', hS⟩, rfl⟩
                    go_wp2_with fail
                    go_meet
                    case rel =>
                      refine ⟨rfl, ?_⟩
                      rw [HLA.out, HLB.out] at hS
                      exact hS
                  · have hge : decide ((64 : Int) ≤ (a : Int) + (m : Int)) = false := decide_eq_false (by omega)
                    go_quiet (fail)
                    go_wp2_with fail
                    go_meet
                    case rel => exact ⟨rfl, Both.drewN HJ.out nq⟩
                case rest =>
                  obtain ⟨rfl, HC⟩ := hcut
                  go_wp2_with fail
                  go_roundw
                  case rel => exact ⟨a + m, k + 1, by go_num, by go_num, by omega, by omega, HC.out⟩
                  case measure => simp [intOf]; omega
        · obtain rfl : a = t.size := by omega
          obtain ⟨la, hla⟩ : ∃ la, la = win (nats ahead ++ (nats t).take t.size) := ⟨_, rfl⟩
          obtain ⟨lb, hlb⟩ : ∃ lb, lb = win (nats other ++ (nats t).take t.size) := ⟨_, rfl⟩
          have hQ : Both w N A B la lb wr := by rw [hla, hlb]; exact H.out
          have ea : dig la = digS (t.extract (t.size - 64) t.size) := by
            rw [List.take_of_length_le (by rw [nats_length]; omega)] at hla
            rw [hla, win_append _ _ (by rw [nats_length]; omega)]
            unfold digS
            rw [win_cut]
          have hDA := digA (w := w) (N := N) (A := A) (B := B) (la := la) (lb := lb)
          have hO := digOf (w := w) (N := N) (A := A) (B := B) (la := la) (lb := lb) (t.extract (t.size - 64) t.size) (by rw [ByteArray.size_extract]; omega)
          rw [ea] at hDA
          generalize digS (t.extract (t.size - 64) t.size) = D at *
          have HDA := Lib.hid hDA; clear hDA
          have HO := Lib.hid hO; clear hO
          have HQ := Lib.hid hQ; clear hQ
          clear ea hla hlb
          have hdd : ((D : Int) == (D : Int)) = true := by simp
          go_wp2_with fail
          refine wp_region_good (S := Both w N A B la lb) (by kernel_rfl) (by kernel_rfl) (HQ.out.drewN 1) ?_
          haveI : Nonempty (GoodW (Both w N A B la lb)) := ⟨⟨_, HQ.out⟩⟩
          repeat (go_big_quiet_step ((first
            | (go_at_call 11; exact good_of _ (HDA.out _ (GoodW.h _)))
            | (go_at_call 14; exact good_of _ (HO.out _ (GoodW.h _))))))
          refine wpQuiet_nil ?_
          rintro wd ⟨⟨wd', hS⟩, rfl⟩
          go_wp2_with fail
          go_ret
          exact ⟨rfl, hS.2.1⟩
end Go.Proofs.Ytmnggemifcjflaa.rollWindow
