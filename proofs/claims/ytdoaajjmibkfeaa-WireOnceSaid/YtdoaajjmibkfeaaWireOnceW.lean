/-
  The walk over WireOnce.
-/
import Derived.Test.YtdoaajjmibkfeaaWireOnceP
import Derived.Test.YtdoaajjmibkfeaaHexW2
import Derived.StillTailTactics
import Derived.Deep.RegionWith
import Derived.Deep.DeepCutAuto
import Derived.Deep.CutRange
import Derived.Deep.CutBlock
namespace Go.Proofs.Ytdoaajjmibkfeaa.wireOnce
open Go.RowKit PlainP WireP HexP
set_option linter.unusedVariables false

def At (w : World) (g : Nat) (s a : ByteArray) (W : World) : Prop := Below w.heap.size w W ∧ ∃ u, Blk W g 78 #[.string u] ∧ Split s a u

set_option maxRecDepth 100000 in
set_option maxHeartbeats 1000000 in
theorem walk (s : ByteArray) (a0 : Option Addr) (len0 cap0 : Nat) (w : World) (hs : s.size ≤ 140737488351232) (w0 : Recs [some .i64, some .i64, some .u64, none] w a0 len0 cap0) :
    Calls Try.prog 11 #[.string s, .slice a0 len0 cap0] w fun e w' => e = .returned (.bool true) ∧ Below w.heap.size w w' := by
  have hcap := w0.len_le
  unfold maxLen at hcap
  obtain ⟨L0, hL0, hT0⟩ := things_of w0
  clear w0
  obtain ⟨L, m, hL, hm, hm3, hml, hT⟩ : ∃ (L : List Thing) (m : Nat), L.length = m ∧ m ≤ 300 ∧ (m = 300 ∨ m = len0) ∧ m ≤ len0 ∧ ∀ i x, L[i]? = some x → ThingAt w a0 i x := by
    refine ⟨L0.take 300, min 300 len0, by rw [List.length_take, hL0], by omega, by omega, by omega, fun i x h => hT0 i x ?_⟩
    rw [List.getElem?_take] at h
    split at h
    · exact h
    · cases h
  clear hL0 hT0 L0
  have HL := Lib.hid hL; clear hL
  have HT := Lib.hid hT; clear hT
  go_enter Try.func11, Try.ntmps11
  go_wp2_with fail
  refine (wnew_any s w).mono ?_
  rintro e w1 ⟨rfl, rfl⟩
  have hB1 : Below w.heap.size w (w.alloc (.cells #[.string s] 78)) := (Below.refl _ _).alloc (Nat.le_refl _) _
  have hR1 := Blk.new w 78 #[.string s]
  generalize w.alloc (.cells #[.string s] 78) = W1 at *
  obtain ⟨g, hg⟩ : ∃ g, w.heap.size = g := ⟨_, rfl⟩
  have hA1 : At w g s ⟨#[]⟩ W1 := ⟨hB1, s, by rw [← hg]; exact hR1, Split.start s⟩
  have hgw : w.heap.size ≤ g := by omega
  rw [hg]
  clear hB1 hR1 hg
  have HA1 := Lib.hid hA1; clear hA1
  go_wp2_with fail
  go_loopw [6, 7] (fun v i wr => ∃ (a : ByteArray) (k : Nat), v = .string a ∧ i = .int .i64 k ∧ k ≤ m ∧ Hid (At w g s a wr)) (fun _ i _ => m - (intOf i).toNat)
  case atStart => exact ⟨⟨#[]⟩, 0, rfl, rfl, by omega, HA1.out⟩
  case round =>
    obtain ⟨a, k, rfl, rfl, hk, H⟩ := hrel
    go_upto_region 4 with (fail)
    go_cut [30] from 23 to 30 (fun v wx => v = .bool (decide (k < m)) ∧ wx = wr)
    case first =>
      by_cases h0 : k < len0
      · by_cases h3 : k < 300
        · go_wp2_with fail
          go_meet
          case rel => exact ⟨by rw [decide_eq_true (show k < m by omega), decide_eq_true (by omega)], rfl⟩
        · have hd : decide ((k : Int) < 300) = false := decide_eq_false (by omega)
          go_wp2_with fail
          go_meet
          case rel => exact ⟨by rw [decide_eq_false (show ¬ k < m by omega)], rfl⟩
      · go_wp2_with fail
        go_meet
        case rel => exact ⟨by rw [decide_eq_false (show ¬ k < m by omega)], rfl⟩
    case rest =>
    obtain ⟨rfl, rfl⟩ := hcut
    by_cases hlt : k < m
    · rw [decide_eq_true hlt]
      obtain ⟨x, hx⟩ : ∃ x, L[k]? = some x := ⟨_, List.getElem?_eq_getElem (by rw [HL.out]; exact hlt)⟩
      have hlt0 : k < len0 := by omega
      have hat := HT.out k x hx
      obtain ⟨b, off, rfl, hbl, hc⟩ := hat.at_
      obtain ⟨c0, c1, -, -⟩ := hc wc H.out.1
      have hbd := tmod_bd x.kind 3 (by omega)
      clear hx hat hc
      obtain ⟨kind, width, n, t⟩ := x
      dsimp only at c0 c1 hbd
      obtain ⟨hB, u, hR, hS⟩ := H.out
      have hsz := hS.size
      have hasz : a.size ≤ s.size := by omega
      have husz : u.size ≤ s.size := by omega
      have hgl := hR.lt
      have HB := Lib.hid hB; clear hB
      have HR := Lib.hid hR; clear hR
      have HS := Lib.hid hS; clear hS hsz
      clear H
      go_upto_block 2 with (fail)
      go_cut [6, 8, 9, 10, 11, 12, 13, 14, 15, 16] from 33 to 86 (fun v _ _ _ _ _ _ _ _ _ wx => ∃ a' : ByteArray, v = .string a' ∧ Hid (At w g s a' wx))
      case first =>
        have hwa := fun W => width_any width W
        have hwd := wdt_bd width
        generalize wdt width = wd at *
        have HWA := Lib.hid hwa; clear hwa
        by_cases h1 : kind.tmod 3 = 1
        · have f1 : (kind.tmod 3 == 1) = true := beq_iff_eq.2 h1
          have H1 := Lib.hid h1; clear h1 hbd
          by_cases hle : wd ≤ u.size
          · obtain ⟨q, hq, hfv, hpv, hsp⟩ := once_fix HS.out wd hwd.1 hwd.2 hle
            have hfx := fixed_any g u (wd : Nat) wc HR.out (by omega)
            rw [hfv] at hfx
            have hpx := fun W => putFixed_any a q (wd : Nat) W (by omega) hq (by omega) (by omega)
            rw [hpv] at hpx
            generalize fixRest u (wd : Nat) = u2 at *
            generalize a ++ mkS (be wd q) = a2 at *
            have HFX := Lib.hid hfx; clear hfx hfv
            have HPX := Lib.hid hpx; clear hpx hpv
            have HSP := Lib.hid hsp; clear hsp
            go_wp2_with fail
            refine (HWA.out _).mono ?_
            rintro e w2 ⟨rfl, rfl⟩
            go_wp2_with fail
            refine HFX.out.mono ?_
            rintro e w3 ⟨rfl, hg3, hb3⟩
            have hB3 : Below w.heap.size w w3 := below_of_only HB.out hg3 HB.out.size hgw
            have HB3 := Lib.hid hB3; clear hB3 hg3
            have HR3 := Lib.hid hb3; clear hb3
            go_wp2_with fail
            refine (HPX.out _).mono ?_
            rintro e w4 ⟨rfl, hb4⟩
            have hA4 : At w g s a2 w4 := ⟨HB3.out.trans (hb4.mono HB3.out.size), u2, HR3.out.below hb4 HR3.out.lt, HSP.out⟩
            have HA4 := Lib.hid hA4; clear hA4 hb4
            go_wp2_with fail
            go_meet
            case rel => exact ⟨a2, rfl, HA4.out⟩
          · obtain ⟨hfv, hfr⟩ := once_fix_no u wd hwd.1 hwd.2 hle
            have hfx := fixed_any g u (wd : Nat) wc HR.out (by omega)
            rw [hfv, hfr] at hfx
            have HFX := Lib.hid hfx; clear hfx hfv hfr
            go_wp2_with fail
            refine (HWA.out _).mono ?_
            rintro e w2 ⟨rfl, rfl⟩
            go_wp2_with fail
            refine HFX.out.mono ?_
            rintro e w3 ⟨rfl, hg3, hb3⟩
            have hA3 : At w g s a w3 := ⟨below_of_only HB.out hg3 HB.out.size hgw, u, hb3, HS.out⟩
            have HA3 := Lib.hid hA3; clear hA3 hg3 hb3
            go_wp2_with fail
            go_meet
            case rel => exact ⟨a, rfl, HA3.out⟩
        · have f1 : (kind.tmod 3 == 1) = false := beq_eq_false_iff_ne.2 h1
          by_cases h2 : kind.tmod 3 = 2
          · have f2 : (kind.tmod 3 == 2) = true := beq_iff_eq.2 h2
            have H1 := Lib.hid h1; clear h1 hbd h2
            have htx := text_any g u 1048576 wc HR.out (by omega) (by omega)
            cases htt : txt u 1048576 with
            | none =>
              obtain ⟨hfv, hfr⟩ := once_text_no u 1048576 htt
              have e0 : ((1048576 : Nat) : Int) = 1048576 := rfl
              rw [e0] at hfv hfr
              rw [hfv, hfr] at htx
              have HTX := Lib.hid htx; clear htx hfv hfr htt
              go_wp2_with fail
              refine HTX.out.mono ?_
              rintro e w3 ⟨rfl, hg3, hb3⟩
              have hA3 : At w g s a w3 := ⟨below_of_only HB.out hg3 HB.out.size hgw, u, hb3, HS.out⟩
              have HA3 := Lib.hid hA3; clear hA3 hg3 hb3
              go_wp2_with fail
              go_meet
              case rel => exact ⟨a, rfl, HA3.out⟩
            | some p =>
              obtain ⟨t2, hfv, htz, hsp⟩ := once_text HS.out 1048576 p.1 p.2 htt
              have e0 : ((1048576 : Nat) : Int) = 1048576 := rfl
              rw [e0] at hfv hsp
              rw [hfv] at htx
              have hpx := fun W => putText_any a t2 W (by omega) (by omega)
              generalize textRest u 1048576 = u2 at *
              generalize a ++ mkS (put t2.size) ++ t2 = a2 at *
              have HTX := Lib.hid htx; clear htx hfv htt
              have HPX := Lib.hid hpx; clear hpx
              have HSP := Lib.hid hsp; clear hsp
              go_wp2_with fail
              refine HTX.out.mono ?_
              rintro e w3 ⟨rfl, hg3, hb3⟩
              have hB3 : Below w.heap.size w w3 := below_of_only HB.out hg3 HB.out.size hgw
              have HB3 := Lib.hid hB3; clear hB3 hg3
              have HR3 := Lib.hid hb3; clear hb3
              go_wp2_with fail
              refine (HPX.out _).mono ?_
              rintro e w4 ⟨rfl, hb4⟩
              have hA4 : At w g s a2 w4 := ⟨HB3.out.trans (hb4.mono HB3.out.size), u2, HR3.out.below hb4 HR3.out.lt, HSP.out⟩
              have HA4 := Lib.hid hA4; clear hA4 hb4
              go_wp2_with fail
              go_meet
              case rel => exact ⟨a2, rfl, HA4.out⟩
          · have f2 : (kind.tmod 3 == 2) = false := beq_eq_false_iff_ne.2 h2
            have H1 := Lib.hid h1; clear h1 hbd h2
            have hux := uint_any g u wc HR.out (by omega)
            cases hss : short (nats u) with
            | none =>
              rw [hss] at hux
              simp only [uintV, restU] at hux
              have HUX := Lib.hid hux; clear hux hss
              go_wp2_with fail
              refine HUX.out.mono ?_
              rintro e w3 ⟨rfl, hg3, hb3⟩
              have hA3 : At w g s a w3 := ⟨below_of_only HB.out hg3 HB.out.size hgw, u, hb3, HS.out⟩
              have HA3 := Lib.hid hA3; clear hA3 hg3 hb3
              go_wp2_with fail
              go_meet
              case rel => exact ⟨a, rfl, HA3.out⟩
            | some p =>
              obtain ⟨q, j⟩ := p
              obtain ⟨hq, hsp⟩ := once_uint HS.out q j hss
              generalize restU u (short (nats u)) = u2 at *
              rw [hss] at hux
              simp only [uintV] at hux
              have hpx := fun W => put_any a q W (by omega) hq
              generalize a ++ mkS (put q) = a2 at *
              have HUX := Lib.hid hux; clear hux hss
              have HPX := Lib.hid hpx; clear hpx
              have HSP := Lib.hid hsp; clear hsp
              go_wp2_with fail
              refine HUX.out.mono ?_
              rintro e w3 ⟨rfl, hg3, hb3⟩
              have hB3 : Below w.heap.size w w3 := below_of_only HB.out hg3 HB.out.size hgw
              have HB3 := Lib.hid hB3; clear hB3 hg3
              have HR3 := Lib.hid hb3; clear hb3
              go_wp2_with fail
              refine (HPX.out _).mono ?_
              rintro e w4 ⟨rfl, hb4⟩
              have hA4 : At w g s a2 w4 := ⟨HB3.out.trans (hb4.mono HB3.out.size), u2, HR3.out.below hb4 HR3.out.lt, HSP.out⟩
              have HA4 := Lib.hid hA4; clear hA4 hb4
              go_wp2_with fail
              go_meet
              case rel => exact ⟨a2, rfl, HA4.out⟩
      case rest =>
      obtain ⟨a2, rfl, HA⟩ := hcut
      clear HB HR HS husz hgl hasz
      obtain ⟨hB, u2, hR, hS⟩ := HA.out
      have hsz := hS.size
      have hfr := hS.front
      have hsub : (s.size : Int) - (u2.size : Int) = (a2.size : Int) := by omega
      have hasz : a2.size ≤ s.size := by omega
      have husz : u2.size ≤ s.size := by omega
      have HAA := Lib.hid HA; clear HA
      have HB := Lib.hid hB; clear hB
      have hlf := left_any g u2 wc hR
      have HLF := Lib.hid hlf; clear hlf
      have HR := Lib.hid hR; clear hR
      have HS := Lib.hid hS; clear hS hsz
      go_wp2_with fail
      refine HLF.out.mono ?_
      rintro e wl ⟨rfl, rfl⟩
      go_wp2_with fail
      refine HLF.out.mono ?_
      rintro e wl ⟨rfl, rfl⟩
      go_wp2_with fail
      refine HLF.out.mono ?_
      rintro e wl ⟨rfl, rfl⟩
      go_wp2_with fail
      go_roundw
      case rel => exact ⟨a2, k + 1, rfl, by go_num, by omega, HAA.out⟩
      case measure => simp [intOf]; omega
    · obtain rfl : k = m := by omega
      rw [decide_eq_false (by omega)]
      have hh1 := fun W => hex_any s W (by omega)
      have hsz2 : (mkS (hexL (nats s))).size ≤ 281474976710656 := by rw [mkS_size, hexL_length, nats_length]; omega
      have hu1 := fun W => unhex_any (mkS (hexL (nats s))) W hsz2
      rw [once_hex, unhexV, mkS_nats] at hu1
      generalize mkS (hexL (nats s)) = q at *
      have hu2 := fun W => unhex_any s W (by omega)
      have HH1 := Lib.hid hh1; clear hh1
      have HU1 := Lib.hid hu1; clear hu1
      go_wp2_with fail
      refine (HH1.out _).mono ?_
      rintro e w2 ⟨rfl, hb2⟩
      have hB2 : Below w.heap.size w w2 := H.out.1.trans (hb2.mono H.out.1.size)
      have HB2 := Lib.hid hB2; clear hB2 hb2
      go_wp2_with fail
      refine (HU1.out _).mono ?_
      rintro e w3 ⟨rfl, hb3⟩
      have hB3 : Below w.heap.size w w3 := HB2.out.trans (hb3.mono HB2.out.size)
      have HB3 := Lib.hid hB3; clear hB3 hb3
      cases hun : unhexL (nats s) with
      | none =>
        rw [hun, unhexV] at hu2
        have HU2 := Lib.hid hu2; clear hu2 hun
        go_wp2_with fail
        refine (HU2.out _).mono ?_
        rintro e w4 ⟨rfl, hb4⟩
        have hB4 : Below w.heap.size w w4 := HB3.out.trans (hb4.mono HB3.out.size)
        have HB4 := Lib.hid hB4; clear hB4 hb4
        go_wp2_with fail
        refine (awake_any _).mono ?_
        rintro e w5 ⟨rfl, hb5⟩
        have hB5 : Below w.heap.size w w5 := HB4.out.trans (hb5.mono HB4.out.size)
        have HB5 := Lib.hid hB5; clear hB5 hb5
        go_wp2_with fail
        go_ret
        exact ⟨rfl, HB5.out⟩
      | some r =>
        obtain ⟨hx1, hx2⟩ := once_unhex s r hun
        rw [hun, unhexV] at hu2
        have hh2 := fun W => hex_any (mkS r) W (by omega)
        rw [hx1] at hh2
        generalize mkS r = r2 at *
        have HU2 := Lib.hid hu2; clear hu2 hun
        have HH2 := Lib.hid hh2; clear hh2 hx1
        go_wp2_with fail
        refine (HU2.out _).mono ?_
        rintro e w4 ⟨rfl, hb4⟩
        have hB4 : Below w.heap.size w w4 := HB3.out.trans (hb4.mono HB3.out.size)
        have HB4 := Lib.hid hB4; clear hB4 hb4
        go_wp2_with fail
        refine (HH2.out _).mono ?_
        rintro e w5 ⟨rfl, hb5⟩
        have hB5 : Below w.heap.size w w5 := HB4.out.trans (hb5.mono HB4.out.size)
        have HB5 := Lib.hid hB5; clear hB5 hb5
        go_wp2_with fail
        refine (awake_any _).mono ?_
        rintro e w6 ⟨rfl, hb6⟩
        have hB6 : Below w.heap.size w w6 := HB5.out.trans (hb6.mono HB5.out.size)
        have HB6 := Lib.hid hB6; clear hB6 hb6
        go_wp2_with fail
        go_ret
        exact ⟨rfl, HB6.out⟩
end Go.Proofs.Ytdoaajjmibkfeaa.wireOnce
