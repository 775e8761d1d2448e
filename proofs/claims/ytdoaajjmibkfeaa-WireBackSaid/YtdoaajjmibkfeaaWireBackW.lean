/-
  The walk over WireBack.
-/
import Derived.Test.YtdoaajjmibkfeaaWireBackP
import Derived.StillTailTactics
import Derived.Deep.RegionWith
namespace Go.Proofs.Ytdoaajjmibkfeaa.wireBack
open Go.RowKit PlainP WireP
set_option linter.unusedVariables false

/-- the region's worlds: the thing lies there -/
def Both (w wr : World) (kind width : Int) (n : Nat) (t : ByteArray) (W : World) : Prop :=
  Below w.heap.size w W ∧ Blk W wr.heap.size 64 #[.int .i64 kind, .int .i64 width, .int .u64 n, .string t]

def Both2 (w wr : World) (g : Nat) (u : ByteArray) (kind width : Int) (n : Nat) (t : ByteArray) (W : World) : Prop :=
  Below w.heap.size w W ∧ Blk W wr.heap.size 64 #[.int .i64 kind, .int .i64 width, .int .u64 n, .string t] ∧ Blk W g 78 #[.string u]

set_option maxRecDepth 100000 in
set_option maxHeartbeats 1000000 in
theorem walk (a0 : Option Addr) (len0 cap0 : Nat) (w : World) (w0 : Recs [some .i64, some .i64, some .u64, none] w a0 len0 cap0) :
    Calls Try.prog 9 #[.slice a0 len0 cap0] w fun e w' => e = .returned (.bool true) ∧ Below w.heap.size w w' := by
  have hcap := w0.len_le
  unfold maxLen at hcap
  obtain ⟨L0, hL0, hT0⟩ := things_of w0
  clear w0
  obtain ⟨L, m, hL, hm, hm3, hml, hT⟩ : ∃ (L : List Thing) (m : Nat), L.length = m ∧ m ≤ 300 ∧ (m = 300 ∨ m = len0) ∧ m ≤ len0 ∧ ∀ i x, L[i]? = some x → ThingAt w a0 i x := by
    refine ⟨L0.take 300, min 300 len0, by rw [List.length_take, hL0], by omega, by omega, by omega, fun i x h => hT0 i x ?_⟩
    rw [List.getElem?_take] at h
    split at h
    · exact h
    · cases h
  clear hL0 hT0 L0
  have hzs : ∀ x ∈ L, x.t.size ≤ 140737488351232 := fun x hx => by
    obtain ⟨i, hi⟩ := List.getElem?_of_mem hx
    exact (hT i x hi).t
  have HL := Lib.hid hL; clear hL
  have HT := Lib.hid hT; clear hT
  have HZ := Lib.hid hzs; clear hzs
  go_enter Try.func9, Try.ntmps9
  go_wp2_with fail
  go_loopw [3, 4] (fun v i wr => ∃ (s : ByteArray) (k : Nat), v = .string s ∧ i = .int .i64 k ∧ k ≤ m ∧ Hid (Below w.heap.size w wr ∧ nats s = laidAll (L.take k))) (fun _ i _ => m - (intOf i).toNat)
  case atStart => exact ⟨⟨#[]⟩, 0, rfl, rfl, by omega, Below.refl _ _, rfl⟩
  case round =>
    obtain ⟨s, k, rfl, rfl, hk, H⟩ := hrel
    have hss : s.size ≤ 50000000000000000 := by
      rw [← nats_length, H.out.2]
      exact laid_small_take L HZ.out (by rw [HL.out]; exact hm) k
    go_upto_region 3 with (fail)
    go_cut [25] from 18 to 25 (fun v wx => v = .bool (decide (k < m)) ∧ wx = wr)
    case first =>
      by_cases h0 : k < len0
      · by_cases h3 : k < 300
        · go_wp2_with fail
          go_meet
          case rel => exact ⟨by rw [decide_eq_true (show k < m by omega), decide_eq_true (by omega)], rfl⟩
        · have hd : decide ((k : Int) < 300) = false := decide_eq_false (by omega)
          go_wp2_with fail
          go_meet
          case rel => exact ⟨by rw [decide_eq_false (show ¬ k < m by omega)], rfl⟩
      · go_wp2_with fail
        go_meet
        case rel => exact ⟨by rw [decide_eq_false (show ¬ k < m by omega)], rfl⟩
    case rest =>
    obtain ⟨rfl, rfl⟩ := hcut
    by_cases hlt : k < m
    · rw [decide_eq_true hlt]
      obtain ⟨x, hx⟩ : ∃ x, L[k]? = some x := ⟨_, List.getElem?_eq_getElem (by rw [HL.out]; exact hlt)⟩
      have hlt0 : k < len0 := by omega
      have hlt3 : k < 300 := by omega
      have hat := HT.out k x hx
      obtain ⟨b, off, rfl, hbl, hc⟩ := hat.at_
      obtain ⟨c0, c1, c2, c3⟩ := hc wc H.out.1
      have hn := Lib.hid hat.n
      have ht := hat.t
      have hbd := tmod_bd x.kind 3 (by omega)
      have HX := Lib.hid hx; clear hx
      have HAT := Lib.hid hat; clear hat hc
      obtain ⟨kind, width, n, t⟩ := x
      dsimp only at c0 c1 c2 c3 hn ht hbd
      have hbs : Below w.heap.size w (wc.alloc (.cells #[.int .i64 kind, .int .i64 width, .int .u64 n, .string t] 64)) ∧ Blk (wc.alloc (.cells #[.int .i64 kind, .int .i64 width, .int .u64 n, .string t] 64)) wc.heap.size 64 #[.int .i64 kind, .int .i64 width, .int .u64 n, .string t] := ⟨H.out.1.alloc H.out.1.size _, Blk.new wc _ _⟩
      have HS := Lib.hid hbs; clear hbs
      have hsz := H.out.1.size
      by_cases h1 : kind.tmod 3 = 1
      · have f1 : (kind.tmod 3 == 1) = true := beq_iff_eq.2 h1
        have H1 := Lib.hid h1; clear h1 hbd
        have hwd := wdt_bd width
        obtain ⟨hfv, hlaid⟩ := laid_fix ⟨kind, width, n, t⟩ s _ H.out.2 H1.out
        have hcn := cutN_lt n (wdt width) hn.out
        dsimp only at hfv hlaid
        have HCN := Lib.hid hcn; clear hcn
        have HLA := Lib.hid hlaid; clear hlaid
        have hw1 := fun (W : World) (hS : Both w wc kind width n t W) => (width_any width W).mono fun e w' ⟨he, hw⟩ => (⟨he, by rw [← hw]; exact hS⟩ : _ ∧ Both w wc kind width n t w')
        have hw2 := fun (W : World) (hS : Both w wc kind width n t W) => (cut_any n (wdt width) W hwd.1 hwd.2).mono fun e w' ⟨he, hw⟩ => (⟨he, by rw [← hw]; exact hS⟩ : _ ∧ Both w wc kind width n t w')
        have hw3 := fun (W : World) (hS : Both w wc kind width n t W) => (putFixed_any s (cutN n (wdt width)) (wdt width) W (by omega) HCN.out (by omega) (by omega)).mono fun e w' ⟨he, hb⟩ => (⟨he, hS.1.trans (hb.mono hS.1.size), hS.2.below hb hS.2.lt⟩ : _ ∧ Both w wc kind width n t w')
        rw [hfv] at hw3
        clear hfv
        generalize hq : s ++ mkS (be (wdt width) (cutN n (wdt width))) = q at *
        have HQ := Lib.hid hq; clear hq
        have HW1 := Lib.hid hw1; clear hw1
        have HW2 := Lib.hid hw2; clear hw2
        have HW3 := Lib.hid hw3; clear hw3
        have e1 : ∀ y : GoodW (Both w wc kind width n t), y.w.cell? ⟨wc.heap.size, 1, none⟩ = some (.int .i64 width) := fun y => by rw [y.h.2.cell]; rfl
        have e2 : ∀ y : GoodW (Both w wc kind width n t), y.w.cell? ⟨wc.heap.size, 2, none⟩ = some (.int .u64 n) := fun y => by rw [y.h.2.cell]; rfl
        go_wp2_with fail
        refine wp_region_good (S := Both w wc kind width n t) (by kernel_rfl) (by kernel_rfl) ⟨HS.out.1.drew, HS.out.2.drew⟩ ?_
        haveI : Nonempty (GoodW (Both w wc kind width n t)) := ⟨⟨_, HS.out⟩⟩
        repeat (go_big_quiet_step ((first
          | (go_at_call 41; exact good_of _ (HW1.out _ (GoodW.h _)))
          | (go_at_call 40; exact good_of _ (HW2.out _ (GoodW.h _)))
          | (go_at_call 28; exact good_of _ (HW3.out _ (GoodW.h _))))))
        refine wpQuiet_nil ?_
        rintro wd ⟨⟨wd', hS⟩, rfl⟩
        have HS2 := Lib.hid hS; clear hS
        go_wp2_with fail
        go_roundw
        case rel => exact ⟨q, k + 1, rfl, by go_num, by omega, HS2.out.1, by rw [laidAll_take L k _ HX.out]; exact HLA.out⟩
        case measure => simp [intOf]; omega
      · have f1 : (kind.tmod 3 == 1) = false := beq_eq_false_iff_ne.2 h1
        by_cases h2 : kind.tmod 3 = 2
        · have f2 : (kind.tmod 3 == 2) = true := beq_iff_eq.2 h2
          have hlaid := laid_text ⟨kind, width, n, t⟩ s _ H.out.2 ht h2
          dsimp only at hlaid
          have HLA := Lib.hid hlaid; clear hlaid
          have H1 := Lib.hid h1; clear h1 hbd h2
          go_wp2_with fail
          refine (putText_any s t _ (by omega) (by omega)).mono ?_
          rintro e w1 ⟨rfl, hb⟩
          generalize s ++ mkS (put t.size) ++ t = q at *
          have HB := Lib.hid hb; clear hb
          go_wp2_with fail
          go_roundw
          case rel => exact ⟨q, k + 1, rfl, by go_num, by omega, HS.out.1.trans (HB.out.mono HS.out.1.size), by rw [laidAll_take L k _ HX.out]; exact HLA.out⟩
          case measure => simp [intOf]; omega
        · have f2 : (kind.tmod 3 == 2) = false := beq_eq_false_iff_ne.2 h2
          have hlaid := laid_put ⟨kind, width, n, t⟩ s _ H.out.2 hn.out h1 h2
          dsimp only at hlaid
          have HLA := Lib.hid hlaid; clear hlaid
          have H1 := Lib.hid h1; clear h1 hbd h2
          go_wp2_with fail
          refine (put_any s n _ (by omega) hn.out).mono ?_
          rintro e w1 ⟨rfl, hb⟩
          generalize s ++ mkS (put n) = q at *
          have HB := Lib.hid hb; clear hb
          go_wp2_with fail
          go_roundw
          case rel => exact ⟨q, k + 1, rfl, by go_num, by omega, HS.out.1.trans (HB.out.mono HS.out.1.size), by rw [laidAll_take L k _ HX.out]; exact HLA.out⟩
          case measure => simp [intOf]; omega
    · obtain rfl : k = m := by omega
      rw [decide_eq_false (by omega)]
      go_wp2_with fail
      have hLk : L.take k = L := by rw [← HL.out]; exact List.take_length
      have hu0 : nats s = laidAll (L.drop 0) := by rw [H.out.2, hLk, List.drop_zero]
      refine (wnew_any s wc).mono ?_
      rintro e w1 ⟨rfl, rfl⟩
      have hB1 : Below w.heap.size w (wc.alloc (.cells #[.string s] 78)) := H.out.1.alloc H.out.1.size _
      have hR1 := Blk.new wc 78 #[.string s]
      have hgw : w.heap.size ≤ wc.heap.size := H.out.1.size
      generalize wc.alloc (.cells #[.string s] 78) = W1 at *
      generalize wc.heap.size = g at *
      have HB1 := Lib.hid hB1; clear hB1
      have HR1 := Lib.hid hR1; clear hR1
      have HU0 := Lib.hid hu0; clear hu0 hLk
      go_wp2_with fail
      go_loopw [9] (fun i wr => ∃ j : Nat, i = .int .i64 j ∧ j ≤ k ∧ Hid (Below w.heap.size w wr ∧ ∃ u, Blk wr g 78 #[.string u] ∧ nats u = laidAll (L.drop j))) (fun i _ => k - (intOf i).toNat)
      case atStart => exact ⟨0, rfl, by omega, HB1.out, s, HR1.out, HU0.out⟩
      case round =>
        obtain ⟨j, rfl, hj, HJ⟩ := hrel
        obtain ⟨hBj, u, hRj, huj⟩ := HJ.out
        have huu : u.size ≤ 50000000000000000 := by
          rw [← nats_length, huj]
          exact laid_small_drop L HZ.out (by rw [HL.out]; exact hm) j
        have HBJ := Lib.hid hBj; clear hBj
        have HRJ := Lib.hid hRj; clear hRj
        have HUJ := Lib.hid huj; clear huj HJ
        go_upto_region 17 with (fail)
        go_cut [73] from 66 to 73 (fun v wx => v = .bool (decide (j < k)) ∧ wx = wr)
        case first =>
          by_cases h0 : j < len0
          · by_cases h3 : j < 300
            · go_wp2_with fail
              go_meet
              case rel => exact ⟨by rw [decide_eq_true (show j < k by omega), decide_eq_true (by omega)], rfl⟩
            · have hd : decide ((j : Int) < 300) = false := decide_eq_false (by omega)
              go_wp2_with fail
              go_meet
              case rel => exact ⟨by rw [decide_eq_false (show ¬ j < k by omega)], rfl⟩
          · go_wp2_with fail
            go_meet
            case rel => exact ⟨by rw [decide_eq_false (show ¬ j < k by omega)], rfl⟩
        case rest =>
        obtain ⟨rfl, rfl⟩ := hcut
        by_cases hjk : j < k
        · rw [decide_eq_true hjk]
          obtain ⟨x, hx⟩ : ∃ x, L[j]? = some x := ⟨_, List.getElem?_eq_getElem (by rw [HL.out]; exact hjk)⟩
          have hat := HT.out j x hx
          obtain ⟨b, off, rfl, hbl, hc⟩ := hat.at_
          obtain ⟨c0, c1, c2, c3⟩ := hc wc HBJ.out
          have hn := Lib.hid hat.n
          have ht := hat.t
          have hbd := tmod_bd x.kind 3 (by omega)
          have hj0 : j < len0 := by omega
          have hnext := laidAll_drop L j x hx
          rw [← HUJ.out] at hnext
          have HN := Lib.hid hnext; clear hnext
          have HX := Lib.hid hx; clear hx
          have HAT := Lib.hid hat; clear hat hc
          obtain ⟨kind, width, n, t⟩ := x
          dsimp only at c0 c1 c2 c3 hn ht hbd
          have hbs : Both2 w wc g u kind width n t (wc.alloc (.cells #[.int .i64 kind, .int .i64 width, .int .u64 n, .string t] 64)) := ⟨HBJ.out.alloc HBJ.out.size _, Blk.new wc _ _, HRJ.out.alloc _⟩
          have HS := Lib.hid hbs; clear hbs
          have hsz := HBJ.out.size
          have hgl := HRJ.out.lt
          by_cases h1 : kind.tmod 3 = 1
          · have f1 : (kind.tmod 3 == 1) = true := beq_iff_eq.2 h1
            have hwd := wdt_bd width
            have hcn := cutN_lt n (wdt width) hn.out
            have hfb := fix_back u (cutN n (wdt width)) (wdt width) (laidAll (L.drop (j + 1))) (by rw [HN.out, laid, if_pos h1]) hwd.1 hwd.2 (cutN_fits _ _) hcn
            have H1 := Lib.hid h1; clear h1 hbd
            have hw1 := fun (W : World) (u' : ByteArray) (hS : Both2 w wc g u' kind width n t W) => (width_any width W).mono fun e w' ⟨he, hw⟩ => (⟨he, by rw [← hw]; exact hS⟩ : _ ∧ Both2 w wc g u' kind width n t w')
            have hw2 := fun (W : World) (u' : ByteArray) (hS : Both2 w wc g u' kind width n t W) => (cut_any n (wdt width) W hwd.1 hwd.2).mono fun e w' ⟨he, hw⟩ => (⟨he, by rw [← hw]; exact hS⟩ : _ ∧ Both2 w wc g u' kind width n t w')
            obtain ⟨hfv, hfr⟩ := hfb
            have hfx := fun (W : World) (hS : Both2 w wc g u kind width n t W) => fixed_any g u (wdt width : Nat) W hS.2.2 (by omega)
            rw [hfv] at hfx
            clear hfv
            generalize fixRest u (wdt width : Nat) = u2 at *
            generalize cutN n (wdt width) = c at *
            have HFX := Lib.hid hfx; clear hfx
            have hdd : ((c : Int) != (c : Int)) = false := by simp
            have HFR := Lib.hid hfr; clear hfr
            have HCN := Lib.hid hcn; clear hcn
            have HW1 := Lib.hid hw1; clear hw1
            have HW2 := Lib.hid hw2; clear hw2
            go_wp2_with fail
            refine (HW1.out _ u HS.out).mono ?_
            rintro e w2 ⟨rfl, hS2⟩
            have HS2 := Lib.hid hS2; clear hS2
            go_wp2_with fail
            refine (HFX.out _ HS2.out).mono ?_
            rintro e w3 ⟨rfl, hg3, hb3⟩
            have hS3 : Both2 w wc g u2 kind width n t w3 := ⟨below_of_only HS2.out.1 hg3 HS2.out.1.size hgw, HS2.out.2.1.grown hg3 (by simp; omega), hb3⟩
            have HS3 := Lib.hid hS3; clear hS3 hg3 hb3
            have e1 : ∀ y : GoodW (Both2 w wc g u2 kind width n t), y.w.cell? ⟨wc.heap.size, 1, none⟩ = some (.int .i64 width) := fun y => by rw [y.h.2.1.cell]; rfl
            have e2 : ∀ y : GoodW (Both2 w wc g u2 kind width n t), y.w.cell? ⟨wc.heap.size, 2, none⟩ = some (.int .u64 n) := fun y => by rw [y.h.2.1.cell]; rfl
            go_wp2_with fail
            refine wp_region_good (S := Both2 w wc g u2 kind width n t) (by kernel_rfl) (by kernel_rfl) ⟨HS3.out.1.drew, HS3.out.2.1.drew, HS3.out.2.2.drew⟩ ?_
            haveI : Nonempty (GoodW (Both2 w wc g u2 kind width n t)) := ⟨⟨_, HS3.out⟩⟩
            repeat (go_big_quiet_step ((first
              | (go_at_call 41; exact good_of _ (HW1.out _ _ (GoodW.h _)))
              | (go_at_call 40; exact good_of _ (HW2.out _ _ (GoodW.h _))))))
            refine wpQuiet_nil ?_
            rintro wd ⟨⟨wd', hS⟩, rfl⟩
            have HS4 := Lib.hid hS; clear hS
            go_wp2_with fail
            go_roundw
            case rel => exact ⟨j + 1, by go_num, by omega, HS4.out.1, u2, HS4.out.2.2, HFR.out⟩
            case measure => simp [intOf]; omega
          · have f1 : (kind.tmod 3 == 1) = false := beq_eq_false_iff_ne.2 h1
            by_cases h2 : kind.tmod 3 = 2
            · have f2 : (kind.tmod 3 == 2) = true := beq_iff_eq.2 h2
              have htb := text_back u t (laidAll (L.drop (j + 1))) (by rw [HN.out, laid, if_neg h1, if_pos h2]) (Nat.lt_of_le_of_lt ht (by decide))
              obtain ⟨htv, htr⟩ := htb
              have htx := text_any g u t.size (wc.alloc (.cells #[.int .i64 kind, .int .i64 width, .int .u64 n, .string t] 64)) HS.out.2.2 (by omega) (by omega)
              generalize textRest u (t.size : Nat) = u2 at *
              rw [htv] at htx
              have HTX := Lib.hid htx; clear htx htv
              have HTR := Lib.hid htr; clear htr
              have H1 := Lib.hid h1; clear h1 hbd h2
              go_wp2_with fail
              refine HTX.out.mono ?_
              rintro e w2 ⟨rfl, hg2, hb2⟩
              have hS2 : Both2 w wc g u2 kind width n t w2 := ⟨below_of_only HS.out.1 hg2 HS.out.1.size hgw, HS.out.2.1.grown hg2 (by simp; omega), hb2⟩
              have HS2 := Lib.hid hS2; clear hS2 hg2 hb2
              have d3 : w2.cell? ⟨wc.heap.size, 3, none⟩ = some (.string t) := by rw [HS2.out.2.1.cell]; rfl
              go_wp2_with fail
              go_roundw
              case rel => exact ⟨j + 1, by go_num, by omega, HS2.out.1, u2, HS2.out.2.2, HTR.out⟩
              case measure => simp [intOf]; omega
            · have f2 : (kind.tmod 3 == 2) = false := beq_eq_false_iff_ne.2 h2
              have hub := uint_back u n (laidAll (L.drop (j + 1))) (by rw [HN.out, laid, if_neg h1, if_neg h2]) hn.out
              obtain ⟨hus, hur, huz⟩ := hub
              have hl1 := left_any g u (wc.alloc (.cells #[.int .i64 kind, .int .i64 width, .int .u64 n, .string t] 64)) HS.out.2.2
              have hux := uint_any g u (wc.alloc (.cells #[.int .i64 kind, .int .i64 width, .int .u64 n, .string t] 64)) HS.out.2.2 (by omega)
              generalize restU u (short (nats u)) = u2 at *
              rw [hus] at hux
              simp only [uintV] at hux
              have hlen := fun W => len_any n W hn.out
              have hdd : ((u.size : Int) - (u2.size : Int) != ((put n).length : Int)) = false := by
                rw [bne_eq_false_iff_eq]; omega
              have hu2 : u2.size ≤ u.size := by omega
              generalize (put n).length = q at *
              have HUX := Lib.hid hux; clear hux hus
              have HL1 := Lib.hid hl1; clear hl1
              have HLN := Lib.hid hlen; clear hlen
              have HUR := Lib.hid hur; clear hur huz
              have H1 := Lib.hid h1; clear h1 hbd h2
              go_wp2_with fail
              refine HL1.out.mono ?_
              rintro e w2 ⟨rfl, rfl⟩
              go_wp2_with fail
              refine HUX.out.mono ?_
              rintro e w2 ⟨rfl, hg2, hb2⟩
              have hS2 : Both2 w wc g u2 kind width n t w2 := ⟨below_of_only HS.out.1 hg2 HS.out.1.size hgw, HS.out.2.1.grown hg2 (by simp; omega), hb2⟩
              have HS2 := Lib.hid hS2; clear hS2 hg2 hb2
              have d2 : w2.cell? ⟨wc.heap.size, 2, none⟩ = some (.int .u64 n) := by rw [HS2.out.2.1.cell]; rfl
              go_wp2_with fail
              refine (left_any g u2 w2 HS2.out.2.2).mono ?_
              rintro e w3 ⟨rfl, rfl⟩
              go_wp2_with fail
              refine (HLN.out _).mono ?_
              rintro e w3 ⟨rfl, rfl⟩
              go_wp2_with fail
              go_roundw
              case rel => exact ⟨j + 1, by go_num, by omega, HS2.out.1, u2, HS2.out.2.2, HUR.out⟩
              case measure => simp [intOf]; omega
        · have hj2 : L.drop j = [] := List.drop_eq_nil_of_le (by rw [HL.out]; omega)
          have hu0 : nats u = [] := by rw [HUJ.out, hj2]; rfl
          have hus : u.size = 0 := by rw [← nats_length, hu0]; rfl
          rw [decide_eq_false (by omega)]
          have HRU := HRJ.out
          have hen := end_any g u wc HRU
          have hle := left_any g u wc HRU
          have haw := awake_any wc
          rw [if_pos hus] at hen
          rw [hus] at hle
          clear HRU hu0 hj2
          have HEN := Lib.hid hen; clear hen
          have HLE := Lib.hid hle; clear hle
          have HAW := Lib.hid haw; clear haw
          have HUS := Lib.hid hus; clear hus
          go_wp2_with fail
          refine HEN.out.mono ?_
          rintro e w2 ⟨rfl, rfl⟩
          go_wp2_with fail
          refine HLE.out.mono ?_
          rintro e w2 ⟨rfl, rfl⟩
          go_wp2_with fail
          refine HAW.out.mono ?_
          rintro e w2 ⟨rfl, hb2⟩
          have HB2 := Lib.hid hb2; clear hb2
          go_wp2_with fail
          go_ret
          exact ⟨rfl, HBJ.out.trans (HB2.out.mono HBJ.out.size)⟩
end Go.Proofs.Ytdoaajjmibkfeaa.wireBack
