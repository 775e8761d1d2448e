/-
  The walk over RollRuns.
-/
import Derived.Test.YtmnggemifcjflaaRollW3
import Derived.Test.YtmnggemifcjflaaRecs
import Derived.StillTailTactics
import Derived.Deep.RegionWith
import Derived.Deep.DeepCutAuto
import Derived.Deep.CutRange
import Derived.Deep.CutBlock
namespace Go.Proofs.Ytmnggemifcjflaa.rollRuns
open Go.RowKit PlainP RollP
set_option linter.unusedVariables false

/-- both rolls, and both texts, in the blocks A, B, R, T -/
structure State (w : World) (A B R T : Nat) (la lb : List Nat) (s0 s1 : ByteArray) (W : World) : Prop where
  below : Below w.heap.size w W
  ra : RollAt W A la
  rb : RollAt W B lb
  br : Blk W R 25 #[.pointer (some ⟨A, 0, none⟩), .pointer (some ⟨B, 0, none⟩)]
  bt : Blk W T 26 #[.string s0, .string s1]

theorem State.drew {w : World} {A B R T : Nat} {la lb : List Nat} {s0 s1 : ByteArray} {W : World} (h : State w A B R T la lb s0 s1 W) : State w A B R T la lb s0 s1 W.drew :=
  ⟨h.below.drew, h.ra, h.rb, h.br.drew, h.bt.drew⟩
theorem State.drewN {w : World} {A B R T : Nat} {la lb : List Nat} {s0 s1 : ByteArray} {W : World} (h : State w A B R T la lb s0 s1 W) (n : Nat) : State w A B R T la lb s0 s1 (W.drewN n) :=
  ⟨below_drewN h.below n, h.ra, h.rb, h.br.drewN n, h.bt.drewN n⟩
theorem State.new {w : World} {A B R T : Nat} {la lb : List Nat} {s0 s1 : ByteArray} {W W' : World} (h : State w A B R T la lb s0 s1 W) (hb : Below W.heap.size W W') : State w A B R T la lb s0 s1 W' :=
  ⟨h.below.trans (hb.mono h.below.size), h.ra.grown (only_of_below hb none) (by simp), h.rb.grown (only_of_below hb none) (by simp), h.br.below hb h.br.lt, h.bt.below hb h.bt.lt⟩
theorem State.roll0 {w : World} {A B R T : Nat} {la lb la' : List Nat} {s0 s1 : ByteArray} {W W' : World} (h : State w A B R T la lb s0 s1 W) (hg : W.grownBy W' (some A)) (hr : RollAt W' A la')
    (h1 : w.heap.size ≤ A) (h2 : A < B) (h3 : B < R) (h4 : R < T) : State w A B R T la' lb s0 s1 W' :=
  ⟨below_of_only h.below hg h.below.size h1, hr, h.rb.grown hg (by simp; omega), h.br.grown hg (by simp; omega), h.bt.grown hg (by simp; omega)⟩
theorem State.roll1 {w : World} {A B R T : Nat} {la lb lb' : List Nat} {s0 s1 : ByteArray} {W W' : World} (h : State w A B R T la lb s0 s1 W) (hg : W.grownBy W' (some B)) (hr : RollAt W' B lb')
    (h1 : w.heap.size ≤ A) (h2 : A < B) (h3 : B < R) (h4 : R < T) : State w A B R T la lb' s0 s1 W' :=
  ⟨below_of_only h.below hg h.below.size (by omega), h.ra.grown hg (by simp; omega), hr, h.br.grown hg (by simp; omega), h.bt.grown hg (by simp; omega)⟩
theorem State.text {w : World} {A B R T i : Nat} {la lb : List Nat} {s0 s1 t0 t1 s : ByteArray} {W : World} (h : State w A B R T la lb s0 s1 W)
    (h1 : w.heap.size ≤ A) (h2 : A < B) (h3 : B < R) (h4 : R < T) (hi : (#[Value.string s0, .string s1] : Array Value).setIfInBounds i (.string s) = #[.string t0, .string t1]) : State w A B R T la lb t0 t1 (W.setCell ⟨T, i, none⟩ (.string s)) := by
  have hg : W.grownBy (W.setCell ⟨T, i, none⟩ (.string s)) (some T) := only_setCell (only_refl _ _) (.inl rfl) _
  refine ⟨below_of_only h.below hg h.below.size (by omega), h.ra.grown hg (by simp; omega), h.rb.grown hg (by simp; omega), h.br.grown hg (by simp; omega), ?_⟩
  have := h.bt.set_ i (.string s)
  rw [hi] at this
  exact this
theorem digA {w : World} {A B R T : Nat} {la lb : List Nat} {s0 s1 : ByteArray} (W : World) (h : State w A B R T la lb s0 s1 W) :
    Calls Try.prog 11 #[.pointer (some ⟨A, 0, none⟩)] W fun e w' => e = .returned (.int .u32 (dig la : Nat)) ∧ State w A B R T la lb s0 s1 w' :=
  (digest_any A la W h.ra).mono fun e w' ⟨he, n, hw⟩ => ⟨he, by rw [hw]; exact h.drewN n⟩
theorem digB {w : World} {A B R T : Nat} {la lb : List Nat} {s0 s1 : ByteArray} (W : World) (h : State w A B R T la lb s0 s1 W) :
    Calls Try.prog 11 #[.pointer (some ⟨B, 0, none⟩)] W fun e w' => e = .returned (.int .u32 (dig lb : Nat)) ∧ State w A B R T la lb s0 s1 w' :=
  (digest_any B lb W h.rb).mono fun e w' ⟨he, n, hw⟩ => ⟨he, by rw [hw]; exact h.drewN n⟩
theorem digOf {w : World} {A B R T : Nat} {la lb : List Nat} {s0 s1 : ByteArray} (s : ByteArray) (hs : s.size ≤ 9223372036854775807) (W : World) (h : State w A B R T la lb s0 s1 W) :
    Calls Try.prog 12 #[.string s] W fun e w' => e = .returned (.int .u32 (digS s : Nat)) ∧ State w A B R T la lb s0 s1 w' :=
  (ref_any s W hs).mono fun e w' ⟨he, hw⟩ => ⟨he, by rw [← hw]; exact h⟩
theorem win_str (s t : ByteArray) : (win (nats s) ++ nats t).drop t.size = win (nats (s ++ t)) := by
  rw [← nats_length, win_app, nats_append]

set_option maxRecDepth 100000 in
set_option maxHeartbeats 1000000 in
theorem walk (a0 : Option Addr) (len0 cap0 : Nat) (w : World) (w0 : Recs [some .i64, some .i64, some .u8, none] w a0 len0 cap0) :
    Calls Try.prog 3 #[.slice a0 len0 cap0] w fun e w' => e = .returned (.bool true) ∧ Below w.heap.size w w' := by
  have hcap := w0.len_le
  unfold maxLen at hcap
  have H0 := Lib.hid w0; clear w0
  have hz : ∀ W : World, (zeroValue 25).run Try.prog W = .ok (.agg #[.pointer none, .pointer none]) W := fun W => by kernel_rfl
  go_enter Try.func3, Try.ntmps3
  go_wp2_with fail
  refine (new_roll _).mono ?_
  rintro e wA ⟨WA, rfl, rfl, hgA, hltA, hrA⟩
  go_wp2_with fail
  refine (new_roll _).mono ?_
  rintro e wB ⟨WB, rfl, rfl, hgB, hltB, hrB⟩
  go_wp2_with fail
  have s1 := hgA.size
  have s2 := hgB.size
  have hrA2 := hrA.grown hgB (by simp)
  have hBw : Below w.heap.size w WB := ((Below.refl _ _).grown hgA (Nat.le_refl _) (by simp)).trans ((Below.refl _ _).grown hgB (Nat.le_refl _) (by simp) |>.mono s1)
  have hst : State w w.heap.size WA.heap.size WB.heap.size (WB.heap.size + 1) (win (nats ⟨#[]⟩)) (win (nats ⟨#[]⟩)) ⟨#[]⟩ ⟨#[]⟩ ((WB.alloc (.cells #[.pointer (some ⟨w.heap.size, 0, none⟩), .pointer (some ⟨WA.heap.size, 0, none⟩)] 25)).alloc (.cells #[.string ⟨#[]⟩, .string ⟨#[]⟩] 26)) := by
    refine ⟨(hBw.alloc (by omega) _).alloc (by simp; omega) _, ?_, ?_, (Blk.new WB _ _).alloc _, ?_⟩
    · exact hrA2.grown (only_alloc (only_alloc (only_refl _ none) _) _) (by simp)
    · exact hrB.grown (only_alloc (only_alloc (only_refl _ none) _) _) (by simp)
    · have := Blk.new (WB.alloc (.cells #[.pointer (some ⟨w.heap.size, 0, none⟩), .pointer (some ⟨WA.heap.size, 0, none⟩)] 25)) 26 #[.string ⟨#[]⟩, .string ⟨#[]⟩]
      rw [World.size_alloc] at this
      exact this
  clear hgA hgB hrA hrB hrA2 hBw
  have HS := Lib.hid hst; clear hst
  have hAB : w.heap.size < WA.heap.size := hltA
  have hBR : WA.heap.size < WB.heap.size := hltB
  clear hltA hltB s1 s2
  generalize hA : w.heap.size = A at *
  have HA := Lib.hid hA; clear hA
  generalize WA.heap.size = B at *
  generalize WB.heap.size = R at *
  have hwA : w.heap.size ≤ A := by rw [HA.out]; exact Nat.le_refl _
  go_loopw [5] (fun i wr => ∃ k : Nat, i = .int .i64 k ∧ k ≤ 300 ∧ Hid (∃ s0 s1, State w A B R (R + 1) (win (nats s0)) (win (nats s1)) s0 s1 wr ∧ s0.size ≤ 200 ∧ s1.size ≤ 200)) (fun i _ => 300 - (intOf i).toNat)
  case atStart => exact ⟨0, rfl, by omega, ⟨#[]⟩, ⟨#[]⟩, HS.out, by decide, by decide⟩
  case round =>
    obtain ⟨k, rfl, hk, H⟩ := hrel
    by_cases hlt : k < len0 ∧ k < 300
    · obtain ⟨hlt, hlt3⟩ := hlt
      obtain ⟨s0, s1, hst, hz0, hz1⟩ := H.out
      obtain ⟨b, off, rfl, hbl, hf⟩ := H0.out.at_ hst.below hlt
      obtain ⟨_, c0, kind, rfl, wk⟩ := hf 0 _ rfl
      obtain ⟨_, c1, who, rfl, ww⟩ := hf 1 _ rfl
      obtain ⟨_, c2, x, rfl, wx⟩ := hf 2 _ rfl
      obtain ⟨_, c3, s, rfl, ws⟩ := hf 3 _ rfl
      simp only [List.length_cons, List.length_nil, Nat.zero_add, Nat.reduceAdd, Nat.add_zero] at c0 c1 c2 c3
      clear hf
      have HST := Lib.hid hst; clear hst
      go_upto_if 33 with (fail)
      go_cut [6] (fun v w2 => ∃ q : Nat, v = .int .i64 q ∧ q < 2 ∧ w2 = wr)
      case first =>
        by_cases hw0 : who = 0
        · have hb : (who != 0) = false := by simp [hw0]
          go_wp2_with fail
          go_meet
          case rel => exact ⟨0, rfl, by omega, rfl⟩
        · have hb : (who != 0) = true := by simp [hw0]
          go_wp2_with fail
          go_meet
          case rel => exact ⟨1, rfl, by omega, rfl⟩
      case rest =>
        obtain ⟨q, rfl, hq, rfl⟩ := hcut
        go_upto_block 2 with (fail)
        go_cut [39] from 39 to 84 (fun v w2 => Hid (∃ s0 s1, State w A B R (R + 1) (win (nats s0)) (win (nats s1)) s0 s1 w2 ∧ s0.size ≤ 140737488355328 ∧ s1.size ≤ 140737488355328 ∧ (q = 0 → s1.size ≤ 200) ∧ (q = 1 → s0.size ≤ 200)))
        case first =>
          have r0 : wc.cell? ⟨R, 0, none⟩ = some (.pointer (some ⟨A, 0, none⟩)) := by rw [HST.out.br.cell]; rfl
          have r1 : wc.cell? ⟨R, 1, none⟩ = some (.pointer (some ⟨B, 0, none⟩)) := by rw [HST.out.br.cell]; rfl
          have t0 : wc.cell? ⟨R + 1, 0, none⟩ = some (.string s0) := by rw [HST.out.bt.cell]; rfl
          have t1 : wc.cell? ⟨R + 1, 1, none⟩ = some (.string s1) := by rw [HST.out.bt.cell]; rfl
          by_cases hk0 : kind = 0
          · have hb : (kind == 0) = true := by simp [hk0]
            clear hk0
            have hqq : q = 0 ∨ q = 1 := by omega
            rcases hqq with rfl | rfl
            · go_wp2_with fail
              go_still_tail 8, (by kernel_rfl)
              change wpList _ _ _ _ _ wc.drew
              go_wp2_with fail
              refine (write_any _ _ _ _ HST.out.drew.ra (by omega)).mono ?_
              rintro e w3 ⟨rfl, hg3, hr3⟩
              rw [win_str] at hr3
              have hs3 := HST.out.drew.roll0 hg3 hr3 hwA hAB hBR (by omega)
              have t0' : w3.cell? ⟨R + 1, 0, none⟩ = some (.string s0) := by rw [hs3.bt.cell]; rfl
              have f0' := hs3.bt.frozen 0
              have hsz3 : R + 1 < w3.heap.size := hs3.bt.lt
              have hbl3 : b < w3.heap.size := Nat.lt_of_lt_of_le hbl hs3.below.size
              have c3' : w3.cell? ⟨b, off + k * 4 + 3, none⟩ = some (.string s) := (hs3.below.cell (p := ⟨b, off + k * 4 + 3, none⟩) hbl).trans ((HST.out.below.cell (p := ⟨b, off + k * 4 + 3, none⟩) hbl).symm.trans c3)
              have HS3 := Lib.hid hs3; clear hs3 hg3 hr3
              go_wp2_with fail
              go_region
              go_wp2_with fail
              go_meet
              case rel => exact ⟨s0 ++ s, s1, (HS3.out.text hwA hAB hBR (by omega) rfl).drew, by rw [ByteArray.size_append]; omega, by omega, fun _ => by omega, fun h => by omega⟩
            · go_wp2_with fail
              go_still_tail 8, (by kernel_rfl)
              change wpList _ _ _ _ _ wc.drew
              go_wp2_with fail
              refine (write_any _ _ _ _ HST.out.drew.rb (by omega)).mono ?_
              rintro e w3 ⟨rfl, hg3, hr3⟩
              rw [win_str] at hr3
              have hs3 := HST.out.drew.roll1 hg3 hr3 hwA hAB hBR (by omega)
              have t0' : w3.cell? ⟨R + 1, 1, none⟩ = some (.string s1) := by rw [hs3.bt.cell]; rfl
              have f0' := hs3.bt.frozen 1
              have hsz3 : R + 1 < w3.heap.size := hs3.bt.lt
              have hbl3 : b < w3.heap.size := Nat.lt_of_lt_of_le hbl hs3.below.size
              have c3' : w3.cell? ⟨b, off + k * 4 + 3, none⟩ = some (.string s) := (hs3.below.cell (p := ⟨b, off + k * 4 + 3, none⟩) hbl).trans ((HST.out.below.cell (p := ⟨b, off + k * 4 + 3, none⟩) hbl).symm.trans c3)
              have HS3 := Lib.hid hs3; clear hs3 hg3 hr3
              go_wp2_with fail
              go_region
              go_wp2_with fail
              go_meet
              case rel => exact ⟨s0, s1 ++ s, (HS3.out.text hwA hAB hBR (by omega) rfl).drew, by omega, by rw [ByteArray.size_append]; omega, fun h => by omega, fun _ => by omega⟩
          · by_cases hk1 : kind = 1
            · have hb0 : (kind == 0) = false := by simp [hk0]
              have hb : (kind == 1) = true := by simp [hk1]
              clear hk0 hk1
              have hxr : 0 ≤ x ∧ x ≤ 255 := by simpa [Lit.wf, IntKind.min, IntKind.max, IntKind.signed, IntKind.bits] using wx
              clear wx
              obtain ⟨x, rfl⟩ : ∃ y : Nat, x = (y : Int) := ⟨x.toNat, by omega⟩
              have hx : x < 256 := by omega
              clear hxr
              have hqq : q = 0 ∨ q = 1 := by omega
              have hms1 : (mkS [x]).size ≤ 1 := by rw [mkS_size]; exact Nat.le_refl _
              have hback := fun W : World => one_back_drew W x hx
              rcases hqq with rfl | rfl
              · go_wp2_with fail
                go_still_tail 8, (by kernel_rfl)
                change wpList _ _ _ _ _ wc.drew
                go_wp2_with fail
                refine (add_any _ _ _ _ HST.out.drew.ra hx).mono ?_
                rintro e w3 ⟨rfl, hg3, hr3⟩
                rw [← win_snoc, ← nats_one x hx, ← nats_append] at hr3
                have hs3 := HST.out.drew.roll0 hg3 hr3 hwA hAB hBR (by omega)
                have t0' : w3.cell? ⟨R + 1, 0, none⟩ = some (.string s0) := by rw [hs3.bt.cell]; rfl
                have f0' := hs3.bt.frozen 0
                have hsz3 : R + 1 < w3.heap.size := hs3.bt.lt
                have hbl3 : b < w3.heap.size := Nat.lt_of_lt_of_le hbl hs3.below.size
                have c2' : w3.cell? ⟨b, off + k * 4 + 2, none⟩ = some (.int .u8 (x : Int)) := (hs3.below.cell (p := ⟨b, off + k * 4 + 2, none⟩) hbl).trans ((HST.out.below.cell (p := ⟨b, off + k * 4 + 2, none⟩) hbl).symm.trans c2)
                have HS3 := Lib.hid hs3; clear hs3 hg3 hr3
                go_wp2_with fail
                go_region
                go_wp2_with fail
                go_meet
                case rel => exact ⟨s0 ++ mkS [x], s1, ((HS3.out.text hwA hAB hBR (by omega) rfl).new ((Below.refl _ _).alloc (Nat.le_refl _) _)).drew, by rw [ByteArray.size_append]; omega, by omega, fun _ => by omega, fun h => by omega⟩
              · go_wp2_with fail
                go_still_tail 8, (by kernel_rfl)
                change wpList _ _ _ _ _ wc.drew
                go_wp2_with fail
                refine (add_any _ _ _ _ HST.out.drew.rb hx).mono ?_
                rintro e w3 ⟨rfl, hg3, hr3⟩
                rw [← win_snoc, ← nats_one x hx, ← nats_append] at hr3
                have hs3 := HST.out.drew.roll1 hg3 hr3 hwA hAB hBR (by omega)
                have t0' : w3.cell? ⟨R + 1, 1, none⟩ = some (.string s1) := by rw [hs3.bt.cell]; rfl
                have f0' := hs3.bt.frozen 1
                have hsz3 : R + 1 < w3.heap.size := hs3.bt.lt
                have hbl3 : b < w3.heap.size := Nat.lt_of_lt_of_le hbl hs3.below.size
                have c2' : w3.cell? ⟨b, off + k * 4 + 2, none⟩ = some (.int .u8 (x : Int)) := (hs3.below.cell (p := ⟨b, off + k * 4 + 2, none⟩) hbl).trans ((HST.out.below.cell (p := ⟨b, off + k * 4 + 2, none⟩) hbl).symm.trans c2)
                have HS3 := Lib.hid hs3; clear hs3 hg3 hr3
                go_wp2_with fail
                go_region
                go_wp2_with fail
                go_meet
                case rel => exact ⟨s0, s1 ++ mkS [x], ((HS3.out.text hwA hAB hBR (by omega) rfl).new ((Below.refl _ _).alloc (Nat.le_refl _) _)).drew, by omega, by rw [ByteArray.size_append]; omega, fun h => by omega, fun _ => by omega⟩
            · have hb0 : (kind == 0) = false := by simp [hk0]
              have hb : (kind == 1) = false := by simp [hk1]
              clear hk0 hk1
              go_wp2_with fail
              go_meet
              case rel => exact ⟨s0, s1, HST.out, by omega, by omega, fun _ => hz1, fun _ => hz0⟩
        case rest =>
          have HC := hcut
          clear hcut HST
          obtain ⟨s0, s1, hst, hz0, hz1, hz2, hz3⟩ := HC.out
          obtain ⟨sq, tq, hsq, hsz⟩ : ∃ sq, wc.cell? ⟨R + 1, q, none⟩ = some (.string sq) ∧ (q = 0 ∧ sq = s0 ∨ q = 1 ∧ sq = s1) ∧ sq.size ≤ 140737488355328 := by
            have hqq : q = 0 ∨ q = 1 := by omega
            rcases hqq with rfl | rfl
            · exact ⟨s0, by rw [hst.bt.cell]; rfl, .inl ⟨rfl, rfl⟩, hz0⟩
            · exact ⟨s1, by rw [hst.bt.cell]; rfl, .inr ⟨rfl, rfl⟩, hz1⟩
          have fq := hst.bt.frozen q
          have HST := Lib.hid hst; clear hst
          have HSQ := Lib.hid hsq; clear hsq
          go_upto_if 89 with (fail)
          go_cut [89] from 85 to 100 (fun v w2 => Hid (∃ s0 s1, State w A B R (R + 1) (win (nats s0)) (win (nats s1)) s0 s1 w2 ∧ s0.size ≤ 200 ∧ s1.size ≤ 200))
          case first =>
            by_cases h2 : 200 < sq.size
            · go_wp2_with fail
              go_region
              go_wp2_with fail
              go_meet
              case rel =>
                have hex : (sq.extract (sq.size - 200) sq.size).size ≤ 200 := by rw [ByteArray.size_extract]; omega
                have hwin : win (nats (sq.extract (sq.size - 200) sq.size)) = win (nats sq) := by
                  rw [nats_extract, List.take_of_length_le (by rw [List.length_drop, nats_length]; omega)]
                  exact win_drop _ _ (by rw [nats_length]; omega)
                rcases HSQ.out with ⟨rfl, rfl⟩ | ⟨rfl, rfl⟩
                · exact ⟨sq.extract (sq.size - 200) sq.size, s1, by rw [hwin]; exact (HST.out.text hwA hAB hBR (by omega) rfl).drew, by omega, hz2 rfl⟩
                · exact ⟨s0, sq.extract (sq.size - 200) sq.size, by rw [hwin]; exact (HST.out.text hwA hAB hBR (by omega) rfl).drew, hz3 rfl, by omega⟩
            · go_wp2_with fail
              go_meet
              case rel =>
                rcases HSQ.out with ⟨h9, rfl⟩ | ⟨h9, rfl⟩
                · exact ⟨sq, s1, HST.out, by omega, hz2 h9⟩
                · exact ⟨s0, sq, HST.out, hz3 h9, by omega⟩
          case rest =>
            have HC2 := hcut
            clear hcut HST HSQ tq fq HC
            obtain ⟨s0, s1, hst, hz0, hz1⟩ := HC2.out
            have hDA := digA (w := w) (A := A) (B := B) (R := R) (T := R + 1) (la := win (nats s0)) (lb := win (nats s1)) (s0 := s0) (s1 := s1)
            have hDB := digB (w := w) (A := A) (B := B) (R := R) (T := R + 1) (la := win (nats s0)) (lb := win (nats s1)) (s0 := s0) (s1 := s1)
            have hO0 := digOf (w := w) (A := A) (B := B) (R := R) (T := R + 1) (la := win (nats s0)) (lb := win (nats s1)) (s0 := s0) (s1 := s1) s0 (by omega)
            have hO1 := digOf (w := w) (A := A) (B := B) (R := R) (T := R + 1) (la := win (nats s0)) (lb := win (nats s1)) (s0 := s0) (s1 := s1) s1 (by omega)
            have r0 : ∀ y : GoodW (State w A B R (R + 1) (win (nats s0)) (win (nats s1)) s0 s1), y.w.cell? ⟨R, 0, none⟩ = some (.pointer (some ⟨A, 0, none⟩)) := fun y => by rw [y.h.br.cell]; rfl
            have r1 : ∀ y : GoodW (State w A B R (R + 1) (win (nats s0)) (win (nats s1)) s0 s1), y.w.cell? ⟨R, 1, none⟩ = some (.pointer (some ⟨B, 0, none⟩)) := fun y => by rw [y.h.br.cell]; rfl
            have t0 : ∀ y : GoodW (State w A B R (R + 1) (win (nats s0)) (win (nats s1)) s0 s1), y.w.cell? ⟨R + 1, 0, none⟩ = some (.string s0) := fun y => by rw [y.h.bt.cell]; rfl
            have t1 : ∀ y : GoodW (State w A B R (R + 1) (win (nats s0)) (win (nats s1)) s0 s1), y.w.cell? ⟨R + 1, 1, none⟩ = some (.string s1) := fun y => by rw [y.h.bt.cell]; rfl
            change ∀ W, _ → Calls _ _ _ _ (fun e w' => e = .returned (.int .u32 (digS s0 : Nat)) ∧ _) at hDA
            change ∀ W, _ → Calls _ _ _ _ (fun e w' => e = .returned (.int .u32 (digS s1 : Nat)) ∧ _) at hDB
            have HST := Lib.hid hst; clear hst
            have HDA := Lib.hid hDA; clear hDA
            have HDB := Lib.hid hDB; clear hDB
            have HO0 := Lib.hid hO0; clear hO0
            have HO1 := Lib.hid hO1; clear hO1
            have hd0 : ((digS s0 : Int) != (digS s0 : Int)) = false := by simp
            have hd1 : ((digS s1 : Int) != (digS s1 : Int)) = false := by simp
            go_wp2_with fail
            refine wp_region_good (S := State w A B R (R + 1) (win (nats s0)) (win (nats s1)) s0 s1) (by kernel_rfl) (by kernel_rfl) HST.out.drew ?_
            haveI : Nonempty (GoodW (State w A B R (R + 1) (win (nats s0)) (win (nats s1)) s0 s1)) := ⟨⟨_, HST.out⟩⟩
            repeat (go_big_quiet_step ((first
              | (go_at_call_of 11 (Value.pointer (some (Addr.mk A 0 none))); exact good_of _ (HDA.out _ (GoodW.h _)))
              | (go_at_call_of 11 (Value.pointer (some (Addr.mk B 0 none))); exact good_of _ (HDB.out _ (GoodW.h _)))
              | (go_at_call_of 12 (Value.string s0); exact good_of _ (HO0.out _ (GoodW.h _)))
              | (go_at_call_of 12 (Value.string s1); exact good_of _ (HO1.out _ (GoodW.h _))))))
            refine wpQuiet_nil ?_
            rintro wd ⟨⟨wd', hS⟩, rfl⟩
            clear r0 r1 t0 t1
            go_wp2_with fail
            go_roundw
            case rel => exact ⟨k + 1, by go_num, by omega, s0, s1, hS, by omega, by omega⟩
            case measure => simp [intOf]; omega
    · by_cases hkl : k < len0
      · have hk3 : ¬ k < 300 := by omega
        go_wp2_with fail
        go_ret
        obtain ⟨s0, s1, hst, hz0, hz1⟩ := H.out
        exact ⟨rfl, hst.below⟩
      · go_wp2_with fail
        go_ret
        obtain ⟨s0, s1, hst, hz0, hz1⟩ := H.out
        exact ⟨rfl, hst.below⟩
end Go.Proofs.Ytmnggemifcjflaa.rollRuns
