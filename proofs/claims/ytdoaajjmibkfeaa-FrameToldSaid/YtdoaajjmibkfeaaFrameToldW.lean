/-
  The walk over FrameTold.
-/
import Derived.Test.YtdoaajjmibkfeaaFrameToldP
import Derived.Test.YtdoaajjmibkfeaaFrameNoneW
namespace Go.Proofs.Ytdoaajjmibkfeaa.frameTold
open Go.RowKit PlainP WireP CrcP
set_option linter.unusedVariables false

theorem back_turn (W : World) (t : ByteArray) (q y cap : Nat) (m : Nat × Nat) (hy : y < 256) :
    (convert 28 9 (.slice (some ⟨W.heap.size, 0, none⟩) t.size cap)).run Try.prog ((W.alloc (.cells (bytesRow t cap) 5 m)).setCell ⟨W.heap.size, q, none⟩ (.int .u8 (y : Int))) =
      .ok (.string (mkS ((nats t).set q y))) ((W.alloc (.cells (bytesRow t cap) 5 m)).setCell ⟨W.heap.size, q, none⟩ (.int .u8 (y : Int))) := by
  have h := back_bytes (w := ((W.alloc (.cells (bytesRow t cap) 5 m)).setCell ⟨W.heap.size, q, none⟩ (.int .u8 (y : Int)))) (cap := cap) ((laid_holds W t cap 5 m).set_ q y) ((nats_bytes t).set q hy)
  rw [List.length_set, nats_length] at h
  exact h

set_option maxRecDepth 100000 in
set_option maxHeartbeats 1000000 in
theorem walk (s tail : ByteArray) (at0 by0 : Int) (w : World) (hs : s.size ≤ 140737488351232) (ht : tail.size ≤ 140737488351232) (wa : (Lit.int .u16 at0).wf = true) (wb : (Lit.int .u8 by0).wf = true) :
    Calls Try.prog 3 #[.string s, .string tail, .agg #[.int .u16 at0, .int .u8 by0]] w fun e w' => e = .returned (.bool true) ∧ Below w.heap.size w w' := by
  obtain ⟨at', rfl, hat⟩ : ∃ a : Nat, at0 = a ∧ a < 65536 := by
    simp only [Lit.wf, Bool.and_eq_true, decide_eq_true_eq] at wa
    have e1 : IntKind.u16.min = 0 := by decide
    have e2 : IntKind.u16.max = 65535 := by decide
    rw [e1, e2] at wa
    exact ⟨at0.toNat, by omega, by omega⟩
  obtain ⟨b, rfl, hb256⟩ : ∃ a : Nat, by0 = a ∧ a < 256 := by
    simp only [Lit.wf, Bool.and_eq_true, decide_eq_true_eq] at wb
    have e1 : IntKind.u8.min = 0 := by decide
    have e2 : IntKind.u8.max = 255 := by decide
    rw [e1, e2] at wb
    exact ⟨by0.toNat, by omega, by omega⟩
  clear wa wb
  obtain ⟨m, hm, hm1, hm2⟩ : ∃ m : Nat, m = min s.size 2000 ∧ m ≤ s.size ∧ m ≤ 2000 := ⟨_, rfl, by omega, by omega⟩
  have hpz : (s.extract 0 m).size = m := by rw [ByteArray.size_extract]; omega
  have hmin : min (s.size : Int) 2000 = (m : Int) := by omega
  obtain ⟨p, hp⟩ : ∃ p, s.extract 0 m = p := ⟨_, rfl⟩
  rw [hp] at hpz
  subst hpz
  have h1 := fun W => frame_any p W (by omega)
  have hv : frameV p = .tuple #[.string (fr p), .int .i64 0] := if_neg (by omega)
  rw [hv] at h1
  have hfz := fr_size p
  have hq0 : at' % (p.size + 4) < p.size + 4 := Nat.mod_lt _ (by omega)
  obtain ⟨q, hq⟩ : ∃ q, 4 + at' % (p.size + 4) = q := ⟨_, rfl⟩
  have hqi : (4 : Int) + (at' : Int) % (8 + (p.size : Int) - 4) = (q : Int) := by
    rw [← hq, show (8 : Int) + (p.size : Int) - 4 = (p.size : Int) + 4 by omega]; push_cast; rfl
  have hcut0 : at' % (8 + p.size) < 8 + p.size := Nat.mod_lt _ (by omega)
  obtain ⟨k, hk⟩ : ∃ k, at' % (8 + p.size) = k := ⟨_, rfl⟩
  have hki : (at' : Int) % (8 + (p.size : Int)) = (k : Int) := by
    rw [← hk]; push_cast; rfl
  have hcn := cut_none p (by omega) k (by omega)
  have htz : (fr p ++ tail).size = 8 + p.size + tail.size := by rw [ByteArray.size_append]; omega
  obtain ⟨x, hx⟩ : ∃ x, (nats (fr p ++ tail))[q]? = some x := ⟨_, List.getElem?_eq_getElem (by rw [nats_length]; omega)⟩
  have hxb := (nats_bytes (fr p ++ tail)).get hx
  have hy256 : b % 255 + 1 < 256 := by omega
  have hxy := xor_lt x (b % 255 + 1) hxb hy256
  have htd := told p tail (by omega) q x (x ^^^ (b % 255 + 1)) (by omega) (by omega) hx hxy (turn_ne x b)
  have hbt := fun (W : World) cap m => laid_holds W (fr p ++ tail) cap 5 m q x hx
  have hfz2 := fun (W : World) cap => laid_bytes W (fr p ++ tail) cap 5 q (by omega)
  have hback := fun (W : World) cap m => back_turn W (fr p ++ tail) q (x ^^^ (b % 255 + 1)) cap m hxy
  have hxo := xor_byte x (b % 255 + 1) hxb hy256
  have hsz3 : (mkS ((nats (fr p ++ tail)).set q (x ^^^ (b % 255 + 1)))).size ≤ 9000000000000000 := by rw [mkS_size, List.length_set, nats_length]; omega
  have h2 := fun W => unframe_any _ W hsz3
  rw [htd, unfV] at h2
  generalize mkS ((nats (fr p ++ tail)).set q (x ^^^ (b % 255 + 1))) = turned at *
  generalize x ^^^ (b % 255 + 1) = xy at *
  have h3 := fun W => unframe_any ((fr p).extract 0 k) W (by rw [ByteArray.size_extract]; omega)
  rw [hcn, unfV] at h3
  have hyi : (b : Int) % 255 + 1 = ((b % 255 + 1 : Nat) : Int) := by push_cast; rfl
  generalize b % 255 + 1 = y at *
  have h4 := fun W => awake3_any W
  have hcv := fun W : World => run_bytes_of_string (P := Try.prog) W 9 28 5 (fr p ++ tail) Try.underlying9 Try.underlying28 Try.underlying5
  generalize hft : fr p ++ tail = ft at *
  generalize fr p = F at *
  have H1 := Lib.hid h1; have H2 := Lib.hid h2; have H3 := Lib.hid h3; have H4 := Lib.hid h4
  have HX := Lib.hid hx; have HP := Lib.hid hp
  have HBT := Lib.hid hbt; have HFZ := Lib.hid hfz2; have HBK := Lib.hid hback
  clear h1 h2 h3 h4 hx hp hbt hfz2 hback hcn htd hv hsz3 hxy
  have hB0 : Below w.heap.size w (w.alloc (.cells #[.int .u16 at', .int .u8 b] 24)) := (Below.refl _ _).alloc (Nat.le_refl _) _
  have HB0 := Lib.hid hB0; clear hB0
  go_enter Try.func3, Try.ntmps3
  go_wp2_with fail
  rw [← hm, HP.out]
  clear hm hmin
  have hq8 : q < 8 + p.size := by omega
  have hk8 : k < 8 + p.size := by omega
  clear hq hk hq0 hcut0
  refine (H1.out _).mono ?_
  rintro e w1 ⟨rfl, hb⟩
  have hB : Below w.heap.size w w1 := HB0.out.trans (hb.mono HB0.out.size)
  have HB1 := Lib.hid hB; clear hB hb
  go_upto_region 9 with (fail)
  generalize grownCap _ _ 0 5 = cc
  have c9 : ((w1.alloc (.cells (bytesRow ft cc) 5 ((bytesRow ft cc).size, (bytesRow ft cc).size + 1))).drew).cell? ⟨w1.heap.size, q, none⟩ = some (.int .u8 (x : Int)) := HBT.out w1 cc _
  have f9 : ((w1.alloc (.cells (bytesRow ft cc) 5 ((bytesRow ft cc).size, (bytesRow ft cc).size + 1))).drew).frozen? ⟨w1.heap.size, q, none⟩ = false := HFZ.out w1 cc
  have b9 : (convert 28 9 (.slice (some ⟨w1.heap.size, 0, none⟩) ft.size cc)).run Try.prog (((w1.alloc (.cells (bytesRow ft cc) 5 ((bytesRow ft cc).size, (bytesRow ft cc).size + 1))).drew).setCell ⟨w1.heap.size, q, none⟩ (.int .u8 (xy : Int))) = .ok (.string turned) (((w1.alloc (.cells (bytesRow ft cc) 5 ((bytesRow ft cc).size, (bytesRow ft cc).size + 1))).drew).setCell ⟨w1.heap.size, q, none⟩ (.int .u8 (xy : Int))) := HBK.out w1.drew cc _
  rw [htz] at b9
  have hB9 : Below w.heap.size w (((w1.alloc (.cells (bytesRow ft cc) 5 ((bytesRow ft cc).size, (bytesRow ft cc).size + 1))).drew).setCell ⟨w1.heap.size, q, none⟩ (.int .u8 (xy : Int))) := ((HB1.out.alloc HB1.out.size _).drew).setCell (p := ⟨w1.heap.size, q, none⟩) HB1.out.size _
  have HB9 := Lib.hid hB9; clear hB9
  generalize (w1.alloc (.cells (bytesRow ft cc) 5 ((bytesRow ft cc).size, (bytesRow ft cc).size + 1))).drew = W9 at *
  go_wp2_with fail
  refine (H2.out _).mono ?_
  rintro e w2 ⟨rfl, hb⟩
  have hB : Below w.heap.size w w2 := HB9.out.trans (hb.mono HB9.out.size)
  have HB2 := Lib.hid hB; clear hB hb b9
  go_wp2_with fail
  refine (H3.out _).mono ?_
  rintro e w3 ⟨rfl, hb⟩
  have hB : Below w.heap.size w w3 := HB2.out.trans (hb.mono HB2.out.size)
  have HB3 := Lib.hid hB; clear hB hb
  go_wp2_with fail
  refine (H4.out _).mono ?_
  rintro e w4 ⟨rfl, hb⟩
  have hB : Below w.heap.size w w4 := HB3.out.trans (hb.mono HB3.out.size)
  have HB4 := Lib.hid hB; clear hB hb
  go_wp2_with fail
  go_ret
  exact ⟨rfl, HB4.out⟩
end Go.Proofs.Ytdoaajjmibkfeaa.frameTold
