/-
  The walk over FrameReads.
-/
import Derived.Test.YtdoaajjmibkfeaaFrameR2
namespace Go.Proofs.Ytdoaajjmibkfeaa.frameReads
open Go.RowKit PlainP WireP CrcP
set_option linter.unusedVariables false

theorem frameV_two (s : ByteArray) : ∃ (a : ByteArray) (e : Int), frameV s = .tuple #[.string a, .int .i64 e] := by
  unfold frameV; split
  · exact ⟨_, _, rfl⟩
  · exact ⟨_, _, rfl⟩
theorem unfV_three (o : Option (ByteArray × ByteArray)) : ∃ (a b : ByteArray) (e : Int), unfV o = .tuple #[.string a, .string b, .int .i64 e] := by
  rcases o with _ | ⟨p, r⟩
  · exact ⟨_, _, _, rfl⟩
  · exact ⟨_, _, _, rfl⟩

set_option maxRecDepth 100000 in
set_option maxHeartbeats 1000000 in
theorem walk (s t : ByteArray) (c0 : Int) (w : World) (hs : s.size ≤ 1048576) (ht : t.size ≤ 1048576) (wc : (Lit.int .u32 c0).wf = true) :
    Calls Try.prog 4 #[.string s, .string t, .int .u32 c0] w fun e w' => e = .returned (.bool true) ∧ Below w.heap.size w w' := by
  obtain ⟨c, rfl, hc⟩ : ∃ a : Nat, c0 = a ∧ a < 4294967296 := by
    simp only [Lit.wf, Bool.and_eq_true, decide_eq_true_eq] at wc
    have e1 : IntKind.u32.min = 0 := by decide
    have e2 : IntKind.u32.max = 4294967295 := by decide
    rw [e1, e2] at wc
    exact ⟨c0.toNat, by omega, by omega⟩
  clear wc
  have h1 := fun W => frame_any s W (by omega)
  have h2 := fun W => rframe_any s W (by omega)
  obtain ⟨fa, fe, hf⟩ := frameV_two s
  rw [hf] at h1 h2
  clear hf
  have h3 := fun W => unframe_any t W (by omega)
  have h4 := fun W => runframe_any t W (by omega)
  obtain ⟨ua, ub, ue, hu⟩ := unfV_three (unfS t)
  rw [hu] at h3 h4
  clear hu
  have hal := allA_len t
  have h5 := fun W => all_any t W (by omega) (by omega)
  have h6 := fun W => rall_any t W (by omega) (by omega)
  have hpl : (allA t).1.length ≤ 140737488355328 := by omega
  generalize (allA t).1 = ps at *
  generalize (allA t).2 = rs at *
  have h7 := fun W => crc_any s W (by omega)
  have h8 := fun W => rcrc_any s W (by omega)
  generalize crcC (nats s) = cs at *
  have h9 := fun W => on_any c s W hc (by omega)
  have h10 := fun W => ron_any c s W hc (by omega)
  generalize onC c (nats s) = cn at *
  have h11 := fun W => awake3_any W
  have H1 := Lib.hid h1; have H2 := Lib.hid h2; have H3 := Lib.hid h3; have H4 := Lib.hid h4; have H5 := Lib.hid h5; have H6 := Lib.hid h6
  have H7 := Lib.hid h7; have H8 := Lib.hid h8; have H9 := Lib.hid h9; have H10 := Lib.hid h10; have H11 := Lib.hid h11
  have HPL := Lib.hid hpl
  clear h1 h2 h3 h4 h5 h6 h7 h8 h9 h10 h11 hpl hal hc
  have HB0 := Lib.hid (Below.refl w.heap.size w)
  go_enter Try.func4, Try.ntmps4
  go_wp2_with fail
  refine (H1.out _).mono ?_
  rintro e w1 ⟨rfl, hb⟩
  have hB : Below w.heap.size w w1 := HB0.out.trans (hb.mono HB0.out.size)
  have HB1 := Lib.hid hB; clear hB hb
  go_wp2_with fail
  refine (H2.out _).mono ?_
  rintro e w2 ⟨rfl, hb⟩
  have hB : Below w.heap.size w w2 := HB1.out.trans (hb.mono HB1.out.size)
  have HB2 := Lib.hid hB; clear hB hb
  go_wp2_with fail
  refine (H3.out _).mono ?_
  rintro e w3 ⟨rfl, hb⟩
  have hB : Below w.heap.size w w3 := HB2.out.trans (hb.mono HB2.out.size)
  have HB3 := Lib.hid hB; clear hB hb
  go_wp2_with fail
  refine (H4.out _).mono ?_
  rintro e w4 ⟨rfl, hb⟩
  have hB : Below w.heap.size w w4 := HB3.out.trans (hb.mono HB3.out.size)
  have HB4 := Lib.hid hB; clear hB hb
  go_wp2_with fail
  refine (H5.out _).mono ?_
  rintro e w5 ⟨v, rfl, hb, hst⟩
  have hB : Below w.heap.size w w5 := HB4.out.trans (hb.mono HB4.out.size)
  have HB5 := Lib.hid hB; clear hB hb
  have HV5 := Lib.hid (srow_of hst HPL.out); clear hst
  go_wp2_with fail
  refine (H6.out _).mono ?_
  rintro e w6 ⟨u, rfl, hb, hst⟩
  have hB : Below w.heap.size w w6 := HB5.out.trans (hb.mono HB5.out.size)
  have HB6 := Lib.hid hB; clear hB
  have HV6 := Lib.hid (HV5.out.below hb); clear hb HV5
  have HU6 := Lib.hid (srow_of hst HPL.out); clear hst
  go_wp2_with fail
  refine (H7.out _).mono ?_
  rintro e w7 ⟨rfl, hb⟩
  have hB : Below w.heap.size w w7 := HB6.out.trans (hb.mono HB6.out.size)
  have HB7 := Lib.hid hB; clear hB
  have HV7 := Lib.hid (HV6.out.below hb)
  have HU7 := Lib.hid (HU6.out.below hb); clear hb HV6 HU6
  go_wp2_with fail
  refine (H8.out _).mono ?_
  rintro e w8 ⟨rfl, rfl⟩
  go_wp2_with fail
  refine (H9.out _).mono ?_
  rintro e w9 ⟨rfl, hb⟩
  have hB : Below w.heap.size w w9 := HB7.out.trans (hb.mono HB7.out.size)
  have HB9 := Lib.hid hB; clear hB
  have HV9 := Lib.hid (HV7.out.below hb)
  have HU9 := Lib.hid (HU7.out.below hb); clear hb HV7 HU7
  go_wp2_with fail
  refine (H10.out _).mono ?_
  rintro e w10 ⟨rfl, rfl⟩
  go_wp2_with fail
  refine (same3_any v u ps _ HV9.out HU9.out).mono ?_
  rintro e w11 ⟨rfl, hb⟩
  have hB : Below w.heap.size w w11 := HB9.out.trans (hb.mono HB9.out.size)
  have HB11 := Lib.hid hB; clear hB hb
  go_wp2_with fail
  refine (H11.out _).mono ?_
  rintro e w12 ⟨rfl, hb⟩
  have hB : Below w.heap.size w w12 := HB11.out.trans (hb.mono HB11.out.size)
  have HB12 := Lib.hid hB; clear hB hb
  go_wp2_with fail
  go_ret
  exact ⟨rfl, HB12.out⟩
end Go.Proofs.Ytdoaajjmibkfeaa.frameReads
