/-
  awake of the law of frames; the walk over FrameNone.
-/
import Derived.Test.YtdoaajjmibkfeaaFrameA
namespace Go.Proofs.Ytdoaajjmibkfeaa
open Go.RowKit PlainP WireP CrcP

theorem crc9 : crcC (nats ⟨#[49, 50, 51, 52, 53, 54, 55, 56, 57]⟩) = 3421780262 := by kernel_rfl
theorem strs_len {B : Nat} {w : World} {v : Value} {ps : List ByteArray} (h : Strs B w v ps) : ∃ a cap, v = .slice a ps.length cap := by
  rcases h.2 with ⟨rfl, h0⟩ | ⟨g, cap, cur, rfl, -⟩
  · rw [h0]; exact ⟨none, 0, rfl⟩
  · exact ⟨_, _, rfl⟩

set_option maxRecDepth 100000 in
theorem awake3_any (w : World) : Calls Try.prog 14 #[] w fun e w' => e = .returned (.bool true) ∧ Below w.heap.size w w' := by
  have h1 := fun W => frame_any ⟨#[97, 98]⟩ W (by decide)
  have hz := fr_size ⟨#[97, 98]⟩
  have hv : frameV ⟨#[97, 98]⟩ = .tuple #[.string (fr ⟨#[97, 98]⟩), .int .i64 0] := if_neg (by decide)
  rw [hv] at h1
  have h2 := fun W => unframe_any (fr ⟨#[97, 98]⟩ ++ ⟨#[120]⟩) W (by rw [ByteArray.size_append, hz]; decide)
  rw [unf_fr _ _ (by decide), unfV] at h2
  have h3 := fun W => crc_any ⟨#[49, 50, 51, 52, 53, 54, 55, 56, 57]⟩ W (by decide)
  rw [crc9] at h3
  have hz2 : (fr ⟨#[97, 98]⟩).size = 10 := by rw [hz]; rfl
  generalize fr ⟨#[97, 98]⟩ = F at *
  clear hz hv
  have H1 := Lib.hid h1; have H2 := Lib.hid h2; have H3 := Lib.hid h3
  clear h1 h2 h3
  have HB0 := Lib.hid (Below.refl w.heap.size w)
  go_enter Try.func14, Try.ntmps14
  go_wp2_with fail
  refine (H1.out _).mono ?_
  rintro e w1 ⟨rfl, hb⟩
  have hB : Below w.heap.size w w1 := HB0.out.trans (hb.mono HB0.out.size)
  have HB1 := Lib.hid hB; clear hB hb
  go_wp2_with fail
  refine (H2.out _).mono ?_
  rintro e w2 ⟨rfl, hb⟩
  have hB : Below w.heap.size w w2 := HB1.out.trans (hb.mono HB1.out.size)
  have HB2 := Lib.hid hB; clear hB hb
  go_wp2_with fail
  refine (H3.out _).mono ?_
  rintro e w3 ⟨rfl, hb⟩
  have hB : Below w.heap.size w w3 := HB2.out.trans (hb.mono HB2.out.size)
  have HB3 := Lib.hid hB; clear hB hb
  go_wp2_with fail
  go_ret
  exact ⟨rfl, HB3.out⟩
end Go.Proofs.Ytdoaajjmibkfeaa

namespace Go.Proofs.Ytdoaajjmibkfeaa.frameNone
open Go.RowKit PlainP WireP CrcP
set_option linter.unusedVariables false

theorem u0 : unfS ⟨#[]⟩ = none := if_neg (by decide)
theorem f0 : fr ⟨#[]⟩ = ⟨#[0, 0, 0, 0, 33, 68, 223, 28]⟩ := by kernel_rfl
theorem fv : frameV ⟨#[]⟩ = .tuple #[.string ⟨#[0, 0, 0, 0, 33, 68, 223, 28]⟩, .int .i64 0] := by rw [← f0]; exact if_neg (by decide)
theorem u1 : unfS ⟨#[0, 0, 0, 0, 33, 68, 223, 28]⟩ = some (⟨#[]⟩, ⟨#[]⟩) := by
  have h := unf_fr ⟨#[]⟩ ⟨#[]⟩ (by decide)
  have e : fr ⟨#[]⟩ ++ (⟨#[]⟩ : ByteArray) = fr ⟨#[]⟩ := nats_inj (by rw [nats_append]; exact List.append_nil _)
  have h2 : unfS (fr ⟨#[]⟩ ++ (⟨#[]⟩ : ByteArray)) = unfS ⟨#[0, 0, 0, 0, 33, 68, 223, 28]⟩ := congrArg unfS (e.trans f0)
  exact h2.symm.trans h
theorem u2 : unfS ⟨#[255, 255, 255, 255, 0, 0, 0, 0]⟩ = none := if_neg (by
  have : beVal 0 ((nats ⟨#[255, 255, 255, 255, 0, 0, 0, 0]⟩).take 4) = 4294967295 := by kernel_rfl
  rw [this]; exact fun h => absurd h.2.1 (by decide))
theorem c0 : crcC (nats ⟨#[]⟩) = 0 := onC_nil 0
theorem c7 : onC 7 (nats ⟨#[]⟩) = 7 := onC_nil 7

set_option maxRecDepth 100000 in
theorem walk (w : World) : Calls Try.prog 6 #[] w fun e w' => e = .returned (.bool true) ∧ Below w.heap.size w w' := by
  have h1 := fun W => unframe_any ⟨#[]⟩ W (by decide)
  rw [u0, unfV] at h1
  have h2 := fun W => all_any ⟨#[]⟩ W (by decide) (by rw [allA_none u0]; decide)
  rw [allA_none u0] at h2
  have h3 := fun W => frame_any ⟨#[]⟩ W (by decide)
  rw [fv] at h3
  have h4 := fun W => unframe_any ⟨#[0, 0, 0, 0, 33, 68, 223, 28]⟩ W (by decide)
  rw [u1, unfV] at h4
  have h5 := fun W => unframe_any ⟨#[255, 255, 255, 255, 0, 0, 0, 0]⟩ W (by decide)
  rw [u2, unfV] at h5
  have h6 := fun W => crc_any ⟨#[]⟩ W (by decide)
  rw [c0] at h6
  have h7 := fun W => on_any 7 ⟨#[]⟩ W (by omega) (by decide)
  rw [c7] at h7
  have h8 := fun W => awake3_any W
  have H1 := Lib.hid h1; have H2 := Lib.hid h2; have H3 := Lib.hid h3; have H4 := Lib.hid h4; have H5 := Lib.hid h5; have H6 := Lib.hid h6; have H7 := Lib.hid h7; have H8 := Lib.hid h8
  clear h1 h2 h3 h4 h5 h6 h7 h8
  have HB0 := Lib.hid (Below.refl w.heap.size w)
  go_enter Try.func6, Try.ntmps6
  go_wp2_with fail
  refine (H1.out _).mono ?_
  rintro e w1 ⟨rfl, hb⟩
  have hB : Below w.heap.size w w1 := HB0.out.trans (hb.mono HB0.out.size)
  have HB1 := Lib.hid hB; clear hB hb
  go_wp2_with fail
  refine (H2.out _).mono ?_
  rintro e w2 ⟨v, rfl, hb, hst⟩
  have hB : Below w.heap.size w w2 := HB1.out.trans (hb.mono HB1.out.size)
  have HB2 := Lib.hid hB; clear hB hb
  obtain ⟨a, cap, rfl⟩ := strs_len hst
  clear hst
  go_wp2_with fail
  refine (H3.out _).mono ?_
  rintro e w3 ⟨rfl, hb⟩
  have hB : Below w.heap.size w w3 := HB2.out.trans (hb.mono HB2.out.size)
  have HB3 := Lib.hid hB; clear hB hb
  go_wp2_with fail
  refine (H4.out _).mono ?_
  rintro e w4 ⟨rfl, hb⟩
  have hB : Below w.heap.size w w4 := HB3.out.trans (hb.mono HB3.out.size)
  have HB4 := Lib.hid hB; clear hB hb
  go_wp2_with fail
  refine (H5.out _).mono ?_
  rintro e w5 ⟨rfl, hb⟩
  have hB : Below w.heap.size w w5 := HB4.out.trans (hb.mono HB4.out.size)
  have HB5 := Lib.hid hB; clear hB hb
  go_wp2_with fail
  refine (H6.out _).mono ?_
  rintro e w6 ⟨rfl, hb⟩
  have hB : Below w.heap.size w w6 := HB5.out.trans (hb.mono HB5.out.size)
  have HB6 := Lib.hid hB; clear hB hb
  go_wp2_with fail
  refine (H7.out _).mono ?_
  rintro e w7 ⟨rfl, hb⟩
  have hB : Below w.heap.size w w7 := HB6.out.trans (hb.mono HB6.out.size)
  have HB7 := Lib.hid hB; clear hB hb
  go_wp2_with fail
  refine (H8.out _).mono ?_
  rintro e w8 ⟨rfl, hb⟩
  have hB : Below w.heap.size w w8 := HB7.out.trans (hb.mono HB7.out.size)
  have HB8 := Lib.hid hB; clear hB hb
  go_wp2_with fail
  go_ret
  exact ⟨rfl, HB8.out⟩
end Go.Proofs.Ytdoaajjmibkfeaa.frameNone
