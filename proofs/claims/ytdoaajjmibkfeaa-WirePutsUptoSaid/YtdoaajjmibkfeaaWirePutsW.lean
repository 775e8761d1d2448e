/-
  The walk over WirePuts.
-/
import Derived.Test.YtdoaajjmibkfeaaPutsR2
namespace Go.Proofs.Ytdoaajjmibkfeaa.wirePuts
open Go.RowKit PlainP WireP HexP
set_option linter.unusedVariables false

theorem fixedV_two (s : ByteArray) (n : Nat) (d : Int) : ∃ (a : ByteArray) (e : Int), fixedV s n d = .tuple #[.string a, .int .i64 e] := by
  unfold fixedV; split
  · exact ⟨_, _, rfl⟩
  · exact ⟨_, _, rfl⟩
theorem unhexV_two (o : Option (List Nat)) : ∃ (a : ByteArray) (e : Int), unhexV o = .tuple #[.string a, .int .i64 e] := by
  cases o
  · exact ⟨_, _, rfl⟩
  · exact ⟨_, _, rfl⟩

set_option maxRecDepth 100000 in
set_option maxHeartbeats 1000000 in
theorem walk (s t : ByteArray) (n0 d : Int) (w : World) (hs : s.size ≤ 1048576) (ht : t.size ≤ 1048576) (wn : (Lit.int .u64 n0).wf = true) (wd : (Lit.int .i64 d).wf = true) :
    Calls Try.prog 8 #[.string s, .string t, .agg #[.int .u64 n0, .int .i64 d]] w fun e w' => e = .returned (.bool true) ∧ Below w.heap.size w w' := by
  obtain ⟨n1, n2⟩ := wf_u64 wn
  obtain ⟨d1, d2⟩ := wf_i64 wd
  obtain ⟨n, rfl⟩ : ∃ n : Nat, n0 = n := ⟨n0.toNat, by omega⟩
  clear wn wd
  have h1 := fun W => putFixed_any s n d W (by omega) (by omega) (by omega) (by omega)
  have h2 := fun W => rputFixed_any s n d W hs (by omega) (by omega) (by omega)
  obtain ⟨fa, fe, hf⟩ := fixedV_two s n d
  rw [hf] at h1 h2
  clear hf
  have h3 := fun W => unhex_any t W (by omega)
  have h4 := fun W => runhex_any t W ht
  obtain ⟨ua, ue, hu⟩ := unhexV_two (unhexL (nats t))
  rw [hu] at h3 h4
  clear hu
  have h5 := fun W => put_any s n W (by omega) (by omega)
  have h6 := fun W => rput_any s n W (by omega) (by omega)
  have h7 := fun W => putText_any s t W (by omega) (by omega)
  have h8 := fun W => rputText_any s t W hs ht
  generalize s ++ mkS (put t.size) ++ t = p2 at *
  generalize s ++ mkS (put n) = p1 at *
  have h9 := fun W => len_any n W (by omega)
  have h10 := fun W => rlen_any n W (by omega)
  generalize (put n).length = ln at *
  have h11 := fun W => hex_any s W (by omega)
  have h12 := fun W => rhex_any s W hs
  generalize mkS (hexL (nats s)) = hx at *
  have haw := fun W => awake_any W
  have H1 := Lib.hid h1; have H2 := Lib.hid h2; have H3 := Lib.hid h3; have H4 := Lib.hid h4; have H5 := Lib.hid h5; have H6 := Lib.hid h6
  have H7 := Lib.hid h7; have H8 := Lib.hid h8; have H9 := Lib.hid h9; have H10 := Lib.hid h10; have H11 := Lib.hid h11; have H12 := Lib.hid h12; have HAW := Lib.hid haw
  clear h1 h2 h3 h4 h5 h6 h7 h8 h9 h10 h11 h12 haw
  have hB0 : Below w.heap.size w (w.alloc (.cells #[.int .u64 n, .int .i64 d] 55)) := (Below.refl _ _).alloc (Nat.le_refl _) _
  have HB0 := Lib.hid hB0; clear hB0
  go_enter Try.func8, Try.ntmps8
  go_wp2_with fail
  refine (H1.out _).mono ?_
  rintro e w1 ⟨rfl, hb⟩
  have hB : Below w.heap.size w w1 := HB0.out.trans (hb.mono HB0.out.size)
  have HB1 := Lib.hid hB; clear hB hb HB0
  go_wp2_with fail
  refine (H2.out _).mono ?_
  rintro e w2 ⟨rfl, hb⟩
  have hB : Below w.heap.size w w2 := HB1.out.trans (hb.mono HB1.out.size)
  have HB2 := Lib.hid hB; clear hB hb HB1
  go_wp2_with fail
  refine (H3.out _).mono ?_
  rintro e w3 ⟨rfl, hb⟩
  have hB : Below w.heap.size w w3 := HB2.out.trans (hb.mono HB2.out.size)
  have HB3 := Lib.hid hB; clear hB hb HB2
  go_wp2_with fail
  refine (H4.out _).mono ?_
  rintro e w4 ⟨rfl, hb⟩
  have hB : Below w.heap.size w w4 := HB3.out.trans (hb.mono HB3.out.size)
  have HB4 := Lib.hid hB; clear hB hb HB3
  go_wp2_with fail
  refine (H5.out _).mono ?_
  rintro e w5 ⟨rfl, hb⟩
  have hB : Below w.heap.size w w5 := HB4.out.trans (hb.mono HB4.out.size)
  have HB5 := Lib.hid hB; clear hB hb HB4
  go_wp2_with fail
  refine (H6.out _).mono ?_
  rintro e w6 ⟨rfl, hb⟩
  have hB : Below w.heap.size w w6 := HB5.out.trans (hb.mono HB5.out.size)
  have HB6 := Lib.hid hB; clear hB hb HB5
  go_wp2_with fail
  refine (H7.out _).mono ?_
  rintro e w7 ⟨rfl, hb⟩
  have hB : Below w.heap.size w w7 := HB6.out.trans (hb.mono HB6.out.size)
  have HB7 := Lib.hid hB; clear hB hb HB6
  go_wp2_with fail
  refine (H8.out _).mono ?_
  rintro e w8 ⟨rfl, hb⟩
  have hB : Below w.heap.size w w8 := HB7.out.trans (hb.mono HB7.out.size)
  have HB8 := Lib.hid hB; clear hB hb HB7
  go_wp2_with fail
  refine (H9.out _).mono ?_
  rintro e w9 ⟨rfl, hb⟩
  have hB : Below w.heap.size w w9 := by rw [← hb]; exact HB8.out
  have HB9 := Lib.hid hB; clear hB hb HB8
  go_wp2_with fail
  refine (H10.out _).mono ?_
  rintro e w10 ⟨rfl, hb⟩
  have hB : Below w.heap.size w w10 := HB9.out.trans (hb.mono HB9.out.size)
  have HB10 := Lib.hid hB; clear hB hb HB9
  go_wp2_with fail
  refine (H11.out _).mono ?_
  rintro e w11 ⟨rfl, hb⟩
  have hB : Below w.heap.size w w11 := HB10.out.trans (hb.mono HB10.out.size)
  have HB11 := Lib.hid hB; clear hB hb HB10
  go_wp2_with fail
  refine (H12.out _).mono ?_
  rintro e w12 ⟨rfl, hb⟩
  have hB : Below w.heap.size w w12 := HB11.out.trans (hb.mono HB11.out.size)
  have HB12 := Lib.hid hB; clear hB hb HB11
  go_wp2_with fail
  refine (HAW.out _).mono ?_
  rintro e w13 ⟨rfl, hb⟩
  have hB : Below w.heap.size w w13 := HB12.out.trans (hb.mono HB12.out.size)
  have HB13 := Lib.hid hB; clear hB hb HB12
  go_wp2_with fail
  go_ret
  exact ⟨rfl, HB13.out⟩
end Go.Proofs.Ytdoaajjmibkfeaa.wirePuts
