/-
  The walk over WireNone.
-/
import Derived.Test.YtdoaajjmibkfeaaWireNil
namespace Go.Proofs.Ytdoaajjmibkfeaa.wireNone
open Go.RowKit PlainP WireP
set_option linter.unusedVariables false

theorem f1 : fixedV ⟨#[]⟩ 18446744073709551615 8 = .tuple #[.string ⟨#[255, 255, 255, 255, 255, 255, 255, 255]⟩, .int .i64 0] := by kernel_rfl
theorem f2 : fixedV ⟨#[]⟩ 72057594037927936 7 = .tuple #[.string ⟨#[]⟩, .int .i64 1] := by kernel_rfl
theorem f3 : fixedV ⟨#[]⟩ 72057594037927935 7 = .tuple #[.string ⟨#[255, 255, 255, 255, 255, 255, 255]⟩, .int .i64 0] := by kernel_rfl
theorem f4 : fixedV ⟨#[]⟩ 0 0 = .tuple #[.string ⟨#[]⟩, .int .i64 1] := by kernel_rfl
theorem u1 : uintV (short (nats ⟨#[255, 255, 255, 255, 255, 255, 255, 255, 255, 2]⟩)) = .tuple #[.int .u64 0, .int .i64 4] := by kernel_rfl
theorem u2 : uintV (short (nats ⟨#[255, 255, 255, 255, 255, 255, 255, 255, 255, 1]⟩)) = .tuple #[.int .u64 18446744073709551615, .int .i64 0] := by kernel_rfl
theorem u3 : uintV (short (nats ⟨#[128, 0]⟩)) = .tuple #[.int .u64 0, .int .i64 4] := by kernel_rfl
theorem x1 : textV ⟨#[0]⟩ 0 = .tuple #[.string ⟨#[]⟩, .int .i64 0] := by kernel_rfl

theorem new_uint (s : ByteArray) (v : Value) (hv : uintV (short (nats s)) = v) (hs : s.size ≤ 9223372036854775807) (w W : World) (h : Below w.heap.size w W) :
    Calls Try.prog 44 #[.pointer (some ⟨W.heap.size, 0, none⟩)] (W.alloc (.cells #[.string s] 78)) fun e w' => e = .returned v ∧ Below w.heap.size w w' :=
  (uint_any _ s _ (Blk.new W _ _) hs).mono fun e w' ⟨he, hg, _⟩ => ⟨by rw [he, hv], below_of_only (h.alloc h.size _) hg (by rw [World.size_alloc]; have := h.size; omega) h.size⟩
theorem new_text (s : ByteArray) (n : Int) (v : Value) (hv : textV s n = v) (hs : s.size ≤ 9223372036854775807) (hn : n ≤ 9223372036854775807) (w W : World) (h : Below w.heap.size w W) :
    Calls Try.prog 43 #[.pointer (some ⟨W.heap.size, 0, none⟩), .int .i64 n] (W.alloc (.cells #[.string s] 78)) fun e w' => e = .returned v ∧ Below w.heap.size w w' :=
  (text_any _ s n _ (Blk.new W _ _) hs hn).mono fun e w' ⟨he, hg, _⟩ => ⟨by rw [he, hv], below_of_only (h.alloc h.size _) hg (by rw [World.size_alloc]; have := h.size; omega) h.size⟩

set_option maxRecDepth 100000 in
set_option maxHeartbeats 1000000 in
theorem walk (w : World) : Calls Try.prog 10 #[] w fun e w' => e = .returned (.bool true) ∧ Below w.heap.size w w' := by
  have p1 := fun W => putFixed_any ⟨#[]⟩ 18446744073709551615 8 W (by decide) (by decide) (by decide) (by decide)
  have p2 := fun W => putFixed_any ⟨#[]⟩ 72057594037927936 7 W (by decide) (by decide) (by decide) (by decide)
  have p3 := fun W => putFixed_any ⟨#[]⟩ 72057594037927935 7 W (by decide) (by decide) (by decide) (by decide)
  have p4 := fun W => putFixed_any ⟨#[]⟩ 0 0 W (by decide) (by decide) (by decide) (by decide)
  rw [f1] at p1
  rw [f2] at p2
  rw [f3] at p3
  rw [f4] at p4
  have n1 := fun W => new_uint _ _ u1 (by decide) w W
  have n2 := fun W => new_uint _ _ u2 (by decide) w W
  have n3 := fun W => new_uint _ _ u3 (by decide) w W
  have n4 := fun W => new_text _ _ _ x1 (by decide) (by decide) w W
  have P1 := Lib.hid p1; clear p1
  have P2 := Lib.hid p2; clear p2
  have P3 := Lib.hid p3; clear p3
  have P4 := Lib.hid p4; clear p4
  have N1 := Lib.hid n1; clear n1
  have N2 := Lib.hid n2; clear n2
  have N3 := Lib.hid n3; clear n3
  have N4 := Lib.hid n4; clear n4
  go_enter Try.func10, Try.ntmps10
  go_wp2_with fail
  refine (uint_nil _).mono ?_
  rintro e w1 ⟨rfl, b1⟩
  have B1 := Lib.hid b1; clear b1
  go_wp2_with fail
  refine (fixed_nil 0 _).mono ?_
  rintro e w2 ⟨rfl, b2⟩
  have B2 := Lib.hid (B1.out.trans (b2.mono B1.out.size)); clear b2
  go_wp2_with fail
  refine (text_nil (-1) _).mono ?_
  rintro e w3 ⟨rfl, b3⟩
  have B3 := Lib.hid (B2.out.trans (b3.mono B2.out.size)); clear b3
  go_wp2_with fail
  refine (take_nil (-1) _).mono ?_
  rintro e w4 ⟨rfl, b4⟩
  have B4 := Lib.hid (B3.out.trans (b4.mono B3.out.size)); clear b4
  go_wp2_with fail
  refine (end_nil _).mono ?_
  rintro e wx ⟨rfl, rfl⟩
  go_wp2_with fail
  refine (P1.out _).mono ?_
  rintro e w5 ⟨rfl, b5⟩
  have B5 := Lib.hid (B4.out.trans (b5.mono B4.out.size)); clear b5
  go_wp2_with fail
  refine (P2.out _).mono ?_
  rintro e w6 ⟨rfl, b6⟩
  have B6 := Lib.hid (B5.out.trans (b6.mono B5.out.size)); clear b6
  go_wp2_with fail
  refine (P3.out _).mono ?_
  rintro e w7 ⟨rfl, b7⟩
  have B7 := Lib.hid (B6.out.trans (b7.mono B6.out.size)); clear b7
  go_wp2_with fail
  refine (P4.out _).mono ?_
  rintro e w8 ⟨rfl, b8⟩
  have B8 := Lib.hid (B7.out.trans (b8.mono B7.out.size)); clear b8
  go_wp2_with fail
  refine (wnew_any _ _).mono ?_
  rintro e wx ⟨rfl, rfl⟩
  go_wp2_with fail
  refine (N1.out _ B8.out).mono ?_
  rintro e w9 ⟨rfl, b9⟩
  have B9 := Lib.hid b9; clear b9
  go_wp2_with fail
  refine (wnew_any _ _).mono ?_
  rintro e wx ⟨rfl, rfl⟩
  go_wp2_with fail
  refine (N2.out _ B9.out).mono ?_
  rintro e w10 ⟨rfl, b10⟩
  have B10 := Lib.hid b10; clear b10
  go_wp2_with fail
  refine (wnew_any _ _).mono ?_
  rintro e wx ⟨rfl, rfl⟩
  go_wp2_with fail
  refine (N3.out _ B10.out).mono ?_
  rintro e w11 ⟨rfl, b11⟩
  have B11 := Lib.hid b11; clear b11
  go_wp2_with fail
  refine (wnew_any _ _).mono ?_
  rintro e wx ⟨rfl, rfl⟩
  go_wp2_with fail
  refine (N4.out _ B11.out).mono ?_
  rintro e w12 ⟨rfl, b12⟩
  have B12 := Lib.hid b12; clear b12
  go_wp2_with fail
  refine (left_nil _).mono ?_
  rintro e wx ⟨rfl, rfl⟩
  go_wp2_with fail
  refine (awake_any _).mono ?_
  rintro e w13 ⟨rfl, b13⟩
  have B13 := Lib.hid (B12.out.trans (b13.mono B12.out.size)); clear b13
  go_wp2_with fail
  go_ret
  exact ⟨rfl, B13.out⟩
end Go.Proofs.Ytdoaajjmibkfeaa.wireNone
