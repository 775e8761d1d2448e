/-
  The walks over math/bits.TrailingZeros32 (its table held), roll.Ones and the reference's Ones.
-/
import Derived.Test.YtmnggemifcjflaaDoorRollW3
import Derived.Test.YtmnggemifcjflaaDoorOnesP
import Derived.Laws.Bits64b
namespace Go.Proofs.YtmnggemifcjflaaDoor
open Go.RowKit PlainP OnesP

/-- the table of math/bits, in block 0 -/
def Tab (w : World) : Prop := 0 < w.heap.size ∧ ∀ j, j < 32 → w.cell? ⟨0, j, none⟩ = some (.int .u8 ((Lib.deBruijn32tab.getD j 0 : Nat) : Int))
theorem Tab.below {w w' : World} {B : Nat} (h : Tab w) (hb : Below B w w') (hB : 0 < B) : Tab w' :=
  ⟨Nat.lt_of_lt_of_le h.1 hb.size, fun j hj => (hb.cell (p := ⟨0, j, none⟩) hB).trans (h.2 j hj)⟩
theorem Tab.grown {w w' : World} {row : Option Nat} (h : Tab w) (hg : w.grownBy w' row) (hr : some 0 ≠ row) : Tab w' :=
  ⟨Nat.lt_of_lt_of_le h.1 hg.size, fun j hj => (World.cell?_of_block (a := ⟨0, j, none⟩) (hg.block 0 h.1 hr)).trans (h.2 j hj)⟩

theorem tab_of {w : World} (h : ∀ j, j < 32 → w.cell? ⟨0, j, none⟩ = some (.int .u8 (([0, 1, 28, 2, 29, 14, 24, 3, 30, 22, 20, 15, 25, 17, 4, 8, 31, 27, 13, 23, 21, 19, 16, 7, 26, 12, 18, 6, 11, 5, 10, 9] : List Int).getD j 0))) : Tab w := by
  refine ⟨cell_lt (h 0 (by omega)), fun j hj => ?_⟩
  rw [h j hj]
  have : ∀ j, j < 32 → ([0, 1, 28, 2, 29, 14, 24, 3, 30, 22, 20, 15, 25, 17, 4, 8, 31, 27, 13, 23, 21, 19, 16, 7, 26, 12, 18, 6, 11, 5, 10, 9] : List Int).getD j 0 = ((Lib.deBruijn32tab.getD j 0 : Nat) : Int) := by decide +kernel
  rw [this j hj]

theorem and_u32_nat (a b : Nat) (ha : a < 4294967296) (hb : b < 4294967296) : bits .and .u32 (a : Int) (b : Int) = ((a &&& b : Nat) : Int) := by
  have hx : a &&& b < 2 ^ 32 := Nat.and_lt_two_pow _ (by omega)
  have h1 : (BitVec.ofInt 32 (a : Int)).toNat = a := by
    rw [BitVec.ofInt_natCast, BitVec.toNat_ofNat]; exact Nat.mod_eq_of_lt (by omega)
  have h2 : (BitVec.ofInt 32 (b : Int)).toNat = b := by
    rw [BitVec.ofInt_natCast, BitVec.toNat_ofNat]; exact Nat.mod_eq_of_lt (by omega)
  show IntKind.u32.wrap ((BitVec.ofInt 32 (a : Int) &&& BitVec.ofInt 32 (b : Int)).toNat : Int) = _
  rw [BitVec.toNat_and, h1, h2, IntKind.wrap_u32]
  omega
theorem not_u32 (n : Nat) (h : n < 4294967296) : bits BinOp.xor IntKind.u32 IntKind.u32.max (n : Int) = ((4294967295 - n : Nat) : Int) := by
  have h1 : BitVec.ofInt 32 IntKind.u32.max = BitVec.allOnes 32 := by decide
  have h2 : (BitVec.ofInt 32 (n : Int)).toNat = n := by rw [BitVec.ofInt_natCast, BitVec.toNat_ofNat]; exact Nat.mod_eq_of_lt (by omega)
  show IntKind.u32.wrap ((BitVec.ofInt 32 IntKind.u32.max ^^^ BitVec.ofInt 32 (n : Int)).toNat : Int) = _
  rw [h1, BitVec.allOnes_xor, BitVec.toNat_not, h2, IntKind.wrap_u32]
  omega
theorem tz_key (x a : Nat) (hx : x < 4294967296) (hx0 : x ≠ 0) (hlow : x &&& (4294967296 - x) = a) :
    bits BinOp.and IntKind.u32 (x : Int) (-(x : Int) % 4294967296) * 125613361 % 4294967296 / 134217728 = ((a * 125613361 % 4294967296 / 134217728 : Nat) : Int) := by
  have e1 : -(x : Int) % 4294967296 = ((4294967296 - x : Nat) : Int) := by omega
  rw [e1, and_u32_nat x _ hx (by omega), hlow]
  omega
theorem tz_core (x k idx : Nat) (w : World) (hx0 : ((x : Int) == 0) = false)
    (key : bits BinOp.and IntKind.u32 (x : Int) (-(x : Int) % 4294967296) * 125613361 % 4294967296 / 134217728 = (idx : Int))
    (hi : idx < 32) (hk : k < 32) (hcell : w.cell? ⟨0, idx, none⟩ = some (.int .u8 k)) :
    Calls Tryd.prog 37 #[.int .u32 x] w fun e w' => e = .returned (.int .i64 k) ∧ w = w' := by
  go_enter Tryd.func37, Tryd.ntmps37
  go_wp2_with (simp only [key])
  go_ret
  exact ⟨rfl, rfl⟩
theorem tz_zero (w : World) : Calls Tryd.prog 37 #[.int .u32 0] w fun e w' => e = .returned (.int .i64 32) ∧ w = w' := by
  go_enter Tryd.func37, Tryd.ntmps37
  go_wp2
  go_ret
  exact ⟨rfl, rfl⟩
theorem tz_any (x : Nat) (hx : x < 4294967296) (w : World) (hT : Tab w) : Calls Tryd.prog 37 #[.int .u32 x] w fun e w' => e = .returned (.int .i64 (Lib.ctz 32 x : Nat)) ∧ w = w' := by
  by_cases hx0 : x = 0
  · subst hx0
    exact tz_zero w
  · obtain ⟨hlow, hk⟩ := Lib.lowest_bit 32 x hx0 hx
    obtain ⟨hi, htab⟩ := Lib.deBruijn32_at _ hk
    have hcell := hT.2 _ hi
    rw [htab] at hcell
    exact tz_core x _ _ w (by simp; omega) (tz_key x _ hx hx0 hlow) hi hk hcell

theorem ones_any (n : Nat) (hn : n < 4294967296) (w : World) (hT : Tab w) : Calls Tryd.prog 14 #[.int .u32 n] w fun e w' => e = .returned (.int .i64 (ones n : Nat)) ∧ w = w' := by
  have h := tz_any (4294967295 - n) (by omega) w hT
  rw [ctz_not n hn] at h
  have H := Lib.hid h; clear h
  go_enter Tryd.func14, Tryd.ntmps14
  go_wp2_with fail
  rw [not_u32 n hn]
  refine (H.out).mono ?_
  rintro e w' ⟨rfl, rfl⟩
  go_wp2_with fail
  go_ret
  exact ⟨rfl, rfl⟩

theorem refOnes_any (n : Nat) (hn : n < 4294967296) (w : World) : Calls Tryd.prog 15 #[.int .u32 n] w fun e w' => e = .returned (.int .i64 (ones n : Nat)) ∧ w = w' := by
  generalize ho : ones n = o
  unfold ones at ho
  have HO := Lib.hid ho; clear ho
  go_enter Tryd.func15, Tryd.ntmps15
  go_wp2_with fail
  go_loop [0, 3] (fun m k => ∃ (k' m' : Nat), k = .int .i64 k' ∧ m = .int .u32 m' ∧ k' ≤ 32 ∧ m' < 4294967296 ∧ Hid (o = k' + onesF (32 - k') m')) (fun _ k => 32 - (intOf k).toNat)
  case atStart => exact ⟨0, n, rfl, rfl, by omega, hn, by rw [← HO.out]; show onesF 32 n = 0 + onesF (32 - 0) n; rw [Nat.zero_add]⟩
  case round =>
    obtain ⟨k, m, rfl, rfl, hk, hm, HE⟩ := hrel
    by_cases hlt : k < 32
    · by_cases hodd : m % 2 = 1
      · have hb : ((m : Int) % 2 == 1) = true := by simp; omega
        go_wp2_with fail
        go_round
        case rel =>
          refine ⟨k + 1, m / 2, by go_num, by go_num, by omega, by omega, ?_⟩
          have h1 := HE.out
          rw [show 32 - k = (32 - (k + 1)) + 1 by omega, onesF, if_pos hodd] at h1
          show o = _
          omega
        case measure => simp [intOf]; omega
      · have hb : ((m : Int) % 2 == 1) = false := by simp; omega
        go_wp2_with fail
        go_ret
        refine ⟨?_, rfl⟩
        have h1 := HE.out
        rw [show 32 - k = (32 - (k + 1)) + 1 by omega, onesF, if_neg hodd] at h1
        rw [h1]; rfl
    · go_wp2_with fail
      go_ret
      refine ⟨?_, rfl⟩
      have h1 := HE.out
      obtain rfl : k = 32 := by omega
      rw [h1]; rfl
end Go.Proofs.YtmnggemifcjflaaDoor
