/-
  The walks over the law's own helpers: width, cut, awake.
-/
import Derived.Test.YtdoaajjmibkfeaaWireR5
import Derived.Test.YtdoaajjmibkfeaaWireW3
namespace Go.Proofs.Ytdoaajjmibkfeaa
open Go.RowKit PlainP WireP

/-- the width that width answers -/
def wdt (n : Int) : Nat := (n % 8).toNat + 1
theorem wdt_bd (n : Int) : 1 ≤ wdt n ∧ wdt n ≤ 8 := by unfold wdt; omega
theorem wdt_eq (n : Int) : n.tmod 8 % 8 + 1 = (wdt n : Int) := by
  have e2 : n.tmod 8 % 8 = n % 8 := by
    have := Int.mul_tdiv_add_tmod n 8
    omega
  unfold wdt
  omega
theorem width_any (n : Int) (w : World) :
    Calls Try.prog 41 #[.int .i64 n] w fun e w' => e = .returned (.int .i64 (wdt n : Nat)) ∧ w = w' := by
  have h := tmod_bd n 8 (by omega)
  have he := Lib.hid (wdt_eq n)
  go_enter Try.func41, Try.ntmps41
  go_wp2_with fail
  go_ret
  exact ⟨congrArg (fun z => Ending.returned (Value.int .i64 z)) he.out, rfl⟩

/-- what cut answers -/
def cutN (n wd : Nat) : Nat := if wd = 8 then n else n % 256 ^ wd
theorem cutN_fits (n wd : Nat) : fits (cutN n wd) wd = true := by
  unfold fits cutN
  apply decide_eq_true
  by_cases h : wd = 8
  · exact .inl h
  · rw [if_neg h]; exact .inr (Nat.mod_lt _ (Nat.pow_pos (by omega)))
theorem cutN_lt (n wd : Nat) (h : n < 18446744073709551616) : cutN n wd < 18446744073709551616 := by
  unfold cutN
  split
  · exact h
  · exact Nat.lt_of_le_of_lt (Nat.mod_le _ _) h
theorem cut_any (n wd : Nat) (w : World) (h1 : 1 ≤ wd) (h8 : wd ≤ 8) :
    Calls Try.prog 40 #[.int .u64 n, .int .i64 wd] w fun e w' => e = .returned (.int .u64 (cutN n wd : Nat)) ∧ w = w' := by
  by_cases h : wd = 8
  · subst h
    rw [cutN, if_pos rfl]
    go_enter Try.func40, Try.ntmps40
    go_wp2_with fail
    go_ret
    exact ⟨rfl, rfl⟩
  · have hwd : wd = 1 ∨ wd = 2 ∨ wd = 3 ∨ wd = 4 ∨ wd = 5 ∨ wd = 6 ∨ wd = 7 := by omega
    rcases hwd with rfl | rfl | rfl | rfl | rfl | rfl | rfl
    all_goals
      rw [cutN, if_neg h]
      clear h h1 h8
      go_enter Try.func40, Try.ntmps40
      go_wp2_with fail
      go_ret
      exact ⟨rfl, rfl⟩

theorem put300 : mkS (put 300) = ⟨#[172, 2]⟩ := by kernel_rfl
theorem short300 : short (nats ⟨#[172, 2]⟩) = some (300, 2) := by kernel_rfl
theorem awake_any (w : World) : Calls Try.prog 27 #[] w fun e w' => e = .returned (.bool true) ∧ Below w.heap.size w w' := by
  have hp := fun W => put_any ⟨#[]⟩ 300 W (by decide) (by decide)
  have hx := fun W => put_any ⟨#[120]⟩ 300 W (by decide) (by decide)
  rw [put300, show (⟨#[]⟩ : ByteArray) ++ ⟨#[172, 2]⟩ = ⟨#[172, 2]⟩ by kernel_rfl] at hp
  rw [put300, show (⟨#[120]⟩ : ByteArray) ++ ⟨#[172, 2]⟩ = ⟨#[120, 172, 2]⟩ by kernel_rfl] at hx
  have HP := Lib.hid hp; clear hp
  have HX := Lib.hid hx; clear hx
  go_enter Try.func27, Try.ntmps27
  go_wp2_with fail
  refine (HP.out _).mono ?_
  rintro e w1 ⟨rfl, hb1⟩
  have HB1 := Lib.hid hb1; clear hb1
  go_wp2_with fail
  refine (wnew_any _ _).mono ?_
  rintro e w2 ⟨rfl, rfl⟩
  go_wp2_with fail
  refine (uint_any _ _ _ (Blk.new w1 _ _) (by decide)).mono ?_
  rintro e w2 ⟨rfl, hg2, hblk⟩
  rw [short300] at hblk ⊢
  simp only [restU, uintV] at hblk ⊢
  have hb2 : Below w.heap.size w w2 := below_of_only (HB1.out.alloc HB1.out.size _) hg2 (by simp; have := HB1.out.size; omega) HB1.out.size
  have HB2 := Lib.hid hb2; clear hb2 hg2
  have HK := Lib.hid hblk; clear hblk
  go_wp2_with fail
  refine (HX.out _).mono ?_
  rintro e w3 ⟨rfl, hb3⟩
  have hk3 := HK.out.below hb3 HK.out.lt
  have hb3' := HB2.out.trans (hb3.mono HB2.out.size)
  have HK3 := Lib.hid hk3; clear hk3 hb3
  have HB3 := Lib.hid hb3'; clear hb3'
  go_wp2_with fail
  refine (end_any _ _ _ HK3.out).mono ?_
  rintro e w4 ⟨rfl, rfl⟩
  rw [if_pos (by decide)]
  go_wp2_with fail
  go_ret
  exact ⟨rfl, HB3.out⟩
end Go.Proofs.Ytdoaajjmibkfeaa
