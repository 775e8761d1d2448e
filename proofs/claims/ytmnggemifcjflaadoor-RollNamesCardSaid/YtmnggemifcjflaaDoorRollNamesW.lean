/-
  The walk over RollNames: a roll that is not there, and the chapter's numbers.
-/
import Derived.Test.YtmnggemifcjflaaDoorOnesW
namespace Go.Proofs.YtmnggemifcjflaaDoor.rollNames
open Go.RowKit PlainP RollP OnesP
set_option linter.unusedVariables false

theorem add_nil (b : Nat) (w : World) : Calls Tryd.prog 16 #[.pointer none, .int .u8 b] w fun e w' => e = .returned (.tuple #[]) ∧ w = w' := by
  go_enter Tryd.func16, Tryd.ntmps16
  go_wp2
  refine bodyPost_ret (results_none rfl _ _ _) rfl ?_
  exact ⟨rfl, rfl⟩
theorem digest_nil (w : World) : Calls Tryd.prog 18 #[.pointer none] w fun e w' => e = .returned (.int .u32 0) ∧ w = w' := by
  go_enter Tryd.func18, Tryd.ntmps18
  go_wp2
  go_ret
  exact ⟨rfl, rfl⟩
theorem write_nil (s : ByteArray) (w : World) (hs : s.size ≤ 9223372036854775807) :
    Calls Tryd.prog 17 #[.pointer none, .string s] w fun e w' => e = .returned (.tuple #[]) ∧ Below w.heap.size w w' := by
  have hcv := fun W : World => run_bytes_of_string (P := Tryd.prog) W 9 74 5 s Tryd.underlying9 Tryd.underlying74 Tryd.underlying5
  have hb0 := HasBytes.new w.drew s (grownCap w s.size 0 5) 5 ((bytesRow s (grownCap w s.size 0 5)).size, (bytesRow s (grownCap w s.size 0 5)).size + 1)
  have HB := Lib.hid hb0; clear hb0
  go_enter Tryd.func17, Tryd.ntmps17
  go_wp2_with fail
  go_loopw [9] (fun i wr => ∃ k : Nat, i = .int .i64 k ∧ k ≤ s.size ∧ Hid (Below w.heap.size w wr ∧ HasBytes wr w.heap.size s)) (fun i _ => s.size - (intOf i).toNat)
  case atStart => exact ⟨0, rfl, Nat.zero_le _, ((Below.refl _ _).alloc (Nat.le_refl _) _).drew, HB.out⟩
  case round =>
    obtain ⟨k, rfl, hk, H⟩ := hrel
    by_cases hlt : k < s.size
    · obtain ⟨x, hx⟩ : ∃ x, (nats s)[k]? = some x := ⟨_, List.getElem?_eq_getElem (by rw [nats_length]; exact hlt)⟩
      have hcell : wr.cell? ⟨w.heap.size, k, none⟩ = some (.int .u8 (x : Int)) := H.out.2 k x hx
      have HX := Lib.hid hx; clear hx
      go_wp2_with (go_at_call 16; refine (add_nil x _).mono ?_; rintro e w' ⟨rfl, rfl⟩)
      go_roundw
      case rel => exact ⟨k + 1, by go_num, by omega, H.out⟩
      case measure => simp [intOf]; omega
    · obtain rfl : k = s.size := by omega
      go_wp2
      go_end0
      exact ⟨rfl, H.out.1⟩

theorem walk (w : World) (hT : Tab w) :
    Calls Tryd.prog 4 #[] w fun e w' => e = .returned (.bool true) ∧ Below w.heap.size w w' := by
  have h1 := fun W => of_any ⟨#[1]⟩ W (by decide)
  rw [digS_one] at h1
  have h7 := fun W h => ones_any 7 (by decide) W h
  have hm := fun W h => ones_any 4294967295 (by decide) W h
  rw [show ones 7 = 3 by decide +kernel] at h7
  rw [show ones 4294967295 = 32 by decide +kernel] at hm
  have hdg : dig (win []) = 130087904 := by decide +kernel
  have hD := fun g W h => digest_any g (win []) W h
  rw [hdg] at hD
  have H1 := Lib.hid h1; clear h1
  have H7 := Lib.hid h7; clear h7
  have HM := Lib.hid hm; clear hm
  have HD := Lib.hid hD; clear hD hdg
  have HT := Lib.hid hT; clear hT
  have hW := fun W => write_nil ⟨#[97]⟩ W (by decide)
  have HW := Lib.hid hW; clear hW
  have hA := fun W => add_nil 1 W
  have HA := Lib.hid hA; clear hA
  go_enter Tryd.func4, Tryd.ntmps4
  go_wp2_with fail
  refine (HA.out _).mono ?_
  rintro e w1 ⟨rfl, rfl⟩
  go_wp2_with fail
  refine (HW.out _).mono ?_
  rintro e w2 ⟨rfl, hb2⟩
  go_wp2_with fail
  refine (digest_nil _).mono ?_
  rintro e w3 ⟨rfl, rfl⟩
  go_wp2_with fail
  refine (new_roll _).mono ?_
  rintro e w4 ⟨W, rfl, rfl, hg4, hl4, hr4⟩
  go_wp2_with fail
  refine (HD.out _ _ hr4).mono ?_
  rintro e w5 ⟨rfl, n, rfl⟩
  go_wp2_with fail
  refine (H1.out _).mono ?_
  rintro e w6 ⟨rfl, hb6⟩
  have hB : Below w.heap.size w w6 := (hb2.trans ((below_drewN ((Below.refl _ _).grown hg4 (Nat.le_refl _) (by simp)) n).mono hb2.size)).trans (hb6.mono (Nat.le_trans hb2.size hg4.size))
  have hT6 := HT.out.below hB HT.out.1
  clear hb2 hg4 hl4 hr4 hb6
  have HT6 := Lib.hid hT6; clear hT6
  go_wp2_with fail
  refine (H7.out _ HT6.out).mono ?_
  rintro e w7 ⟨rfl, rfl⟩
  go_wp2_with fail
  refine (HM.out _ HT6.out).mono ?_
  rintro e w8 ⟨rfl, rfl⟩
  go_wp2_with fail
  go_ret
  exact ⟨rfl, hB⟩
end Go.Proofs.YtmnggemifcjflaaDoor.rollNames
