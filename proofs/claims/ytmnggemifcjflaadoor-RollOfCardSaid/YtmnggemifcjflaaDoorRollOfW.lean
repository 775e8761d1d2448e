/-
  The walk over RollOf.
-/
import Derived.Test.YtmnggemifcjflaaDoorOnesW
namespace Go.Proofs.YtmnggemifcjflaaDoor.rollOf
open Go.RowKit PlainP OnesP
set_option linter.unusedVariables false

theorem walk (s : ByteArray) (n : Int) (w : World) (hs : s.size ≤ maxLen) (hn : (Lit.int .u32 n).wf = true) (hT : Tab w) :
    Calls Tryd.prog 3 #[.string s, .int .u32 n] w fun e w' => e = .returned (.bool true) ∧ Below w.heap.size w w' := by
  unfold maxLen at hs
  have bn : 0 ≤ n ∧ n ≤ 4294967295 := by simpa [Lit.wf, IntKind.min, IntKind.max, IntKind.signed, IntKind.bits] using hn
  clear hn
  obtain ⟨n, rfl⟩ : ∃ m : Nat, n = (m : Int) := ⟨n.toNat, by omega⟩
  have hn : n < 4294967296 := by omega
  have HT := Lib.hid hT; clear hT
  have hd : ((digS s : Int) == (digS s : Int)) = true := by simp
  have ho : ((ones n : Int) == (ones n : Int)) = true := by simp
  go_enter Tryd.func3, Tryd.ntmps3
  go_wp2_with fail
  refine (of_any s _ hs).mono ?_
  rintro e w1 ⟨rfl, hb1⟩
  go_wp2_with fail
  refine (ref_any s _ hs).mono ?_
  rintro e w2 ⟨rfl, rfl⟩
  go_wp2_with fail
  have hT1 := HT.out.below hb1 HT.out.1
  refine (ones_any n hn _ hT1).mono ?_
  rintro e w2 ⟨rfl, rfl⟩
  clear hT1
  go_wp2_with fail
  refine (refOnes_any n hn _).mono ?_
  rintro e w2 ⟨rfl, rfl⟩
  go_wp2_with fail
  go_ret
  exact ⟨rfl, hb1⟩
end Go.Proofs.YtmnggemifcjflaaDoor.rollOf
