/-
  The walk over RollUnlike.
-/
import Derived.Test.YtmnggemifcjflaaRollW3
namespace Go.Proofs.Ytmnggemifcjflaa.rollUnlike
open Go.RowKit PlainP RollP
set_option linter.unusedVariables false

theorem unlike_ne (t : ByteArray) (q x b : Nat) (htl : t.size ≤ 64) (hx : (nats t)[q]? = some x) (hxb : x < 256) (hb : b < 256) (hb0 : b ≠ 0) :
    ((digS (mkS ((nats t).set q (x ^^^ b))) : Int) != (digS t : Int)) = true := by
  have hxy := xor_lt x b hxb hb
  rw [bne_iff_ne]
  unfold digS
  rw [nats_mkS ((nats_bytes t).set q hxy)]
  have := dig_unlike (nats t) q x (x ^^^ b) (by rw [nats_length]; exact htl) (nats_bytes t) hx hxy (xor_ne x b hb0)
  omega
set_option maxRecDepth 100000 in
theorem walk (s : ByteArray) (at0 : Int) (b0 : Int) (n : Int) (w : World) (hs : s.size ≤ maxLen) (hat : (Lit.int .i64 at0).wf = true) (hby : (Lit.int .u8 b0).wf = true) (hn : (Lit.int .i64 n).wf = true) :
    Calls Try.prog 5 #[.string s, .int .i64 at0, .int .u8 b0, .int .i64 n] w fun e w' => e = .returned (.bool true) ∧ Below w.heap.size w w' := by
  unfold maxLen at hs
  have bn : -9223372036854775808 ≤ n ∧ n ≤ 9223372036854775807 := by simpa [Lit.wf, IntKind.min, IntKind.max, IntKind.signed, IntKind.bits] using hn
  have ba : -9223372036854775808 ≤ at0 ∧ at0 ≤ 9223372036854775807 := by simpa [Lit.wf, IntKind.min, IntKind.max, IntKind.signed, IntKind.bits] using hat
  have bb : 0 ≤ b0 ∧ b0 ≤ 255 := by simpa [Lit.wf, IntKind.min, IntKind.max, IntKind.signed, IntKind.bits] using hby
  clear hat hby hn
  have hn1 : -199 ≤ n.tmod 200 ∧ n.tmod 200 ≤ 199 := by have := tmod_bd n 200 (by omega); omega
  obtain ⟨m, hm⟩ : ∃ m : Nat, (n.tmod 200 + 200) % 200 = (m : Int) := ⟨((n.tmod 200 + 200) % 200).toNat, by omega⟩
  have hm2 : m < 200 := by omega
  obtain ⟨b, rfl⟩ : ∃ b : Nat, b0 = (b : Int) := ⟨b0.toNat, by omega⟩
  have hmk := fun W => make_bytes W m (by omega)
  have hcv := fun W => zeros_back W m 5
  have HZ : Hid (∀ W, Calls Try.prog 14 #[.string (mkS (List.replicate m 0))] W fun e w' => e = .returned (.int .u32 130087904) ∧ Below W.heap.size W w') := Lib.hid fun W => by
    have h := of_any (mkS (List.replicate m 0)) W (by rw [mkS_size, List.length_replicate]; omega)
    have e : digS (mkS (List.replicate m 0)) = 130087904 := by
      rw [← digS_empty]; unfold digS
      rw [nats_mkS (Bytes.replicate m (by omega)), win_zeros]; rfl
    rw [e] at h; exact h
  have HE : Hid (∀ W, Calls Try.prog 14 #[.string ⟨#[]⟩] W fun e w' => e = .returned (.int .u32 130087904) ∧ Below W.heap.size W w') := Lib.hid fun W => by
    have h := of_any ⟨#[]⟩ W (by decide)
    have e : digS ⟨#[]⟩ = 130087904 := digS_empty
    rw [e] at h; exact h
  obtain ⟨t, htl, hcase⟩ : ∃ t : ByteArray, t.size ≤ 64 ∧ ((64 < s.size ∧ s.extract 0 64 = t) ∨ (¬ 64 < s.size ∧ t = s)) := by
    by_cases h64 : 64 < s.size
    · exact ⟨s.extract 0 64, by rw [ByteArray.size_extract]; omega, .inl ⟨h64, rfl⟩⟩
    · exact ⟨s, by omega, .inr ⟨h64, rfl⟩⟩
  rcases hcase with ⟨h64, ht⟩ | ⟨h64, rfl⟩
  all_goals go_enter Try.func5, Try.ntmps5
  all_goals go_wp2_with fail
  all_goals refine (awake_any _).mono ?_
  all_goals rintro e w1 ⟨rfl, hb1⟩
  all_goals go_wp2_with fail
  all_goals refine (HZ.out _).mono ?_
  all_goals rintro e w2 ⟨rfl, hb2⟩
  all_goals go_wp2_with fail
  all_goals refine (HE.out _).mono ?_
  all_goals rintro e w3 ⟨rfl, hb3⟩
  all_goals clear hmk hcv
  all_goals have hB3 : Below w.heap.size w w3 := ((hb1.trans (((Below.refl _ _).alloc (Nat.le_refl _) _).mono hb1.size)).trans (hb2.mono (by have := hb1.size; simp; omega))).trans (hb3.mono (by have := hb1.size; have := hb2.size; simp at *; omega))
  all_goals clear hb1 hb2 hb3
  all_goals by_cases hdo : t.size = 0 ∨ b = 0
  all_goals first | ((rcases hdo with hdo | hdo <;> (go_wp2_with fail; all_goals (go_ret; exact ⟨rfl, hB3⟩))); done) | skip
  all_goals obtain ⟨hd1, hd2⟩ : ¬ t.size = 0 ∧ ¬ b = 0 := ⟨fun h => hdo (.inl h), fun h => hdo (.inr h)⟩
  all_goals clear hdo
  all_goals have hd3 : ((t.size : Int) == 0) = false := beq_eq_false_iff_ne.2 (by omega)
  all_goals have hd4 : ((b : Int) == 0) = false := beq_eq_false_iff_ne.2 (by omega)
  all_goals obtain ⟨q, hq⟩ : ∃ q : Nat, (at0.tmod t.size + t.size) % t.size = (q : Int) := ⟨((at0.tmod t.size + t.size) % t.size).toNat, by have := Int.emod_nonneg (at0.tmod t.size + t.size) (b := (t.size : Int)) (by omega); omega⟩
  all_goals have hq2 : q < t.size := by have := Int.emod_lt_of_pos (at0.tmod t.size + t.size) (b := (t.size : Int)) (by omega); omega
  all_goals have ha1 : -(t.size : Int) < at0.tmod t.size ∧ at0.tmod t.size < t.size := tmod_bd at0 t.size (by omega)
  all_goals have hcv2 := fun W : World => run_bytes_of_string (P := Try.prog) W 9 31 5 t Try.underlying9 Try.underlying31 Try.underlying5
  all_goals obtain ⟨x, hx⟩ : ∃ x, (nats t)[q]? = some x := ⟨_, List.getElem?_eq_getElem (by rw [nats_length]; exact hq2)⟩
  all_goals have hxb : x < 256 := (nats_bytes t).get hx
  all_goals have hcell := fun cap m => laid_holds w3 t cap 5 m q x hx
  all_goals have hfr := fun cap => laid_bytes w3 t cap 5 q hq2
  all_goals have hxor := xor_byte x b hxb (by omega)
  all_goals have hxy : x ^^^ b < 256 := xor_lt x b hxb (by omega)
  all_goals have hback := fun cap m => back_set w3 t q (x ^^^ b) cap m hxy
  all_goals have hne := unlike_ne t q x b htl hx hxb (by omega) hd2
  all_goals have HX := Lib.hid hx
  all_goals clear hx
  all_goals have HO1 := Lib.hid (fun W => of_any (mkS ((nats t).set q (x ^^^ b))) W (by rw [mkS_size, List.length_set, nats_length]; omega))
  all_goals have HO2 := Lib.hid (fun W => of_any t W (by omega))
  all_goals go_wp2_with fail
  all_goals refine (HO1.out _).mono ?_
  all_goals rintro e w4 ⟨rfl, hb4⟩
  all_goals go_wp2_with fail
  all_goals refine (HO2.out _).mono ?_
  all_goals rintro e w5 ⟨rfl, hb5⟩
  all_goals go_wp2_with fail
  all_goals go_ret
  all_goals refine ⟨rfl, ?_⟩
  all_goals have hB4 := (hB3.alloc hB3.size (.cells (bytesRow t (grownCap w3 t.size 0 5)) 5 ((bytesRow t (grownCap w3 t.size 0 5)).size, (bytesRow t (grownCap w3 t.size 0 5)).size + 1))).setCell (p := ⟨w3.heap.size, q, none⟩) hB3.size (.int .u8 ((x ^^^ b : Nat) : Int)) |>.drew
  all_goals have hB5 := hB4.trans (hb4.mono hB4.size)
  all_goals exact hB5.trans (hb5.mono hB5.size)
end Go.Proofs.Ytmnggemifcjflaa.rollUnlike
