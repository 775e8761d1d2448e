/-
  The walks over package wire: New, Left, Put, PutText, Len, short.
-/
import Derived.Test.YtdoaajjmibkfeaaBytes
import Derived.Test.YtdoaajjmibkfeaaWireP
import Derived.RegionTactic
import Derived.BigRegion
import Derived.Outline
import Derived.Laws.Bits64b
import Derived.Deep.DeepCutAuto
import Derived.Deep.CutRange
import Derived.Deep.CutBlock
namespace Go.Proofs.Ytdoaajjmibkfeaa
open Go.RowKit PlainP WireP

theorem wnew_any (s : ByteArray) (w : World) : Calls Try.prog 24 #[.string s] w fun e w' => e = .returned (.pointer (some ⟨w.heap.size, 0, none⟩)) ∧ w' = w.alloc (.cells #[.string s] 78) := by
  go_enter Try.func24, Try.ntmps24
  go_wp2
  go_ret
  exact ⟨rfl, rfl⟩

theorem left_any (g : Nat) (s : ByteArray) (w : World) (h : Blk w g 78 #[.string s]) :
    Calls Try.prog 26 #[.pointer (some ⟨g, 0, none⟩)] w fun e w' => e = .returned (.int .i64 s.size) ∧ w = w' := by
  have c0 : w.cell? ⟨g, 0, none⟩ = some (.string s) := by rw [h.cell]; rfl
  have H := Lib.hid h; clear h
  go_enter Try.func26, Try.ntmps26
  go_wp2
  go_ret
  exact ⟨rfl, rfl⟩
theorem left_nil (w : World) : Calls Try.prog 26 #[.pointer none] w fun e w' => e = .returned (.int .i64 0) ∧ w = w' := by
  go_enter Try.func26, Try.ntmps26
  go_wp2
  go_ret
  exact ⟨rfl, rfl⟩

/-- what short answers -/
def shortV : Option (Nat × Nat) → Value
  | some (n, k) => .tuple #[.int .u64 n, .int .i64 k]
  | none => .tuple #[.int .u64 0, .int .i64 (-1)]

theorem sh_end (l : List Nat) (k q : Nat) (h : l.length ≤ k ∨ 10 ≤ k) : sh k q (l.drop k) = none := by
  rcases h with h | h
  · rw [List.drop_eq_nil_of_le h]; rfl
  · cases l.drop k with
    | nil => rfl
    | cons b t => rw [sh, if_pos h]
theorem and_127 (x : Nat) (hx : x < 256) : bits BinOp.and IntKind.u8 (x : Int) 127 = ((x % 128 : Nat) : Int) := by
  have h1 : (BitVec.ofInt 8 (x : Int)).toNat = x := by rw [BitVec.ofInt_natCast, BitVec.toNat_ofNat]; omega
  have h2 : (BitVec.ofInt 8 127).toNat = 127 := by decide
  have h3 : x &&& 127 = x % 128 := Nat.and_two_pow_sub_one_eq_mod x 7
  show IntKind.u8.wrap ((BitVec.ofInt 8 (x : Int) &&& BitVec.ofInt 8 127).toNat : Int) = _
  rw [BitVec.toNat_and, h1, h2, h3, IntKind.wrap_u8]
  omega
theorem pow128 (k : Nat) : 2 ^ (7 * k) = 128 ^ k := by rw [Nat.pow_mul]
theorem sh_pow (q x k : Nat) (hq : q < 128 ^ k) : q + x % 128 * 128 ^ k < 128 ^ (k + 1) := by
  have h : x % 128 * 128 ^ k ≤ 127 * 128 ^ k := Nat.mul_le_mul_right _ (by omega)
  rw [Nat.pow_succ]; omega
theorem sh_u64 (q x k : Nat) (hq : q < 128 ^ k) (hx : x < 256) (hk : k ≤ 9) (h9 : k = 9 → x ≤ 1) : q + x % 128 * 128 ^ k < 18446744073709551616 := by
  rcases Nat.lt_or_ge k 9 with h | h
  · have h1 := sh_pow q x k hq
    have h2 : 128 ^ (k + 1) ≤ 128 ^ 9 := Nat.pow_le_pow_right (by omega) (by omega)
    have h3 : (128 : Nat) ^ 9 = 9223372036854775808 := by decide
    omega
  · obtain rfl : k = 9 := by omega
    have h3 : (128 : Nat) ^ 9 = 9223372036854775808 := by decide
    have := h9 rfl
    have h4 : x % 128 = x := by omega
    rw [h4]
    have h5 : x * 128 ^ 9 ≤ 1 * 128 ^ 9 := Nat.mul_le_mul_right _ this
    omega
theorem sh_val (q x k : Nat) (hq64 : q < 18446744073709551616) (hq : q < 128 ^ k) (hx : x < 256) (hk : k ≤ 9) (h9 : k = 9 → x ≤ 1) :
    bits BinOp.or IntKind.u64 (q : Int) (IntKind.u64.wrap (IntKind.u64.wrap (bits BinOp.and IntKind.u8 (x : Int) 127) * 2 ^ (7 * k))) = ((q + x % 128 * 128 ^ k : Nat) : Int) := by
  have hu := sh_u64 q x k hq hx hk h9
  have e1 : IntKind.u64.wrap ((x % 128 : Nat) : Int) = ((x % 128 : Nat) : Int) := by rw [IntKind.wrap_u64]; omega
  have e2 : (2 : Int) ^ (7 * k) = ((128 ^ k : Nat) : Int) := by rw [← pow128]; norm_cast
  have e3 : ((x % 128 : Nat) : Int) * ((128 ^ k : Nat) : Int) = ((x % 128 * 128 ^ k : Nat) : Int) := by rw [Int.natCast_mul]
  have e4 : IntKind.u64.wrap ((x % 128 * 128 ^ k : Nat) : Int) = ((x % 128 * 128 ^ k : Nat) : Int) := by rw [IntKind.wrap_u64]; omega
  rw [and_127 x hx, e1, e2, e3, e4]
  have h1 : (BitVec.ofInt 64 (q : Int)).toNat = q := by rw [BitVec.ofInt_natCast, BitVec.toNat_ofNat]; exact Nat.mod_eq_of_lt (by omega)
  have h2 : (BitVec.ofInt 64 ((x % 128 * 128 ^ k : Nat) : Int)).toNat = x % 128 * 128 ^ k := by rw [BitVec.ofInt_natCast, BitVec.toNat_ofNat]; exact Nat.mod_eq_of_lt (by omega)
  have h3 : q ||| x % 128 * 128 ^ k = q + x % 128 * 128 ^ k := by
    have := Nat.shiftLeft_add_eq_or_of_lt (i := 7 * k) (b := q) (by rw [pow128]; exact hq) (x % 128)
    rw [Nat.shiftLeft_eq, pow128] at this
    rw [Nat.or_comm, ← this, Nat.add_comm]
  show IntKind.u64.wrap ((BitVec.ofInt 64 (q : Int) ||| BitVec.ofInt 64 ((x % 128 * 128 ^ k : Nat) : Int)).toNat : Int) = _
  rw [BitVec.toNat_or, h1, h2, h3, IntKind.wrap_u64]
  omega

set_option maxRecDepth 100000 in
theorem short_any (s : ByteArray) (w : World) (hs : s.size ≤ 9223372036854775807) :
    Calls Try.prog 62 #[.string s] w fun e w' => e = .returned (shortV (short (nats s))) ∧ w = w' := by
  generalize ho : short (nats s) = o
  unfold short at ho
  have HO := Lib.hid ho; clear ho
  obtain ⟨m, hms, hm10, hmm⟩ : ∃ m : Nat, m ≤ s.size ∧ m ≤ 10 ∧ (s.size ≤ 10 → m = s.size) ∧ (¬ s.size ≤ 10 → m = 10) := ⟨min s.size 10, by omega, by omega, by omega, by omega⟩
  by_cases h10 : s.size ≤ 10
  all_goals
    have hm1 : s.size ≤ 10 → m = s.size := hmm.1
    have hm2 : ¬ s.size ≤ 10 → m = 10 := hmm.2
    clear hmm
    go_enter Try.func62, Try.ntmps62
    go_wp2_with fail
    go_loop [2, 9] (fun a i => ∃ k q : Nat, i = .int .i64 k ∧ a = .int .u64 q ∧ k ≤ m ∧ Hid (q < 18446744073709551616 ∧ q < 128 ^ k ∧ o = sh k q ((nats s).drop k))) (fun _ i => m - (intOf i).toNat)
    case atStart => exact ⟨0, 0, rfl, rfl, by omega, by decide, by simp, by rw [← HO.out, List.drop_zero]⟩
    case round =>
      obtain ⟨k, q, rfl, rfl, hk, HE⟩ := hrel
      by_cases hlt : k < m
      · obtain ⟨x, hx⟩ : ∃ x, (nats s)[k]? = some x := ⟨_, List.getElem?_eq_getElem (by rw [nats_length]; omega)⟩
        have hxb : x < 256 := (nats_bytes s).get hx
        have hks : k < s.size := by omega
        have hget : ((s[k]'hks).toNat : Int) = (x : Int) := (PlainAid.get_bt s k hks).trans (bt_nats s k x hx)
        have hd : (nats s).drop k = x :: (nats s).drop (k + 1) := by rw [List.drop_eq_getElem?_toList_append, hx]; rfl
        have HX := Lib.hid hx; clear hx
        have HD := Lib.hid hd; clear hd
        by_cases h9 : k = 9
        · have K9 := Lib.hid h9
          have hk0 : 0 < k := by omega
          by_cases h1 : 1 < x
          · have fA : ((k : Int) == 9) = true := beq_iff_eq.2 (by omega)
            have fB : decide ((1 : Int) < (x : Int)) = true := decide_eq_true (by omega)
            clear h9
            go_wp2_with fail
            go_ret2
            refine ⟨?_, rfl⟩
            rw [HE.out.2.2, HD.out, sh, if_neg (by omega), if_pos (by first | exact .inl ⟨K9.out, h1⟩ | exact .inr ⟨by omega, X0.out⟩)]; rfl
          · by_cases h0 : x = 0
            · have X0 := Lib.hid h0
              have fA : ((k : Int) == 9) = true := beq_iff_eq.2 (by omega)
              have fB : decide ((1 : Int) < (x : Int)) = false := decide_eq_false (by omega)
              have fC : decide ((0 : Int) < (k : Int)) = true := decide_eq_true (by omega)
              have fD : ((x : Int) == 0) = true := beq_iff_eq.2 (by omega)
              clear h9 h0
              go_wp2_with fail
              go_ret2
              refine ⟨?_, rfl⟩
              rw [HE.out.2.2, HD.out, sh, if_neg (by omega), if_pos (by first | exact .inr ⟨by omega, X0.out⟩ | exact .inr ⟨by omega, X0.out⟩)]; rfl
            · have hval := sh_val q x k HE.out.1 HE.out.2.1 hxb (by omega) (by omega)
              obtain ⟨v, hv⟩ : ∃ v, v = q + x % 128 * 128 ^ k := ⟨_, rfl⟩
              rw [← hv] at hval
              have HV := Lib.hid hv; clear hv
              have hgood : ¬ ((k = 9 ∧ 1 < x) ∨ (0 < k ∧ x = 0)) := by omega
              have HG := Lib.hid hgood; clear hgood
              have fA : ((k : Int) == 9) = true := beq_iff_eq.2 (by omega)
              have fB : decide ((1 : Int) < (x : Int)) = false := decide_eq_false (by omega)
              have fC : decide ((0 : Int) < (k : Int)) = true := decide_eq_true (by omega)
              have fD : ((x : Int) == 0) = false := beq_eq_false_iff_ne.2 (by omega)
              clear h9
              go_wp2_with fail
              go_ret2
              refine ⟨?_, rfl⟩
              rw [HE.out.2.2, HD.out, sh, if_neg (by omega), if_neg HG.out, if_pos (by omega), ← HV.out]; rfl
        · by_cases h0 : 0 < k ∧ x = 0
          · obtain ⟨hk0, hx0⟩ := h0
            have X0 := Lib.hid hx0
            have fA : ((k : Int) == 9) = false := beq_eq_false_iff_ne.2 (by omega)
            have fC : decide ((0 : Int) < (k : Int)) = true := decide_eq_true (by omega)
            have fD : ((x : Int) == 0) = true := beq_iff_eq.2 (by omega)
            clear hx0
            go_wp2_with fail
            go_ret2
            refine ⟨?_, rfl⟩
            rw [HE.out.2.2, HD.out, sh, if_neg (by omega), if_pos (by exact .inr ⟨by omega, X0.out⟩)]; rfl
          · have hval := sh_val q x k HE.out.1 HE.out.2.1 hxb (by omega) (by omega)
            obtain ⟨v, hv⟩ : ∃ v, v = q + x % 128 * 128 ^ k := ⟨_, rfl⟩
            rw [← hv] at hval
            have HV := Lib.hid hv; clear hv
            have hgood : ¬ ((k = 9 ∧ 1 < x) ∨ (0 < k ∧ x = 0)) := by omega
            have HG := Lib.hid hgood; clear hgood
            by_cases hk0 : 0 < k
            · have fA : ((k : Int) == 9) = false := beq_eq_false_iff_ne.2 (by omega)
              have fC : decide ((0 : Int) < (k : Int)) = true := decide_eq_true (by omega)
              have fD : ((x : Int) == 0) = false := beq_eq_false_iff_ne.2 (by omega)
              by_cases hlast : x < 128
              · go_wp2_with fail
                go_ret2
                refine ⟨?_, rfl⟩
                rw [HE.out.2.2, HD.out, sh, if_neg (by omega), if_neg HG.out, if_pos (by omega), ← HV.out]; rfl
              · go_wp2_with fail
                go_round
                case rel =>
                  refine ⟨k + 1, v, by go_num, rfl, by omega, by rw [HV.out]; exact sh_u64 q x k HE.out.2.1 hxb (by omega) (by omega), by rw [HV.out]; exact sh_pow q x k HE.out.2.1, ?_⟩
                  rw [HE.out.2.2, HD.out, sh, if_neg (by omega), if_neg HG.out, if_neg (by omega), HV.out]
                case measure => simp [intOf]; omega
            · have fA : ((k : Int) == 9) = false := beq_eq_false_iff_ne.2 (by omega)
              have fC : decide ((0 : Int) < (k : Int)) = false := decide_eq_false (by omega)
              by_cases hlast : x < 128
              · go_wp2_with fail
                go_ret2
                refine ⟨?_, rfl⟩
                rw [HE.out.2.2, HD.out, sh, if_neg (by omega), if_neg HG.out, if_pos (by omega), ← HV.out]; rfl
              · go_wp2_with fail
                go_round
                case rel =>
                  refine ⟨k + 1, v, by go_num, rfl, by omega, by rw [HV.out]; exact sh_u64 q x k HE.out.2.1 hxb (by omega) (by omega), by rw [HV.out]; exact sh_pow q x k HE.out.2.1, ?_⟩
                  rw [HE.out.2.2, HD.out, sh, if_neg (by omega), if_neg HG.out, if_neg (by omega), HV.out]
                case measure => simp [intOf]; omega
      · have hke : k = m := by omega
        have HKE := Lib.hid hke; clear hke
        go_wp2_with fail
        go_ret2
        refine ⟨?_, rfl⟩
        rw [HE.out.2.2, sh_end _ _ _ (by rw [nats_length]; have := HKE.out; omega)]; rfl
end Go.Proofs.Ytdoaajjmibkfeaa
