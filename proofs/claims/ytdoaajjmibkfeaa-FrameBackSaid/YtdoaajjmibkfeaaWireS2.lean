/-
  The walks over the reference's reader: Fixed, Text.
-/
import Derived.Test.YtdoaajjmibkfeaaWireS
namespace Go.Proofs.Ytdoaajjmibkfeaa
open Go.RowKit PlainP WireP

theorem rfix_val (q x k : Nat) (hk : k < 8) (hq : q < 256 ^ k) (hx : x < 256) :
    IntKind.u64.wrap (IntKind.u64.wrap ((q : Int) * 256) + (x : Int)) = ((q * 256 + x : Nat) : Int) := by
  have hb : q * 256 + x < 18446744073709551616 := Nat.lt_of_lt_of_le (fix_lt q x k hq hx) (fix_pow k hk)
  have e1 : (q : Int) * 256 = ((q * 256 : Nat) : Int) := by omega
  have e2 : IntKind.u64.wrap ((q * 256 : Nat) : Int) = ((q * 256 : Nat) : Int) := by rw [IntKind.wrap_u64]; exact Int.emod_eq_of_lt (Int.natCast_nonneg _) (Int.ofNat_lt.2 (Nat.lt_of_le_of_lt (Nat.le_add_right _ _) hb))
  rw [e1, e2, ← Int.natCast_add, IntKind.wrap_u64]
  exact Int.emod_eq_of_lt (Int.natCast_nonneg _) (Int.ofNat_lt.2 hb)

set_option maxRecDepth 100000 in
theorem rfixed_any (g : Nat) (s : ByteArray) (n : Int) (w : World) (h : Blk w g 47 #[.string s]) (hs : s.size ≤ 9223372036854775807) :
    Calls Try.prog 48 #[.pointer (some ⟨g, 0, none⟩), .int .i64 n] w fun e w' => e = .returned (fixV s n) ∧ w.grownBy w' (some g) ∧ Blk w' g 47 #[.string (fixRest s n)] := by
  have c0 : w.cell? ⟨g, 0, none⟩ = some (.string s) := by rw [h.cell]; rfl
  have f0 := h.frozen 0
  have H := Lib.hid h; clear h
  by_cases h0 : n < 1 ∨ 8 < n
  · have hv : fixV s n = .tuple #[.int .u64 0, .int .i64 1] := by rw [fixV, if_pos h0]
    have hr : fixRest s n = s := by rw [fixRest, if_neg (by omega)]
    rw [hr, hv]
    clear hv hr
    rcases h0 with h0 | h0
    · go_enter Try.func48, Try.ntmps48
      go_wp2_with fail
      go_ret2
      exact ⟨rfl, only_refl _ _, H.out⟩
    · go_enter Try.func48, Try.ntmps48
      go_wp2_with fail
      go_ret2
      exact ⟨rfl, only_refl _ _, H.out⟩
  · obtain ⟨n, rfl⟩ : ∃ m : Nat, n = (m : Int) := ⟨n.toNat, by omega⟩
    have h1 : 1 ≤ n := by omega
    have h8 : n ≤ 8 := by omega
    clear h0
    by_cases hns : n ≤ s.size
    · have hv : fixV s n = .tuple #[.int .u64 (beVal 0 ((nats s).take n) : Nat), .int .i64 0] := by rw [fixV, if_neg (by omega), if_pos (by omega), Int.toNat_natCast]
      have hr : fixRest s n = s.extract n s.size := by rw [fixRest, if_pos (by omega), Int.toNat_natCast]
      rw [hr, hv]
      clear hv hr
      go_enter Try.func48, Try.ntmps48
      go_wp2_with fail
      go_loop [6, 7] (fun a i => ∃ k q : Nat, i = .int .i64 k ∧ a = .int .u64 q ∧ k ≤ n ∧ Hid (q = beVal 0 ((nats s).take k))) (fun _ i => n - (intOf i).toNat)
      case atStart => exact ⟨0, 0, rfl, rfl, by omega, (rfl : (0 : Nat) = beVal 0 ((nats s).take 0))⟩
      case round =>
        obtain ⟨k, q, rfl, rfl, hk, HE⟩ := hrel
        by_cases hlt : k < n
        · obtain ⟨x, hx⟩ : ∃ x, (nats s)[k]? = some x := ⟨_, List.getElem?_eq_getElem (by rw [nats_length]; omega)⟩
          have hxb : x < 256 := (nats_bytes s).get hx
          have hks : k < s.size := by omega
          have hget : ((s[k]'hks).toNat : Int) = (x : Int) := (PlainAid.get_bt s k hks).trans (bt_nats s k x hx)
          have hlt' : q < 256 ^ k := by rw [HE.out]; exact beVal_lt0 _ _ (nats_bytes s) (by rw [nats_length]; omega)
          have hval := rfix_val q x k (by omega) hlt' hxb
          have hq2 : q * 256 + x = beVal 0 ((nats s).take (k + 1)) := by rw [beVal_snoc _ _ _ hx, HE.out]
          have HQ2 := Lib.hid hq2; clear hq2
          generalize q * 256 + x = v at *
          have HX := Lib.hid hx; clear hx hlt'
          go_wp2_with fail
          go_round
          case rel => exact ⟨k + 1, v, by go_num, rfl, by omega, HQ2.out⟩
          case measure => simp [intOf]; omega
        · obtain rfl : n = k := by omega
          go_wp2_with fail
          go_ret2
          exact ⟨by rw [← HE.out]; rfl, only_setCell (only_refl _ _) (.inl rfl) _, H.out.set_ 0 _⟩
    · have hv : fixV s n = .tuple #[.int .u64 0, .int .i64 4] := by rw [fixV, if_neg (by omega), if_neg (by omega)]
      have hr : fixRest s n = s := by rw [fixRest, if_neg (by omega)]
      rw [hr, hv]
      clear hv hr
      go_enter Try.func48, Try.ntmps48
      go_wp2_with fail
      go_ret2
      exact ⟨rfl, only_refl _ _, H.out⟩

set_option maxRecDepth 100000 in
theorem rtext_any (g : Nat) (s : ByteArray) (n : Int) (w : World) (h : Blk w g 47 #[.string s]) (hs : s.size ≤ 9223372036854775807) (hn : n ≤ 9223372036854775807) :
    Calls Try.prog 52 #[.pointer (some ⟨g, 0, none⟩), .int .i64 n] w fun e w' => e = .returned (textV s n) ∧ w.grownBy w' (some g) ∧ Blk w' g 47 #[.string (textRest s n)] := by
  have c0 : w.cell? ⟨g, 0, none⟩ = some (.string s) := by rw [h.cell]; rfl
  have f0 := h.frozen 0
  have H := Lib.hid h; clear h
  by_cases h0 : n < 0
  · have hv : textV s n = .tuple #[.string ⟨#[]⟩, .int .i64 1] := by rw [textV, if_pos h0]
    have hr : textRest s n = s := by rw [textRest, if_pos h0]
    rw [hr, hv]
    clear hv hr
    go_enter Try.func52, Try.ntmps52
    go_wp2_with fail
    go_ret2
    exact ⟨rfl, only_refl _ _, H.out⟩
  · obtain ⟨most, rfl⟩ : ∃ m : Nat, n = (m : Int) := ⟨n.toNat, by omega⟩
    have hsh := fun W => rshort_any s W hs
    have hle : ∀ n k, short (nats s) = some (n, k) → 0 < k ∧ k ≤ 10 ∧ k ≤ s.size ∧ n < 18446744073709551616 := fun n k hk => by have h1 := short_le (nats_bytes s) hk; have h2 := (short_some (nats_bytes s) hk).1; rw [nats_length] at h1; exact ⟨h1.1, h1.2.1, h1.2.2, h2⟩
    have hv : textV s most = .tuple #[.string (txtS s (txt s most)), .int .i64 (if (txt s most).isSome then 0 else 4)] := by rw [textV, if_neg h0, Int.toNat_natCast]
    have hr : textRest s most = txtRest s (txt s most) := by rw [textRest, if_neg h0, Int.toNat_natCast]
    rw [hr, hv]
    clear hv hr
    unfold txt
    rcases hso : short (nats s) with _ | ⟨n, k⟩
    · rw [hso] at hsh
      have HS := Lib.hid hsh; clear hsh hle hso
      simp only [rshortV] at HS
      simp only [txtS, txtRest, Option.isSome_none]
      go_enter Try.func52, Try.ntmps52
      go_wp2_with fail
      refine (HS.out _).mono ?_
      rintro e w1 ⟨rfl, rfl⟩
      go_wp2_with fail
      go_ret2
      exact ⟨rfl, only_refl _ _, H.out⟩
    · rw [hso] at hsh
      obtain ⟨hk0, hk10, hk, hnn⟩ := hle n k hso
      have HS := Lib.hid hsh; clear hsh hle hso
      have HNN := Lib.hid hnn; clear hnn
      simp only [rshortV] at HS
      have fK : ((k : Int) == 0) = false := beq_eq_false_iff_ne.2 (by omega)
      have e1 : IntKind.u64.wrap (most : Int) = most := by rw [IntKind.wrap_u64]; omega
      have e2 : IntKind.u64.wrap ((s.size : Int) - (k : Int)) = (s.size : Int) - (k : Int) := by rw [IntKind.wrap_u64]; omega
      by_cases h1 : n ≤ most
      · by_cases h2 : n + k ≤ s.size
        · simp only [if_pos (And.intro h1 h2)]
          have ez : (if (some (n, k)).isSome = true then (0 : Int) else 4) = 0 := rfl
          rw [ez, txtS, txtRest]
          clear ez
          go_enter Try.func52, Try.ntmps52
          go_wp2_with fail
          refine (HS.out _).mono ?_
          rintro e w1 ⟨rfl, rfl⟩
          go_wp2_with fail
          go_ret2
          exact ⟨rfl, only_setCell (only_refl _ _) (.inl rfl) _, H.out.set_ 0 _⟩
        · simp only [if_neg (show ¬ (n ≤ most ∧ n + k ≤ s.size) from fun h => h2 h.2), txtS, txtRest, Option.isSome_none]
          go_enter Try.func52, Try.ntmps52
          go_wp2_with fail
          refine (HS.out _).mono ?_
          rintro e w1 ⟨rfl, rfl⟩
          go_wp2_with fail
          go_ret2
          exact ⟨rfl, only_refl _ _, H.out⟩
      · simp only [if_neg (show ¬ (n ≤ most ∧ n + k ≤ s.size) from fun h => h1 h.1), txtS, txtRest, Option.isSome_none]
        go_enter Try.func52, Try.ntmps52
        go_wp2_with fail
        refine (HS.out _).mono ?_
        rintro e w1 ⟨rfl, rfl⟩
        go_wp2_with fail
        go_ret2
        exact ⟨rfl, only_refl _ _, H.out⟩
end Go.Proofs.Ytdoaajjmibkfeaa
