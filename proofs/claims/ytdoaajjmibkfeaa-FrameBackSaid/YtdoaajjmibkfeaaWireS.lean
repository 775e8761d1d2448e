/-
  The walks over the reference's reader: short, Uint.
-/
import Derived.Test.YtdoaajjmibkfeaaWireX
namespace Go.Proofs.Ytdoaajjmibkfeaa
open Go.RowKit PlainP WireP

/-- what the reference's short answers -/
def rshortV : Option (Nat × Nat) → Value
  | some (n, k) => .tuple #[.int .u64 n, .int .i64 k]
  | none => .tuple #[.int .u64 0, .int .i64 0]

theorem rsh_val (q x k : Nat) (hq : q < 128 ^ k) (hx : x < 256) (hk : k ≤ 9) (h9 : k = 9 → x ≤ 1) :
    IntKind.u64.wrap ((q : Int) + IntKind.u64.wrap ((x : Int) % 128 * 2 ^ (7 * k))) = ((q + x % 128 * 128 ^ k : Nat) : Int) := by
  have hu := sh_u64 q x k hq hx hk h9
  have e2 : (2 : Int) ^ (7 * k) = ((128 ^ k : Nat) : Int) := by rw [← pow128]; norm_cast
  have e3 : (x : Int) % 128 * ((128 ^ k : Nat) : Int) = ((x % 128 * 128 ^ k : Nat) : Int) := by rw [Int.natCast_mul]; rfl
  have e4 : IntKind.u64.wrap ((x % 128 * 128 ^ k : Nat) : Int) = ((x % 128 * 128 ^ k : Nat) : Int) := by rw [IntKind.wrap_u64]; exact Int.emod_eq_of_lt (Int.natCast_nonneg _) (Int.ofNat_lt.2 (Nat.lt_of_le_of_lt (Nat.le_add_left _ _) hu))
  rw [e2, e3, e4, ← Int.natCast_add, IntKind.wrap_u64]
  exact Int.emod_eq_of_lt (Int.natCast_nonneg _) (Int.ofNat_lt.2 hu)

set_option maxRecDepth 100000 in
theorem rshort_any (s : ByteArray) (w : World) (hs : s.size ≤ 9223372036854775807) :
    Calls Try.prog 66 #[.string s] w fun e w' => e = .returned (rshortV (short (nats s))) ∧ w = w' := by
  generalize ho : short (nats s) = o
  unfold short at ho
  have HO := Lib.hid ho; clear ho
  obtain ⟨m, hms, hm10, hmm⟩ : ∃ m : Nat, m ≤ s.size ∧ m ≤ 10 ∧ (s.size ≤ 10 → m = s.size) ∧ (¬ s.size ≤ 10 → m = 10) := ⟨min s.size 10, by omega, by omega, by omega, by omega⟩
  by_cases h10 : s.size ≤ 10
  all_goals
    have hm1 : s.size ≤ 10 → m = s.size := hmm.1
    have hm2 : ¬ s.size ≤ 10 → m = 10 := hmm.2
    clear hmm
    go_enter Try.func66, Try.ntmps66
    go_wp2_with fail
    go_loop [4, 5] (fun a i => ∃ k q : Nat, i = .int .i64 k ∧ a = .int .u64 q ∧ k ≤ m ∧ Hid (q < 18446744073709551616 ∧ q < 128 ^ k ∧ o = sh k q ((nats s).drop k))) (fun _ i => m - (intOf i).toNat)
    case atStart => exact ⟨0, 0, rfl, rfl, by omega, by decide, by simp, by rw [← HO.out, List.drop_zero]⟩
    case round =>
      obtain ⟨k, q, rfl, rfl, hk, HE⟩ := hrel
      by_cases hlt : k < m
      · obtain ⟨x, hx⟩ : ∃ x, (nats s)[k]? = some x := ⟨_, List.getElem?_eq_getElem (by rw [nats_length]; omega)⟩
        have hxb : x < 256 := (nats_bytes s).get hx
        have hks : k < s.size := by omega
        have hk10 : k < 10 := by omega
        have fK : decide ((k : Int) < 10) = true := decide_eq_true (by omega)
        have hget : ((s[k]'hks).toNat : Int) = (x : Int) := (PlainAid.get_bt s k hks).trans (bt_nats s k x hx)
        have hd : (nats s).drop k = x :: (nats s).drop (k + 1) := by rw [List.drop_eq_getElem?_toList_append, hx]; rfl
        have HX := Lib.hid hx; clear hx
        have HD := Lib.hid hd; clear hd
        go_upto_region 6 with (fail)
        go_cut [26] from 21 to 26 (fun v wx => v = .bool (decide (k = 9 ∧ 1 < x)) ∧ wx = w)
        case first =>
          by_cases h9 : k = 9
          · have fA : ((k : Int) == 9) = true := beq_iff_eq.2 (by omega)
            by_cases h1 : 1 < x
            · have fB : decide ((1 : Int) < (x : Int)) = true := decide_eq_true (by omega)
              have HH := Lib.hid (decide_eq_true (And.intro h9 h1)); clear h9
              go_wp2_with fail
              go_meet
              case rel => exact ⟨by rw [HH.out], rfl⟩
            · have fB : decide ((1 : Int) < (x : Int)) = false := decide_eq_false (by omega)
              have HH := Lib.hid (decide_eq_false (show ¬ (k = 9 ∧ 1 < x) from fun h => h1 h.2)); clear h9
              go_wp2_with fail
              go_meet
              case rel => exact ⟨by rw [HH.out], rfl⟩
          · have fA : ((k : Int) == 9) = false := beq_eq_false_iff_ne.2 (by omega)
            have HH := Lib.hid (decide_eq_false (show ¬ (k = 9 ∧ 1 < x) from fun h => h9 h.1)); clear h9
            go_wp2_with fail
            go_meet
            case rel => exact ⟨by rw [HH.out], rfl⟩
        case rest =>
        obtain ⟨rfl, rfl⟩ := hcut
        by_cases hbad : k = 9 ∧ 1 < x
        · rw [decide_eq_true hbad]
          have HB := Lib.hid hbad; clear hbad
          go_wp2_with fail
          go_ret2
          refine ⟨?_, rfl⟩
          rw [HE.out.2.2, HD.out, sh, if_neg (by omega), if_pos (.inl HB.out)]; rfl
        · rw [decide_eq_false hbad]
          have hval := rsh_val q x k HE.out.2.1 hxb (by omega) (by omega)
          obtain ⟨v, hv⟩ : ∃ v, v = q + x % 128 * 128 ^ k := ⟨_, rfl⟩
          rw [← hv] at hval
          have HV := Lib.hid hv; clear hv
          have HB := Lib.hid hbad
          by_cases hlast : x < 128
          · clear hbad
            have fE : decide ((x : Int) < 128) = true := decide_eq_true (by omega)
            go_upto_region 10 with (fail)
            go_cut [41] from 36 to 41 (fun u wx => u = .bool (decide (x = 0 ∧ 0 < k)) ∧ wx = wc)
            case first =>
              by_cases h0 : x = 0
              · have fD : ((x : Int) == 0) = true := beq_iff_eq.2 (by omega)
                by_cases hk0 : 0 < k
                · have HH := Lib.hid (decide_eq_true (And.intro h0 hk0)); clear h0
                  have fC : decide ((0 : Int) < (k : Int)) = true := decide_eq_true (by omega)
                  go_wp2_with fail
                  go_meet
                  case rel => exact ⟨by rw [HH.out], rfl⟩
                · have HH := Lib.hid (decide_eq_false (show ¬ (x = 0 ∧ 0 < k) from fun h => hk0 h.2)); clear h0
                  have fC : decide ((0 : Int) < (k : Int)) = false := decide_eq_false (by omega)
                  go_wp2_with fail
                  go_meet
                  case rel => exact ⟨by rw [HH.out], rfl⟩
              · have fD : ((x : Int) == 0) = false := beq_eq_false_iff_ne.2 (by omega)
                have HH := Lib.hid (decide_eq_false (show ¬ (x = 0 ∧ 0 < k) from fun h => h0 h.1)); clear h0
                go_wp2_with fail
                go_meet
                case rel => exact ⟨by rw [HH.out], rfl⟩
            case rest =>
            obtain ⟨rfl, rfl⟩ := hcut
            by_cases h0 : x = 0 ∧ 0 < k
            · rw [decide_eq_true h0]
              have H0 := Lib.hid h0; clear h0
              go_wp2_with fail
              go_ret2
              refine ⟨?_, rfl⟩
              rw [HE.out.2.2, HD.out, sh, if_neg (by omega), if_pos (.inr ⟨H0.out.2, H0.out.1⟩)]; rfl
            · rw [decide_eq_false h0]
              have H0 := Lib.hid h0; clear h0
              go_wp2_with fail
              go_ret2
              refine ⟨?_, rfl⟩
              rw [HE.out.2.2, HD.out, sh, if_neg (by omega), if_neg (fun h => h.elim HB.out (fun h2 => H0.out ⟨h2.2, h2.1⟩)), if_pos (by omega), ← HV.out]; rfl
          · have fE : decide ((x : Int) < 128) = false := decide_eq_false (by omega)
            have hk9 : k < 9 := by omega
            clear hbad
            go_wp2_with fail
            go_round
            case rel =>
              refine ⟨k + 1, v, by go_num, rfl, by omega, by rw [HV.out]; exact sh_u64 q x k HE.out.2.1 hxb (by omega) (by omega), by rw [HV.out]; exact sh_pow q x k HE.out.2.1, ?_⟩
              rw [HE.out.2.2, HD.out, sh, if_neg (by omega), if_neg (by omega), if_neg (by omega), HV.out]
            case measure => simp [intOf]; omega
      · have hke : k = m := by omega
        have hend := sh_end (nats s) k q (by rw [nats_length]; omega)
        have HEND := Lib.hid hend; clear hend
        have HKE := Lib.hid hke; clear hke
        go_wp2_with fail
        go_ret2
        refine ⟨?_, rfl⟩
        rw [HE.out.2.2, HEND.out]; rfl

theorem ruint_any (g : Nat) (s : ByteArray) (w : World) (h : Blk w g 47 #[.string s]) (hs : s.size ≤ 9223372036854775807) :
    Calls Try.prog 51 #[.pointer (some ⟨g, 0, none⟩)] w fun e w' => e = .returned (uintV (short (nats s))) ∧ w.grownBy w' (some g) ∧ Blk w' g 47 #[.string (restU s (short (nats s)))] := by
  have hle : ∀ n k, short (nats s) = some (n, k) → 0 < k ∧ k ≤ s.size := fun n k hk => by have := (short_le (nats_bytes s) hk); rw [nats_length] at this; exact ⟨this.1, this.2.2⟩
  have hsh := fun W => rshort_any s W hs
  have c0 : w.cell? ⟨g, 0, none⟩ = some (.string s) := by rw [h.cell]; rfl
  have f0 := h.frozen 0
  generalize short (nats s) = o at *
  have H := Lib.hid h; clear h
  have HS := Lib.hid hsh; clear hsh
  rcases o with _ | ⟨n, k⟩
  · simp only [rshortV] at HS
    clear hle
    go_enter Try.func51, Try.ntmps51
    go_wp2_with fail
    refine (HS.out _).mono ?_
    rintro e w1 ⟨rfl, rfl⟩
    go_wp2_with fail
    go_ret2
    exact ⟨rfl, only_refl _ _, H.out⟩
  · simp only [rshortV] at HS
    obtain ⟨hk0, hk⟩ := hle n k rfl
    clear hle
    go_enter Try.func51, Try.ntmps51
    go_wp2_with fail
    refine (HS.out _).mono ?_
    rintro e w1 ⟨rfl, rfl⟩
    go_wp2_with fail
    go_ret2
    exact ⟨rfl, only_setCell (only_refl _ _) (.inl rfl) _, H.out.set_ 0 _⟩

theorem rend_any (g : Nat) (s : ByteArray) (w : World) (h : Blk w g 47 #[.string s]) :
    Calls Try.prog 54 #[.pointer (some ⟨g, 0, none⟩)] w fun e w' => e = .returned (.int .i64 (if s.size = 0 then 0 else 4)) ∧ w = w' := by
  have c0 : w.cell? ⟨g, 0, none⟩ = some (.string s) := by rw [h.cell]; rfl
  have H := Lib.hid h; clear h
  by_cases h0 : s.size = 0
  · rw [if_pos h0]
    go_enter Try.func54, Try.ntmps54
    go_wp2_with fail
    go_ret
    exact ⟨rfl, rfl⟩
  · rw [if_neg h0]
    go_enter Try.func54, Try.ntmps54
    go_wp2_with fail
    go_ret
    exact ⟨rfl, rfl⟩

theorem rtake_any (g : Nat) (s : ByteArray) (n : Int) (w : World) (h : Blk w g 47 #[.string s]) (hs : s.size ≤ 9223372036854775807) (hn : n ≤ 9223372036854775807) :
    Calls Try.prog 53 #[.pointer (some ⟨g, 0, none⟩), .int .i64 n] w fun e w' => e = .returned (takeV s n) ∧ w.grownBy w' (some g) ∧ Blk w' g 47 #[.string (takeRest s n)] := by
  have c0 : w.cell? ⟨g, 0, none⟩ = some (.string s) := by rw [h.cell]; rfl
  have f0 := h.frozen 0
  have H := Lib.hid h; clear h
  by_cases h0 : n < 0
  · have hv : takeV s n = .tuple #[.string ⟨#[]⟩, .int .i64 1] := by rw [takeV, if_pos h0]
    have hr : takeRest s n = s := by rw [takeRest, if_neg (by omega)]
    rw [hr, hv]
    clear hv hr
    go_enter Try.func53, Try.ntmps53
    go_wp2_with fail
    go_ret2
    exact ⟨rfl, only_refl _ _, H.out⟩
  · obtain ⟨n, rfl⟩ : ∃ m : Nat, n = (m : Int) := ⟨n.toNat, by omega⟩
    by_cases h1 : n ≤ s.size
    · have hv : takeV s n = .tuple #[.string (s.extract 0 n), .int .i64 0] := by rw [takeV, if_neg (by omega), if_pos (by omega), Int.toNat_natCast]
      have hr : takeRest s n = s.extract n s.size := by rw [takeRest, if_pos (by omega), Int.toNat_natCast]
      rw [hr, hv]
      clear hv hr
      go_enter Try.func53, Try.ntmps53
      go_wp2_with fail
      go_ret2
      exact ⟨rfl, only_setCell (only_refl _ _) (.inl rfl) _, H.out.set_ 0 _⟩
    · have hv : takeV s n = .tuple #[.string ⟨#[]⟩, .int .i64 4] := by rw [takeV, if_neg (by omega), if_neg (by omega)]
      have hr : takeRest s n = s := by rw [takeRest, if_neg (by omega)]
      rw [hr, hv]
      clear hv hr
      go_enter Try.func53, Try.ntmps53
      go_wp2_with fail
      go_ret2
      exact ⟨rfl, only_refl _ _, H.out⟩
end Go.Proofs.Ytdoaajjmibkfeaa
