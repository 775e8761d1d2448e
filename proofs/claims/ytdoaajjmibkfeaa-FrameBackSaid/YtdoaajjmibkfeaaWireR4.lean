/-
  The walks over the reader's calls: Fixed.
-/
import Derived.Test.YtdoaajjmibkfeaaWireR3
namespace Go.Proofs.Ytdoaajjmibkfeaa
open Go.RowKit PlainP WireP

theorem fix_pow (k : Nat) (h : k < 8) : 256 ^ (k + 1) ≤ 18446744073709551616 := by
  have h1 : 256 ^ (k + 1) ≤ 256 ^ 8 := Nat.pow_le_pow_right (by omega) (by omega)
  have h2 : (256 : Nat) ^ 8 = 18446744073709551616 := by decide
  omega
theorem fix_lt (q x k : Nat) (hq : q < 256 ^ k) (hx : x < 256) : q * 256 + x < 256 ^ (k + 1) := by
  have : (q + 1) * 256 ≤ 256 ^ k * 256 := Nat.mul_le_mul_right _ hq
  rw [Nat.pow_succ]; omega
theorem fix_val (q x k : Nat) (hk : k < 8) (hq : q < 256 ^ k) (hx : x < 256) :
    bits BinOp.or IntKind.u64 (IntKind.u64.wrap ((q : Int) * 256)) (x : Int) = ((q * 256 + x : Nat) : Int) := by
  have hb : q * 256 + x < 18446744073709551616 := Nat.lt_of_lt_of_le (fix_lt q x k hq hx) (fix_pow k hk)
  clear hq hk
  have e1 : (q : Int) * 256 = ((q * 256 : Nat) : Int) := by omega
  have e2 : IntKind.u64.wrap ((q * 256 : Nat) : Int) = ((q * 256 : Nat) : Int) := by rw [IntKind.wrap_u64]; exact Int.emod_eq_of_lt (Int.natCast_nonneg _) (Int.ofNat_lt.2 (Nat.lt_of_le_of_lt (Nat.le_add_right _ _) hb))
  rw [e1, e2]
  have h1 : (BitVec.ofInt 64 ((q * 256 : Nat) : Int)).toNat = q * 256 := by rw [BitVec.ofInt_natCast, BitVec.toNat_ofNat]; exact Nat.mod_eq_of_lt (Nat.lt_of_le_of_lt (Nat.le_add_right _ _) hb)
  have h2 : (BitVec.ofInt 64 (x : Int)).toNat = x := by rw [BitVec.ofInt_natCast, BitVec.toNat_ofNat]; exact Nat.mod_eq_of_lt (Nat.lt_of_le_of_lt (Nat.le_add_left _ _) hb)
  have h3 : q * 256 ||| x = q * 256 + x := by
    have := Nat.shiftLeft_add_eq_or_of_lt (i := 8) (b := x) hx q
    rw [Nat.shiftLeft_eq] at this
    exact this.symm
  show IntKind.u64.wrap ((BitVec.ofInt 64 ((q * 256 : Nat) : Int) ||| BitVec.ofInt 64 (x : Int)).toNat : Int) = _
  rw [BitVec.toNat_or, h1, h2, h3, IntKind.wrap_u64]
  exact Int.emod_eq_of_lt (Int.natCast_nonneg _) (Int.ofNat_lt.2 hb)
theorem beVal_lt0 (l : List Nat) (k : Nat) (h : Bytes l) (hk : k ≤ l.length) : beVal 0 (l.take k) < 256 ^ k := by
  have := beVal_lt (l.take k) 0 (fun x hx => h x (List.mem_of_mem_take hx))
  rw [List.length_take, Nat.min_eq_left hk] at this
  omega
theorem beVal_snoc (l : List Nat) (k x : Nat) (h : l[k]? = some x) : beVal 0 (l.take (k + 1)) = beVal 0 (l.take k) * 256 + x := by
  rw [List.take_add_one, h, beVal_append]; rfl

/-- what Fixed takes: the bytes in reach, or nothing -/
def fixN (s : ByteArray) (wd : Nat) : Nat := if wd ≤ s.size then beVal 0 ((nats s).take wd) else 0

theorem fixed1_any (s : ByteArray) (wd b c : Nat) (w : World) (hb : w.cell? ⟨b, 0, none⟩ = some (.int .i64 wd)) (h : Blk w c 53 #[.int .u64 0]) (hbl : b < w.heap.size) (hbc : b ≠ c) (h8 : wd ≤ 8) (hs : s.size ≤ 9223372036854775807) :
    Calls Try.prog 60 #[.string s, .pointer (some ⟨b, 0, none⟩), .pointer (some ⟨c, 0, none⟩)] w fun e w' => e = .returned (.int .i64 wd) ∧ w.grownBy w' (some c) ∧ Blk w' c 53 #[.int .u64 (fixN s wd : Nat)] := by
  have H := Lib.hid h; clear h
  by_cases hlt : wd ≤ s.size
  · have hv : fixN s wd = beVal 0 ((nats s).take wd) := by rw [fixN, if_pos hlt]
    rw [hv]; clear hv
    have hd : decide ((wd : Int) ≤ (s.size : Int)) = true := decide_eq_true (by omega)
    go_enter Try.func60, Try.ntmps60
    go_wp2_with fail
    go_loopw [11] (fun i wr => ∃ k : Nat, i = .int .i64 k ∧ k ≤ wd ∧ Hid (w.grownBy wr (some c) ∧ Blk wr c 53 #[.int .u64 (beVal 0 ((nats s).take k) : Nat)])) (fun i _ => wd - (intOf i).toNat)
    case atStart => exact ⟨0, rfl, by omega, only_refl _ _, by simpa [beVal] using H.out⟩
    case round =>
      obtain ⟨k, rfl, hk, HR⟩ := hrel
      have cb : wr.cell? ⟨b, 0, none⟩ = some (.int .i64 wd) := (World.cell?_of_block (w := w) (HR.out.1.block b hbl (by simpa using hbc))).trans hb
      by_cases hkw : k < wd
      · obtain ⟨x, hx⟩ : ∃ x, (nats s)[k]? = some x := ⟨_, List.getElem?_eq_getElem (by rw [nats_length]; omega)⟩
        have hxb : x < 256 := (nats_bytes s).get hx
        have hks : k < s.size := by omega
        have hget : ((s[k]'hks).toNat : Int) = (x : Int) := (PlainAid.get_bt s k hks).trans (bt_nats s k x hx)
        obtain ⟨q, hq⟩ : ∃ q, q = beVal 0 ((nats s).take k) := ⟨_, rfl⟩
        have hlt' : q < 256 ^ k := by rw [hq]; exact beVal_lt0 _ _ (nats_bytes s) (by rw [nats_length]; omega)
        have hval := fix_val q x k (by omega) hlt' hxb
        have hq2 : q * 256 + x = beVal 0 ((nats s).take (k + 1)) := by rw [beVal_snoc _ _ _ hx, hq]
        rw [hq2] at hval
        rw [← hq] at HR
        have c0 : wr.cell? ⟨c, 0, none⟩ = some (.int .u64 q) := by rw [HR.out.2.cell]; rfl
        have f0 := HR.out.2.frozen 0
        have HX := Lib.hid hx; clear hx
        have HQ := Lib.hid hq; clear hq hlt'
        have HQ2 := Lib.hid hq2; clear hq2
        go_wp2_with fail
        go_region
        go_wp2_with fail
        go_roundw
        case rel => exact ⟨k + 1, by go_num, by omega, only_drew (only_setCell HR.out.1 (.inl rfl) _), (HR.out.2.set_ 0 _).drew⟩
        case measure => simp [intOf]; omega
      · obtain rfl : wd = k := by omega
        go_wp2_with fail
        go_ret
        exact ⟨rfl, HR.out⟩
  · have hv : fixN s wd = 0 := by rw [fixN, if_neg hlt]
    rw [hv]; clear hv
    have hd : decide ((wd : Int) ≤ (s.size : Int)) = false := decide_eq_false (by omega)
    have hlt2 : s.size < wd := by omega
    go_enter Try.func60, Try.ntmps60
    go_wp2_with fail
    go_ret
    exact ⟨rfl, only_refl _ _, H.out⟩

/-- what Fixed answers, and what it leaves -/
def fixV (s : ByteArray) (n : Int) : Value :=
  if n < 1 ∨ 8 < n then .tuple #[.int .u64 0, .int .i64 1] else if n ≤ s.size then .tuple #[.int .u64 (beVal 0 ((nats s).take n.toNat) : Nat), .int .i64 0] else .tuple #[.int .u64 0, .int .i64 4]
def fixRest (s : ByteArray) (n : Int) : ByteArray := if 1 ≤ n ∧ n ≤ 8 ∧ n ≤ s.size then s.extract n.toNat s.size else s

theorem fixed_any (g : Nat) (s : ByteArray) (n : Int) (w : World) (h : Blk w g 78 #[.string s]) (hs : s.size ≤ 9223372036854775807) :
    Calls Try.prog 42 #[.pointer (some ⟨g, 0, none⟩), .int .i64 n] w fun e w' => e = .returned (fixV s n) ∧ w.grownBy w' (some g) ∧ Blk w' g 78 #[.string (fixRest s n)] := by
  have hg := h.lt
  by_cases h0 : n < 1
  · have hv : fixV s n = .tuple #[.int .u64 0, .int .i64 1] := by rw [fixV, if_pos (.inl h0)]
    have hr : fixRest s n = s := by rw [fixRest, if_neg (by omega)]
    rw [hr, hv]
    clear hv hr
    have H := Lib.hid h; clear h
    go_enter Try.func42, Try.ntmps42
    go_wp2_with fail
    go_ret2
    exact ⟨rfl, only_alloc (only_refl _ _) _, H.out.alloc _⟩
  by_cases h8 : 8 < n
  · have hv : fixV s n = .tuple #[.int .u64 0, .int .i64 1] := by rw [fixV, if_pos (.inr h8)]
    have hr : fixRest s n = s := by rw [fixRest, if_neg (by omega)]
    rw [hr, hv]
    clear hv hr
    have H := Lib.hid h; clear h
    go_enter Try.func42, Try.ntmps42
    go_wp2_with fail
    go_ret2
    exact ⟨rfl, only_alloc (only_refl _ _) _, H.out.alloc _⟩
  · obtain ⟨n, rfl⟩ : ∃ m : Nat, n = (m : Int) := ⟨n.toNat, by omega⟩
    obtain ⟨hb1, hb2⟩ := two_new w 3 53 #[.int .i64 n] #[.int .u64 0]
    have hcl := fixed1_any s n w.heap.size (w.heap.size + 1) _ (by rw [hb1.cell]; rfl) hb2 (by simp; omega) (by omega) (by omega) hs
    have hb0 := (h.alloc (.cells #[.int .i64 n] 3)).alloc (.cells #[.int .u64 0] 53)
    have hgr : Below w.heap.size w ((w.alloc (.cells #[.int .i64 n] 3)).alloc (.cells #[.int .u64 0] 53)) := ((Below.refl _ _).alloc (Nat.le_refl _) _).alloc (by simp) _
    have hcl2 := hcl.mono (R' := fun e w' => e = .returned (.int .i64 n) ∧ Blk w' g 78 #[.string s] ∧ (Below w.heap.size w w' ∧ Blk w' g 78 #[.string s] ∧ w'.cell? ⟨w.heap.size + 1, 0, none⟩ = some (.int .u64 (fixN s n : Nat)))) (fun e w' ⟨he, hw, hB⟩ => ⟨he, hb0.grown hw (by simp; omega), below_of_only hgr hw (by simp; omega) (by omega), hb0.grown hw (by simp; omega), by rw [hB.cell]; rfl⟩)
    have HCL := Lib.hid hcl2; clear hcl2 hcl hgr hb1 hb2
    have HB0 := Lib.hid hb0; clear hb0
    have H := Lib.hid h; clear h
    by_cases h1 : n ≤ s.size
    · have hv : fixV s n = .tuple #[.int .u64 (fixN s n : Nat), .int .i64 0] := by rw [fixV, if_neg (by omega), if_pos (by omega), Int.toNat_natCast, fixN, if_pos h1]
      have hr : fixRest s n = s.extract n s.size := by rw [fixRest, if_pos (by omega), Int.toNat_natCast]
      rw [hr, hv]
      clear hv hr
      generalize fixN s n = v at *
      go_enter Try.func42, Try.ntmps42
      go_wp2_with fail
      refine (withFixed_ok g _ _ s _ n _ HB0.out h1 HCL.out).mono ?_
      rintro e w1 ⟨rfl, w2, rfl, hb3, hbw, -, hc⟩
      have hne : w.heap.size + 1 ≠ g := by omega
      have HB3 := Lib.hid hb3; clear hb3
      have HBW := Lib.hid hbw; clear hbw
      go_wp2_with fail
      go_ret2
      exact ⟨rfl, only_setCell (only_of_below HBW.out _) (.inl rfl) _, HB3.out.set_ 0 _⟩
    · have hv : fixV s n = .tuple #[.int .u64 0, .int .i64 4] := by rw [fixV, if_neg (by omega), if_neg (by omega)]
      have hr : fixRest s n = s := by rw [fixRest, if_neg (by omega)]
      have hz : fixN s n = 0 := by rw [fixN, if_neg h1]
      rw [hz] at HCL
      rw [hr, hv]
      clear hv hr hz
      go_enter Try.func42, Try.ntmps42
      go_wp2_with fail
      refine (withFixed_bad g _ _ s _ n _ HB0.out (by omega) HCL.out).mono ?_
      rintro e w1 ⟨rfl, hbw, hb3, hc⟩
      have HB3 := Lib.hid hb3; clear hb3
      have HBW := Lib.hid hbw; clear hbw
      go_wp2_with fail
      go_ret2
      exact ⟨rfl, only_of_below HBW.out _, HB3.out⟩
end Go.Proofs.Ytdoaajjmibkfeaa
