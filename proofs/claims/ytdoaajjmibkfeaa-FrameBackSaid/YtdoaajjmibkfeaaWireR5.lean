/-
  The walks over the reader's calls: Text.
-/
import Derived.Test.YtdoaajjmibkfeaaWireR4
namespace Go.Proofs.Ytdoaajjmibkfeaa
open Go.RowKit PlainP WireP

/-- the text at the front: behind a short number k, n bytes, at most `most` -/
def txt (s : ByteArray) (most : Nat) : Option (Nat × Nat) :=
  match short (nats s) with
  | none => none
  | some (n, k) => if n ≤ most ∧ n + k ≤ s.size then some (n, k) else none
def txtI : Option (Nat × Nat) → Int
  | none => -1
  | some (n, k) => ((k + n : Nat) : Int)
def txtS (s : ByteArray) : Option (Nat × Nat) → ByteArray
  | none => ⟨#[]⟩
  | some (n, k) => s.extract k (k + n)
def txtRest (s : ByteArray) : Option (Nat × Nat) → ByteArray
  | none => s
  | some (n, k) => s.extract (k + n) s.size

theorem text1_any (s : ByteArray) (most b c : Nat) (w : World) (hb : w.cell? ⟨b, 0, none⟩ = some (.int .i64 most)) (h : Blk w c 9 #[.string ⟨#[]⟩]) (hm : most ≤ 9223372036854775807) (hs : s.size ≤ 9223372036854775807) :
    Calls Try.prog 61 #[.string s, .pointer (some ⟨b, 0, none⟩), .pointer (some ⟨c, 0, none⟩)] w fun e w' => e = .returned (.int .i64 (txtI (txt s most))) ∧ w' = if (txt s most).isSome then w.setCell ⟨c, 0, none⟩ (.string (txtS s (txt s most))) else w := by
  have f0 := h.frozen 0
  have c0 : w.cell? ⟨c, 0, none⟩ = some (.string ⟨#[]⟩) := by rw [h.cell]; rfl
  have H := Lib.hid h; clear h
  have hsh := fun W => short_any s W hs
  have hle : ∀ n k, short (nats s) = some (n, k) → 0 < k ∧ k ≤ 10 ∧ k ≤ s.size ∧ n < 18446744073709551616 := fun n k hk => by have h1 := short_le (nats_bytes s) hk; have h2 := (short_some (nats_bytes s) hk).1; rw [nats_length] at h1; exact ⟨h1.1, h1.2.1, h1.2.2, h2⟩
  unfold txt
  rcases hso : short (nats s) with _ | ⟨n, k⟩
  · rw [hso] at hsh
    have HS := Lib.hid hsh; clear hsh hle hso
    simp only [txtI, Option.isSome_none]
    go_enter Try.func61, Try.ntmps61
    go_wp2_with fail
    refine (HS.out _).mono ?_
    rintro e w1 ⟨rfl, rfl⟩
    simp only [shortV]
    go_wp2_with fail
    go_ret
    exact ⟨rfl, rfl⟩
  · rw [hso] at hsh
    obtain ⟨hk0, hk10, hk, hn⟩ := hle n k hso
    have HS := Lib.hid hsh; clear hsh hle hso
    have HNN := Lib.hid hn; clear hn
    simp only [shortV] at HS
    have e1 : IntKind.u64.wrap (most : Int) = most := by rw [IntKind.wrap_u64]; omega
    have e2 : IntKind.u64.wrap ((s.size : Int) - (k : Int)) = (s.size : Int) - (k : Int) := by rw [IntKind.wrap_u64]; omega
    by_cases h1 : n ≤ most
    · by_cases h2 : n + k ≤ s.size
      · simp only [if_pos (And.intro h1 h2), txtI, txtS, Option.isSome_some, if_true]
        have e3 : ((k + n : Nat) : Int) = (k : Int) + (n : Int) := by omega
        rw [e3]
        clear e3
        go_enter Try.func61, Try.ntmps61
        go_wp2_with fail
        refine (HS.out _).mono ?_
        rintro e w1 ⟨rfl, rfl⟩
        go_wp2_with fail
        go_ret
        exact ⟨rfl, rfl⟩
      · simp only [if_neg (show ¬ (n ≤ most ∧ n + k ≤ s.size) from fun h => h2 h.2), txtI, Option.isSome_none]
        go_enter Try.func61, Try.ntmps61
        go_wp2_with fail
        refine (HS.out _).mono ?_
        rintro e w1 ⟨rfl, rfl⟩
        go_wp2_with fail
        go_ret
        exact ⟨rfl, rfl⟩
    · simp only [if_neg (show ¬ (n ≤ most ∧ n + k ≤ s.size) from fun h => h1 h.1), txtI, Option.isSome_none]
      go_enter Try.func61, Try.ntmps61
      go_wp2_with fail
      refine (HS.out _).mono ?_
      rintro e w1 ⟨rfl, rfl⟩
      go_wp2_with fail
      go_ret
      exact ⟨rfl, rfl⟩

def textV (s : ByteArray) (n : Int) : Value :=
  if n < 0 then .tuple #[.string ⟨#[]⟩, .int .i64 1] else .tuple #[.string (txtS s (txt s n.toNat)), .int .i64 (if (txt s n.toNat).isSome then 0 else 4)]
def textRest (s : ByteArray) (n : Int) : ByteArray := if n < 0 then s else txtRest s (txt s n.toNat)

theorem txt_le (s : ByteArray) (m n k : Nat) (h : txt s m = some (n, k)) : k + n ≤ s.size := by
  unfold txt at h
  split at h
  · cases h
  · split at h
    · rename_i h1
      simp only [Option.some.injEq, Prod.mk.injEq] at h
      omega
    · cases h

theorem text_any (g : Nat) (s : ByteArray) (n : Int) (w : World) (h : Blk w g 78 #[.string s]) (hs : s.size ≤ 9223372036854775807) (hn : n ≤ 9223372036854775807) :
    Calls Try.prog 43 #[.pointer (some ⟨g, 0, none⟩), .int .i64 n] w fun e w' => e = .returned (textV s n) ∧ w.grownBy w' (some g) ∧ Blk w' g 78 #[.string (textRest s n)] := by
  have hg := h.lt
  by_cases h0 : n < 0
  · have hv : textV s n = .tuple #[.string ⟨#[]⟩, .int .i64 1] := by rw [textV, if_pos h0]
    have hr : textRest s n = s := by rw [textRest, if_pos h0]
    rw [hr, hv]
    clear hv hr
    have H := Lib.hid h; clear h
    go_enter Try.func43, Try.ntmps43
    go_wp2_with fail
    go_ret2
    exact ⟨rfl, only_alloc (only_refl _ _) _, H.out.alloc _⟩
  · obtain ⟨n, rfl⟩ : ∃ m : Nat, n = (m : Int) := ⟨n.toNat, by omega⟩
    obtain ⟨hb1, hb2⟩ := two_new w 3 9 #[.int .i64 n] #[.string ⟨#[]⟩]
    have hcl := text1_any s n w.heap.size (w.heap.size + 1) _ (by rw [hb1.cell]; rfl) hb2 (by omega) hs
    have hb0 := (h.alloc (.cells #[.int .i64 n] 3)).alloc (.cells #[.string ⟨#[]⟩] 9)
    have hgr : Below w.heap.size w ((w.alloc (.cells #[.int .i64 n] 3)).alloc (.cells #[.string ⟨#[]⟩] 9)) := ((Below.refl _ _).alloc (Nat.le_refl _) _).alloc (by simp) _
    have hv : textV s n = .tuple #[.string (txtS s (txt s n)), .int .i64 (if (txt s n).isSome then 0 else 4)] := by rw [textV, if_neg h0, Int.toNat_natCast]
    have hr : textRest s n = txtRest s (txt s n) := by rw [textRest, if_neg h0, Int.toNat_natCast]
    rw [hr, hv]
    clear hv hr
    have hle := txt_le s n
    generalize txt s n = o at *
    rcases o with _ | ⟨m, k⟩
    · have hcl2 := hcl.mono (R' := fun e w' => e = .returned (.int .i64 (-1)) ∧ Blk w' g 78 #[.string s] ∧ (Below w.heap.size w w' ∧ Blk w' g 78 #[.string s] ∧ w'.cell? ⟨w.heap.size + 1, 0, none⟩ = some (.string ⟨#[]⟩))) (fun e w' ⟨he, hw⟩ => by
        rw [if_neg (by simp)] at hw
        subst hw
        exact ⟨he, hb0, hgr, hb0, hb2.cell 0⟩)
      have HCL := Lib.hid hcl2; clear hcl2 hcl hgr hb1 hb2 hle
      have HB0 := Lib.hid hb0; clear hb0
      have H := Lib.hid h; clear h
      simp only [txtS, txtRest, Option.isSome_none]
      go_enter Try.func43, Try.ntmps43
      go_wp2_with fail
      refine (withText_bad g _ _ s _ (-1) _ HB0.out (by omega) HCL.out).mono ?_
      rintro e w1 ⟨rfl, hbw, hb3, hc⟩
      have HB3 := Lib.hid hb3; clear hb3
      have HBW := Lib.hid hbw; clear hbw
      go_wp2_with fail
      go_ret2
      exact ⟨rfl, only_of_below HBW.out _, HB3.out⟩
    · have hcl2 := hcl.mono (R' := fun e w' => e = .returned (.int .i64 ((k + m : Nat) : Int)) ∧ Blk w' g 78 #[.string s] ∧ (Below w.heap.size w w' ∧ w'.cell? ⟨w.heap.size + 1, 0, none⟩ = some (.string (s.extract k (k + m))))) (fun e w' ⟨he, hw⟩ => by
        rw [if_pos (show (some (m, k)).isSome = true from rfl)] at hw
        subst hw
        exact ⟨he, hb0.far (by simp; omega) _, hgr.setCell (by simp) _, (hb2.set_ 0 _).cell 0⟩)
      have HCL := Lib.hid hcl2; clear hcl2 hcl hgr hb1 hb2
      have hk := hle m k rfl
      clear hle
      have HB0 := Lib.hid hb0; clear hb0
      have H := Lib.hid h; clear h
      have e1 : (if (some (m, k)).isSome = true then (0 : Int) else 4) = 0 := rfl
      rw [e1, txtS, txtRest]
      clear e1
      go_enter Try.func43, Try.ntmps43
      go_wp2_with fail
      refine (withText_ok g _ _ s _ (k + m) _ HB0.out hk HCL.out).mono ?_
      rintro e w1 ⟨rfl, w2, rfl, hb3, hbw, hc⟩
      have hne : w.heap.size + 1 ≠ g := by omega
      have HB3 := Lib.hid hb3; clear hb3
      have HBW := Lib.hid hbw; clear hbw
      go_wp2_with fail
      go_ret2
      exact ⟨rfl, only_setCell (only_of_below HBW.out _) (.inl rfl) _, HB3.out.set_ 0 _⟩
end Go.Proofs.Ytdoaajjmibkfeaa
