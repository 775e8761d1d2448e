/-
  The walks over the reader's calls: Take, End.
-/
import Derived.Test.YtdoaajjmibkfeaaWireR2
import Derived.Laws.Strings
namespace Go.Proofs.Ytdoaajjmibkfeaa
open Go.RowKit PlainP WireP

theorem nonempty_str (s : ByteArray) (h : s.size ≠ 0) : (!s.toList.isEmpty) = true := by
  rw [ByteArray.toList_eq]
  cases hl : s.data.toList with
  | nil =>
    exfalso; apply h
    have := congrArg List.length hl
    rw [Array.length_toList] at this
    exact this
  | cons a t => rfl
theorem empty_str (s : ByteArray) (h : s.size = 0) : s = ⟨#[]⟩ := by cases s with | mk d => congr; exact Array.eq_empty_of_size_eq_zero h

theorem end_any (g : Nat) (s : ByteArray) (w : World) (h : Blk w g 78 #[.string s]) :
    Calls Try.prog 45 #[.pointer (some ⟨g, 0, none⟩)] w fun e w' => e = .returned (.int .i64 (if s.size = 0 then 0 else 4)) ∧ w = w' := by
  have c0 : w.cell? ⟨g, 0, none⟩ = some (.string s) := by rw [h.cell]; rfl
  have H := Lib.hid h; clear h
  by_cases h0 : s.size = 0
  · have hs := empty_str s h0
    subst hs
    clear h0
    go_enter Try.func45, Try.ntmps45
    go_wp2_with fail
    go_ret
    exact ⟨rfl, rfl⟩
  · rw [if_neg h0]
    have hne := nonempty_str s h0
    clear h0
    go_enter Try.func45, Try.ntmps45
    go_wp2_with fail
    go_ret
    exact ⟨rfl, rfl⟩

def takeV (s : ByteArray) (n : Int) : Value :=
  if n < 0 then .tuple #[.string ⟨#[]⟩, .int .i64 1] else if n ≤ s.size then .tuple #[.string (s.extract 0 n.toNat), .int .i64 0] else .tuple #[.string ⟨#[]⟩, .int .i64 4]
def takeRest (s : ByteArray) (n : Int) : ByteArray := if 0 ≤ n ∧ n ≤ s.size then s.extract n.toNat s.size else s

theorem extract_all (s : ByteArray) : s.extract 0 s.size = s := by simp

theorem take1_any (s : ByteArray) (n : Nat) (b c : Nat) (w : World) (hb : w.cell? ⟨b, 0, none⟩ = some (.int .i64 n)) (hc : w.cell? ⟨c, 0, none⟩ = some (.string ⟨#[]⟩)) (fc : w.frozen? ⟨c, 0, none⟩ = false) (hbc : b ≠ c) (_hs : s.size ≤ 9223372036854775807) :
    Calls Try.prog 64 #[.string s, .pointer (some ⟨b, 0, none⟩), .pointer (some ⟨c, 0, none⟩)] w fun e w' => e = .returned (.int .i64 n) ∧ w' = w.setCell ⟨c, 0, none⟩ (.string (s.extract 0 (min n s.size))) := by
  by_cases h1 : n ≤ s.size
  · rw [Nat.min_eq_left h1]
    go_enter Try.func64, Try.ntmps64
    go_wp2_with fail
    go_ret
    exact ⟨rfl, rfl⟩
  · rw [Nat.min_eq_right (by omega), extract_all]
    go_enter Try.func64, Try.ntmps64
    go_wp2_with fail
    go_ret
    exact ⟨rfl, rfl⟩

/-- the two captured variables' blocks -/
theorem two_new (w : World) (t1 t2 : TypeId) (c1 c2 : Array Value) : Blk ((w.alloc (.cells c1 t1)).alloc (.cells c2 t2)) w.heap.size t1 c1 ∧ Blk ((w.alloc (.cells c1 t1)).alloc (.cells c2 t2)) (w.heap.size + 1) t2 c2 := by
  refine ⟨(Blk.new w t1 c1).alloc _, ?_⟩
  have := Blk.new (w.alloc (.cells c1 t1)) t2 c2
  rw [World.size_alloc] at this
  exact this

theorem take_any (g : Nat) (s : ByteArray) (n : Int) (w : World) (h : Blk w g 78 #[.string s]) (hs : s.size ≤ 9223372036854775807) (hn : n ≤ 9223372036854775807) :
    Calls Try.prog 46 #[.pointer (some ⟨g, 0, none⟩), .int .i64 n] w fun e w' => e = .returned (takeV s n) ∧ w.grownBy w' (some g) ∧ Blk w' g 78 #[.string (takeRest s n)] := by
  have hg := h.lt
  by_cases h0 : n < 0
  · have hv : takeV s n = .tuple #[.string ⟨#[]⟩, .int .i64 1] := by rw [takeV, if_pos h0]
    have hr : takeRest s n = s := by rw [takeRest, if_neg (by omega)]
    rw [hr, hv]
    clear hv hr
    have H := Lib.hid h; clear h
    go_enter Try.func46, Try.ntmps46
    go_wp2_with fail
    go_ret2
    exact ⟨rfl, only_alloc (only_refl _ _) _, H.out.alloc _⟩
  · obtain ⟨n, rfl⟩ : ∃ m : Nat, n = (m : Int) := ⟨n.toNat, by omega⟩
    obtain ⟨hb1, hb2⟩ := two_new w 3 9 #[.int .i64 n] #[.string ⟨#[]⟩]
    have hcl := take1_any s n w.heap.size (w.heap.size + 1) _ (by rw [hb1.cell]; rfl) (by rw [hb2.cell]; rfl) (hb2.frozen 0) (by omega) hs
    have hb0 := (h.alloc (.cells #[.int .i64 n] 3)).alloc (.cells #[.string ⟨#[]⟩] 9)
    have hw1 := hb0.far (p := ⟨w.heap.size + 1, 0, none⟩) (by simp; omega) (.string (s.extract 0 (min n s.size)))
    have hc1 := (hb2.set_ 0 (.string (s.extract 0 (min n s.size)))).cell 0
    have hgr : Below w.heap.size w (((w.alloc (.cells #[.int .i64 n] 3)).alloc (.cells #[.string ⟨#[]⟩] 9)).setCell ⟨w.heap.size + 1, 0, none⟩ (.string (s.extract 0 (min n s.size)))) := (((Below.refl _ _).alloc (Nat.le_refl _) _).alloc (by simp) _).setCell (by simp) _
    have hcl2 := hcl.mono (R' := fun e w' => e = .returned (.int .i64 n) ∧ Blk w' g 78 #[.string s] ∧ (Below w.heap.size w w' ∧ w'.cell? ⟨w.heap.size + 1, 0, none⟩ = some (.string (s.extract 0 (min n s.size))))) (fun e w' ⟨he, hw⟩ => ⟨he, by rw [hw]; exact hw1, by rw [hw]; exact hgr, by rw [hw]; exact hc1⟩)
    have HCL := Lib.hid hcl2; clear hcl2 hcl hw1 hc1 hgr hb1 hb2
    have HB0 := Lib.hid hb0; clear hb0
    have H := Lib.hid h; clear h
    by_cases h1 : n ≤ s.size
    · have hv : takeV s n = .tuple #[.string (s.extract 0 n), .int .i64 0] := by rw [takeV, if_neg (by omega), if_pos (by omega), Int.toNat_natCast]
      have hr : takeRest s n = s.extract n s.size := by rw [takeRest, if_pos (by omega), Int.toNat_natCast]
      rw [hr, hv]
      rw [Nat.min_eq_left h1] at HCL
      clear hv hr
      go_enter Try.func46, Try.ntmps46
      go_wp2_with fail
      refine (withTake_ok g _ _ s _ n _ HB0.out h1 HCL.out).mono ?_
      rintro e w1 ⟨rfl, w2, rfl, hb3, hbw, hc⟩
      have hne : w.heap.size + 1 ≠ g := by omega
      have HB3 := Lib.hid hb3; clear hb3
      have HBW := Lib.hid hbw; clear hbw
      go_wp2_with fail
      go_ret2
      exact ⟨rfl, only_setCell (only_of_below HBW.out _) (.inl rfl) _, HB3.out.set_ 0 _⟩
    · have hv : takeV s n = .tuple #[.string ⟨#[]⟩, .int .i64 4] := by rw [takeV, if_neg (by omega), if_neg (by omega)]
      have hr : takeRest s n = s := by rw [takeRest, if_neg (by omega)]
      rw [hr, hv]
      clear hv hr
      go_enter Try.func46, Try.ntmps46
      go_wp2_with fail
      have HCL3 := Lib.hid (HCL.out.mono (R' := fun e w' => e = .returned (.int .i64 n) ∧ Blk w' g 78 #[.string s] ∧ (Below w.heap.size w w' ∧ Blk w' g 78 #[.string s])) (fun e w' ⟨h1, h2, h3, _⟩ => ⟨h1, h2, h3, h2⟩))
      refine (withTake_bad g _ _ s _ n _ HB0.out (by omega) HCL3.out).mono ?_
      rintro e w1 ⟨rfl, hbw, hb3⟩
      have HB3 := Lib.hid hb3; clear hb3
      have HBW := Lib.hid hbw; clear hbw
      go_wp2_with fail
      go_ret2
      exact ⟨rfl, only_of_below HBW.out _, HB3.out⟩
end Go.Proofs.Ytdoaajjmibkfeaa
