/-
  The walks over the reader: Uint, Fixed, Text, Take, End.
-/
import Derived.Test.YtdoaajjmibkfeaaWireW
namespace Go.Proofs.Ytdoaajjmibkfeaa
open Go.RowKit PlainP WireP

theorem withUint_bad (g : Nat) (p0 : Addr) (s : ByteArray) (w : World) (n : Int) (R : World → Prop) (h : Blk w g 78 #[.string s]) (hn : n < 0 ∨ (s.size : Int) < n)
    (hc : Calls Try.prog 63 #[.string s, .pointer (some p0)] w fun e w' => e = .returned (.int .i64 n) ∧ Blk w' g 78 #[.string s] ∧ R w') :
    Calls Try.prog 59 #[.pointer (some ⟨g, 0, none⟩), Value.func (Fn.func 63) #[] #[Value.pointer (some p0)]] w fun e w' => e = .returned (.int .i64 4) ∧ R w' := by
  have c0 : w.cell? ⟨g, 0, none⟩ = some (.string s) := by rw [h.cell]; rfl
  have HC := Lib.hid hc; clear hc
  have H := Lib.hid h; clear h
  have HN := Lib.hid hn; clear hn
  go_enter Try.func59, Try.ntmps59
  go_wp2_with fail
  refine (HC.out).mono ?_
  rintro e w1 ⟨rfl, hb, hr⟩
  have c1 : w1.cell? ⟨g, 0, none⟩ = some (.string s) := by rw [hb.cell]; rfl
  have HB := Lib.hid hb; clear hb
  have HR := Lib.hid hr; clear hr
  rcases HN.out with h1 | h1
  · have hd : decide (n < 0) = true := decide_eq_true h1
    go_wp2_with fail
    go_ret
    exact ⟨rfl, HR.out⟩
  · have hd : decide (n < 0) = false := decide_eq_false (by omega)
    go_wp2_with fail
    go_ret
    exact ⟨rfl, HR.out⟩
theorem withUint_ok (g : Nat) (p0 : Addr) (s : ByteArray) (w : World) (k : Nat) (R : World → Prop) (h : Blk w g 78 #[.string s]) (hk : k ≤ s.size)
    (hc : Calls Try.prog 63 #[.string s, .pointer (some p0)] w fun e w' => e = .returned (.int .i64 k) ∧ Blk w' g 78 #[.string s] ∧ R w') :
    Calls Try.prog 59 #[.pointer (some ⟨g, 0, none⟩), Value.func (Fn.func 63) #[] #[Value.pointer (some p0)]] w fun e w' => e = .returned (.int .i64 0) ∧ ∃ w1, w' = w1.setCell ⟨g, 0, none⟩ (.string (s.extract k s.size)) ∧ Blk w1 g 78 #[.string s] ∧ R w1 := by
  have c0 : w.cell? ⟨g, 0, none⟩ = some (.string s) := by rw [h.cell]; rfl
  have HC := Lib.hid hc; clear hc
  have H := Lib.hid h; clear h
  go_enter Try.func59, Try.ntmps59
  go_wp2_with fail
  refine (HC.out).mono ?_
  rintro e w1 ⟨rfl, hb, hr⟩
  have c1 : w1.cell? ⟨g, 0, none⟩ = some (.string s) := by rw [hb.cell]; rfl
  have f1 := hb.frozen 0
  have HB := Lib.hid hb; clear hb
  have HR := Lib.hid hr; clear hr
  go_wp2_with fail
  go_ret
  exact ⟨rfl, w1, rfl, HB.out, HR.out⟩

theorem withFixed_bad (g : Nat) (p0 p1 : Addr) (s : ByteArray) (w : World) (n : Int) (R : World → Prop) (h : Blk w g 78 #[.string s]) (hn : n < 0 ∨ (s.size : Int) < n)
    (hc : Calls Try.prog 60 #[.string s, .pointer (some p0), .pointer (some p1)] w fun e w' => e = .returned (.int .i64 n) ∧ Blk w' g 78 #[.string s] ∧ R w') :
    Calls Try.prog 59 #[.pointer (some ⟨g, 0, none⟩), Value.func (Fn.func 60) #[] #[Value.pointer (some p0), Value.pointer (some p1)]] w fun e w' => e = .returned (.int .i64 4) ∧ R w' := by
  have c0 : w.cell? ⟨g, 0, none⟩ = some (.string s) := by rw [h.cell]; rfl
  have HC := Lib.hid hc; clear hc
  have H := Lib.hid h; clear h
  have HN := Lib.hid hn; clear hn
  go_enter Try.func59, Try.ntmps59
  go_wp2_with fail
  refine (HC.out).mono ?_
  rintro e w1 ⟨rfl, hb, hr⟩
  have c1 : w1.cell? ⟨g, 0, none⟩ = some (.string s) := by rw [hb.cell]; rfl
  have HB := Lib.hid hb; clear hb
  have HR := Lib.hid hr; clear hr
  rcases HN.out with h1 | h1
  · have hd : decide (n < 0) = true := decide_eq_true h1
    go_wp2_with fail
    go_ret
    exact ⟨rfl, HR.out⟩
  · have hd : decide (n < 0) = false := decide_eq_false (by omega)
    go_wp2_with fail
    go_ret
    exact ⟨rfl, HR.out⟩
theorem withFixed_ok (g : Nat) (p0 p1 : Addr) (s : ByteArray) (w : World) (k : Nat) (R : World → Prop) (h : Blk w g 78 #[.string s]) (hk : k ≤ s.size)
    (hc : Calls Try.prog 60 #[.string s, .pointer (some p0), .pointer (some p1)] w fun e w' => e = .returned (.int .i64 k) ∧ Blk w' g 78 #[.string s] ∧ R w') :
    Calls Try.prog 59 #[.pointer (some ⟨g, 0, none⟩), Value.func (Fn.func 60) #[] #[Value.pointer (some p0), Value.pointer (some p1)]] w fun e w' => e = .returned (.int .i64 0) ∧ ∃ w1, w' = w1.setCell ⟨g, 0, none⟩ (.string (s.extract k s.size)) ∧ Blk w1 g 78 #[.string s] ∧ R w1 := by
  have c0 : w.cell? ⟨g, 0, none⟩ = some (.string s) := by rw [h.cell]; rfl
  have HC := Lib.hid hc; clear hc
  have H := Lib.hid h; clear h
  go_enter Try.func59, Try.ntmps59
  go_wp2_with fail
  refine (HC.out).mono ?_
  rintro e w1 ⟨rfl, hb, hr⟩
  have c1 : w1.cell? ⟨g, 0, none⟩ = some (.string s) := by rw [hb.cell]; rfl
  have f1 := hb.frozen 0
  have HB := Lib.hid hb; clear hb
  have HR := Lib.hid hr; clear hr
  go_wp2_with fail
  go_ret
  exact ⟨rfl, w1, rfl, HB.out, HR.out⟩

theorem withText_bad (g : Nat) (p0 p1 : Addr) (s : ByteArray) (w : World) (n : Int) (R : World → Prop) (h : Blk w g 78 #[.string s]) (hn : n < 0 ∨ (s.size : Int) < n)
    (hc : Calls Try.prog 61 #[.string s, .pointer (some p0), .pointer (some p1)] w fun e w' => e = .returned (.int .i64 n) ∧ Blk w' g 78 #[.string s] ∧ R w') :
    Calls Try.prog 59 #[.pointer (some ⟨g, 0, none⟩), Value.func (Fn.func 61) #[] #[Value.pointer (some p0), Value.pointer (some p1)]] w fun e w' => e = .returned (.int .i64 4) ∧ R w' := by
  have c0 : w.cell? ⟨g, 0, none⟩ = some (.string s) := by rw [h.cell]; rfl
  have HC := Lib.hid hc; clear hc
  have H := Lib.hid h; clear h
  have HN := Lib.hid hn; clear hn
  go_enter Try.func59, Try.ntmps59
  go_wp2_with fail
  refine (HC.out).mono ?_
  rintro e w1 ⟨rfl, hb, hr⟩
  have c1 : w1.cell? ⟨g, 0, none⟩ = some (.string s) := by rw [hb.cell]; rfl
  have HB := Lib.hid hb; clear hb
  have HR := Lib.hid hr; clear hr
  rcases HN.out with h1 | h1
  · have hd : decide (n < 0) = true := decide_eq_true h1
    go_wp2_with fail
    go_ret
    exact ⟨rfl, HR.out⟩
  · have hd : decide (n < 0) = false := decide_eq_false (by omega)
    go_wp2_with fail
    go_ret
    exact ⟨rfl, HR.out⟩
theorem withText_ok (g : Nat) (p0 p1 : Addr) (s : ByteArray) (w : World) (k : Nat) (R : World → Prop) (h : Blk w g 78 #[.string s]) (hk : k ≤ s.size)
    (hc : Calls Try.prog 61 #[.string s, .pointer (some p0), .pointer (some p1)] w fun e w' => e = .returned (.int .i64 k) ∧ Blk w' g 78 #[.string s] ∧ R w') :
    Calls Try.prog 59 #[.pointer (some ⟨g, 0, none⟩), Value.func (Fn.func 61) #[] #[Value.pointer (some p0), Value.pointer (some p1)]] w fun e w' => e = .returned (.int .i64 0) ∧ ∃ w1, w' = w1.setCell ⟨g, 0, none⟩ (.string (s.extract k s.size)) ∧ Blk w1 g 78 #[.string s] ∧ R w1 := by
  have c0 : w.cell? ⟨g, 0, none⟩ = some (.string s) := by rw [h.cell]; rfl
  have HC := Lib.hid hc; clear hc
  have H := Lib.hid h; clear h
  go_enter Try.func59, Try.ntmps59
  go_wp2_with fail
  refine (HC.out).mono ?_
  rintro e w1 ⟨rfl, hb, hr⟩
  have c1 : w1.cell? ⟨g, 0, none⟩ = some (.string s) := by rw [hb.cell]; rfl
  have f1 := hb.frozen 0
  have HB := Lib.hid hb; clear hb
  have HR := Lib.hid hr; clear hr
  go_wp2_with fail
  go_ret
  exact ⟨rfl, w1, rfl, HB.out, HR.out⟩

theorem withTake_bad (g : Nat) (p0 p1 : Addr) (s : ByteArray) (w : World) (n : Int) (R : World → Prop) (h : Blk w g 78 #[.string s]) (hn : n < 0 ∨ (s.size : Int) < n)
    (hc : Calls Try.prog 64 #[.string s, .pointer (some p0), .pointer (some p1)] w fun e w' => e = .returned (.int .i64 n) ∧ Blk w' g 78 #[.string s] ∧ R w') :
    Calls Try.prog 59 #[.pointer (some ⟨g, 0, none⟩), Value.func (Fn.func 64) #[] #[Value.pointer (some p0), Value.pointer (some p1)]] w fun e w' => e = .returned (.int .i64 4) ∧ R w' := by
  have c0 : w.cell? ⟨g, 0, none⟩ = some (.string s) := by rw [h.cell]; rfl
  have HC := Lib.hid hc; clear hc
  have H := Lib.hid h; clear h
  have HN := Lib.hid hn; clear hn
  go_enter Try.func59, Try.ntmps59
  go_wp2_with fail
  refine (HC.out).mono ?_
  rintro e w1 ⟨rfl, hb, hr⟩
  have c1 : w1.cell? ⟨g, 0, none⟩ = some (.string s) := by rw [hb.cell]; rfl
  have HB := Lib.hid hb; clear hb
  have HR := Lib.hid hr; clear hr
  rcases HN.out with h1 | h1
  · have hd : decide (n < 0) = true := decide_eq_true h1
    go_wp2_with fail
    go_ret
    exact ⟨rfl, HR.out⟩
  · have hd : decide (n < 0) = false := decide_eq_false (by omega)
    go_wp2_with fail
    go_ret
    exact ⟨rfl, HR.out⟩
theorem withTake_ok (g : Nat) (p0 p1 : Addr) (s : ByteArray) (w : World) (k : Nat) (R : World → Prop) (h : Blk w g 78 #[.string s]) (hk : k ≤ s.size)
    (hc : Calls Try.prog 64 #[.string s, .pointer (some p0), .pointer (some p1)] w fun e w' => e = .returned (.int .i64 k) ∧ Blk w' g 78 #[.string s] ∧ R w') :
    Calls Try.prog 59 #[.pointer (some ⟨g, 0, none⟩), Value.func (Fn.func 64) #[] #[Value.pointer (some p0), Value.pointer (some p1)]] w fun e w' => e = .returned (.int .i64 0) ∧ ∃ w1, w' = w1.setCell ⟨g, 0, none⟩ (.string (s.extract k s.size)) ∧ Blk w1 g 78 #[.string s] ∧ R w1 := by
  have c0 : w.cell? ⟨g, 0, none⟩ = some (.string s) := by rw [h.cell]; rfl
  have HC := Lib.hid hc; clear hc
  have H := Lib.hid h; clear h
  go_enter Try.func59, Try.ntmps59
  go_wp2_with fail
  refine (HC.out).mono ?_
  rintro e w1 ⟨rfl, hb, hr⟩
  have c1 : w1.cell? ⟨g, 0, none⟩ = some (.string s) := by rw [hb.cell]; rfl
  have f1 := hb.frozen 0
  have HB := Lib.hid hb; clear hb
  have HR := Lib.hid hr; clear hr
  go_wp2_with fail
  go_ret
  exact ⟨rfl, w1, rfl, HB.out, HR.out⟩

end Go.Proofs.Ytdoaajjmibkfeaa
