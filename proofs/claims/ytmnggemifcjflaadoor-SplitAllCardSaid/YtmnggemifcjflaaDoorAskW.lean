/-
  What the laws ask with: text, planOf.
-/
import Derived.Test.YtmnggemifcjflaaDoorAwakeW
namespace Go.Proofs.YtmnggemifcjflaaDoor
open Go.RowKit PlainP RollP OnesP SplitP

/-- a plan that may be, out of any -/
def askB (b f m : Int) : Int := if planE b f m = 0 then b else 4
def askF (b f m : Int) : Int := if planE b f m = 0 then f else 1
def askM (b f m : Int) : Int := if planE b f m = 0 then m else 100
theorem ask_ok (b f m : Int) : planE (askB b f m) (askF b f m) (askM b f m) = 0 := by
  unfold askB askF askM
  rcases planE_two b f m with h | h
  · simp only [h, if_true]
  · simp [h]; rfl
set_option maxRecDepth 100000 in
theorem planOf_any (b f m : Int) (w : World) :
    Calls Tryd.prog 33 #[planV b f m] w fun e w' => e = .returned (planV (askB b f m) (askF b f m) (askM b f m)) ∧ Below w.heap.size w w' := by
  have hck := fun W => rcheck_any b f m W
  have hin := fun W => in_any b f m W
  rcases planE_two b f m with h0 | h0
  · have e1 : askB b f m = b := by unfold askB; rw [if_pos h0]
    have e2 : askF b f m = f := by unfold askF; rw [if_pos h0]
    have e3 : askM b f m = m := by unfold askM; rw [if_pos h0]
    rw [e1, e2, e3]
    rw [h0] at hck
    clear e1 e2 e3 h0
    unfold planV at *
    have hB0 : Below w.heap.size w (w.alloc (.cells #[.int .i64 b, .int .i64 f, .int .i64 m] 33)) := (Below.refl _ _).alloc (Nat.le_refl _) _
    have hK0 := Blk.new w 33 #[.int .i64 b, .int .i64 f, .int .i64 m]
    have hB1 := hB0.alloc hB0.size (.cells #[.int .i64 0, .int .i64 0, .int .i64 0] 41)
    have hK1 := hK0.alloc (.cells #[.int .i64 0, .int .i64 0, .int .i64 0] 41)
    have hR1 := Blk.new (w.alloc (.cells #[.int .i64 b, .int .i64 f, .int .i64 m] 33)) 41 #[.int .i64 0, .int .i64 0, .int .i64 0]
    rw [show (w.alloc (.cells #[.int .i64 b, .int .i64 f, .int .i64 m] 33)).heap.size = w.heap.size + 1 by simp] at hR1
    have HCK := Lib.hid hck; have HIN := Lib.hid hin
    have HB1 := Lib.hid hB1; have HK1 := Lib.hid hK1; have HR1 := Lib.hid hR1
    clear hck hin hB0 hK0 hB1 hK1 hR1
    go_enter Tryd.func33, Tryd.ntmps33
    go_wp2_with fail
    refine (HCK.out _).mono ?_
    rintro e w1 ⟨rfl, hb⟩
    have hB2 := HB1.out.trans (hb.mono HB1.out.size)
    have hK2 := HK1.out.below hb HK1.out.lt
    have hR2 := HR1.out.below hb HR1.out.lt
    have HB2 := Lib.hid hB2; have HK2 := Lib.hid hK2; have HR2 := Lib.hid hR2
    have c0 : w1.cell? ⟨w.heap.size, 0, none⟩ = some (.int .i64 b) := by rw [hK2.cell]; rfl
    have c1 : w1.cell? ⟨w.heap.size, 1, none⟩ = some (.int .i64 f) := by rw [hK2.cell]; rfl
    have c2 : w1.cell? ⟨w.heap.size, 2, none⟩ = some (.int .i64 m) := by rw [hK2.cell]; rfl
    clear hb hB2 hK2 hR2 HB1 HK1 HR1
    go_wp2_with fail
    refine (HIN.out _).mono ?_
    rintro e w2 ⟨rfl, hb⟩
    have hB3 := HB2.out.trans (hb.mono HB2.out.size)
    have hR3 := HR2.out.below hb HR2.out.lt
    obtain ⟨R, hR⟩ : ∃ R, w.heap.size + 1 = R := ⟨_, rfl⟩
    have hRw : w.heap.size ≤ R := by omega
    rw [hR] at hR3 ⊢
    have d0 : w2.cell? ⟨R, 0, none⟩ = some (.int .i64 0) := by rw [hR3.cell]; rfl
    have d1 : w2.cell? ⟨R, 1, none⟩ = some (.int .i64 0) := by rw [hR3.cell]; rfl
    have d2 : w2.cell? ⟨R, 2, none⟩ = some (.int .i64 0) := by rw [hR3.cell]; rfl
    have f0 : ∀ i, w2.frozen? ⟨R, i, none⟩ = false := hR3.frozen
    have HB3 := Lib.hid hB3
    have h3 := ((hR3.set_ 0 (.int .i64 b)).set_ 1 (.int .i64 f)).set_ 2 (.int .i64 m)
    have e0 : (((w2.setCell ⟨R, 0, none⟩ (.int .i64 b)).setCell ⟨R, 1, none⟩ (.int .i64 f)).setCell ⟨R, 2, none⟩ (.int .i64 m)).cell? ⟨R, 0, none⟩ = some (.int .i64 b) := by rw [h3.cell]; rfl
    have e1 : (((w2.setCell ⟨R, 0, none⟩ (.int .i64 b)).setCell ⟨R, 1, none⟩ (.int .i64 f)).setCell ⟨R, 2, none⟩ (.int .i64 m)).cell? ⟨R, 1, none⟩ = some (.int .i64 f) := by rw [h3.cell]; rfl
    have e2 : (((w2.setCell ⟨R, 0, none⟩ (.int .i64 b)).setCell ⟨R, 1, none⟩ (.int .i64 f)).setCell ⟨R, 2, none⟩ (.int .i64 m)).cell? ⟨R, 2, none⟩ = some (.int .i64 m) := by rw [h3.cell]; rfl
    clear h3
    clear hb hB3 hR3 c0 c1 c2
    go_wp2_with fail
    refine bodyPost_ret (by simp [results, Tryd.results33, go_sem, e0, e1, e2]; try rfl) rfl ?_
    exact ⟨rfl, ((HB3.out.setCell (p := ⟨R, 0, none⟩) hRw _).setCell (p := ⟨R, 1, none⟩) hRw _).setCell (p := ⟨R, 2, none⟩) hRw _⟩
  · have e1 : askB b f m = 4 := by unfold askB; rw [if_neg (by omega)]
    have e2 : askF b f m = 1 := by unfold askF; rw [if_neg (by omega)]
    have e3 : askM b f m = 100 := by unfold askM; rw [if_neg (by omega)]
    rw [e1, e2, e3]
    rw [h0] at hck
    clear e1 e2 e3 h0
    unfold planV at *
    have hB0 : Below w.heap.size w (w.alloc (.cells #[.int .i64 b, .int .i64 f, .int .i64 m] 33)) := (Below.refl _ _).alloc (Nat.le_refl _) _
    have hK0 := Blk.new w 33 #[.int .i64 b, .int .i64 f, .int .i64 m]
    have hB1 := hB0.alloc hB0.size (.cells #[.int .i64 0, .int .i64 0, .int .i64 0] 41)
    have hK1 := hK0.alloc (.cells #[.int .i64 0, .int .i64 0, .int .i64 0] 41)
    have hR1 := Blk.new (w.alloc (.cells #[.int .i64 b, .int .i64 f, .int .i64 m] 33)) 41 #[.int .i64 0, .int .i64 0, .int .i64 0]
    rw [show (w.alloc (.cells #[.int .i64 b, .int .i64 f, .int .i64 m] 33)).heap.size = w.heap.size + 1 by simp] at hR1
    have HCK := Lib.hid hck; have HIN := Lib.hid hin
    have HB1 := Lib.hid hB1; have HK1 := Lib.hid hK1; have HR1 := Lib.hid hR1
    clear hck hin hB0 hK0 hB1 hK1 hR1
    go_enter Tryd.func33, Tryd.ntmps33
    go_wp2_with fail
    refine (HCK.out _).mono ?_
    rintro e w1 ⟨rfl, hb⟩
    have hB2 := HB1.out.trans (hb.mono HB1.out.size)
    have hK2 := HK1.out.below hb HK1.out.lt
    have hR2 := HR1.out.below hb HR1.out.lt
    have HB2 := Lib.hid hB2; have HK2 := Lib.hid hK2; have HR2 := Lib.hid hR2
    have c0 : w1.cell? ⟨w.heap.size, 0, none⟩ = some (.int .i64 b) := by rw [hK2.cell]; rfl
    have c1 : w1.cell? ⟨w.heap.size, 1, none⟩ = some (.int .i64 f) := by rw [hK2.cell]; rfl
    have c2 : w1.cell? ⟨w.heap.size, 2, none⟩ = some (.int .i64 m) := by rw [hK2.cell]; rfl
    clear hb hB2 hK2 hR2 HB1 HK1 HR1
    obtain ⟨R, hR⟩ : ∃ R, w.heap.size + 1 = R := ⟨_, rfl⟩
    have hRw : w.heap.size ≤ R := by omega
    have hR3 := HR2.out
    rw [hR] at hR3 ⊢
    have d0 : w1.cell? ⟨R, 0, none⟩ = some (.int .i64 0) := by rw [hR3.cell]; rfl
    have d1 : w1.cell? ⟨R, 1, none⟩ = some (.int .i64 0) := by rw [hR3.cell]; rfl
    have d2 : w1.cell? ⟨R, 2, none⟩ = some (.int .i64 0) := by rw [hR3.cell]; rfl
    have f0 : ∀ i, w1.frozen? ⟨R, i, none⟩ = false := hR3.frozen
    have h3 := ((hR3.set_ 0 (.int .i64 4)).set_ 1 (.int .i64 1)).set_ 2 (.int .i64 100)
    have e0 : (((w1.setCell ⟨R, 0, none⟩ (.int .i64 4)).setCell ⟨R, 1, none⟩ (.int .i64 1)).setCell ⟨R, 2, none⟩ (.int .i64 100)).cell? ⟨R, 0, none⟩ = some (.int .i64 4) := by rw [h3.cell]; rfl
    have e1 : (((w1.setCell ⟨R, 0, none⟩ (.int .i64 4)).setCell ⟨R, 1, none⟩ (.int .i64 1)).setCell ⟨R, 2, none⟩ (.int .i64 100)).cell? ⟨R, 1, none⟩ = some (.int .i64 1) := by rw [h3.cell]; rfl
    have e2 : (((w1.setCell ⟨R, 0, none⟩ (.int .i64 4)).setCell ⟨R, 1, none⟩ (.int .i64 1)).setCell ⟨R, 2, none⟩ (.int .i64 100)).cell? ⟨R, 2, none⟩ = some (.int .i64 100) := by rw [h3.cell]; rfl
    clear h3
    clear hR3 HIN
    go_wp2_with fail
    refine bodyPost_ret (by simp [results, Tryd.results33, go_sem, e0, e1, e2]; try rfl) rfl ?_
    exact ⟨rfl, ((HB2.out.setCell (p := ⟨R, 0, none⟩) hRw _).setCell (p := ⟨R, 1, none⟩) hRw _).setCell (p := ⟨R, 2, none⟩) hRw _⟩
set_option maxRecDepth 100000 in
theorem text_any (s : ByteArray) (n : Nat) (w : World) (hs : s.size ≤ 9223372036854775807) (hn : n ≤ 1000000) :
    Calls Tryd.prog 34 #[.string s, .int .i64 n] w fun e w' => e = .returned (.string (s.extract 0 n)) ∧ w' = w := by
  by_cases h : s.size ≤ n
  · have e : s.extract 0 n = s := by
      apply nats_inj; rw [nats_extract, List.drop_zero, List.take_of_length_le (by rw [nats_length]; omega)]
    go_enter Tryd.func34, Tryd.ntmps34
    go_wp2_with fail
    go_ret
    rw [e]
    exact ⟨rfl, rfl⟩
  · go_enter Tryd.func34, Tryd.ntmps34
    go_wp2_with fail
    go_ret
    exact ⟨rfl, rfl⟩
end Go.Proofs.YtmnggemifcjflaaDoor
