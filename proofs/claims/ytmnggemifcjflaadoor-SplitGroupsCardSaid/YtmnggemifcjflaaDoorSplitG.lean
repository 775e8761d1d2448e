/-
  Cuts by any plan: Cut of both, the refusals too.
-/
import Derived.Test.YtmnggemifcjflaaDoorSplitR2
namespace Go.Proofs.YtmnggemifcjflaaDoor
open Go.RowKit PlainP RollP OnesP SplitP

/-- the pieces of a text by a plan that may be none -/
def csOf (b f m : Int) (l : List Nat) : List (Nat × Nat) := if planE b f m = 0 then cutAll ⟨b.toNat, f.toNat, m.toNat⟩ l else []
theorem plan_of (b f m : Int) (h : planE b f m = 0) : (⟨b.toNat, f.toNat, m.toNat⟩ : Plan).Ok ∧ planVP ⟨b.toNat, f.toNat, m.toNat⟩ = planV b f m := by
  unfold planE at h
  split at h
  · rename_i hc
    refine ⟨⟨?_, ?_, ?_, ?_, ?_, ?_⟩, ?_⟩
    · show 4 ≤ b.toNat; omega
    · show b.toNat ≤ 16; omega
    · show 1 ≤ f.toNat; omega
    · show f.toNat ≤ 8; omega
    · show 64 ≤ m.toNat; omega
    · show m.toNat ≤ 65536; omega
    · unfold planVP
      show planV (b.toNat : Int) (f.toNat : Int) (m.toNat : Int) = _
      rw [Int.toNat_of_nonneg (by omega), Int.toNat_of_nonneg (by omega), Int.toNat_of_nonneg (by omega)]
  · cases h
theorem planE_two (b f m : Int) : planE b f m = 0 ∨ planE b f m = 90 := by
  unfold planE; split
  · exact .inl rfl
  · exact .inr rfl

set_option maxRecDepth 100000 in
theorem cut_gen (b f m : Int) (s : ByteArray) (w : World) (hs : s.size ≤ 1048576) (hT : Tab w) :
    Calls Tryd.prog 21 #[planV b f m, .string s] w fun e w' => ∃ v, e = .returned (.tuple #[v, .int .i64 (planE b f m)]) ∧ Below w.heap.size w w' ∧ Chunks w.heap.size w' v (csOf b f m (nats s)) := by
  rcases planE_two b f m with h0 | h0
  · obtain ⟨hp, hv⟩ := plan_of b f m h0
    have h := cut_any _ s w hp hs hT
    rw [hv] at h
    rw [h0]
    unfold csOf
    rw [if_pos h0]
    exact h
  · have hck := fun W => check_any b f m W
    rw [h0] at hck
    rw [h0]
    have hcs : csOf b f m (nats s) = [] := by unfold csOf; rw [if_neg (by omega)]
    rw [hcs]
    have HCK := Lib.hid hck; clear hck hcs h0 hT
    unfold planV at *
    go_enter Tryd.func21, Tryd.ntmps21
    go_wp2_with fail
    refine (HCK.out _).mono ?_
    rintro e w1 ⟨rfl, hb1⟩
    have hB1 : Below w.heap.size w w1 := ((Below.refl _ _).alloc (Nat.le_refl _) _).trans (hb1.mono (by simp))
    have HB1 := Lib.hid hB1; clear hB1 hb1
    go_wp2_with fail
    go_ret2
    exact ⟨_, rfl, HB1.out, World.ownsRow_nil _ _ _ _⟩
set_option maxRecDepth 100000 in
theorem rcut_gen (b f m : Int) (s : ByteArray) (w : World) (hs : s.size ≤ 1048576) :
    Calls Tryd.prog 20 #[planV b f m, .string s] w fun e w' => ∃ v, e = .returned (.tuple #[v, .int .i64 (planE b f m)]) ∧ Below w.heap.size w w' ∧ RChunks w.heap.size w' v (csOf b f m (nats s)) := by
  rcases planE_two b f m with h0 | h0
  · obtain ⟨hp, hv⟩ := plan_of b f m h0
    have h := rcut_any _ s w hp hs
    rw [hv] at h
    rw [h0]
    unfold csOf
    rw [if_pos h0]
    exact h
  · have hck := fun W => rcheck_any b f m W
    rw [h0] at hck
    rw [h0]
    have hcs : csOf b f m (nats s) = [] := by unfold csOf; rw [if_neg (by omega)]
    rw [hcs]
    have HCK := Lib.hid hck; clear hck hcs h0
    unfold planV at *
    go_enter Tryd.func20, Tryd.ntmps20
    go_wp2_with fail
    refine (HCK.out _).mono ?_
    rintro e w1 ⟨rfl, hb1⟩
    have hB1 : Below w.heap.size w w1 := ((Below.refl _ _).alloc (Nat.le_refl _) _).trans (hb1.mono (by simp))
    have HB1 := Lib.hid hB1; clear hB1 hb1
    go_wp2_with fail
    go_ret2
    exact ⟨_, rfl, HB1.out, World.ownsRow_nil _ _ _ _⟩

theorem csOf_len (b f m : Int) (l : List Nat) : (csOf b f m l).length ≤ l.length + 1 := by
  unfold csOf; split
  · exact cutAll_len _ _
  · simp
theorem own_base {w : World} {B B' : Nat} {e : TypeId} {size : Nat} {v : Value} {n : Nat} {xs : List Value} (h : w.ownsRow B e size v n xs) (hb : B' ≤ B) : w.ownsRow B' e size v n xs := by
  refine ⟨h.1, ?_⟩
  rcases h.2 with h | ⟨g, cap, cur, h1, h2, h3⟩
  · exact .inl h
  · exact .inr ⟨g, cap, cur, h1, by omega, h3⟩
end Go.Proofs.YtmnggemifcjflaaDoor
