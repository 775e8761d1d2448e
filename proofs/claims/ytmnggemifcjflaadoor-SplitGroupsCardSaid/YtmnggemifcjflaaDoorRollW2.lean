/-
  The walks over package roll: Write, Of; and the reference's Of.
-/
import Derived.Test.YtmnggemifcjflaaDoorRollW
import Derived.Test.YtmnggemifcjflaaDoorBytes
namespace Go.Proofs.YtmnggemifcjflaaDoor
open Go.RowKit PlainP RollP

theorem RollAt.grown {w w' : World} {g : Nat} {l : List Nat} {row : Option Nat} (h : RollAt w g l) (k : w.grownBy w' row) (hr : some g ≠ row) : RollAt w' g l := by
  obtain ⟨c, p, h1, h2, h3, h4, h5⟩ := h
  exact ⟨c, p, h1, h2, h3, h4, h5.grown k hr⟩
theorem RollAt.lt {w : World} {g : Nat} {l : List Nat} (h : RollAt w g l) : g < w.heap.size := by
  obtain ⟨c, p, h1, h2, h3, h4, h5⟩ := h
  exact h5.lt

theorem roll_step (l s : List Nat) (k x : Nat) (hl : l.length = 64) (h : s[k]? = some x) : ((l ++ s.take k).drop k).drop 1 ++ [x] = (l ++ s.take (k + 1)).drop (k + 1) := by
  have hk := (List.getElem?_eq_some_iff.1 h).1
  have e : k + 1 ≤ (l ++ s.take k).length := by rw [List.length_append, List.length_take]; omega
  rw [take_succ s k x h, ← List.append_assoc, List.drop_drop, List.drop_append_of_le_length (l₁ := l ++ s.take k) e]
theorem RollAt.len {w : World} {g : Nat} {l : List Nat} (h : RollAt w g l) : l.length = 64 := by
  obtain ⟨c, p, h1, h2, h3, h4, h5⟩ := h
  rw [h4, List.length_append, List.length_drop, List.length_take]; omega

/-- Write: every byte in turn -/
theorem write_any (g : Nat) (s : ByteArray) (l : List Nat) (w : World) (h : RollAt w g l) (hs : s.size ≤ 9223372036854775807) :
    Calls Tryd.prog 17 #[.pointer (some ⟨g, 0, none⟩), .string s] w fun e w' => e = .returned (.tuple #[]) ∧ w.grownBy w' (some g) ∧ RollAt w' g ((l ++ nats s).drop s.size) := by
  have hlen := h.len
  have hg := h.lt
  have hn := nats_length s
  have hcv := fun W : World => run_bytes_of_string (P := Tryd.prog) W 9 74 5 s Tryd.underlying9 Tryd.underlying74 Tryd.underlying5
  have hb0 := HasBytes.new w.drew s (grownCap w s.size 0 5) 5 ((bytesRow s (grownCap w s.size 0 5)).size, (bytesRow s (grownCap w s.size 0 5)).size + 1)
  have hr0 := h.grown (only_alloc (only_drew (only_refl w none)) (.cells (bytesRow s (grownCap w s.size 0 5)) 5 ((bytesRow s (grownCap w s.size 0 5)).size, (bytesRow s (grownCap w s.size 0 5)).size + 1))) (by simp)
  have HN := Lib.hid hn; clear hn
  have HL := Lib.hid hlen; clear hlen
  have HB := Lib.hid hb0; clear hb0
  have HR := Lib.hid hr0; clear hr0
  have HH := Lib.hid h; clear h
  go_enter Tryd.func17, Tryd.ntmps17
  go_wp2_with fail
  go_loopw [9] (fun i wr => ∃ k : Nat, i = .int .i64 k ∧ k ≤ s.size ∧ Hid (w.grownBy wr (some g) ∧ w.heap.size < wr.heap.size ∧ HasBytes wr w.heap.size s ∧ RollAt wr g ((l ++ (nats s).take k).drop k))) (fun i _ => s.size - (intOf i).toNat)
  case atStart =>
    refine ⟨0, rfl, Nat.zero_le _, ?_, by simp, HB.out, ?_⟩
    · exact only_drew (only_alloc (only_refl _ _) _)
    · have := HR.out; simp only [List.take_zero, List.append_nil, List.drop_zero]; exact this
  case round =>
    obtain ⟨k, rfl, hk, H⟩ := hrel
    by_cases hlt : k < s.size
    · obtain ⟨x, hx⟩ : ∃ x, (nats s)[k]? = some x := ⟨_, List.getElem?_eq_getElem (by rw [nats_length]; exact hlt)⟩
      have hxb : x < 256 := nats_bytes s x (List.mem_of_getElem? hx)
      have hcell : wr.cell? ⟨w.heap.size, k, none⟩ = some (.int .u8 (x : Int)) := H.out.2.2.1 k x hx
      have HX := Lib.hid hx; clear hx
      go_wp2_with (go_at_call 16; refine (add_any g x _ _ H.out.2.2.2 hxb).mono ?_; rintro e w' ⟨rfl, hgr, hra⟩)
      go_roundw
      case rel => exact ⟨k + 1, by go_num, by omega, only_trans H.out.1 hgr, Nat.lt_of_lt_of_le H.out.2.1 hgr.size, H.out.2.2.1.grown hgr H.out.2.1 (by simp; omega), by rw [roll_step l (nats s) k x HL.out HX.out] at hra; exact hra⟩
      case measure => simp [intOf]; omega
    · obtain rfl : k = s.size := by omega
      go_wp2
      go_end0
      refine ⟨rfl, H.out.1, ?_⟩
      have := H.out.2.2.2
      rw [List.take_of_length_le (by rw [nats_length]; exact Nat.le_refl _)] at this
      exact this

/-- the digest of a text, as a number -/
def digS (s : ByteArray) : Nat := dig (win (nats s))

theorem digest_any (g : Nat) (l : List Nat) (w : World) (h : RollAt w g l) :
    Calls Tryd.prog 18 #[.pointer (some ⟨g, 0, none⟩)] w fun e w' => e = .returned (.int .u32 (dig l : Nat)) ∧ ∃ n, w' = w.drewN n := by
  obtain ⟨c, p, hc, hp, hB, hl, hblk⟩ := h
  exact digest_walk g c p _ _ w hblk hc (by omega) (by omega)

theorem new_roll (w : World) : Calls Tryd.prog 19 #[] w fun e w' => ∃ W, W = w' ∧ e = .returned (.pointer (some ⟨w.heap.size, 0, none⟩)) ∧ w.grownBy w' none ∧ w.heap.size < w'.heap.size ∧ RollAt w' w.heap.size (win []) :=
  (new_any w).mono fun e w' ⟨he, hw⟩ => by
    subst hw
    refine ⟨_, rfl, he, only_alloc (only_refl _ _) _, by simp, List.replicate 64 0, 0, by rw [List.length_replicate], by omega, ?_, ?_, Blk.new _ _ _⟩
    · intro x hx; rw [List.mem_replicate] at hx; omega
    · rw [win_nil]; rfl
end Go.Proofs.YtmnggemifcjflaaDoor
