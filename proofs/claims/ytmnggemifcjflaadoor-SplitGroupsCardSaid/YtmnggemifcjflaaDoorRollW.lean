/-
  The walks over package roll: New, Add, Digest: what each makes of the block that a Roll is.
-/
import Derived.Test.YtmnggemifcjflaaDoorRows
import Derived.Test.YtmnggemifcjflaaDoorMem
import Derived.Test.YtmnggemifcjflaaDoorRollP
import Derived.RegionTactic
import Derived.ChangeAlike
import Derived.BigRegion
import Derived.BigQuiet
import Derived.Deep.QuietTactic
import Derived.Outline
namespace Go.Proofs.YtmnggemifcjflaaDoor
open Go.RowKit PlainP RollP

/-- the cells of a Roll: the ring, where the oldest byte stands, both sums -/
def rollCells (c : List Nat) (p lo hi : Nat) : Array Value := (c.map (fun n : Nat => Value.int .u8 (n : Int)) ++ [Value.int .i64 (p : Int), Value.int .u16 (lo : Int), Value.int .u16 (hi : Int)]).toArray

/-- block g is a Roll whose window is l -/
def RollAt (w : World) (g : Nat) (l : List Nat) : Prop :=
  ∃ (c : List Nat) (p : Nat), c.length = 64 ∧ p < 64 ∧ Bytes c ∧ l = c.drop p ++ c.take p ∧ Blk w g 89 (rollCells c p (low l % 65536) (hisum 1 l % 65536))

theorem new_any (w : World) : Calls Tryd.prog 19 #[] w fun e w' => e = .returned (.pointer (some ⟨w.heap.size, 0, none⟩)) ∧ w' = w.alloc (.cells (rollCells (List.replicate 64 0) 0 1984 64480) 89) := by
  have hz : ∀ W : World, (zeroValue 89).run Tryd.prog W = .ok (.agg (rollCells (List.replicate 64 0) 0 0 0)) W := fun W => by kernel_rfl
  go_enter Tryd.func19, Tryd.ntmps19
  go_wp2
  go_ret
  exact ⟨rfl, rfl⟩

/-- what is said of a Roll's cells, one by one -/
theorem roll_facts {w : World} {g : Nat} {c : List Nat} {p lo hi : Nat} (h : Blk w g 89 (rollCells c p lo hi)) (hc : c.length = 64) :
    (∀ j, j < 64 → w.cell? ⟨g, j, none⟩ = some (.int .u8 (c.getD j 0 : Nat))) ∧ w.cell? ⟨g, 64, none⟩ = some (.int .i64 p) ∧ w.cell? ⟨g, 65, none⟩ = some (.int .u16 lo) ∧ w.cell? ⟨g, 66, none⟩ = some (.int .u16 hi) := by
  have hl : (c.map (fun n : Nat => Value.int .u8 (n : Int))).length = 64 := by rw [List.length_map, hc]
  refine ⟨fun j hj => ?_, ?_, ?_, ?_⟩
  · rw [h.cell, rollCells, List.getElem?_toArray, List.getElem?_append_left (by omega), List.getElem?_map, List.getElem?_eq_getElem (by omega), List.getD_eq_getElem?_getD, List.getElem?_eq_getElem (by omega)]; rfl
  all_goals
    rw [h.cell, rollCells, List.getElem?_toArray, List.getElem?_append_right (by omega), hl]; rfl

theorem or_digest (lo hi : Nat) (h1 : lo < 65536) (h2 : hi < 65536) : bits BinOp.or IntKind.u32 ((lo : Int) * 65536) (hi : Int) = ((lo * 65536 + hi : Nat) : Int) := by
  have e : ((lo : Int) * 65536) = ((lo * 65536 : Nat) : Int) := by omega
  have ha : (BitVec.ofInt 32 ((lo * 65536 : Nat) : Int)).toNat = lo * 65536 := by rw [BitVec.ofInt_natCast, BitVec.toNat_ofNat]; omega
  have hb : (BitVec.ofInt 32 (hi : Int)).toNat = hi := by rw [BitVec.ofInt_natCast, BitVec.toNat_ofNat]; omega
  rw [e]
  show IntKind.u32.wrap ((BitVec.ofInt 32 ((lo * 65536 : Nat) : Int) ||| BitVec.ofInt 32 (hi : Int)).toNat : Int) = _
  have ho : lo * 65536 ||| hi = lo * 65536 + hi := by
    have := Nat.shiftLeft_add_eq_or_of_lt (i := 16) (b := hi) (by omega) lo
    rw [Nat.shiftLeft_eq] at this; exact this.symm
  rw [BitVec.toNat_or, ha, hb, ho, IntKind.wrap_u32]
  omega

theorem digest_walk (g : Nat) (c : List Nat) (p lo hi : Nat) (w : World) (h : Blk w g 89 (rollCells c p lo hi)) (hc : c.length = 64) (hlo : lo < 65536) (hhi : hi < 65536) :
    Calls Tryd.prog 18 #[.pointer (some ⟨g, 0, none⟩)] w fun e w' => e = .returned (.int .u32 ((lo * 65536 + hi : Nat) : Int)) ∧ ∃ n, w' = w.drewN n := by
  obtain ⟨-, -, h65, h66⟩ := roll_facts h hc
  have H := Lib.hid h; clear h
  go_enter Tryd.func18, Tryd.ntmps18
  go_wp2
  go_quiet (fail)
  go_wp2
  go_ret
  refine ⟨?_, _, rfl⟩
  rw [or_digest lo hi hlo hhi]; rfl

theorem add_walk (g p lo hi b x : Nat) (w : World) (hp : p < 64) (hb : b < 256) (hx : x < 256)
    (hjp : w.cell? ⟨g, p, none⟩ = some (.int .u8 (x : Int))) (h64 : w.cell? ⟨g, 64, none⟩ = some (.int .i64 p)) (h65 : w.cell? ⟨g, 65, none⟩ = some (.int .u16 lo)) (h66 : w.cell? ⟨g, 66, none⟩ = some (.int .u16 hi))
    (f64 : w.frozen? ⟨g, 64, none⟩ = false) (f65 : w.frozen? ⟨g, 65, none⟩ = false) (f66 : w.frozen? ⟨g, 66, none⟩ = false) (fp : w.frozen? ⟨g, p, none⟩ = false) :
    Calls Tryd.prog 16 #[.pointer (some ⟨g, 0, none⟩), .int .u8 b] w fun e w' => e = .returned (.tuple #[]) ∧
      w' = ((((w.setCell ⟨g, 66, none⟩ (.int .u16 (IntKind.u16.wrap (hi + IntKind.u16.wrap (64 * (b + 31) - lo))))).setCell ⟨g, 65, none⟩ (.int .u16 (IntKind.u16.wrap (lo + IntKind.u16.wrap (b - x))))).setCell ⟨g, p, none⟩ (.int .u8 b)).setCell ⟨g, 64, none⟩ (.int .i64 (((p : Int) + 1) % 64))).drew.drew.drew := by
  go_enter Tryd.func16, Tryd.ntmps16
  go_wp2
  go_region
  go_wp2
  go_region
  go_wp2
  go_region
  go_wp2
  go_end0
  exact ⟨rfl, rfl⟩

theorem rollCells_set (c : List Nat) (p lo hi b : Nat) (u v q : Value) (hc : c.length = 64) (hp : p < 64) :
    ((((rollCells c p lo hi).setIfInBounds 66 u).setIfInBounds 65 v).setIfInBounds p (.int .u8 (b : Int))).setIfInBounds 64 q = ((c.set p b).map (fun n : Nat => Value.int .u8 (n : Int)) ++ [q, v, u]).toArray := by
  have hl : (c.map (fun n : Nat => Value.int .u8 (n : Int))).length = 64 := by rw [List.length_map, hc]
  have hl2 : ((c.set p b).map (fun n : Nat => Value.int .u8 (n : Int))).length = 64 := by rw [List.length_map, List.length_set, hc]
  unfold rollCells
  simp only [List.setIfInBounds_toArray]
  rw [List.set_append_right _ _ (by omega), hl, List.set_append_right _ _ (by omega), hl, List.set_append_left _ _ (by omega), List.set_append_right _ _ (by rw [List.length_set]; omega), List.length_set, hl, List.map_set]
  rfl

theorem roll_rel (c : List Nat) (p b : Nat) (hc : c.length = 64) (hp : p < 64) : (c.set p b).drop ((p + 1) % 64) ++ (c.set p b).take ((p + 1) % 64) = (c.drop p ++ c.take p).drop 1 ++ [b] := by
  rw [List.drop_append_of_le_length (by rw [List.length_drop]; omega), List.drop_drop]
  rcases Nat.lt_or_ge p 63 with h | h
  · rw [Nat.mod_eq_of_lt (by omega), List.drop_set_of_lt (by omega), List.take_add_one, List.getElem?_set_self (by omega), List.take_set_of_le (by omega), List.append_assoc]; rfl
  · obtain rfl : p = 63 := by omega
    rw [show (63 + 1) % 64 = 0 from rfl, List.drop_zero, List.take_zero, List.append_nil, List.drop_eq_nil_of_le (by omega), List.nil_append]
    apply List.ext_getElem?
    intro k
    rw [List.getElem?_set]
    rcases Nat.lt_trichotomy k 63 with h | h | h
    · rw [if_neg (by omega), List.getElem?_append_left (by rw [List.length_take]; omega), List.getElem?_take, if_pos h]
    · subst h
      rw [if_pos rfl, if_pos (by omega), List.getElem?_append_right (by rw [List.length_take]; omega), List.length_take, hc]; rfl
    · rw [if_neg (by omega), List.getElem?_eq_none (by omega), List.getElem?_eq_none (by rw [List.length_append, List.length_take, List.length_singleton]; omega)]

theorem roll_hi (a b : Nat) (t : List Nat) (h : (a :: t).length = 64) :
    IntKind.u16.wrap (((hisum 1 (a :: t) % 65536 : Nat) : Int) + IntKind.u16.wrap (64 * ((b : Int) + 31) - ((low (a :: t) % 65536 : Nat) : Int))) = ((hisum 1 (t ++ [b]) % 65536 : Nat) : Int) := by
  have := hs_roll a b t h
  rw [IntKind.wrap_u16, IntKind.wrap_u16]
  omega
theorem roll_lo (a b : Nat) (t : List Nat) :
    IntKind.u16.wrap (((low (a :: t) % 65536 : Nat) : Int) + IntKind.u16.wrap ((b : Int) - (a : Int))) = ((low (t ++ [b]) % 65536 : Nat) : Int) := by
  have := low_roll a b t
  rw [IntKind.wrap_u16, IntKind.wrap_u16]
  omega

theorem add_world (w : World) (g p : Nat) (u v x q : Value) : w.grownBy ((((w.setCell ⟨g, 66, none⟩ u).setCell ⟨g, 65, none⟩ v).setCell ⟨g, p, none⟩ x).setCell ⟨g, 64, none⟩ q).drew.drew.drew (some g) := by
  have h1 : w.grownBy (w.setCell ⟨g, 66, none⟩ u) (some g) := only_setCell (only_refl _ _) (.inl rfl) _
  have h2 := only_setCell (p := ⟨g, 65, none⟩) h1 (.inl rfl) v
  have h3 := only_setCell (p := ⟨g, p, none⟩) h2 (.inl rfl) x
  have h4 := only_setCell (p := ⟨g, 64, none⟩) h3 (.inl rfl) q
  exact only_drew (only_drew (only_drew h4))

/-- Add: a byte in, the oldest one out -/
theorem add_any (g b : Nat) (l : List Nat) (w : World) (h : RollAt w g l) (hb : b < 256) :
    Calls Tryd.prog 16 #[.pointer (some ⟨g, 0, none⟩), .int .u8 b] w fun e w' => e = .returned (.tuple #[]) ∧ w.grownBy w' (some g) ∧ RollAt w' g (l.drop 1 ++ [b]) := by
  obtain ⟨c, p, hc, hp, hB, hl, hblk⟩ := h
  obtain ⟨hj, h64, h65, h66⟩ := roll_facts hblk hc
  obtain ⟨x, hx⟩ : ∃ x, c[p]? = some x := ⟨_, List.getElem?_eq_getElem (by omega)⟩
  have hxb : x < 256 := hB x (List.mem_of_getElem? hx)
  have hjp := hj p hp
  rw [List.getD_eq_getElem?_getD, hx, Option.getD_some] at hjp
  obtain ⟨t, ht⟩ : ∃ t, l = x :: t := ⟨c.drop (p + 1) ++ c.take p, by rw [hl, List.drop_eq_getElem?_toList_append, hx]; rfl⟩
  have hlen : (x :: t).length = 64 := by rw [← ht, hl, List.length_append, List.length_drop, List.length_take]; omega
  refine (add_walk g p _ _ b x w hp hb hxb hjp h64 h65 h66 (hblk.frozen _) (hblk.frozen _) (hblk.frozen _) (hblk.frozen _)).mono ?_
  rintro e w' ⟨rfl, rfl⟩
  refine ⟨rfl, add_world _ _ _ _ _ _ _, ?_⟩
  refine ⟨c.set p b, (p + 1) % 64, by rw [List.length_set, hc], by omega, ?_, ?_, ?_⟩
  · intro y hy
    rcases List.mem_or_eq_of_mem_set hy with h | h
    · exact hB y h
    · omega
  · rw [roll_rel c p b hc hp, hl]
  · have hb1 := ((((((hblk.set_ 66 (.int .u16 (IntKind.u16.wrap (((hisum 1 l % 65536 : Nat) : Int) + IntKind.u16.wrap (64 * ((b : Int) + 31) - ((low l % 65536 : Nat) : Int)))))).set_ 65 (.int .u16 (IntKind.u16.wrap (((low l % 65536 : Nat) : Int) + IntKind.u16.wrap ((b : Int) - (x : Int)))))).set_ p (.int .u8 b)).set_ 64 (.int .i64 (((p : Int) + 1) % 64))).drew).drew).drew
    rw [rollCells_set c p _ _ b _ _ _ hc hp] at hb1
    have e1 : l.drop 1 ++ [b] = t ++ [b] := by rw [ht]; rfl
    rw [e1]
    have e2 := roll_hi x b t hlen
    have e3 := roll_lo x b t
    rw [← ht] at e2 e3
    rw [e2, e3] at hb1 ⊢
    have e4 : (((p + 1) % 64 : Nat) : Int) = ((p : Int) + 1) % 64 := by omega
    unfold rollCells
    rw [e4]
    exact hb1
end Go.Proofs.YtmnggemifcjflaaDoor
