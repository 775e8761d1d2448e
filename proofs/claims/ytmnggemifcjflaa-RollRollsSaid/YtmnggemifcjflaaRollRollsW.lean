/-
  The walk over RollRolls.
-/
import Derived.Test.YtmnggemifcjflaaRollW3
namespace Go.Proofs.Ytmnggemifcjflaa.rollRolls
open Go.RowKit RollP
set_option linter.unusedVariables false

/-- the cells of a ring of 64 bytes -/
def ring (c : List Nat) : Array Value := (c.map (fun n : Nat => Value.int .u8 (n : Int))).toArray
def Ring (w : World) (B p : Nat) (l : List Nat) : Prop := ∃ c : List Nat, c.length = 64 ∧ Bytes c ∧ l = c.drop p ++ c.take p ∧ Blk w B 5 (ring c)
theorem ring_cell {w : World} {B p a : Nat} {c : List Nat} (h : Blk w B 5 (ring c)) (ha : c[p]? = some a) : w.cell? ⟨B, p, none⟩ = some (.int .u8 (a : Int)) := by
  rw [h.cell, ring, List.getElem?_toArray, List.getElem?_map, ha]; rfl

set_option maxRecDepth 100000 in
theorem walk (s : ByteArray) (w : World) (hs : s.size ≤ maxLen) :
    Calls Try.prog 6 #[.string s] w fun e w' => e = .returned (.bool true) ∧ Below w.heap.size w w' := by
  unfold maxLen at hs
  have hmk : ∀ W, (Instr.makeSlice 31 (.int .i64 64) (.int .i64 64)).run Try.prog W = .ok (.slice (some ⟨W.heap.size, 0, none⟩) 64 64) (W.alloc (.cells (Array.replicate 64 (Value.int .u8 0)) 5)) := fun _ => by kernel_rfl
  go_enter Try.func6, Try.ntmps6
  go_wp2_with fail
  refine (awake_any _).mono ?_
  rintro e w1 ⟨rfl, hb1⟩
  go_wp2_with fail
  refine (new_roll _).mono ?_
  rintro e w2 ⟨W, rfl, rfl, hgr, hlt, hra⟩
  go_wp2_with fail
  have hN := nats_length s
  have hb2 : Below w.heap.size w W := hb1.trans ((Below.refl _ _).grown hgr (Nat.le_refl _) (by simp) |>.mono hb1.size)
  have hs1 := hb1.size
  have hs2 := hgr.size
  have hr0 := hra.grown (only_alloc (only_refl W none) (.cells (Array.replicate 64 (Value.int .u8 0)) 5)) (by simp)
  have hk0 : Blk (W.alloc (.cells (Array.replicate 64 (Value.int .u8 0)) 5)) W.heap.size 5 (ring (List.replicate 64 0)) := Blk.new _ _ _
  have HN := Lib.hid hN; clear hN
  have HB := Lib.hid hb2; clear hb2 hb1 hgr hra
  have HR := Lib.hid hr0; clear hr0
  have HK := Lib.hid hk0; clear hk0
  generalize hG : w1.heap.size = G at *
  clear hG
  go_loopw [5] (fun i wr => ∃ k : Nat, i = .int .i64 k ∧ k ≤ s.size ∧ k ≤ 5000 ∧ Hid (W.heap.size < wr.heap.size ∧ Below w.heap.size w wr ∧ RollAt wr G (win ((nats s).take k)) ∧ Ring wr W.heap.size (k % 64) (win ((nats s).take k)))) (fun i _ => 5000 - (intOf i).toNat)
  case atStart =>
    refine ⟨0, rfl, Nat.zero_le _, Nat.zero_le _, by simp, HB.out.alloc (by omega) _, HR.out, List.replicate 64 0, by rw [List.length_replicate], ?_, by rw [List.take_zero, win_nil]; rfl, HK.out⟩
    intro x hx; rw [List.mem_replicate] at hx; omega
  case round =>
    obtain ⟨k, rfl, hk, hk5, H⟩ := hrel
    by_cases hlt : k < s.size ∧ k < 5000
    · obtain ⟨hlt, hlt5⟩ := hlt
      obtain ⟨hsz, hbw, hra, c, hc, hcb, hcw, hblk⟩ := H.out
      obtain ⟨x, hx⟩ : ∃ x, (nats s)[k]? = some x := ⟨_, List.getElem?_eq_getElem (by rw [nats_length]; exact hlt)⟩
      have hxb : x < 256 := nats_bytes s x (List.mem_of_getElem? hx)
      obtain ⟨a, ha⟩ : ∃ a, c[k % 64]? = some a := ⟨_, List.getElem?_eq_getElem (by omega)⟩
      have hab : a < 256 := hcb a (List.mem_of_getElem? ha)
      have hcell : wr.cell? ⟨W.heap.size, k % 64, none⟩ = some (.int .u8 (a : Int)) := ring_cell hblk ha
      have hfr := hblk.frozen (k % 64)
      have hget : ((s[k]'hlt).toNat : Int) = (x : Int) := (PlainAid.get_bt s k hlt).trans (bt_nats s k x hx)
      have HX := Lib.hid hx; clear hx
      have HA := Lib.hid ha; clear ha
      have HC := Lib.hid hc; clear hc
      have HW := Lib.hid hcw; clear hcw
      have HBL := Lib.hid hblk; clear hblk
      have HCB := Lib.hid hcb; clear hcb
      have HBW := Lib.hid hbw; clear hbw
      have HRA := Lib.hid hra; clear hra
      go_wp2_with fail
      refine (digest_any _ _ _ HRA.out).mono ?_
      rintro e w3 ⟨rfl, n, rfl⟩
      go_wp2_with fail
      have hgw : wr.grownBy ((wr.drewN n).setCell ⟨W.heap.size, k % 64, none⟩ (.int .u8 (x : Int))) (some W.heap.size) := only_setCell (only_drewN (only_refl _ _) _) (.inl rfl) _
      have hra4 := HRA.out.grown hgw (by simp; omega)
      refine (add_any _ _ _ _ hra4 hxb).mono ?_
      rintro e w4 ⟨rfl, hgr4, hra5⟩
      go_wp2_with fail
      refine (digest_any _ _ _ hra5).mono ?_
      rintro e w5 ⟨rfl, n5, rfl⟩
      go_wp2_with fail
      · exfalso
        have ht : ∀ b : Bool, b = true → b = false → False := by intro b h1 h2; rw [h1] at h2; cases h2
        refine ht _ (by assumption) ?_
        obtain ⟨t, hwt⟩ : ∃ t, win ((nats s).take k) = a :: t := ⟨c.drop (k % 64 + 1) ++ c.take (k % 64), by rw [HW.out, List.drop_eq_getElem?_toList_append, HA.out]; rfl⟩
        have hlen : (a :: t).length = 64 := by rw [← hwt, win_length]
        have h := dig_roll a x t hlen
        rw [hwt]
        exact bne_eq_false_iff_eq.2 h
      · go_roundw
        case rel =>
          refine ⟨k + 1, by go_num, by omega, by omega, ?_, ?_, ?_, ?_⟩
          · have := hgr4.size; simp at this ⊢; omega
          · refine below_drewN (below_of_only ?_ hgr4 ?_ ?_) _
            · exact below_of_only HBW.out hgw (by omega) (by omega)
            · have := hgw.size; omega
            · omega
          · have := win_snoc ((nats s).take k) x
            rw [take_succ _ _ _ HX.out, this]
            exact hra5
          · rw [take_succ _ _ _ HX.out, win_snoc, HW.out, ← roll_rel c (k % 64) x HC.out (by omega)]
            refine ⟨c.set (k % 64) x, by rw [List.length_set, HC.out], ?_, ?_, ?_⟩
            · intro y hy
              rcases List.mem_or_eq_of_mem_set hy with h | h
              · exact HCB.out y h
              · omega
            · rw [show (k % 64 + 1) % 64 = (k + 1) % 64 by omega]
            · have h1 := ((HBL.out.drewN n).set_ (k % 64) (.int .u8 (x : Int))).grown hgr4 (by simp; omega)
              have e : (ring c).setIfInBounds (k % 64) (.int .u8 (x : Int)) = ring (c.set (k % 64) x) := by
                unfold ring
                rw [List.setIfInBounds_toArray, List.map_set]
              rw [e] at h1
              exact h1
        case measure => simp [intOf]; omega
    · have hd : decide ((k : Int) < (s.size : Int) ∧ (k : Int) < 5000) = false := by simp; omega
      by_cases hks : k < s.size
      · have hk50 : ¬ k < 5000 := by omega
        go_wp2_with fail
        go_ret
        exact ⟨rfl, H.out.2.1⟩
      · go_wp2_with fail
        go_ret
        exact ⟨rfl, H.out.2.1⟩
end Go.Proofs.Ytmnggemifcjflaa.rollRolls
