/-
  The walks over the reader's calls: Uint, Take, End.
-/
import Derived.Test.YtdoaajjmibkfeaaWireR
namespace Go.Proofs.Ytdoaajjmibkfeaa
open Go.RowKit PlainP WireP

/-- what is left behind a short number -/
def restU (s : ByteArray) : Option (Nat × Nat) → ByteArray
  | some (_, k) => s.extract k s.size
  | none => s
def uintV : Option (Nat × Nat) → Value
  | some (n, _) => .tuple #[.int .u64 n, .int .i64 0]
  | none => .tuple #[.int .u64 0, .int .i64 4]
def shN : Option (Nat × Nat) → Nat
  | some (n, _) => n
  | none => 0
def shK : Option (Nat × Nat) → Int
  | some (_, k) => k
  | none => -1
theorem shortV_eq (o : Option (Nat × Nat)) : shortV o = .tuple #[.int .u64 (shN o : Nat), .int .i64 (shK o)] := by
  rcases o with _ | ⟨n, k⟩ <;> rfl

theorem uint1_any (s : ByteArray) (c : Nat) (w : World) (h : Blk w c 53 #[.int .u64 0]) (hs : s.size ≤ 9223372036854775807) :
    Calls Try.prog 63 #[.string s, .pointer (some ⟨c, 0, none⟩)] w fun e w' => e = .returned (.int .i64 (shK (short (nats s)))) ∧ w' = w.setCell ⟨c, 0, none⟩ (.int .u64 (shN (short (nats s)) : Nat)) := by
  have c0 : w.cell? ⟨c, 0, none⟩ = some (.int .u64 0) := by rw [h.cell]; rfl
  have f0 := h.frozen 0
  have H := Lib.hid h; clear h
  have hsh := fun W => short_any s W hs
  rw [shortV_eq] at hsh
  have HS := Lib.hid hsh; clear hsh
  generalize short (nats s) = o at *
  go_enter Try.func63, Try.ntmps63
  go_wp2_with fail
  refine (HS.out _).mono ?_
  rintro e w1 ⟨rfl, rfl⟩
  go_wp2_with fail
  go_ret
  exact ⟨rfl, rfl⟩

theorem uint_any (g : Nat) (s : ByteArray) (w : World) (h : Blk w g 78 #[.string s]) (hs : s.size ≤ 9223372036854775807) :
    Calls Try.prog 44 #[.pointer (some ⟨g, 0, none⟩)] w fun e w' => e = .returned (uintV (short (nats s))) ∧ w.grownBy w' (some g) ∧ Blk w' g 78 #[.string (restU s (short (nats s)))] := by
  have hg := h.lt
  have hle : ∀ n k, short (nats s) = some (n, k) → k ≤ s.size := fun n k hk => by have := (short_le (nats_bytes s) hk).2.2; rw [nats_length] at this; exact this
  have hcl := uint1_any s w.heap.size (w.alloc (.cells #[.int .u64 0] 53)) (Blk.new w _ _) hs
  have hb0 := h.alloc (.cells #[.int .u64 0] 53)
  have hb1 := hb0.far (p := ⟨w.heap.size, 0, none⟩) (by simp; omega) (.int .u64 (shN (short (nats s)) : Nat))
  have hgr : Below w.heap.size w ((w.alloc (.cells #[.int .u64 0] 53)).setCell ⟨w.heap.size, 0, none⟩ (.int .u64 (shN (short (nats s)) : Nat))) := ((Below.refl _ _).alloc (Nat.le_refl _) _).setCell (Nat.le_refl _) _
  have hcell : ((w.alloc (.cells #[.int .u64 0] 53)).setCell ⟨w.heap.size, 0, none⟩ (.int .u64 (shN (short (nats s)) : Nat))).cell? ⟨w.heap.size, 0, none⟩ = some (.int .u64 (shN (short (nats s)) : Nat)) := by
    rw [((Blk.new w 53 #[.int .u64 0]).set_ 0 (.int .u64 (shN (short (nats s)) : Nat))).cell]; rfl
  generalize hW : (w.alloc (.cells #[.int .u64 0] 53)).setCell ⟨w.heap.size, 0, none⟩ (.int .u64 (shN (short (nats s)) : Nat)) = W at *
  have hcl2 := hcl.mono (R' := fun e w' => e = .returned (.int .i64 (shK (short (nats s)))) ∧ Blk w' g 78 #[.string s] ∧ w' = W) (fun e w' ⟨he, hw⟩ => ⟨he, by rw [hw]; exact hb1, hw⟩)
  have HCL := Lib.hid hcl2; clear hcl2 hcl hW
  have HB0 := Lib.hid hb0; clear hb0
  have HB1 := Lib.hid hb1; clear hb1
  have HGR := Lib.hid hgr; clear hgr
  have H := Lib.hid h; clear h
  have HC := Lib.hid hcell; clear hcell
  rcases hsh : short (nats s) with _ | ⟨n, k⟩
  · rw [hsh] at HCL HC
    have HSH := Lib.hid hsh; clear hsh
    go_enter Try.func44, Try.ntmps44
    go_wp2_with fail
    refine (withUint_bad g _ s _ (-1) (fun w' => w' = W) HB0.out (by omega) HCL.out).mono ?_
    rintro e w1 ⟨rfl, rfl⟩
    have c1 : w1.cell? ⟨w.heap.size, 0, none⟩ = some (.int .u64 0) := HC.out
    go_wp2_with fail
    go_ret2
    exact ⟨rfl, only_of_below HGR.out _, HB1.out⟩
  · have hk := hle n k hsh
    rw [hsh] at HCL HC
    have HSH := Lib.hid hsh; clear hsh
    clear hle
    go_enter Try.func44, Try.ntmps44
    go_wp2_with fail
    refine (withUint_ok g _ s _ k (fun w' => w' = W) HB0.out hk HCL.out).mono ?_
    rintro e w1 ⟨rfl, w2, rfl, hb2, rfl⟩
    have c1 : w2.cell? ⟨w.heap.size, 0, none⟩ = some (.int .u64 n) := HC.out
    have hne : w.heap.size ≠ g := by omega
    have HB2 := Lib.hid hb2; clear hb2
    go_wp2_with fail
    go_ret2
    exact ⟨rfl, only_setCell (only_of_below HGR.out _) (.inl rfl) _, HB2.out.set_ 0 _⟩
end Go.Proofs.Ytdoaajjmibkfeaa
