/-
  Strings and slices of bytes in a walk: a block that holds bytes, there and back.
-/
import Derived.Test.YtmnggemifcjflaaRows
import Derived.Test.YtmnggemifcjflaaMem
import Derived.Test.YtmnggemifcjflaaPlain
import Derived.PlainAid
import Derived.Laws.IdiomStrings
import Derived.Laws.MakeOwn
import Derived.OwnWalk
import Derived.KernelRfl
namespace Go.Proofs.Ytmnggemifcjflaa
open Go.RowKit PlainP

/-- a slice of integers that came in: nil; or it leads to a row of cells, each number fitting its kind -/
def IsRow (k : IntKind) (w : World) (a : Option Addr) (len cap : Nat) (zs : List Int) : Prop :=
  (a = none ∧ len = 0 ∧ cap = 0 ∧ zs = []) ∨
  ∃ x, a = some x ∧ len ≤ cap ∧ cap ≤ maxLen ∧ zs.length = cap ∧ (∀ i, i < zs.length → w.cell? (x.add i) = some (.int k (zs.getD i 0))) ∧ ∀ n ∈ zs, (Lit.int k n).wf = true

theorem cell_lt {w : World} {p : Addr} {v : Value} (h : w.cell? p = some v) : p.block < w.heap.size := by
  rcases Nat.lt_or_ge p.block w.heap.size with h1 | h1
  · exact h1
  · unfold World.cell? at h
    rw [Array.getElem?_eq_none h1] at h
    cases h
/-- element i of a row that came in, in a later world -/
theorem IsRow.at_ {k : IntKind} {w w' : World} {a : Option Addr} {len cap : Nat} {zs : List Int} (h : IsRow k w a len cap zs) (hb : Below w.heap.size w w') {i : Nat} (hi : i < len) :
    ∃ (b off : Nat) (c : Int), a = some ⟨b, off, none⟩ ∧ len ≤ cap ∧ w'.cell? ⟨b, off + i, none⟩ = some (.int k c) ∧ (Lit.int k c).wf = true := by
  rcases h with ⟨-, rfl, -, -⟩ | ⟨x, rfl, hl, hm, hz, hcell, hwz⟩
  · omega
  · have hc := hcell i (by omega)
    obtain ⟨b, off, spot⟩ := x
    have hspot : spot = none := by simpa [Addr.add] using World.cell?_spot (hcell 0 (by omega))
    subst hspot
    have e : (⟨b, off, none⟩ : Addr).add i = ⟨b, off + i, none⟩ := by unfold Addr.add; split <;> simp_all
    rw [e] at hc
    refine ⟨b, off, zs.getD i 0, rfl, hl, ?_, ?_⟩
    · rw [hb.cell (cell_lt hc)]; exact hc
    · apply hwz
      rw [List.getD_eq_getElem?_getD, List.getElem?_eq_getElem (by omega)]
      exact List.getElem_mem _

theorem bt_nats (s : ByteArray) (j x : Nat) (h : (nats s)[j]? = some x) : PlainAid.bt s j = (x : Int) := by
  have hj : j < s.size := by
    have := (List.getElem?_eq_some_iff.1 h).1
    rw [nats_length] at this; exact this
  unfold PlainAid.bt
  rw [dif_pos hj]
  unfold nats at h
  rw [List.getElem?_map, Array.getElem?_toList, Array.getElem?_eq_getElem (by exact hj)] at h
  simp only [Option.map_some, Option.some.injEq] at h
  rw [← h]; rfl

/-- block B holds a string's bytes -/
def HasBytes (w : World) (B : Nat) (s : ByteArray) : Prop := ∀ j x : Nat, (nats s)[j]? = some x → w.cell? ⟨B, j, none⟩ = some (.int .u8 (x : Int))
theorem HasBytes.new (w : World) (s : ByteArray) (cap : Nat) (e : TypeId) (m : Nat × Nat) : HasBytes (w.alloc (.cells (bytesRow s cap) e m)) w.heap.size s := by
  intro j x hx
  have hc := cell_of_row (w.alloc (.cells (bytesRow s cap) e m)) w.heap.size j (bytesRow s cap) e m (heap_alloc_new w _)
  rw [hc, bytesRow]
  have hj : j < s.data.size := by
    rcases Nat.lt_or_ge j s.data.size with h | h
    · exact h
    · rw [List.getElem?_eq_none (by rw [nats_length]; exact h)] at hx; cases hx
  rw [Array.getElem?_append_left (by rw [Array.size_map]; exact hj), Array.getElem?_map]
  rw [nats, List.getElem?_map, Array.getElem?_toList] at hx
  rw [Array.getElem?_eq_getElem hj] at hx ⊢
  simp only [Option.map_some, Option.some.injEq] at hx ⊢
  rw [← hx]
theorem HasBytes.grown {w w' : World} {B : Nat} {s : ByteArray} {row : Option Nat} (h : HasBytes w B s) (k : w.grownBy w' row) (hB : B < w.heap.size) (hr : some B ≠ row) : HasBytes w' B s :=
  fun j x hx => (World.cell?_of_block (k.block B hB hr)).trans (h j x hx)


/-- block B holds these bytes from its head on -/
def HoldsB (w : World) (B : Nat) (l : List Nat) : Prop := ∀ j x : Nat, l[j]? = some x → w.cell? ⟨B, j, none⟩ = some (.int .u8 (x : Int))
theorem HoldsB.grown {w w' : World} {B : Nat} {l : List Nat} {row : Option Nat} (h : HoldsB w B l) (k : w.grownBy w' row) (hB : B < w.heap.size) (hr : some B ≠ row) : HoldsB w' B l :=
  fun j x hx => (World.cell?_of_block (k.block B hB hr)).trans (h j x hx)

/-- string(b), where b's block holds the bytes l -/
theorem back_bytes {w : World} {B cap : Nat} {l : List Nat} (h : HoldsB w B l) (hb : Bytes l) :
    (convert 31 9 (.slice (some ⟨B, 0, none⟩) l.length cap)).run Try.prog w = .ok (.string (mkS l)) w := by
  have h1 := run_convert_bytes_back (P := Try.prog) w 31 9 5 ⟨B, 0, none⟩ cap (l.map UInt8.ofNat) Try.underlying31 Try.underlying5 Try.underlying9 (fun j hj => by
    rw [List.length_map] at hj
    have h2 := h j l[j] (List.getElem?_eq_getElem hj)
    have h3 := hb l[j] (List.getElem_mem hj)
    rw [List.getElem_map, UInt8.toNat_ofNat']
    rw [show l[j] % 2 ^ 8 = l[j] by omega]
    rw [show (⟨B, 0, none⟩ : Addr).add j = ⟨B, j, none⟩ by unfold Addr.add; split <;> simp_all]
    exact h2)
  rw [List.length_map] at h1
  exact h1

theorem byte_info : (Try.prog.info? 5).map (fun i => (i.zero, i.size, i.bytes)) = some (some (.int .u8 0), 1, 1) := by kernel_rfl
theorem made_holds (W : World) (n : Nat) (e : TypeId) : HoldsB (W.alloc (.cells (madeCells #[Value.int .u8 0] n) e)) W.heap.size (List.replicate n 0) := by
  intro j x hx
  rw [List.getElem?_replicate] at hx
  split at hx
  · rename_i hj
    injection hx with hx
    subst hx
    rw [cell_of_row _ W.heap.size j _ e (0, 0) (heap_alloc_new W _)]
    unfold madeCells
    simp [hj]
    rw [Nat.mod_one]; rfl
  · cases hx
/-- make([]byte, n) -/
theorem make_bytes (W : World) (n : Nat) (h : n ≤ 281474976710656) :
    (Instr.makeSlice 31 (.int .i64 n) (.int .i64 n)).run Try.prog W = .ok (.slice (some ⟨W.heap.size, 0, none⟩) n n) (W.alloc (.cells (madeCells #[Value.int .u8 0] n) 5)) := by
  obtain ⟨i, hi, hz, hs, hb⟩ := info_parts byte_info
  have h1 := run_make (P := Try.prog) W 31 5 i (.int .u8 0) Try.underlying31 hi hz .i64 .i64 n n (by omega) (Int.le_refl _) (by rw [hb]; omega) (by omega)
  rw [hs, Nat.mul_one, Int.toNat_natCast] at h1
  exact h1
/-- string(make([]byte, n)) -/
theorem zeros_back (W : World) (n : Nat) (e : TypeId) : (convert 31 9 (.slice (some ⟨W.heap.size, 0, none⟩) n n)).run Try.prog (W.alloc (.cells (madeCells #[Value.int .u8 0] n) e)) = .ok (.string (mkS (List.replicate n 0))) (W.alloc (.cells (madeCells #[Value.int .u8 0] n) e)) := by
  have h := back_bytes (cap := n) (made_holds W n e) (Bytes.replicate n (by omega))
  rw [List.length_replicate] at h
  exact h

theorem xor_byte (a b : Nat) (ha : a < 256) (hb : b < 256) : bits BinOp.xor IntKind.u8 (a : Int) (b : Int) = ((a ^^^ b : Nat) : Int) := by
  have h1 : (BitVec.ofInt 8 (a : Int)).toNat = a := by rw [BitVec.ofInt_natCast, BitVec.toNat_ofNat]; omega
  have h2 : (BitVec.ofInt 8 (b : Int)).toNat = b := by rw [BitVec.ofInt_natCast, BitVec.toNat_ofNat]; omega
  have h3 : a ^^^ b < 2 ^ 8 := Nat.xor_lt_two_pow (by omega) (by omega)
  show IntKind.u8.wrap ((BitVec.ofInt 8 (a : Int) ^^^ BitVec.ofInt 8 (b : Int)).toNat : Int) = _
  rw [BitVec.toNat_xor, h1, h2, IntKind.wrap_u8]
  omega
theorem xor_ne (a b : Nat) (hb : b ≠ 0) : a ≠ a ^^^ b := by
  intro h
  have : a ^^^ (a ^^^ b) = 0 := by rw [← h, Nat.xor_self]
  rw [← Nat.xor_assoc, Nat.xor_self, Nat.zero_xor] at this
  exact hb this
/-- []byte(s): the block that it lays -/
theorem laid_bytes (W : World) (s : ByteArray) (cap : Nat) (e : TypeId) (q : Nat) (hq : q < s.size) :
    (W.alloc (.cells (bytesRow s cap) e ((bytesRow s cap).size, (bytesRow s cap).size + 1))).frozen? ⟨W.heap.size, q, none⟩ = false := by
  have hs : s.size ≤ (bytesRow s cap).size := by
    unfold bytesRow
    rw [Array.size_append, Array.size_map]
    exact Nat.le_add_right _ _
  simp only [World.frozen?, heap_alloc_new]
  simp
  omega
theorem laid_holds (W : World) (s : ByteArray) (cap : Nat) (e : TypeId) (m : Nat × Nat) : HoldsB (W.alloc (.cells (bytesRow s cap) e m)) W.heap.size (nats s) := HasBytes.new W s cap e m
theorem HoldsB.set_ {w : World} {B : Nat} {l : List Nat} (h : HoldsB w B l) (q : Nat) (y : Nat) : HoldsB (w.setCell ⟨B, q, none⟩ (.int .u8 (y : Int))) B (l.set q y) := by
  intro j x hx
  rw [List.getElem?_set] at hx
  by_cases hj : q = j
  · subst hj
    rw [if_pos rfl] at hx
    split at hx
    · rename_i hlt
      injection hx with hx
      subst hx
      exact World.cell?_setCell_same w _ _ (h q l[q] (List.getElem?_eq_getElem hlt))
    · cases hx
  · rw [if_neg hj] at hx
    rw [World.cell?_setCell_other _ _ _ _ (by intro e; injection e with _ e _; exact hj e)]
    exact h j x hx
/-- string(b), b a string's bytes, one of them written over -/
theorem back_set (W : World) (t : ByteArray) (q y cap : Nat) (m : Nat × Nat) (hy : y < 256) :
    (convert 31 9 (.slice (some ⟨W.heap.size, 0, none⟩) t.size cap)).run Try.prog (((W.alloc (.cells (bytesRow t cap) 5 m)).setCell ⟨W.heap.size, q, none⟩ (.int .u8 (y : Int))).drew) =
      .ok (.string (mkS ((nats t).set q y))) (((W.alloc (.cells (bytesRow t cap) 5 m)).setCell ⟨W.heap.size, q, none⟩ (.int .u8 (y : Int))).drew) := by
  have h := back_bytes (w := (((W.alloc (.cells (bytesRow t cap) 5 m)).setCell ⟨W.heap.size, q, none⟩ (.int .u8 (y : Int))).drew)) (cap := cap) ((laid_holds W t cap 5 m).set_ q y) ((nats_bytes t).set q hy)
  rw [List.length_set, nats_length] at h
  exact h
theorem xor_lt (a b : Nat) (ha : a < 256) (hb : b < 256) : a ^^^ b < 256 := Nat.xor_lt_two_pow (n := 8) (by omega) (by omega)

/-- string([]byte{x}) -/
theorem one_back (W : World) (x : Nat) (hx : x < 256) : (convert 31 9 (.slice (some ⟨W.heap.size, 0, none⟩) 1 1)).run Try.prog (W.alloc (.cells #[.int .u8 (x : Int)] 5)) = .ok (.string (mkS [x])) (W.alloc (.cells #[.int .u8 (x : Int)] 5)) := by
  refine back_bytes (cap := 1) (l := [x]) (fun j y hy => ?_) (Bytes.one hx)
  rw [cell_of_row _ W.heap.size j #[.int .u8 (x : Int)] 5 (0, 0) (heap_alloc_new W _)]
  cases j with
  | zero => injection hy with hy; subst hy; rfl
  | succ j => simp at hy
theorem one_back_drew (W : World) (x : Nat) (hx : x < 256) : (convert 31 9 (.slice (some ⟨W.heap.size, 0, none⟩) 1 1)).run Try.prog (W.alloc (.cells #[.int .u8 (x : Int)] 5)).drew = .ok (.string (mkS [x])) (W.alloc (.cells #[.int .u8 (x : Int)] 5)).drew :=
  one_back W.drew x hx
theorem nats_one (x : Nat) (hx : x < 256) : nats (mkS [x]) = [x] := nats_mkS (Bytes.one hx)

/-- the cells of some bytes -/
def bcs (c : List Nat) : Array Value := (c.map (fun n : Nat => Value.int .u8 (n : Int))).toArray
theorem bcs_get (c : List Nat) (j : Nat) : (bcs c)[j]? = (c[j]?).map (fun n : Nat => Value.int .u8 (n : Int)) := by
  unfold bcs; rw [List.getElem?_toArray, List.getElem?_map]
theorem bcs_set (c : List Nat) (j x : Nat) : (bcs c).setIfInBounds j (.int .u8 (x : Int)) = bcs (c.set j x) := by
  unfold bcs; rw [List.setIfInBounds_toArray, List.map_set]
theorem bcs_holds {w : World} {g : Nat} {e : TypeId} {c : List Nat} (h : Blk w g e (bcs c)) : HoldsB w g c := by
  intro j x hx
  rw [h.cell, bcs_get, hx]; rfl
theorem HoldsB.take {w : World} {g : Nat} {c : List Nat} (h : HoldsB w g c) (n : Nat) : HoldsB w g (c.take n) := by
  intro j x hx
  rw [List.getElem?_take] at hx
  split at hx
  · exact h j x hx
  · cases hx
theorem pad_set (l : List Nat) (k n x : Nat) (hl : l.length = k) (hk : k < n) : (l ++ List.replicate (n - k) 0).set k x = (l ++ [x]) ++ List.replicate (n - (k + 1)) 0 := by
  rw [List.set_append_right _ _ (by omega), hl, Nat.sub_self, show n - k = (n - (k + 1)) + 1 by omega, List.replicate_succ, List.set_cons_zero, List.append_assoc]; rfl
theorem pad_get (l : List Nat) (k n : Nat) (hl : l.length = k) (hk : k < n) : (l ++ List.replicate (n - k) 0)[k]? = some 0 := by
  rw [List.getElem?_append_right (by omega), hl, Nat.sub_self, List.getElem?_replicate, if_pos (by omega)]

/-- string(b), b a cut of a block that holds bytes -/
theorem back_bytes_at {w : World} {B off cap : Nat} {l : List Nat} (h : ∀ j x : Nat, l[j]? = some x → w.cell? ⟨B, off + j, none⟩ = some (.int .u8 (x : Int))) (hb : Bytes l) :
    (convert 31 9 (.slice (some ⟨B, off, none⟩) l.length cap)).run Try.prog w = .ok (.string (mkS l)) w := by
  have h1 := run_convert_bytes_back (P := Try.prog) w 31 9 5 ⟨B, off, none⟩ cap (l.map UInt8.ofNat) Try.underlying31 Try.underlying5 Try.underlying9 (fun j hj => by
    rw [List.length_map] at hj
    have h2 := h j l[j] (List.getElem?_eq_getElem hj)
    have h3 := hb l[j] (List.getElem_mem hj)
    rw [List.getElem_map, UInt8.toNat_ofNat']
    rw [show l[j] % 2 ^ 8 = l[j] by omega]
    rw [show (⟨B, off, none⟩ : Addr).add j = ⟨B, off + j, none⟩ by unfold Addr.add; split <;> simp_all]
    exact h2)
  rw [List.length_map] at h1
  exact h1
theorem HoldsB.drop {w : World} {g : Nat} {c : List Nat} (h : HoldsB w g c) (n : Nat) : ∀ j x : Nat, (c.drop n)[j]? = some x → w.cell? ⟨g, n + j, none⟩ = some (.int .u8 (x : Int)) := by
  intro j x hx
  rw [List.getElem?_drop] at hx
  exact h _ x hx
end Go.Proofs.Ytmnggemifcjflaa
