/-
  Tiers, the walk: words for its memory.
-/
import Derived.Test.YtmnggemifcjflaaTiersP
import Derived.Test.YtmnggemifcjflaaBytes
import Derived.Deep.DeepAppendRoom
import Derived.Deep.DeepCutAuto
import Derived.Deep.CutRange
import Derived.Deep.CutBlock
import Derived.Handy
namespace Go.Proofs.Ytmnggemifcjflaa
open Go.RowKit PlainP TiersP

namespace Tier
theorem item_info : (Try.prog.info? 59).map (fun i => (i.zero, i.size, i.bytes)) = some (some (.agg #[.int .i64 0, .int .i64 0]), 2, 16) := by kernel_rfl
theorem int_info : (Try.prog.info? 3).map (fun i => (i.zero, i.size, i.bytes)) = some (some (.int .i64 0), 1, 8) := by kernel_rfl
theorem node_info : (Try.prog.info? 50).map (fun i => (i.zero, i.size, i.bytes)) = some (some (.agg #[.slice none 0 0]), 1, 24) := by kernel_rfl

def itCells (l : List (Nat × Nat)) : List Value := l.flatMap fun c => [Value.int .i64 (c.1 : Int), Value.int .i64 (c.2 : Int)]
theorem itCells_append (a b : List (Nat × Nat)) : itCells (a ++ b) = itCells a ++ itCells b := List.flatMap_append
theorem itCells_get (cs : List (Nat × Nat)) : ∀ (i : Nat) (c : Nat × Nat), cs[i]? = some c → (itCells cs)[i * 2]? = some (.int .i64 (c.1 : Int)) ∧ (itCells cs)[i * 2 + 1]? = some (.int .i64 (c.2 : Int)) := by
  induction cs with
  | nil => intro i c h; simp at h
  | cons x t ih =>
    intro i c h
    have e : itCells (x :: t) = .int .i64 (x.1 : Int) :: .int .i64 (x.2 : Int) :: itCells t := rfl
    rw [e]
    cases i with
    | zero => simp at h; subst h; exact ⟨rfl, rfl⟩
    | succ i =>
      rw [List.getElem?_cons_succ] at h
      obtain ⟨h1, h2⟩ := ih i c h
      rw [show (i + 1) * 2 = i * 2 + 1 + 1 by omega]
      exact ⟨by rw [List.getElem?_cons_succ, List.getElem?_cons_succ]; exact h1, by rw [List.getElem?_cons_succ, List.getElem?_cons_succ]; exact h2⟩
/-- a row of items in block g -/
def Items (B : Nat) (W : World) (g cap : Nat) (l : List (Nat × Nat)) : Prop := W.ownsRow B 59 2 (.slice (some ⟨g, 0, none⟩) l.length cap) l.length (itCells l)
/-- a row of numbers in block g -/
def Ints (B : Nat) (W : World) (g cap : Nat) (l : List Nat) : Prop := W.ownsRow B 3 1 (.slice (some ⟨g, 0, none⟩) l.length cap) l.length (l.map (fun n : Nat => Value.int .i64 (n : Int)))
def nodeVals (gs : List (Nat × Nat)) (kss : List (List Nat)) : List Value := List.zipWith (fun (g : Nat × Nat) (ks : List Nat) => Value.slice (some ⟨g.1, 0, none⟩) ks.length g.2) gs kss
theorem nodeVals_append (gs : List (Nat × Nat)) (kss : List (List Nat)) (h : gs.length = kss.length) (g : Nat × Nat) (ks : List Nat) : nodeVals (gs ++ [g]) (kss ++ [ks]) = nodeVals gs kss ++ [Value.slice (some ⟨g.1, 0, none⟩) ks.length g.2] := by
  unfold nodeVals
  rw [List.zipWith_append h]
  rfl
/-- the groups: a row of slices, each leading to a row of its own, the later the newer -/
def Nodes (B : Nat) (W : World) (v : Value) (kss : List (List Nat)) : Prop :=
  ∃ gs : List (Nat × Nat), gs.length = kss.length ∧ W.ownsRow B 50 1 v kss.length (nodeVals gs kss) ∧
    (∀ (i : Nat) (g : Nat × Nat) (ks : List Nat), gs[i]? = some g → kss[i]? = some ks → Ints B W g.1 g.2 ks) ∧ ∀ (i j : Nat) (a b : Nat × Nat), gs[i]? = some a → gs[j]? = some b → i < j → a.1 < b.1

theorem Items.cells {B : Nat} {W : World} {g cap : Nat} {l : List (Nat × Nat)} (h : Items B W g cap l) (i : Nat) (c : Nat × Nat) (hi : l[i]? = some c) : W.cell? ⟨g, i * 2, none⟩ = some (.int .i64 (c.1 : Int)) ∧ W.cell? ⟨g, i * 2 + 1, none⟩ = some (.int .i64 (c.2 : Int)) := by
  obtain ⟨h1, h2⟩ := itCells_get l i c hi
  have a1 := World.ownsRow.cells h (g := g) rfl _ _ h1
  have a2 := World.ownsRow.cells h (g := g) rfl _ _ h2
  rw [show (⟨g, 0, none⟩ : Addr).add (i * 2) = ⟨g, i * 2, none⟩ by unfold Addr.add; split <;> simp_all] at a1
  rw [show (⟨g, 0, none⟩ : Addr).add (i * 2 + 1) = ⟨g, i * 2 + 1, none⟩ by unfold Addr.add; split <;> simp_all] at a2
  exact ⟨a1, a2⟩
theorem Items.lt {B : Nat} {W : World} {g cap : Nat} {l : List (Nat × Nat)} (h : Items B W g cap l) : B ≤ g ∧ g < W.heap.size := World.ownsRow.lt h g rfl
theorem Items.cap {B : Nat} {W : World} {g cap : Nat} {l : List (Nat × Nat)} (h : Items B W g cap l) : l.length ≤ cap := by
  rcases h.2 with ⟨h0, -⟩ | ⟨g', cap', cur, hv, -, -, hc, -⟩
  · cases h0
  · cases hv; exact hc
theorem own_keep {w w' : World} {B : Nat} {e : TypeId} {size : Nat} {v : Value} {n : Nat} {xs : List Value} (h : w.ownsRow B e size v n xs) {row : Option Nat} (hg : w.grownBy w' row) (hne : ∀ k, v.ownBlock = some k → row ≠ some k) : w'.ownsRow B e size v n xs := by
  refine World.ownsRow.kept h hg ?_
  cases hv : v.ownBlock with
  | none => exact .inl rfl
  | some k => exact .inr (fun e => hne k hv e.symm)
/-- rows of unlike types are unlike blocks -/
theorem own_unlike {w : World} {B B' : Nat} {e e' : TypeId} {s s' : Nat} {v v' : Value} {n n' : Nat} {xs xs' : List Value} (h : w.ownsRow B e s v n xs) (h' : w.ownsRow B' e' s' v' n' xs') (he : e ≠ e') : ∀ k, v.ownBlock = some k → v'.ownBlock ≠ some k := by
  intro k hk hk'
  rcases h.2 with ⟨rfl, -⟩ | ⟨g, cap, cur, rfl, -, hg, -⟩
  · simp [Value.ownBlock] at hk
  · rcases h'.2 with ⟨rfl, -⟩ | ⟨g', cap', cur', rfl, -, hg', -⟩
    · simp [Value.ownBlock] at hk'
    · simp [Value.ownBlock] at hk hk'
      subst hk
      subst hk'
      rw [hg] at hg'
      injection hg' with hg'
      injection hg' with _ h2 _
      exact he h2
theorem Items.grown {B : Nat} {W W' : World} {g cap : Nat} {l : List (Nat × Nat)} (h : Items B W g cap l) {row : Option Nat} (k : W.grownBy W' row) (hr : row ≠ some g) : Items B W' g cap l :=
  own_keep h k (fun q hq e => hr (by simp [Value.ownBlock] at hq; rw [hq]; exact e))
theorem Ints.grown {B : Nat} {W W' : World} {g cap : Nat} {l : List Nat} (h : Ints B W g cap l) {row : Option Nat} (k : W.grownBy W' row) (hr : row ≠ some g) : Ints B W' g cap l :=
  own_keep h k (fun q hq e => hr (by simp [Value.ownBlock] at hq; rw [hq]; exact e))
theorem Nodes.grown {B : Nat} {W W' : World} {v : Value} {kss : List (List Nat)} (h : Nodes B W v kss) {row : Option Nat} (k : W.grownBy W' row) (hr : ∀ q, v.ownBlock = some q → row ≠ some q) (hi : ∀ g cap ks, Ints B W g cap ks → row ≠ some g) : Nodes B W' v kss := by
  obtain ⟨gs, h1, h2, h3, h4⟩ := h
  exact ⟨gs, h1, own_keep h2 k hr, fun i g ks hg hk => (h3 i g ks hg hk).grown k (hi _ _ _ (h3 i g ks hg hk)), h4⟩
theorem Nodes.alloc {B : Nat} {W : World} {v : Value} {kss : List (List Nat)} (h : Nodes B W v kss) (o : Obj) : Nodes B (W.alloc o) v kss :=
  h.grown (World.grownBy_alloc W o none) (fun _ _ e => by cases e) (fun _ _ _ _ e => by cases e)
theorem Items.alloc {B : Nat} {W : World} {g cap : Nat} {l : List (Nat × Nat)} (h : Items B W g cap l) (o : Obj) : Items B (W.alloc o) g cap l := h.grown (World.grownBy_alloc W o none) (by simp)
theorem Ints.alloc {B : Nat} {W : World} {g cap : Nat} {l : List Nat} (h : Ints B W g cap l) (o : Obj) : Ints B (W.alloc o) g cap l := h.grown (World.grownBy_alloc W o none) (by simp)
theorem nodes_start (B : Nat) (W : World) : Nodes B W (.slice none 0 0) [] :=
  ⟨[], rfl, World.ownsRow_nil _ _ _ _, fun i g ks h _ => by simp at h, fun i j a b h _ _ => by simp at h⟩
theorem own_val {w : World} {B : Nat} {e : TypeId} {size : Nat} {v : Value} {k n : Nat} {xs : List Value} (h : w.ownsRow B e size v k xs) (hn : k = n) : ∃ a cap, v = .slice a n cap := by
  subst hn
  rcases h.2 with ⟨rfl, rfl⟩ | ⟨g, cap, cur, rfl, -⟩
  · exact ⟨_, _, rfl⟩
  · exact ⟨_, _, rfl⟩
/-- make([]item, 0, c) -/
theorem make_items (W : World) (c : Nat) (h : c ≤ 1048576) :
    (Instr.makeSlice 57 (.int .i64 0) (.int .i64 c)).run Try.prog W = .ok (.slice (some ⟨W.heap.size, 0, none⟩) 0 c) (W.alloc (.cells (madeCells #[Value.int .i64 0, Value.int .i64 0] (c * 2)) 59)) := by
  obtain ⟨i, hi, hz, hs, hb⟩ := info_parts item_info
  have h1 := run_make (P := Try.prog) W 57 59 i (.agg #[.int .i64 0, .int .i64 0]) Try.underlying57 hi hz .i64 .i64 0 c (by omega) (by omega) (by rw [hb]; omega) (by omega)
  rw [hs, Int.toNat_natCast] at h1
  exact h1
theorem items_new (B : Nat) (W : World) (c : Nat) (hb : B ≤ W.heap.size) (hc : c ≤ 1048576) : Items B (W.alloc (.cells (madeCells #[Value.int .i64 0, Value.int .i64 0] (c * 2)) 59)) W.heap.size c [] :=
  World.ownsRow_made W _ c hb (by unfold maxLen; omega) (size_madeCells _ _)
/-- make([]int, 0, c) -/
theorem make_ints (W : World) (c : Nat) (h : c ≤ 1048576) :
    (Instr.makeSlice 40 (.int .i64 0) (.int .i64 c)).run Try.prog W = .ok (.slice (some ⟨W.heap.size, 0, none⟩) 0 c) (W.alloc (.cells (madeCells #[Value.int .i64 0] c) 3)) := by
  obtain ⟨i, hi, hz, hs, hb⟩ := info_parts int_info
  have h1 := run_make (P := Try.prog) W 40 3 i (.int .i64 0) Try.underlying40 hi hz .i64 .i64 0 c (by omega) (by omega) (by rw [hb]; omega) (by omega)
  rw [hs, Nat.mul_one, Int.toNat_natCast] at h1
  exact h1
theorem ints_new (B : Nat) (W : World) (c : Nat) (hb : B ≤ W.heap.size) (hc : c ≤ 1048576) : Ints B (W.alloc (.cells (madeCells #[Value.int .i64 0] c) 3)) W.heap.size c [] :=
  World.ownsRow_made W _ c hb (by unfold maxLen; omega) (by rw [size_madeCells, Nat.mul_one])
theorem news (w : World) (cs : Array Value) (e : TypeId) (g : Nat) (hg : w.heap.size = g) : ∀ j u, cs.toList[j]? = some u → (w.alloc (.cells cs e)).cell? ((⟨g, 0, none⟩ : Addr).add j) = some u := by
  subst hg
  intro j u h
  rw [show (⟨w.heap.size, 0, none⟩ : Addr).add j = ⟨w.heap.size, j, none⟩ by unfold Addr.add; split <;> simp_all, cell_of_row _ w.heap.size j cs e (0, 0) (heap_alloc_new w _)]
  rw [Array.getElem?_toList] at h; exact h
end Tier
end Go.Proofs.Ytmnggemifcjflaa
