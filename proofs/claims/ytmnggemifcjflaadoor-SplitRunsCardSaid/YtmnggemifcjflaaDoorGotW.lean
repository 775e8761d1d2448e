/-
  Pieces that the law gathers: words for its memory; 'pieces' of the law.
-/
import Derived.Test.YtmnggemifcjflaaDoorSplW6
import Derived.Test.YtmnggemifcjflaaDoorCutsP
import Derived.Laws.AppendOwnNone
namespace Go.Proofs.YtmnggemifcjflaaDoor
open Go.RowKit PlainP RollP OnesP SplitP

theorem pcCells_get (ps : List (List Nat × Nat)) : ∀ (i : Nat) (c : List Nat × Nat), ps[i]? = some c → (pcCells ps)[i * 2]? = some (.string (mkS c.1)) ∧ (pcCells ps)[i * 2 + 1]? = some (.int .i64 (c.2 : Int)) := by
  induction ps with
  | nil => intro i c h; simp at h
  | cons x t ih =>
    intro i c h
    have e : pcCells (x :: t) = .string (mkS x.1) :: .int .i64 (x.2 : Int) :: pcCells t := rfl
    rw [e]
    cases i with
    | zero => simp at h; subst h; exact ⟨rfl, rfl⟩
    | succ i =>
      rw [List.getElem?_cons_succ] at h
      obtain ⟨h1, h2⟩ := ih i c h
      rw [show (i + 1) * 2 = i * 2 + 1 + 1 by omega]
      exact ⟨by rw [List.getElem?_cons_succ, List.getElem?_cons_succ]; exact h1, by rw [List.getElem?_cons_succ, List.getElem?_cons_succ]; exact h2⟩
theorem pcCells_len (ps : List (List Nat × Nat)) : (pcCells ps).length = ps.length * 2 := by
  induction ps with
  | nil => rfl
  | cons x t ih =>
    have e : pcCells (x :: t) = .string (mkS x.1) :: .int .i64 (x.2 : Int) :: pcCells t := rfl
    rw [e, List.length_cons, List.length_cons, ih, List.length_cons]; omega
theorem pcCells_one (ps : List (List Nat × Nat)) : ∀ u ∈ pcCells ps, u.oneCell' = true := by
  intro u hu
  unfold pcCells at hu
  obtain ⟨c, -, hc⟩ := List.mem_flatMap.1 hu
  simp at hc
  rcases hc with rfl | rfl <;> rfl
/-- what a row of pieces looks like -/
theorem piece_open {w : World} {v : Value} {ps : List (List Nat × Nat)} (h : PieceRow w v ps) : (v = .slice none 0 0 ∧ ps = []) ∨ ∃ g cap n, v = .slice (some ⟨g, 0, none⟩) n cap ∧ ps.length = n ∧ n ≤ cap ∧ g < w.heap.size ∧ (∀ j u, (pcCells ps)[j]? = some u → w.cell? ((⟨g, 0, none⟩ : Addr).add j) = some u) ∧ ∀ i c, ps[i]? = some c → w.cell? ⟨g, i * 2, none⟩ = some (.string (mkS c.1)) ∧ w.cell? ⟨g, i * 2 + 1, none⟩ = some (.int .i64 (c.2 : Int)) := by
  have h' := h
  rcases h.2 with ⟨rfl, hn⟩ | ⟨g, cap, cur, rfl, -, hg, hc, -⟩
  · exact .inl ⟨rfl, List.eq_nil_of_length_eq_zero hn⟩
  · have hcell := World.ownsRow.cells h' (g := g) rfl
    refine .inr ⟨g, cap, _, rfl, rfl, hc, (World.ownsRow.lt h' g rfl).2, hcell, fun i c hi => ?_⟩
    obtain ⟨h1, h2⟩ := pcCells_get ps i c hi
    have a1 := hcell _ _ h1
    have a2 := hcell _ _ h2
    rw [show (⟨g, 0, none⟩ : Addr).add (i * 2) = ⟨g, i * 2, none⟩ by unfold Addr.add; split <;> simp_all] at a1
    rw [show (⟨g, 0, none⟩ : Addr).add (i * 2 + 1) = ⟨g, i * 2 + 1, none⟩ by unfold Addr.add; split <;> simp_all] at a2
    exact ⟨a1, a2⟩
theorem piece_open2 {w : World} {v : Value} {ps : List (List Nat × Nat)} (h : PieceRow w v ps) : ∃ a cap n, v = .slice a n cap ∧ ps.length = n ∧ n ≤ cap ∧ ∀ i c, ps[i]? = some c → ∃ g, a = some ⟨g, 0, none⟩ ∧ g < w.heap.size ∧ w.cell? ⟨g, i * 2, none⟩ = some (.string (mkS c.1)) ∧ w.cell? ⟨g, i * 2 + 1, none⟩ = some (.int .i64 (c.2 : Int)) := by
  rcases piece_open h with ⟨rfl, rfl⟩ | ⟨g, cap, n, rfl, hn, hc, hg, -, hi⟩
  · exact ⟨none, 0, 0, rfl, rfl, Nat.le_refl _, fun i c h => by simp at h⟩
  · exact ⟨_, cap, n, rfl, hn, hc, fun i c h => ⟨g, rfl, hg, hi i c h⟩⟩
/-- pieces of the caller's own: newer than B, none of the splitter's blocks -/
structure Got (B : Nat) (O : Nat → Prop) (w : World) (v : Value) (ps : List (List Nat × Nat)) : Prop where
  row : PieceRow w v ps
  own : ∀ k, v.ownBlock = some k → B ≤ k ∧ ¬ O k
theorem got_nil (B : Nat) (O : Nat → Prop) (w : World) : Got B O w (.slice none 0 0) [] := ⟨World.ownsRow_nil _ _ _ _, fun k hk => by cases hk⟩
theorem Got.kept {B : Nat} {O : Nat → Prop} {w w' : World} {v : Value} {ps : List (List Nat × Nat)} (h : Got B O w v ps) (k : Kept (OT O w) w w') : Got B (OF O w w') w' v ps := by
  have hb : ∀ q, v.ownBlock = some q → ¬ OT O w q := fun q hq e => by
    rcases e with e | e
    · exact (h.own q hq).2 e
    · exact Nat.lt_irrefl _ (Nat.lt_of_lt_of_le (World.ownsRow.lt h.row q hq).2 e)
  refine ⟨⟨h.row.1, ?_⟩, fun q hq => ⟨(h.own q hq).1, fun e => hb q hq e.1⟩⟩
  rcases h.row.2 with e | ⟨g, cap, cur, e1, e2, e3, e4⟩
  · exact .inl e
  · exact .inr ⟨g, cap, cur, e1, e2, (k.block g (hb g (by rw [e1]; rfl))).trans e3, e4⟩
theorem below_kept {B : Nat} {O : Nat → Prop} {a w w' : World} (h : Below B a w) (hB : B ≤ w.heap.size) (k : Kept (OT O w) w w') (hO : ∀ b, O b → B ≤ b) : Below B a w' :=
  h.trans ⟨k.os, k.tape, k.output, k.size, fun b hb => k.block b (fun e => by
    rcases e with e | e
    · have := hO b e; omega
    · omega)⟩
/-- .. behind an append -/
theorem Got.appended {B : Nat} {O : Nat → Prop} {w w' : World} {v v' : Value} {ps qs : List (List Nat × Nat)} (h : Got B O w v ps) (hO : ∀ b, O b → b < w.heap.size) (hB : B ≤ w.heap.size) (ho : w'.ownsRow 0 68 2 v' (ps.length + qs.length) (pcCells ps ++ pcCells qs)) (hat : v'.ownBlock = v.ownBlock ∨ v'.ownBlock = some w.heap.size) : Got B O w' v' (ps ++ qs) := by
  refine ⟨by unfold PieceRow; rw [pcCells_append, List.length_append]; exact ho, fun k hk => ?_⟩
  rcases hat with e | e
  · rw [e] at hk; exact h.own k hk
  · rw [e] at hk; injection hk with hk; subst hk
    exact ⟨hB, fun e => Nat.lt_irrefl _ (hO _ e)⟩
theorem below_append {B : Nat} {O : Nat → Prop} {a w w' : World} {v : Value} {ps : List (List Nat × Nat)} (h : Got B O w v ps) (hb : Below B a w) (hB : B ≤ w.heap.size) (k : w.grownBy w' v.ownBlock) : Below B a w' :=
  hb.grown k hB (fun q hq => (h.own q hq).1)
theorem SplAt.append {O : Nat → Prop} {W W' : World} {gx : Nat} {p : Plan} {seg : List Nat} {all : Nat} {cl : Bool} {B : Nat} {v : Value} {ps : List (List Nat × Nat)} (h : SplAt O W gx p seg all cl) (hg : Got B O W v ps) (k : W.grownBy W' v.ownBlock) : SplAt O W' gx p seg all cl :=
  h.grown k (fun q hq => (hg.own q hq).2)
theorem SplAt.block {O : Nat → Prop} {W : World} {gx : Nat} {p : Plan} {seg : List Nat} {all : Nat} {cl : Bool} (h : SplAt O W gx p seg all cl) : gx < W.heap.size := h.lt gx h.ox
theorem plan_nat {b f m : Int} (h : planE b f m = 0) : ∃ x y z : Nat, b = x ∧ f = y ∧ m = z := by
  unfold planE at h
  split at h
  · exact ⟨b.toNat, f.toNat, m.toNat, by omega, by omega, by omega⟩
  · cases h
end Go.Proofs.YtmnggemifcjflaaDoor
