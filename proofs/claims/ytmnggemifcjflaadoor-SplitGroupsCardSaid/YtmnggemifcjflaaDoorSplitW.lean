/-
  Cuts, the walk: words for the cutter's memory; the closure of Cut; take.
-/
import Derived.Test.YtmnggemifcjflaaDoorSplitP
import Derived.Test.YtmnggemifcjflaaDoorOnesW
import Derived.Laws.AppendOwn
import Derived.Deep.RegionLaw
import Derived.StillTailTactics
import Derived.Handy
namespace Go.Proofs.YtmnggemifcjflaaDoor
open Go.RowKit PlainP RollP OnesP SplitP

/-- the cells of some chunks -/
def chCells (cs : List (Nat × Nat)) : List Value := cs.flatMap fun c => [Value.int .i64 (c.1 : Int), Value.int .i64 (c.2 : Int)]
theorem chCells_append (a b : List (Nat × Nat)) : chCells (a ++ b) = chCells a ++ chCells b := List.flatMap_append
/-- a row of chunks of the call's own -/
def Chunks (B : Nat) (w : World) (v : Value) (cs : List (Nat × Nat)) : Prop := w.ownsRow B 47 2 v cs.length (chCells cs)
def eachC (p : Plan) (gr n : Nat) (fv : Value) : Array Value := #[.int .i64 (p.bits : Int), .int .i64 (p.fan : Int), .int .i64 (p.most : Int), .pointer (some ⟨gr, 0, none⟩), .int .i64 (n : Int), fv]

/-- the cutter's memory: all that it has is newer than w -/
structure CutIn (w W : World) (g gr go : Nat) (ec : Array Value) (l : List Nat) (cs : List (Nat × Nat)) : Prop where
  below : Below w.heap.size w W
  each_ : Blk W g 97 ec
  roll : RollAt W gr l
  gr_ : w.heap.size ≤ gr
  out : ∃ v, Blk W go 38 #[v] ∧ Chunks w.heap.size W v cs

theorem blk_type {w : World} {g : Nat} {t u : TypeId} {cs ds : Array Value} (h : Blk w g t cs) (k : Blk w g u ds) : t = u := by
  unfold Blk at h k
  rw [h] at k
  injection k with k
  injection k
theorem own_ne {w : World} {B : Nat} {e : TypeId} {size : Nat} {v : Value} {n : Nat} {xs : List Value} (h : w.ownsRow B e size v n xs) {g : Nat} {t : TypeId} {cs : Array Value} (hb : Blk w g t cs) (ht : t ≠ e) : some g ≠ v.ownBlock := by
  rcases h.2 with ⟨rfl, -⟩ | ⟨g', cap, cur, rfl, -, hg, -⟩
  · simp [Value.ownBlock]
  · intro e2
    simp [Value.ownBlock] at e2
    subst e2
    exact ht (blk_type hb (show Blk w g e cur from hg))
theorem own_kept {w w' : World} {B : Nat} {e : TypeId} {size : Nat} {v : Value} {n : Nat} {xs : List Value} (h : w.ownsRow B e size v n xs) {row : Option Nat} (hg : w.grownBy w' row) (hne : ∀ k, v.ownBlock = some k → row ≠ some k) : w'.ownsRow B e size v n xs := by
  refine World.ownsRow.kept h hg ?_
  cases hv : v.ownBlock with
  | none => exact .inl rfl
  | some k => exact .inr (fun e => hne k hv e.symm)
theorem RollAt.blk {w : World} {g : Nat} {l : List Nat} (h : RollAt w g l) : ∃ cs, Blk w g 89 cs := by
  obtain ⟨c, p, -, -, -, -, h⟩ := h
  exact ⟨_, h⟩

section
variable {w W W' : World} {g gr go : Nat} {ec : Array Value} {l : List Nat} {cs : List (Nat × Nat)}
theorem CutIn.ne1 (h : CutIn w W g gr go ec l cs) : g ≠ gr := fun e => by
  obtain ⟨x, hx⟩ := h.roll.blk
  have := blk_type h.each_ (e ▸ hx)
  revert this; decide
theorem CutIn.ne2 (h : CutIn w W g gr go ec l cs) : go ≠ gr := fun e => by
  obtain ⟨x, hx⟩ := h.roll.blk
  obtain ⟨v, hv, -⟩ := h.out
  have := blk_type hv (e ▸ hx)
  revert this; decide
theorem CutIn.ne3 (h : CutIn w W g gr go ec l cs) : go ≠ g := fun e => by
  obtain ⟨v, hv, -⟩ := h.out
  have := blk_type hv (e ▸ h.each_)
  revert this; decide
/-- only the roll has turned -/
theorem CutIn.add (h : CutIn w W g gr go ec l cs) {l' : List Nat} (k : W.grownBy W' (some gr)) (hr : RollAt W' gr l') : CutIn w W' g gr go ec l' cs := by
  obtain ⟨v, hv, hc⟩ := h.out
  obtain ⟨x, hx⟩ := h.roll.blk
  refine ⟨below_of_only h.below k h.below.size h.gr_, h.each_.grown k (fun e => h.ne1 (Option.some.inj e)), hr, h.gr_, v, hv.grown k (fun e => h.ne2 (Option.some.inj e)), own_kept hc k ?_⟩
  intro q hq e
  exact own_ne hc hx (by decide) (e.trans hq.symm)
/-- a cell of the cutter has turned -/
theorem CutIn.set_ (h : CutIn w W g gr go ec l cs) (hg : w.heap.size ≤ g) (i : Nat) (u : Value) : CutIn w (W.setCell ⟨g, i, none⟩ u) g gr go (ec.setIfInBounds i u) l cs := by
  obtain ⟨v, hv, hc⟩ := h.out
  have k : W.grownBy (W.setCell ⟨g, i, none⟩ u) (some g) := only_setCell (only_refl W (some g)) (.inl rfl) u
  refine ⟨below_of_only h.below k h.below.size hg, h.each_.set_ i u, h.roll.grown k (fun e => h.ne1 (Option.some.inj e).symm), h.gr_, v, hv.grown k (fun e => h.ne3 (Option.some.inj e)), own_kept hc k ?_⟩
  intro q hq e
  exact own_ne hc h.each_ (by decide) (e.trans hq.symm)
theorem CutIn.drewN (h : CutIn w W g gr go ec l cs) (n : Nat) : CutIn w (W.drewN n) g gr go ec l cs := by
  obtain ⟨v, hv, hc⟩ := h.out
  exact ⟨⟨h.below.os, h.below.tape, h.below.output, h.below.size, h.below.block⟩, h.each_, h.roll, h.gr_, v, hv, hc⟩
theorem CutIn.drew (h : CutIn w W g gr go ec l cs) : CutIn w W.drew g gr go ec l cs := by
  obtain ⟨v, hv, hc⟩ := h.out
  exact ⟨h.below.drew, h.each_, h.roll, h.gr_, v, hv, hc⟩
/-- a new roll, not yet the cutter's -/
theorem CutIn.fresh (h : CutIn w W g gr go ec l cs) {q : Nat} {l' : List Nat} (k : W.grownBy W' none) (hq : w.heap.size ≤ q) (hr : RollAt W' q l') : CutIn w W' g q go ec l' cs := by
  obtain ⟨v, hv, hc⟩ := h.out
  refine ⟨h.below.grown k h.below.size (fun b hb => by cases hb), h.each_.grown k (by simp), hr, hq, v, hv.grown k (by simp), own_kept hc k (fun q _ e => by cases e)⟩
end
end Go.Proofs.YtmnggemifcjflaaDoor
