/-
  Tiers of the reference: words for its memory: rows of numbers that lie apart.
-/
import Derived.Test.YtmnggemifcjflaaNumbersW
import Derived.Maps.AppendAt
namespace Go.Proofs.Ytmnggemifcjflaa.Tier
open Go.RowKit PlainP TiersP

def IRow (B : Nat) (W : World) (x : Value × List Nat) : Prop := W.ownsRow B 3 1 x.1 x.2.length (x.2.map (fun n : Nat => Value.int .i64 (n : Int)))
def Apart (x y : Value × List Nat) : Prop := ∀ k, x.1.ownBlock = some k → y.1.ownBlock ≠ some k
theorem Apart.symm {x y : Value × List Nat} (h : Apart x y) : Apart y x := fun k hk e => h k e hk
/-- rows of numbers, each by itself -/
structure Fam (B : Nat) (W : World) (F : List (Value × List Nat)) : Prop where
  own : ∀ x ∈ F, IRow B W x
  dj : F.Pairwise Apart
section
variable {B : Nat} {W W' : World} {F G : List (Value × List Nat)} {x : Value × List Nat}
theorem Fam.perm (h : Fam B W F) (p : F.Perm G) : Fam B W G := ⟨fun x hx => h.own x (p.mem_iff.2 hx), (p.pairwise_iff (fun {_ _} => Apart.symm)).1 h.dj⟩
theorem Fam.sub (h : Fam B W F) (p : G.Sublist F) : Fam B W G := ⟨fun x hx => h.own x (p.subset hx), h.dj.sublist p⟩
theorem Fam.tail (h : Fam B W (x :: F)) : Fam B W F := h.sub (List.sublist_cons_self _ _)
theorem Fam.head (h : Fam B W (x :: F)) : IRow B W x := h.own x List.mem_cons_self
/-- nothing of theirs has turned -/
theorem Fam.kept (h : Fam B W F) {row : Option Nat} (k : W.grownBy W' row) (hr : ∀ q, row = some q → ∀ x ∈ F, x.1.ownBlock ≠ some q) : Fam B W' F :=
  ⟨fun x hx => own_keep (h.own x hx) k (fun q hq e => hr q e x hx hq), h.dj⟩
theorem Fam.more (h : Fam B W F) (k : W.grownBy W' none) : Fam B W' F := h.kept k (fun _ e => by cases e)
theorem Fam.nil : Fam B W [] := ⟨fun _ h => (by cases h), List.Pairwise.nil⟩
theorem Fam.addNil (h : Fam B W F) : Fam B W ((.slice none 0 0, []) :: F) :=
  ⟨fun x hx => by
    rcases List.mem_cons.1 hx with rfl | hx
    · exact World.ownsRow_nil _ _ _ _
    · exact h.own x hx, List.Pairwise.cons (fun y _ k hk => by cases hk) h.dj⟩
theorem Fam.lt (h : Fam B W F) {x : Value × List Nat} (hx : x ∈ F) {q : Nat} (hq : x.1.ownBlock = some q) : B ≤ q ∧ q < W.heap.size := World.ownsRow.lt (h.own x hx) q hq
/-- the first row is another now: its old block, or a new one -/
theorem Fam.put (h : Fam B W (x :: F)) {y : Value × List Nat} (hy : IRow B W' y) (k : W.grownBy W' x.1.ownBlock) (hat : y.1.ownBlock = x.1.ownBlock ∨ y.1.ownBlock = some W.heap.size) : Fam B W' (y :: F) := by
  have hd := (List.pairwise_cons.1 h.dj).1
  have ht := h.tail.kept k (fun q hq z hz e => hd z hz q hq e)
  refine ⟨fun z hz => ?_, List.Pairwise.cons (fun z hz q hq e => ?_) ht.dj⟩
  · rcases List.mem_cons.1 hz with rfl | hz
    · exact hy
    · exact ht.own z hz
  · rcases hat with e2 | e2
    · exact hd z hz q (e2 ▸ hq) e
    · rw [e2] at hq
      injection hq with hq
      have := (h.tail.lt hz e).2
      omega
end
theorem IRow.cell {B : Nat} {W : World} {a : Option Addr} {n cap : Nat} {l : List Nat} (h : IRow B W (.slice a n cap, l)) {i x : Nat} (hi : l[i]? = some x) : ∃ g, a = some ⟨g, 0, none⟩ ∧ W.cell? ⟨g, i, none⟩ = some (.int .i64 (x : Int)) := by
  rcases h.2 with ⟨e, hn⟩ | ⟨g, cap', cur, e, -⟩
  · rw [show l = [] from List.eq_nil_of_length_eq_zero hn] at hi; simp at hi
  · injection e with e1 e2 e3
    subst e1
    refine ⟨g, rfl, ?_⟩
    have := World.ownsRow.cells h (g := g) rfl i (.int .i64 (x : Int)) (by rw [List.getElem?_map, hi]; rfl)
    rwa [show (⟨g, 0, none⟩ : Addr).add i = ⟨g, i, none⟩ by unfold Addr.add; split <;> simp_all] at this
theorem IRow.val {B : Nat} {W : World} {v : Value} {l : List Nat} (h : IRow B W (v, l)) : ∃ a cap, v = .slice a l.length cap ∧ l.length ≤ cap := by
  rcases h.2 with ⟨e, hn⟩ | ⟨g, cap', cur, e, -, -, hc, -⟩
  · dsimp only at hn e
    exact ⟨none, 0, by rw [hn]; exact e, by omega⟩
  · exact ⟨_, cap', e, hc⟩
/-- the groups: a row of slices, the kids K -/
def KRow (B : Nat) (W : World) (v : Value) (K : List (Value × List Nat)) : Prop := W.ownsRow B 40 1 v K.length (K.map (·.1))
theorem kinfo : (Try.prog.info? 40).map (fun i => (i.zero, i.size, i.bytes)) = some (some (.slice none 0 0), 1, 24) := by kernel_rfl
/-- rows of unlike types -/
theorem KRow.ne {B : Nat} {W : World} {v : Value} {K : List (Value × List Nat)} (h : KRow B W v K) {x : Value × List Nat} (hx : IRow B W x) : ∀ k, v.ownBlock = some k → x.1.ownBlock ≠ some k := own_unlike h hx (by decide)
theorem KRow.kept {B : Nat} {W W' : World} {v : Value} {K : List (Value × List Nat)} (h : KRow B W v K) {row : Option Nat} (k : W.grownBy W' row) (hr : ∀ q, row = some q → v.ownBlock ≠ some q) : KRow B W' v K := own_keep h k (fun q hq e => hr q e hq)
/-- what the law looks at -/
theorem KRow.nrow {B : Nat} {W : World} {v : Value} {K : List (Value × List Nat)} (h : KRow B W v K) (hf : Fam B W K) : NRow W v (K.map (·.2)) := by
  have hcell := fun g (hg : v.ownBlock = some g) => World.ownsRow.cells h hg
  have hv : ∃ a cap, v = .slice a K.length cap ∧ K.length ≤ cap ∧ (0 < K.length → ∃ g, a = some ⟨g, 0, none⟩ ∧ v.ownBlock = some g ∧ g < W.heap.size) := by
    rcases h.2 with ⟨rfl, hn⟩ | ⟨g, cap', cur, rfl, -, hg, hc, -⟩
    · exact ⟨none, 0, by rw [hn], by omega, fun e => by omega⟩
    · exact ⟨_, cap', rfl, hc, fun _ => ⟨g, rfl, rfl, (World.ownsRow.lt h g rfl).2⟩⟩
  obtain ⟨a, cap, rfl, hc, hg⟩ := hv
  refine ⟨a, cap, by rw [List.length_map], by rw [List.length_map]; exact hc, fun i ks hi => ?_⟩
  rw [List.getElem?_map] at hi
  obtain ⟨x, hx, rfl⟩ := Option.map_eq_some_iff.1 hi
  have hlt := (List.getElem?_eq_some_iff.1 hx).1
  obtain ⟨g, rfl, hgo, hgl⟩ := hg (by omega)
  have hxm := List.mem_of_getElem? hx
  have hrow := hf.own x hxm
  obtain ⟨xv, xl⟩ := x
  obtain ⟨xa, xcap, rfl, hxc⟩ := hrow.val
  have c := hcell g hgo i _ (by rw [List.getElem?_map, hx]; rfl)
  rw [show (⟨g, 0, none⟩ : Addr).add i = ⟨g, i, none⟩ by unfold Addr.add; split <;> simp_all] at c
  refine ⟨g, 0, rfl, hgl, xa, xcap, by rw [Nat.zero_add]; exact c, hxc, fun j n hj => ?_⟩
  obtain ⟨g2, rfl, hc2⟩ := hrow.cell hj
  exact ⟨g2, rfl, (World.ownsRow.lt hrow g2 rfl).2, hc2⟩
end Go.Proofs.Ytmnggemifcjflaa.Tier
