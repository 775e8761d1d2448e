/-
  Tiers of the reference: its rows, step by step.
-/
import Derived.Test.YtmnggemifcjflaaTiersR
namespace Go.Proofs.Ytmnggemifcjflaa.Tier
open Go.RowKit PlainP TiersP

abbrev ints (l : List Nat) : List Value := l.map (fun n : Nat => Value.int .i64 (n : Int))
/-- the rows of the walk: F by themselves, and the groups K -/
structure RM (w W : World) (v10 : Value) (K F : List (Value × List Nat)) : Prop where
  below : Below w.heap.size w W
  fam : Fam w.heap.size W F
  out : KRow w.heap.size W v10 K
section
variable {w W W' : World} {v10 v v' v13 : Value} {K F G : List (Value × List Nat)} {l : List Nat} {A B C : Value × List Nat} {o : Obj} {y : Nat}
theorem RM.perm (h : RM w W v10 K F) (p : F.Perm G) : RM w W v10 K G := ⟨h.below, h.fam.perm p, h.out⟩
theorem RM.sub (h : RM w W v10 K F) (p : G.Sublist F) : RM w W v10 K G := ⟨h.below, h.fam.sub p, h.out⟩
theorem RM.more (h : RM w W v10 K F) (k : W.grownBy W' none) : RM w W' v10 K F := ⟨h.below.grown k h.below.size (fun _ e => by cases e), h.fam.more k, h.out.kept k (fun _ e => by cases e)⟩
theorem RM.addNil (h : RM w W v10 K F) : RM w W v10 K ((.slice none 0 0, []) :: F) := ⟨h.below, h.fam.addNil, h.out⟩
theorem RM.row (h : RM w W v10 K ((v, l) :: F)) (o : Obj) {n : Nat} (hn : l.length = n) : (W.alloc o).ownsRow w.heap.size 3 1 v n (ints l) := by
  subst hn
  exact World.ownsRow.alloc h.fam.head o
/-- a number is laid behind the first row -/
theorem RM.apped (h : RM w W v10 K ((v, l) :: F)) {n : Nat} (hn : l.length = n) (hown : W'.ownsRow w.heap.size 3 1 v' (n + 1) (ints l ++ [.int .i64 (y : Int)])) (hg : (W.alloc o).grownBy W' v.ownBlock) (hat : v'.ownBlock = v.ownBlock ∨ v'.ownBlock = some (W.alloc o).heap.size) :
    RM w W' v10 K ((v', l ++ [y]) :: F) := by
  subst hn
  have h2 := h.more (World.grownBy_alloc W o none)
  refine ⟨h2.below.grown hg h2.below.size (fun q hq => (h2.fam.lt List.mem_cons_self hq).1), h2.fam.put (x := (v, l)) ?_ hg hat, h2.out.kept hg (fun q hq e => h2.out.ne h2.fam.head q e hq)⟩
  unfold IRow
  rw [List.length_append, List.map_append]
  exact hown
/-- a group is laid behind the groups -/
theorem RM.close (h : RM w W v10 K (A :: B :: C :: (v13, l) :: K)) {n : Nat} (hn : K.length = n) (hown : W'.ownsRow w.heap.size 40 1 v' (n + 1) (K.map (·.1) ++ [v13])) (hg : (W.alloc o).grownBy W' v10.ownBlock) :
    RM w W' v' (K ++ [(v13, l)]) (A :: B :: C :: (.slice none 0 0, []) :: (K ++ [(v13, l)])) := by
  subst hn
  have h2 := h.more (World.grownBy_alloc W o none)
  have hf : Fam w.heap.size W' (A :: B :: C :: (v13, l) :: K) := h2.fam.kept hg (fun q hq x hx e => h2.out.ne (h2.fam.own x hx) q hq e)
  have hp : (A :: B :: C :: (v13, l) :: K).Perm (A :: B :: C :: (K ++ [(v13, l)])) := ((((List.perm_append_singleton (v13, l) K).symm).cons C).cons B).cons A
  refine ⟨h2.below.grown hg h2.below.size (fun q hq => (World.ownsRow.lt h2.out q hq).1), ((hf.perm hp).addNil).perm (List.perm_middle (l₁ := [A, B, C])).symm, ?_⟩
  unfold KRow
  rw [List.length_append, List.map_append]
  exact hown
theorem RM.krow (h : RM w W v10 K F) (o : Obj) {n : Nat} (hn : K.length = n) : (W.alloc o).ownsRow w.heap.size 40 1 v10 n (K.map (·.1)) := by
  subst hn
  exact World.ownsRow.alloc h.out o
theorem rot1 {A B : Value × List Nat} {K : List (Value × List Nat)} : (A :: B :: K).Perm (B :: A :: K) := List.perm_middle (l₁ := [A])
theorem rot2 {A B C : Value × List Nat} {K : List (Value × List Nat)} : (A :: B :: C :: K).Perm (C :: A :: B :: K) := List.perm_middle (l₁ := [A, B])
theorem rot3 {A B C D : Value × List Nat} {K : List (Value × List Nat)} : (A :: B :: C :: D :: K).Perm (D :: A :: B :: C :: K) := List.perm_middle (l₁ := [A, B, C])
/-- the group is dropped -/
theorem RM.noGroup (h : RM w W v10 K (A :: B :: C :: (v13, l) :: K)) : RM w W v10 K (A :: B :: C :: (.slice none 0 0, []) :: K) :=
  ((h.perm rot3).sub (List.sublist_cons_self _ _)).addNil.perm rot3.symm
/-- a pass begins -/
theorem RM.fresh (h : RM w W v10 K (A :: B :: K)) : RM w W v10 K (A :: B :: (.slice none 0 0, []) :: (.slice none 0 0, []) :: K) :=
  ((h.addNil.perm rot2.symm).addNil.perm rot2.symm)
/-- a pass ends -/
theorem RM.next (h : RM w W v10 K (A :: B :: C :: (v13, l) :: K)) : RM w W v10 K (A :: C :: K) :=
  ((h.perm rot3).sub (List.sublist_cons_self _ _)).perm rot1 |>.sub (List.sublist_cons_self _ _)
theorem RM.at_ (h : RM w W v10 K F) {a : Option Addr} {n cap : Nat} {l : List Nat} (hm : (Value.slice a n cap, l) ∈ F) {i x : Nat} (hi : l[i]? = some x) : ∃ g, a = some ⟨g, 0, none⟩ ∧ W.cell? ⟨g, i, none⟩ = some (.int .i64 (x : Int)) := (h.fam.own _ hm).cell hi
theorem RM.val (h : RM w W v10 K F) {v : Value} {l : List Nat} (hm : (v, l) ∈ F) {n : Nat} (hn : l.length = n) : ∃ a cap, v = .slice a n cap ∧ n ≤ cap := by
  subst hn; exact (h.fam.own _ hm).val
theorem KRow.val {w W : World} {v : Value} {K : List (Value × List Nat)} (h : KRow w.heap.size W v K) {n : Nat} (hn : K.length = n) : ∃ a cap, v = .slice a n cap := by
  subst hn
  rcases h.2 with ⟨rfl, h0⟩ | ⟨g, cap, cur, rfl, -⟩
  · exact ⟨none, 0, by rw [h0]⟩
  · exact ⟨_, _, rfl⟩
end
/-- the numbers that came in, laid elsewhere -/
theorem Levels.cellAt {w W : World} {ad : Addr} {len cap : Nat} {lv : List Nat} (h : Levels w (some ad) len cap lv) (hb : Below w.heap.size w W) : ∀ j u, (ints lv)[j]? = some u → W.cell? (ad.add j) = some u := by
  intro j u hu
  rw [List.getElem?_map] at hu
  obtain ⟨x, hx, rfl⟩ := Option.map_eq_some_iff.1 hu
  obtain ⟨b, off, e, hlt, hc⟩ := h.2.2.2.2 j x hx
  injection e with e
  subst e
  rw [show (⟨b, off, none⟩ : Addr).add j = ⟨b, off + j, none⟩ by unfold Addr.add; split <;> simp_all]
  rw [hb.cell (p := ⟨b, off + j, none⟩) hlt]
  exact hc
theorem ints_one (l : List Nat) : ∀ u ∈ ints l, u.oneCell' = true := by
  intro u hu
  obtain ⟨n, -, rfl⟩ := List.mem_map.1 hu
  rfl
/-- the levels of items -/
def Lev (lvls : List Nat) (now : List (Nat × Nat)) : Prop := ∀ x ∈ now, lvls[x.1]? = some x.2
theorem Lev.app {lvls : List Nat} {now : List (Nat × Nat)} (h : Lev lvls now) (y : Nat) : Lev (lvls ++ [y]) now := fun x hx => by
  have := h x hx
  rw [List.getElem?_append_left (List.getElem?_eq_some_iff.1 this).1]; exact this
theorem Lev.snoc {lvls : List Nat} {now : List (Nat × Nat)} (h : Lev lvls now) {x : Nat × Nat} (hx : lvls[x.1]? = some x.2) : Lev lvls (now ++ [x]) := fun z hz => by
  rcases List.mem_append.1 hz with hz | hz
  · exact h z hz
  · rw [List.mem_singleton.1 hz]; exact hx
theorem lev_enum (lv : List Nat) : Lev lv (enumF lv) := fun x hx => by
  unfold enumF at hx
  obtain ⟨i, hi, he⟩ := List.mem_iff_getElem.1 hx
  rw [← he]
  simp [List.getElem_zip]
theorem enum_fst (lv : List Nat) : (enumF lv).map (·.1) = List.range lv.length := by
  unfold enumF
  exact List.map_fst_zip (by simp)
end Go.Proofs.Ytmnggemifcjflaa.Tier
