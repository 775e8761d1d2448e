/-
  SplitTiers: words for the memory of its walk.
-/
import Derived.Test.YtmnggemifcjflaaTiersB
namespace Go.Proofs.Ytmnggemifcjflaa.splitTiers
open Go.RowKit PlainP TiersP Tier
set_option linter.unusedVariables false

abbrev zv (zs : List Int) : List Value := zs.map (fun z : Int => Value.int .i64 z)
theorem zv_one (zs : List Int) : ∀ u ∈ zv zs, u.oneCell' = true := by
  intro u hu
  obtain ⟨n, -, rfl⟩ := List.mem_map.1 hu
  rfl
theorem base_kept {w w' : World} {B : Nat} {e : TypeId} {size n : Nat} {v : Value} {xs : List Value} (h : w.ownsRow B e size v n xs) (hb : Below w.heap.size w w') : w'.ownsRow B e size v n xs := own_keep h (only_of_below hb none) (fun _ _ e => by cases e)
theorem src_of_own {B : Nat} {W : World} {g n cap : Nat} {zs : List Int} (hz : zs.length = n) (h : W.ownsRow B 3 1 (.slice (some ⟨g, 0, none⟩) n cap) n (zv zs)) : Src W g n cap zs := by
  have hcell := World.ownsRow.cells h (g := g) rfl
  have hb : n ≤ cap ∧ cap ≤ maxLen := by
    rcases h.2 with ⟨e, -⟩ | ⟨g', cap', cur, e, -, -, hc, hm, -⟩
    · cases e
    · injection e with e1 e2 e3
      subst e3
      exact ⟨hc, hm⟩
  refine ⟨hz, hb.1, hb.2, (World.ownsRow.lt h g rfl).2, fun i z hi => ?_⟩
  have := hcell i (.int .i64 z) (by rw [List.getElem?_map, hi]; rfl)
  rwa [show (⟨g, 0, none⟩ : Addr).add i = ⟨g, i, none⟩ by unfold Addr.add; split <;> simp_all] at this
theorem Src.below {w W : World} {g n cap : Nat} {zs : List Int} (h : Src w g n cap zs) (hb : Below w.heap.size w W) : Src W g n cap zs :=
  ⟨h.1, h.2.1, h.2.2.1, Nat.lt_of_lt_of_le h.2.2.2.1 hb.size, fun i z hi => (hb.cell (p := ⟨g, i, none⟩) h.2.2.2.1).trans (h.2.2.2.2 i z hi)⟩
/-- the law's own list: n numbers and 987 behind them -/
def XRow (B : Nat) (W : World) (gx n capx : Nat) (zs : List Int) : Prop := zs.length = n ∧ W.ownsRow B 3 1 (.slice (some ⟨gx, 0, none⟩) (n + 1) capx) (n + 1) (zv zs ++ [.int .i64 987])
section
variable {B : Nat} {W W' : World} {gx n capx : Nat} {zs : List Int}
theorem XRow.below (h : XRow B W gx n capx zs) (hb : Below W.heap.size W W') : XRow B W' gx n capx zs := ⟨h.1, base_kept h.2 hb⟩
theorem XRow.lt (h : XRow B W gx n capx zs) : B ≤ gx ∧ gx < W.heap.size := World.ownsRow.lt h.2 gx rfl
theorem XRow.cap (h : XRow B W gx n capx zs) : n + 1 ≤ capx ∧ capx ≤ maxLen := by
  rcases h.2.2 with ⟨e, -⟩ | ⟨g', cap', cur, e, -, -, hc, hm, -⟩
  · cases e
  · injection e with e1 e2 e3
    subst e3
    exact ⟨hc, hm⟩
theorem XRow.cell (h : XRow B W gx n capx zs) {i : Nat} {z : Int} (hi : zs[i]? = some z) : W.cell? ⟨gx, i, none⟩ = some (.int .i64 z) := by
  have := World.ownsRow.cells h.2 (g := gx) rfl i (.int .i64 z) (by rw [List.getElem?_append_left (by rw [List.length_map]; exact (List.getElem?_eq_some_iff.1 hi).1), List.getElem?_map, hi]; rfl)
  rwa [show (⟨gx, 0, none⟩ : Addr).add i = ⟨gx, i, none⟩ by unfold Addr.add; split <;> simp_all] at this
theorem XRow.last (h : XRow B W gx n capx zs) : W.cell? ⟨gx, n, none⟩ = some (.int .i64 987) := by
  have := World.ownsRow.cells h.2 (g := gx) rfl n (.int .i64 987) (by rw [List.getElem?_append_right (by rw [List.length_map, h.1]; exact Nat.le_refl _), List.length_map, h.1, Nat.sub_self]; rfl)
  rwa [show (⟨gx, 0, none⟩ : Addr).add n = ⟨gx, n, none⟩ by unfold Addr.add; split <;> simp_all] at this
theorem XRow.src (h : XRow B W gx n capx zs) : Src W gx n capx zs :=
  ⟨h.1, by have := h.cap.1; omega, h.cap.2, h.lt.2, fun i z hi => h.cell hi⟩
theorem set_one {e : TypeId} {g cap m : Nat} {xs : List Value} (h : W.ownsRow B e 1 (.slice (some ⟨g, 0, none⟩) m cap) m xs) (k : Nat) (hk : k < m) (u : Value) :
    W.frozen? ⟨g, k, none⟩ = false ∧ (∃ c, W.cell? ⟨g, k, none⟩ = some c) ∧ (W.setCell ⟨g, k, none⟩ u).ownsRow B e 1 (.slice (some ⟨g, 0, none⟩) m cap) m (xs.set k u) := by
  obtain ⟨hl, h⟩ := h
  rcases h with ⟨h0, -⟩ | ⟨g', cap', cur, hv, hb, hg, hnc, hcm, hcs, htake⟩
  · cases h0
  · cases hv
    have hblk : Blk W g e cur := hg
    have hlt1 : k < cur.size := by omega
    refine ⟨hblk.frozen _, ⟨cur[k], by rw [hblk.cell, Array.getElem?_eq_getElem hlt1]⟩, ?_⟩
    have h2 := hblk.set_ k u
    refine ⟨by rw [List.length_set]; exact hl, .inr ⟨g, cap, _, rfl, hb, h2, hnc, hcm, by simpa using hcs, ?_⟩⟩
    rw [Array.toList_setIfInBounds, ← htake, List.take_set]
theorem XRow.set (h : XRow B W gx n capx zs) {k : Nat} (hk : k < n) (z : Int) : XRow B (W.setCell ⟨gx, k, none⟩ (.int .i64 z)) gx n capx (zs.set k z) ∧ W.frozen? ⟨gx, k, none⟩ = false := by
  obtain ⟨h1, -, h3⟩ := set_one h.2 k (by omega) (.int .i64 z)
  refine ⟨⟨by rw [List.length_set]; exact h.1, ?_⟩, h1⟩
  rw [List.set_append_left _ _ (by rw [List.length_map, h.1]; exact hk)] at h3
  unfold zv
  rw [List.map_set]
  exact h3
end
theorem grown_more {a b c : World} {row row' : Option Nat} (h : a.grownBy b row) (hr : ∀ q, row' = some q → row = some q ∨ a.heap.size ≤ q) (k : b.grownBy c row') : a.grownBy c row := by
  obtain ⟨h1, h2, h3, h4, h5⟩ := h
  obtain ⟨k1, k2, k3, k4, k5⟩ := k
  exact ⟨k1.trans h1, k2.trans h2, k3.trans h3, Nat.le_trans h4 k4, fun i hi hn => (k5 i (by omega) (fun e => by
    rcases hr i e.symm with r | r
    · exact hn r.symm
    · omega)).trans (h5 i hi hn)⟩
theorem addr_add (b o k : Nat) : (⟨b, o, none⟩ : Addr).add k = ⟨b, o + k, none⟩ := by unfold Addr.add; split <;> simp_all
theorem slice_some {w : World} {B : Nat} {e : TypeId} {size : Nat} {v : Value} {k : Nat} {xs : List Value} (h : w.ownsRow B e size v k xs) (hk : 0 < k) : ∃ g cap, v = .slice (some ⟨g, 0, none⟩) k cap ∧ k ≤ cap := by
  rcases h.2 with ⟨rfl, h0⟩ | ⟨g, cap, cur, rfl, -, -, hc, -⟩
  · omega
  · exact ⟨g, cap, rfl, hc⟩
theorem slice_some' {w : World} {B : Nat} {e : TypeId} {size : Nat} {v : Value} {k : Nat} {xs : List Value} (h : w.ownsRow B e size v k xs) (hk : v ≠ .slice none 0 0) : ∃ g cap, v = .slice (some ⟨g, 0, none⟩) k cap ∧ k ≤ cap := by
  rcases h.2 with ⟨rfl, h0⟩ | ⟨g, cap, cur, rfl, -, -, hc, -⟩
  · exact absurd rfl hk
  · exact ⟨g, cap, rfl, hc⟩
/-- the first answer while its groups are written over, one by one -/
def ANodes (B hi i : Nat) (W : World) (v : Value) (kss : List (List Nat)) : Prop :=
  ∃ gs : List (Nat × Nat), gs.length = kss.length ∧ W.ownsRow B 50 1 v kss.length (nodeVals gs kss) ∧ (∀ (j : Nat) (g : Nat × Nat) (ks : List Nat), i ≤ j → gs[j]? = some g → kss[j]? = some ks → Ints B W g.1 g.2 ks) ∧
    (∀ (j k : Nat) (a b : Nat × Nat), gs[j]? = some a → gs[k]? = some b → j < k → a.1 < b.1) ∧ ∀ (j : Nat) (g : Nat × Nat), gs[j]? = some g → g.1 < hi
theorem ANodes.of {B : Nat} {W : World} {v : Value} {kss : List (List Nat)} (h : Nodes B W v kss) : ANodes B W.heap.size 0 W v kss := by
  obtain ⟨gs, h1, h2, h3, h4⟩ := h
  refine ⟨gs, h1, h2, fun j g ks _ => h3 j g ks, h4, fun j g hj => ?_⟩
  obtain ⟨ks, hk⟩ : ∃ ks, kss[j]? = some ks := ⟨_, List.getElem?_eq_getElem (by rw [← h1]; exact (List.getElem?_eq_some_iff.1 hj).1)⟩
  exact (World.ownsRow.lt (h3 j g ks hj hk) g.1 rfl).2
theorem ANodes.kept {B hi i : Nat} {W W' : World} {v : Value} {kss : List (List Nat)} (h : ANodes B hi i W v kss) (hb : Below W.heap.size W W') : ANodes B hi i W' v kss := by
  obtain ⟨gs, h1, h2, h3, h4, h5⟩ := h
  exact ⟨gs, h1, base_kept h2 hb, fun j g ks hj hg hk => base_kept (h3 j g ks hj hg hk) hb, h4, h5⟩
/-- one of its groups -/
theorem ANodes.kid {B hi i : Nat} {W : World} {v : Value} {kss : List (List Nat)} (h : ANodes B hi i W v kss) {ks : List Nat} (hk : kss[i]? = some ks) : ∃ gv capv g cap, v = .slice (some ⟨gv, 0, none⟩) kss.length capv ∧ kss.length ≤ capv ∧ W.cell? ⟨gv, i, none⟩ = some (.slice (some ⟨g, 0, none⟩) ks.length cap) ∧ Ints B W g cap ks ∧ g < hi ∧ B ≤ g ∧
    ∀ W', W.grownBy W' (some g) → ANodes B hi (i + 1) W' v kss := by
  obtain ⟨gs, h1, h2, h3, h4, h5⟩ := h
  obtain ⟨q, q1, q2⟩ := nodeVals_get gs kss h1 i ks hk
  have hin := h3 i q ks (Nat.le_refl _) q1 hk
  have hv : ∃ gv capv, v = .slice (some ⟨gv, 0, none⟩) kss.length capv ∧ kss.length ≤ capv := by
    rcases h2.2 with ⟨rfl, h0⟩ | ⟨g, cap, cur, rfl, -, -, hc, -⟩
    · have := (List.getElem?_eq_some_iff.1 hk).1; omega
    · exact ⟨g, cap, rfl, hc⟩
  obtain ⟨gv, capv, hgv, hcv⟩ := hv
  have hc := World.ownsRow.cells h2 (g := gv) (by rw [hgv]; rfl) i _ q2
  rw [show (⟨gv, 0, none⟩ : Addr).add i = ⟨gv, i, none⟩ by unfold Addr.add; split <;> simp_all] at hc
  refine ⟨gv, capv, q.1, q.2, hgv, hcv, hc, hin, h5 i q q1, (World.ownsRow.lt hin q.1 rfl).1, fun W' hg => ⟨gs, h1, own_keep h2 hg (fun k hk' e => own_unlike h2 hin (by decide) k hk' (by rw [← e]; rfl)), fun j g ks' hj hg' hk' => ?_, h4, h5⟩⟩
  exact (h3 j g ks' (by omega) hg' hk').grown hg (fun e => by
    injection e with e
    have := h4 i j q g q1 hg' (by omega)
    omega)
/-- what is behind them can be read -/
theorem ANodes.tail {B hi i : Nat} {W : World} {v : Value} {kss : List (List Nat)} (h : ANodes B hi i W v kss) (hik : i ≤ kss.length) : ∃ a cap, v = .slice a kss.length cap ∧ kss.length ≤ cap ∧ ∀ a' c', (i < kss.length → a' = a.map (fun p => p.add i)) → kss.length - i ≤ c' → NRow W (.slice a' (kss.length - i) c') (kss.drop i) := by
  obtain ⟨gs, h1, h2, h3, -, -⟩ := h
  have hcell := fun g hg => World.ownsRow.cells h2 (g := g) hg
  have hlt := World.ownsRow.lt h2
  rcases h2.2 with ⟨rfl, h0⟩ | ⟨g, cap, cur, rfl, -, -, hc, -⟩
  · have hk : kss = [] := List.eq_nil_of_length_eq_zero h0
    subst hk
    exact ⟨none, 0, rfl, Nat.le_refl _, fun a' c' _ hc' => ⟨a', c', by rw [List.drop_nil]; simp, by rw [List.drop_nil]; simp, fun i ks hi => by simp at hi⟩⟩
  · refine ⟨some ⟨g, 0, none⟩, cap, rfl, hc, fun a' c' ha hc' => ⟨a', c', by rw [List.length_drop], by rw [List.length_drop]; exact hc', fun j ks hj => ?_⟩⟩
    rw [List.getElem?_drop] at hj
    have hlj := (List.getElem?_eq_some_iff.1 hj).1
    have ha := ha (by omega)
    subst ha
    obtain ⟨q, q1, q2⟩ := nodeVals_get gs kss h1 (i + j) ks hj
    have a1 := hcell g rfl (i + j) _ q2
    rw [show (⟨g, 0, none⟩ : Addr).add (i + j) = ⟨g, i + j, none⟩ by unfold Addr.add; split <;> simp_all] at a1
    have hin := h3 (i + j) q ks (by omega) q1 hj
    refine ⟨g, i, by show some ((⟨g, 0, none⟩ : Addr).add i) = _; rw [show (⟨g, 0, none⟩ : Addr).add i = ⟨g, i, none⟩ by unfold Addr.add; split <;> simp_all], (hlt g rfl).2, some ⟨q.1, 0, none⟩, q.2, a1, hin.capOk, fun k n hk => ⟨q.1, rfl, (World.ownsRow.lt hin q.1 rfl).2, hin.cells k n hk⟩⟩
theorem NRow.tail {W : World} {v : Value} {kss : List (List Nat)} (h : NRow W v kss) (i : Nat) (hik : i ≤ kss.length) : ∃ a cap, v = .slice a kss.length cap ∧ kss.length ≤ cap ∧ ∀ a' c', (i < kss.length → a' = a.map (fun p => p.add i)) → kss.length - i ≤ c' → NRow W (.slice a' (kss.length - i) c') (kss.drop i) := by
  obtain ⟨a, cap, rfl, hc, hat⟩ := h
  refine ⟨a, cap, rfl, hc, fun a' c' ha hc' => ⟨a', c', by rw [List.length_drop], by rw [List.length_drop]; exact hc', fun j ks hj => ?_⟩⟩
  rw [List.getElem?_drop] at hj
  have hlj := (List.getElem?_eq_some_iff.1 hj).1
  have ha := ha (by omega)
  obtain ⟨b, off, rfl, hb, g, c, r1, r2, r3⟩ := hat (i + j) ks hj
  subst ha
  refine ⟨b, off + i, by show some ((⟨b, off, none⟩ : Addr).add i) = _; rw [show (⟨b, off, none⟩ : Addr).add i = ⟨b, off + i, none⟩ by unfold Addr.add; split <;> simp_all], hb, g, c, by rw [Nat.add_assoc]; exact r1, r2, r3⟩
/-- the worlds while the first answer is written over -/
structure L3 (wW wB W : World) (va vb : Value) (T : List (List Nat)) (i : Nat) : Prop where
  below : Below wW.heap.size wW W
  a : ANodes wW.heap.size wB.heap.size i W va T
  b : Nodes wB.heap.size W vb T
theorem L3.low {wW wB W W' : World} {va vb : Value} {T : List (List Nat)} {i : Nat} (h : L3 wW wB W va vb T i) (hb : Below W.heap.size W W') : L3 wW wB W' va vb T i :=
  ⟨h.below.trans (hb.mono h.below.size), h.a.kept hb, h.b.grown (only_of_below hb none) (fun _ _ e => by cases e) (fun _ _ _ _ e => by cases e)⟩
theorem below_dr {B : Nat} {a w : World} (h : Below B a w) (n : Nat) : Below B a (w.drewN n) := ⟨h.os, h.tape, h.output, h.size, h.block⟩
theorem L3.drewN {wW wB W : World} {va vb : Value} {T : List (List Nat)} {i : Nat} (h : L3 wW wB W va vb T i) (n : Nat) : L3 wW wB (W.drewN n) va vb T i := h.low (below_dr (Below.refl _ _) n)
theorem L3.step {wW wB W W' : World} {va vb : Value} {T : List (List Nat)} {i g : Nat} (h : L3 wW wB W va vb T i) (hg : W.grownBy W' (some g)) (h1 : wW.heap.size ≤ g) (h2 : g < wB.heap.size) (ha : ANodes wW.heap.size wB.heap.size (i + 1) W' va T) : L3 wW wB W' va vb T (i + 1) :=
  ⟨below_of_only h.below hg h.below.size h1, ha, h.b.grown hg (fun q hq e => by
    have := (World.ownsRow.lt h.b.choose_spec.2.1 q hq).1
    injection e with e
    omega) (fun g' cap ks hi e => by
    have := (World.ownsRow.lt hi g' rfl).1
    injection e with e
    omega)⟩
/-- the numbers that came in, laid elsewhere -/
theorem IsRow.news {w W : World} {ad : Addr} {len cap : Nat} {zs : List Int} (h : IsRow .i64 w (some ad) len cap zs) (hb : Below w.heap.size w W) : len ≤ cap ∧ (zs.take len).length = len ∧ ∀ j u, (zv (zs.take len))[j]? = some u → W.cell? (ad.add j) = some u := by
  rcases h with ⟨e, -⟩ | ⟨x, e, hl, hm, hz, hcell, -⟩
  · cases e
  · injection e with e
    subst e
    refine ⟨hl, by rw [List.length_take]; omega, fun j u hu => ?_⟩
    rw [List.getElem?_map] at hu
    obtain ⟨z, hz2, rfl⟩ := Option.map_eq_some_iff.1 hu
    have hj := (List.getElem?_eq_some_iff.1 hz2).1
    rw [List.length_take] at hj
    rw [List.getElem?_take_of_lt (by omega)] at hz2
    have hc := hcell j (by omega)
    rw [List.getD_eq_getElem?_getD, hz2] at hc
    have hlt := cell_lt hc
    rw [hb.cell hlt]
    exact hc
end Go.Proofs.Ytmnggemifcjflaa.splitTiers
