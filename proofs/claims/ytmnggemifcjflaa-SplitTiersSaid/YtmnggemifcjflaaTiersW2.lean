/-
  Tiers, the walk.
-/
import Derived.Test.YtmnggemifcjflaaTiersW
namespace Go.Proofs.Ytmnggemifcjflaa.Tier
open Go.RowKit PlainP TiersP

/-- the levels that came in -/
def Levels (w : World) (a : Option Addr) (len cap : Nat) (lv : List Nat) : Prop :=
  lv.length = len ∧ len ≤ cap ∧ cap ≤ maxLen ∧ (∀ x ∈ lv, x ≤ 32) ∧ ∀ (i x : Nat), lv[i]? = some x → ∃ b off, a = some ⟨b, off, none⟩ ∧ b < w.heap.size ∧ w.cell? ⟨b, off + i, none⟩ = some (.int .i64 (x : Int))
/-- the items that they are -/
def enumF (lv : List Nat) : List (Nat × Nat) := (List.range lv.length).zip lv
theorem enumF_get (lv : List Nat) (k x : Nat) (h : lv[k]? = some x) : (enumF lv)[k]? = some (k, x) := by
  unfold enumF
  have hk := (List.getElem?_eq_some_iff.1 h).1
  rw [List.getElem?_zip_eq_some]
  exact ⟨by rw [List.getElem?_range hk], h⟩
theorem enumF_len (lv : List Nat) : (enumF lv).length = lv.length := by unfold enumF; simp
theorem enumF_lev (lv : List Nat) (h : ∀ x ∈ lv, x ≤ 32) : ∀ x ∈ enumF lv, x.2 ≤ 32 := fun x hx => by
  unfold enumF at hx
  exact h _ (List.of_mem_zip hx).2

/-- what is left to do after q items -/
def EqF (t most base : Nat) (now : List (Nat × Nat)) (f q : Nat) (nx : List (Nat × Nat)) (os : List (List Nat)) : Prop :=
  passF t most base [] now = (nx ++ (passF t most (base + os.length) ((now.take q).drop f) (now.drop q)).1, os ++ (passF t most (base + os.length) ((now.take q).drop f) (now.drop q)).2)
section
variable {t most base f q : Nat} {now nx : List (Nat × Nat)} {os : List (List Nat)} {x : Nat × Nat}
theorem grp_next (hx : now[q]? = some x) (hf : f ≤ q) : (now.take (q + 1)).drop f = (now.take q).drop f ++ [x] := by
  have hq := (List.getElem?_eq_some_iff.1 hx).1
  rw [List.take_add_one, hx, List.drop_append_of_le_length (by rw [List.length_take]; omega)]
  rfl
theorem rest_at (hx : now[q]? = some x) : now.drop q = x :: now.drop (q + 1) := by
  obtain ⟨hq, he⟩ := List.getElem?_eq_some_iff.1 hx
  rw [List.drop_eq_getElem_cons hq, he]
theorem grp_len (hx : now[q]? = some x) : ((now.take q).drop f).length = q - f := by
  have hq := (List.getElem?_eq_some_iff.1 hx).1
  rw [List.length_drop, List.length_take]; omega
theorem grp_nil : (now.take q).drop q = [] := List.drop_eq_nil_of_le (by rw [List.length_take]; omega)
theorem eq_on (h : EqF t most base now f q nx os) (hx : now[q]? = some x) (hf : f ≤ q) (hc : x.2 < t ∧ q + 1 - f < most ∧ q + 1 < now.length) : EqF t most base now f (q + 1) nx os := by
  have hl := grp_len (f := f) hx
  unfold EqF at *
  rw [h, rest_at hx, passF_on _ _ _ _ _ _ ⟨hc.1, by rw [hl]; omega, by rw [List.length_drop]; omega⟩, grp_next hx hf]
theorem eq_group (h : EqF t most base now f q nx os) (hx : now[q]? = some x) (hf : f < q) (hc : ¬ (x.2 < t ∧ q + 1 - f < most ∧ q + 1 < now.length)) :
    EqF t most base now (q + 1) (q + 1) (nx ++ [(base + os.length, x.2)]) (os ++ [((now.take (q + 1)).drop f).map (·.1)]) := by
  have hl := grp_len (f := f) hx
  have hq := (List.getElem?_eq_some_iff.1 hx).1
  unfold EqF at *
  rw [h, rest_at hx, passF_group _ _ _ _ _ _ (by rw [hl, List.length_drop]; omega) (by rw [hl]; omega), grp_next hx (by omega), grp_nil, List.length_append, List.append_assoc, List.append_assoc]
  rfl
theorem eq_one (h : EqF t most base now f q nx os) (hx : now[q]? = some x) (hf : f = q) (hc : ¬ (x.2 < t ∧ q + 1 - f < most ∧ q + 1 < now.length)) :
    EqF t most base now (q + 1) (q + 1) (nx ++ [x]) os := by
  subst hf
  have hl := grp_len (f := f) hx
  have hq := (List.getElem?_eq_some_iff.1 hx).1
  unfold EqF at *
  rw [h, rest_at hx, passF_one _ _ _ _ _ _ (by rw [hl, List.length_drop]; omega) (by rw [hl]; omega), grp_nil, List.append_assoc]
  rfl
theorem eq_end (h : EqF t most base now f q nx os) (hq : now.length ≤ q) : passF t most base [] now = (nx, os) := by
  unfold EqF at h
  rw [h, List.drop_eq_nil_of_le hq, passF_nil, List.append_nil, List.append_nil]
theorem eq_start : EqF t most base now 0 0 [] [] := by simp [EqF]
end
theorem grown_new {a b c : World} {g : Nat} (h : a.grownBy b none) (hg : a.heap.size ≤ g) (k : b.grownBy c (some g)) : a.grownBy c none := by
  obtain ⟨h1, h2, h3, h4, h5⟩ := h
  obtain ⟨k1, k2, k3, k4, k5⟩ := k
  exact ⟨k1.trans h1, k2.trans h2, k3.trans h3, Nat.le_trans h4 k4, fun i hi hn => (k5 i (by omega) (fun e => by injection e with e; omega)).trans (h5 i hi hn)⟩

/-- after k items of a tier: `from_` the first of the open group, nx what goes on, os the groups made -/
structure Mid (w W : World) (g6 g11 : Nat) (v9 : Value) (t most base : Nat) (now : List (Nat × Nat)) (kss : List (List Nat)) (k from_ : Nat) (nx : List (Nat × Nat)) (os : List (List Nat)) : Prop where
  below : Below w.heap.size w W
  now_ : ∃ cap, Items w.heap.size W g6 cap now
  nxt : Items w.heap.size W g11 now.length nx
  out : Nodes w.heap.size W v9 (kss ++ os)
  eq : EqF t most base now from_ k nx os
  nk : nx.length ≤ k
  sum : nx.length + os.length ≤ from_
theorem Mid.grown {w W W' : World} {g6 g11 : Nat} {v9 : Value} {t most base : Nat} {now : List (Nat × Nat)} {kss : List (List Nat)} {k from_ : Nat} {nx : List (Nat × Nat)} {os : List (List Nat)} (h : Mid w W g6 g11 v9 t most base now kss k from_ nx os) (hg : W.grownBy W' none) :
    Mid w W' g6 g11 v9 t most base now kss k from_ nx os := by
  obtain ⟨h1, ⟨cap, h2⟩, h3, h4, h5, h6, h7⟩ := h
  exact ⟨h1.grown hg h1.size (fun _ e => by cases e), ⟨cap, h2.grown hg (by simp)⟩, h3.grown hg (by simp), h4.grown hg (fun _ _ e => by cases e) (fun _ _ _ _ e => by cases e), h5, h6, h7⟩

theorem grownBy_set (W : World) (b : Nat) (v : Value) : W.grownBy (W.setCell ⟨b, 0, none⟩ v) (some b) :=
  ⟨rfl, rfl, rfl, by show _ ≤ (W.heap.modify _ _).size; rw [Array.size_modify]; exact Nat.le_refl _, fun k _ hk => Below.heap_setCell _ _ _ k (fun e => hk (by rw [e]))⟩
theorem cell_set_same {W : World} {b : Nat} {u v : Value} (h : W.cell? ⟨b, 0, none⟩ = some u) : (W.setCell ⟨b, 0, none⟩ v).cell? ⟨b, 0, none⟩ = some v := World.cell?_setCell_same' W _ v (by rw [h]; rfl)
theorem cell_set_off {W : World} {b : Nat} {u v : Value} (h : W.cell? ⟨b, 1, none⟩ = some u) : (W.setCell ⟨b, 0, none⟩ v).cell? ⟨b, 1, none⟩ = some u := by
  simp [go_sem, h]
/-- a group is made -/
theorem Mid.group {w W0 W6 w3 w4 : World} {g6 g11 g16 cap16 : Nat} {u9 v3 : Value} {t most base : Nat} {now : List (Nat × Nat)} {kss : List (List Nat)} {q f : Nat} {nx : List (Nat × Nat)} {os : List (List Nat)} {x : Nat × Nat} {ks : List Nat} {gs : List (Nat × Nat)} {o : Obj}
    (hM : Mid w W0 g6 g11 u9 t most base now kss q f nx os) (hg : W0.grownBy W6 none) (hI : Ints w.heap.size W6 g16 cap16 ks) (hg16 : W0.heap.size ≤ g16) (hwg : g6 < g11) (hwb : w.heap.size ≤ g11)
    (h1 : gs.length = (kss ++ os).length) (h2 : W0.ownsRow w.heap.size 50 1 u9 (kss ++ os).length (nodeVals gs (kss ++ os)))
    (h3 : ∀ (i : Nat) (g : Nat × Nat) (ks : List Nat), gs[i]? = some g → (kss ++ os)[i]? = some ks → Ints w.heap.size W0 g.1 g.2 ks) (h4 : ∀ (i j : Nat) (a b : Nat × Nat), gs[i]? = some a → gs[j]? = some b → i < j → a.1 < b.1)
    (hown3 : w3.ownsRow w.heap.size 50 1 v3 ((kss ++ os).length + 1) (nodeVals gs (kss ++ os) ++ [Value.slice (some ⟨g16, 0, none⟩) ks.length cap16])) (hgrow3 : W6.grownBy w3 u9.ownBlock)
    (hown4 : w4.ownsRow w.heap.size 59 2 (.slice (some ⟨g11, 0, none⟩) (nx.length + 1) now.length) (nx.length + 1) (itCells (nx ++ [(base + os.length, x.2)]))) (hgrow4 : (w3.alloc o).grownBy w4 (some g11))
    (hx : now[q]? = some x) (hf : f < q) (hc : ¬ (x.2 < t ∧ q + 1 - f < most ∧ q + 1 < now.length)) (hks : ks = ((now.take (q + 1)).drop f).map (·.1)) :
    Mid w w4 g6 g11 v3 t most base now kss (q + 1) (q + 1) (nx ++ [(base + os.length, x.2)]) (os ++ [ks]) := by
  obtain ⟨hB, ⟨cap6, h6⟩, h11, hO, heq, hnk, hsum⟩ := hM.grown hg
  have hu9 := own_keep h2 hg (fun _ _ e => by cases e)
  have hn6 : ∀ k, u9.ownBlock = some k → k ≠ g6 := fun k hk e => own_unlike hu9 h6 (by decide) k hk (by rw [e]; rfl)
  have hn11 : ∀ k, u9.ownBlock = some k → k ≠ g11 := fun k hk e => own_unlike hu9 h11 (by decide) k hk (by rw [e]; rfl)
  have hnI : ∀ g cap l, Ints w.heap.size W6 g cap l → u9.ownBlock ≠ some g := fun g cap l hi e => own_unlike hu9 hi (by decide) g e rfl
  have hnI' : ∀ g cap l, Ints w.heap.size w3 g cap l → g11 ≠ g := fun g cap l hi e => own_unlike (h11.grown hgrow3 (fun e => hn11 g11 e rfl)) hi (by decide) g11 rfl (by rw [e]; rfl)
  have hal := World.grownBy_alloc w3 o none
  have hB3 : Below w.heap.size w w3 := hB.grown hgrow3 hB.size (fun k hk => (World.ownsRow.lt hu9 k hk).1)
  have hB3' := hB3.grown hal hB3.size (fun _ e => by cases e)
  have h6' := (h6.grown hgrow3 (fun e => hn6 g6 e rfl)).grown hal (by simp)
  have hkey : ∀ g cap l, Ints w.heap.size W6 g cap l → Ints w.heap.size w4 g cap l := fun g cap l hi => by
    have a := hi.grown hgrow3 (hnI g cap l hi)
    exact (a.grown hal (by simp)).grown hgrow4 (fun e => by injection e with e; exact hnI' g cap l a e)
  have hlt : ∀ (i : Nat) (g : Nat × Nat), gs[i]? = some g → g.1 < g16 := fun i g hi => by
    obtain ⟨l, hl⟩ : ∃ l, (kss ++ os)[i]? = some l := ⟨_, List.getElem?_eq_getElem (by rw [← h1]; exact (List.getElem?_eq_some_iff.1 hi).1)⟩
    exact Nat.lt_of_lt_of_le (World.ownsRow.lt (h3 i g l hi hl) g.1 rfl).2 hg16
  refine ⟨below_of_only hB3' hgrow4 hB3'.size hwb, ⟨cap6, h6'.grown hgrow4 (by intro e; injection e with e; omega)⟩, ?_, ?_, ?_, ?_, ?_⟩
  · unfold Items; rw [List.length_append]; exact hown4
  · refine ⟨gs ++ [(g16, cap16)], ?_, ?_, ?_, ?_⟩
    · simp at h1 ⊢; omega
    · rw [← List.append_assoc, nodeVals_append _ _ h1, show (kss ++ os ++ [ks]).length = (kss ++ os).length + 1 by rw [List.length_append]; rfl]
      have hv3 : ∀ k, v3.ownBlock = some k → k ≠ g11 := fun k hk e => own_unlike hown3 (h11.grown hgrow3 (fun e => hn11 g11 e rfl)) (by decide) k hk (by rw [e]; rfl)
      exact own_keep (own_keep hown3 hal (fun _ _ e => by cases e)) hgrow4 (fun k hk e => by injection e with e; exact hv3 k hk e.symm)
    · intro i g l hg' hl
      rw [← List.append_assoc] at hl
      by_cases hi : i < gs.length
      · rw [List.getElem?_append_left hi] at hg'
        rw [List.getElem?_append_left (by rw [← h1]; exact hi)] at hl
        exact hkey _ _ _ ((h3 i g l hg' hl).grown hg (by simp))
      · rw [List.getElem?_append_right (by omega)] at hg'
        rw [List.getElem?_append_right (by omega), ← h1] at hl
        have hz : i - gs.length = 0 := by have := (List.getElem?_eq_some_iff.1 hg').1; simp at this; omega
        rw [hz] at hg' hl
        simp at hg' hl
        subst hg' hl
        exact hkey _ _ _ hI
    · intro i j a b ha hb hij
      by_cases hj : j < gs.length
      · rw [List.getElem?_append_left (by omega)] at ha
        rw [List.getElem?_append_left hj] at hb
        exact h4 i j a b ha hb hij
      · rw [List.getElem?_append_right (by omega)] at hb
        have hz : j - gs.length = 0 := by have := (List.getElem?_eq_some_iff.1 hb).1; simp at this; omega
        rw [hz] at hb
        simp at hb
        subst hb
        rw [List.getElem?_append_left (by omega)] at ha
        exact hlt i a ha
  · rw [hks]; exact eq_group heq hx hf hc
  · simp; omega
  · simp; omega

def lenS : Value → Nat
  | .slice _ n _ => n
  | _ => 0

set_option maxRecDepth 100000 in
set_option maxHeartbeats 4000000 in
theorem tiers_any (a0 : Option Addr) (len0 cap0 : Nat) (lv : List Nat) (most : Nat) (w : World) (hl : Levels w a0 len0 cap0 lv) (h1 : len0 ≤ 1048576) (h2 : 2 ≤ most) (h3 : most ≤ 1024) :
    Calls Try.prog 16 #[.slice a0 len0 cap0, .int .i64 most] w fun e w' => ∃ v, e = .returned (.tuple #[v, .int .i64 0]) ∧ Below w.heap.size w w' ∧ Nodes w.heap.size w' v (tiersA most 1 len0 (enumF lv)) := by
  obtain ⟨hlen, hlc, hcm, h32, hat⟩ := hl
  unfold maxLen at hcm
  obtain ⟨i0, hi0, hz0, hs0, hy0⟩ := info_parts item_info
  obtain ⟨i1, hi1, hz1, hs1, hy1⟩ := info_parts int_info
  obtain ⟨i2, hi2, hz2, hs2, hy2⟩ := info_parts node_info
  have hmk := fun W c h => make_items W c h
  have hmk0 := fun W => make_items W len0 h1
  have hq1 : decide ((1048576 : Int) < (len0 : Int)) = false := decide_eq_false (by omega)
  have hq2 : decide ((most : Int) < 2) = false := decide_eq_false (by omega)
  have hq3 : decide ((1024 : Int) < (most : Int)) = false := decide_eq_false (by omega)
  have HLEN := Lib.hid hlen; have H32 := Lib.hid h32; have HAT := Lib.hid hat; have HMK := Lib.hid hmk
  clear hlen h32 hat hmk
  go_enter Try.func16, Try.ntmps16
  go_wp2_with fail
  have hi0' := items_new w.heap.size w len0 (Nat.le_refl _) h1
  have HI0 := Lib.hid hi0'; clear hi0'
  go_loopw [6, 7, 8, 35] (fun v _ _ i wr => ∃ k : Nat, v = .slice (some ⟨w.heap.size, 0, none⟩) k len0 ∧ i = .int .i64 k ∧ k ≤ len0 ∧ Hid (Below w.heap.size w wr ∧ Items w.heap.size wr w.heap.size len0 ((enumF lv).take k))) (fun _ _ _ i _ => len0 - (intOf i).toNat)
  case atStart => exact ⟨0, rfl, rfl, Nat.zero_le _, (Below.refl _ _).alloc (Nat.le_refl _) _, HI0.out⟩
  case round =>
    obtain ⟨k, rfl, rfl, hk, H⟩ := hrel
    by_cases hlt : k < len0
    · obtain ⟨x, hx⟩ : ∃ x, lv[k]? = some x := ⟨_, List.getElem?_eq_getElem (by rw [HLEN.out]; exact hlt)⟩
      obtain ⟨b, off, rfl, hb, hc⟩ := HAT.out k x hx
      have hx32 := H32.out x (List.mem_of_getElem? hx)
      have hc2 : wr.cell? ⟨b, off + k, none⟩ = some (.int .i64 (x : Int)) := by rw [H.out.1.cell hb]; exact hc
      have hlk : ((enumF lv).take k).length = k := by rw [List.length_take, enumF_len, HLEN.out]; omega
      have hown : wr.ownsRow w.heap.size 59 2 (.slice (some ⟨w.heap.size, 0, none⟩) k len0) k (itCells ((enumF lv).take k)) := by
        have := H.out.2; unfold Items at this; rwa [hlk] at this
      have hnw := news wr #[.int .i64 k, .int .i64 x] 59 wr.heap.size rfl
      have HOW := Lib.hid (World.ownsRow.alloc hown (.cells #[.int .i64 k, .int .i64 x] 59)); have HNW := Lib.hid hnw; have HX := Lib.hid hx; have HLK := Lib.hid hlk
      have hbw := H.out.1.size
      clear hown hnw hx hlk hc
      go_wp2_with (at_builtin; refine wpList_append_own_spare _ rfl _ _ 57 rfl w.heap.size 59 i0 2 Try.underlying57 hi0 hs0 w.heap.size k len0 _ rfl HOW.out ⟨wr.heap.size, 0, none⟩ 1 1 [.int .i64 k, .int .i64 x] rfl rfl HNW.out (by intro u hu; simp at hu; rcases hu with rfl | rfl <;> rfl) (by omega) ?_; intro w3 hown3 hgrow3; have HO := Lib.hid hown3; have HG := Lib.hid hgrow3; clear hown3 hgrow3)
      go_roundw
      case rel =>
        refine ⟨k + 1, rfl, by go_num, by omega, below_of_only (H.out.1.alloc hbw _) HG.out (by simp; omega) (Nat.le_refl _), ?_⟩
        have e : (enumF lv).take (k + 1) = (enumF lv).take k ++ [(k, x)] := by rw [List.take_add_one, enumF_get lv k x HX.out]; rfl
        unfold Items
        rw [e, itCells_append, List.length_append, HLK.out]
        exact HO.out
      case measure => simp [intOf]; omega
    · obtain rfl : k = len0 := by omega
      have hfull : (enumF lv).take k = enumF lv := List.take_of_length_le (by rw [enumF_len, HLEN.out]; omega)
      rw [hfull] at H
      clear hfull hmk0
      have hel : (enumF lv).length = k := by rw [enumF_len, HLEN.out]
      have h32e := enumF_lev lv H32.out
      have hst : Below w.heap.size w wr ∧ ∃ (base : Nat) (now : List (Nat × Nat)) (kss : List (List Nat)), now.length = k ∧ Items w.heap.size wr w.heap.size k now ∧ Nodes w.heap.size wr (.slice none 0 0) kss ∧ tiersA most 1 k (enumF lv) = kss ++ tiersA most 1 base now ∧ (∀ x ∈ now, x.2 ≤ 32) ∧ base = k + kss.length ∧ now.length + kss.length ≤ k :=
        ⟨H.out.1, k, enumF lv, [], hel, H.out.2, nodes_start _ _, rfl, h32e, rfl, by rw [hel]; exact Nat.le_refl _⟩
      have HST := Lib.hid hst; clear hst H HI0
      go_wp2_with fail
      go_loopw [6, 9, 10, 11, 12, 13, 14, 15, 16, 18] (fun v6 v9 t _ _ _ _ _ _ _ wr => ∃ tt g6 cap6 L : Nat, v6 = .slice (some ⟨g6, 0, none⟩) L cap6 ∧ t = .int .i64 tt ∧ 1 ≤ tt ∧ tt + meas tt L ≤ 34 + k ∧ L ≤ k ∧ Hid (Below w.heap.size w wr ∧ ∃ (base : Nat) (now : List (Nat × Nat)) (kss : List (List Nat)), now.length = L ∧ Items w.heap.size wr g6 cap6 now ∧ Nodes w.heap.size wr v9 kss ∧ tiersA most 1 k (enumF lv) = kss ++ tiersA most tt base now ∧ (∀ x ∈ now, x.2 ≤ 32) ∧ base = k + kss.length ∧ now.length + kss.length ≤ k)) (fun v6 _ t _ _ _ _ _ _ _ _ => meas (intOf t).toNat (lenS v6))
      case atStart => exact ⟨1, w.heap.size, k, k, rfl, rfl, by omega, by unfold meas; omega, Nat.le_refl _, HST.out⟩
      case round =>
        obtain ⟨tt, g6, cap6, L, rfl, rfl, ht1, htm, hLk, H⟩ := hrel
        have htb : tt ≤ 34 + k := by omega
        obtain ⟨hB, base, now, kss, hnl, hit, hno, hC, hl32, hbase, hsum⟩ := H.out
        have HB := Lib.hid hB; have HNL := Lib.hid hnl; have HIT := Lib.hid hit; have HNO := Lib.hid hno; have HC := Lib.hid hC; have HL32 := Lib.hid hl32; have HBASE := Lib.hid hbase; have HSUM := Lib.hid hsum
        clear hB hnl hit hno hC hl32 hbase hsum H HST
        by_cases hL : 1 < L
        · have hL1 : decide ((1 : Int) < (L : Int)) = true := decide_eq_true (by omega)
          have hmkL := fun W => HMK.out W L (by omega)
          have hcap6 := HIT.out.cap
          rw [HNL.out] at hcap6
          have hgg := HIT.out.lt
          have hbz := HB.out.size
          have hM0 : Mid w (wr.alloc (.cells (madeCells #[Value.int .i64 0, Value.int .i64 0] (L * 2)) 59)) g6 wr.heap.size u9 tt most base now kss 0 0 [] [] :=
            ⟨HB.out.alloc hbz _, ⟨cap6, HIT.out.alloc _⟩, by rw [HNL.out]; exact items_new _ _ _ hbz (by omega), by rw [List.append_nil]; exact HNO.out.alloc _, eq_start, Nat.le_refl _, Nat.le_refl _⟩
          have HM0 := Lib.hid hM0; clear hM0
          obtain ⟨g11, hg11⟩ : ∃ g11, wr.heap.size = g11 := ⟨_, rfl⟩
          have hg611 : g6 < g11 := by omega
          have hwg : w.heap.size ≤ g11 := by omega
          go_wp2_with fail
          rw [hg11] at HM0
          clear hmkL hg11
          generalize wr.alloc (.cells (madeCells #[Value.int .i64 0, Value.int .i64 0] (L * 2)) 59) = W0 at *
          go_loopw [9, 11, 12, 13, 14, 15, 16, 18, 63] (fun v9 v11 fr _ _ _ _ _ i wr => ∃ q f j : Nat, i = .int .i64 q ∧ q ≤ L ∧ fr = .int .i64 f ∧ f ≤ q ∧ v11 = .slice (some ⟨g11, 0, none⟩) j L ∧ Hid (∃ nx os, nx.length = j ∧ Mid w wr g6 g11 v9 tt most base now kss q f nx os)) (fun _ _ _ _ _ _ _ _ i _ => L - (intOf i).toNat)
          case atStart => exact ⟨0, 0, 0, rfl, Nat.zero_le _, rfl, Nat.le_refl _, rfl, [], [], rfl, HM0.out⟩
          case round =>
            obtain ⟨q, f, j, rfl, hq, rfl, hf, rfl, H⟩ := hrel
            obtain ⟨nx, os, hj, hM⟩ := H.out
            have HJ := Lib.hid hj; have HM := Lib.hid hM; clear hj hM H
            by_cases hqL : q < L
            · obtain ⟨x, hx⟩ : ∃ x, now[q]? = some x := ⟨_, List.getElem?_eq_getElem (by rw [HNL.out]; exact hqL)⟩
              obtain ⟨cap7, hI7⟩ := HM.out.now_
              obtain ⟨p1, p2⟩ := hI7.cells q x hx
              have hx32 := HL32.out x (List.mem_of_getElem? hx)
              have hg6w := hI7.lt
              have hgxl : ((now.take q).drop f).length = q - f := by rw [List.length_drop, List.length_take, HNL.out]; omega
              obtain ⟨xn, xl⟩ := x
              dsimp only at p1 p2 hx32
              have HX := Lib.hid hx; have HGL := Lib.hid hgxl; clear hx hgxl hI7
              obtain ⟨W1, hW1⟩ : ∃ W1, wr.alloc (.cells #[.int .i64 xn, .int .i64 xl] 59) = W1 := ⟨_, rfl⟩
              have k0 : W1.cell? ⟨wr.heap.size, 0, none⟩ = some (.int .i64 (xn : Int)) := by rw [← hW1, (Blk.new wr _ _).cell]; rfl
              have k1 : W1.cell? ⟨wr.heap.size, 1, none⟩ = some (.int .i64 (xl : Int)) := by rw [← hW1, (Blk.new wr _ _).cell]; rfl
              have kf : W1.frozen? ⟨wr.heap.size, 0, none⟩ = false := by rw [← hW1]; exact (Blk.new wr _ _).frozen 0
              have HW1 := Lib.hid hW1
              go_upto_region 21 with (fail)
              clear hW1
              obtain ⟨b14, hb14⟩ : ∃ b14, wr.heap.size = b14 := ⟨_, rfl⟩
              rw [hb14] at k0 k1 kf hg6w
              obtain ⟨n1, hn1⟩ : ∃ n1 : Nat, (q : Int) + 1 - (f : Int) = (n1 : Int) := ⟨q + 1 - f, by omega⟩
              rw [hb14, hn1]
              have hn1' : n1 = q + 1 - f := by omega
              have hWs : b14 < W1.heap.size := by rw [← HW1.out, ← hb14]; simp
              have hM1 : Mid w W1 g6 g11 u9 tt most base now kss q f nx os := by rw [← HW1.out]; exact HM.out.grown (World.grownBy_alloc wr _ none)
              have hMlt : g11 < b14 := by rw [← hb14]; exact HM.out.nxt.lt.2
              have HM1 := Lib.hid hM1; have HN1 := Lib.hid hn1'; have HB14 := Lib.hid hb14
              have HM0 := Lib.hid HM.out; have HGW := Lib.hid (show wr.grownBy W1 none by rw [← HW1.out]; exact World.grownBy_alloc wr _ none)
              clear hM1 hn1 hn1' hb14 HM HW1
              go_cut [87] from 72 to 87 (fun v wx => v = .bool (decide (xl < tt ∧ n1 < most ∧ q + 1 < L)) ∧ wx = W1)
              case first =>
                by_cases c1 : xl < tt
                · by_cases c2 : n1 < most
                  · by_cases c3 : q + 1 < L
                    · go_wp2_with fail
                      go_meet
                      case rel => exact ⟨by rw [decide_eq_true (show xl < tt ∧ n1 < most ∧ q + 1 < L from ⟨c1, c2, c3⟩), decide_eq_true (by omega)], rfl⟩
                    · go_wp2_with fail
                      go_meet
                      case rel => exact ⟨by rw [decide_eq_false (show ¬ (xl < tt ∧ n1 < most ∧ q + 1 < L) from fun h => c3 h.2.2), decide_eq_false (by omega)], rfl⟩
                  · go_wp2_with fail
                    go_meet
                    case rel => exact ⟨by rw [decide_eq_false (show ¬ (xl < tt ∧ n1 < most ∧ q + 1 < L) from fun h => c2 h.2.1)], rfl⟩
                · go_wp2_with fail
                  go_meet
                  case rel => exact ⟨by rw [decide_eq_false (show ¬ (xl < tt ∧ n1 < most ∧ q + 1 < L) from fun h => c1 h.1)], rfl⟩
              case rest =>
              obtain ⟨rfl, rfl⟩ := hcut
              have hq4 : q + 1 ≤ 1048576 := by omega
              have hown11 : wc.ownsRow w.heap.size 59 2 (.slice (some ⟨g11, 0, none⟩) j L) j (itCells nx) := by
                have := HM1.out.nxt; unfold Items at this; rwa [HJ.out, HNL.out] at this
              have HOW := Lib.hid hown11; clear hown11
              have hjq : j ≤ q := by rw [← HJ.out]; exact HM1.out.nk
              by_cases hc : xl < tt ∧ n1 < most ∧ q + 1 < L
              · rw [decide_eq_true hc]
                go_wp2_with fail
                go_roundw
                case rel => exact ⟨q + 1, f, j, by go_num, by omega, rfl, by omega, rfl, nx, os, HJ.out, { HM1.out with eq := eq_on HM1.out.eq HX.out hf (by have := HN1.out; have := HNL.out; rw [HNL.out, ← HN1.out]; exact hc), nk := by have := HM1.out.nk; omega, sum := by have := HM1.out.sum; omega }⟩
                case measure => simp [intOf]; omega
              · have HC2 := Lib.hid hc
                rw [decide_eq_false hc]
                clear hc
                by_cases hgr : f < q
                · have hn2 : decide ((1 : Int) < (n1 : Int)) = true := decide_eq_true (by have := HN1.out; omega)
                  have hmn := make_ints wc n1 (by have := HN1.out; omega)
                  obtain ⟨g16, hg16⟩ : ∃ g16, wc.heap.size = g16 := ⟨_, rfl⟩
                  have hin := ints_new w.heap.size wc n1 (by omega) (by have := HN1.out; omega)
                  have hgn : wc.grownBy (wc.alloc (.cells (madeCells #[Value.int .i64 0] n1) 3)) none := World.grownBy_alloc wc _ none
                  have hL4 : Hid (Ints w.heap.size (wc.alloc (.cells (madeCells #[Value.int .i64 0] n1) 3)) g16 n1 ((((now.take (q + 1)).drop f).map (·.1)).take 0) ∧ wc.grownBy (wc.alloc (.cells (madeCells #[Value.int .i64 0] n1) 3)) none) := ⟨by rw [List.take_zero, ← hg16]; exact hin, hgn⟩
                  clear hin hgn
                  have hcapq : q + 1 ≤ cap6 := by omega
                  have hc1 : ((f : Int)) ≤ (q : Int) + 1 := by omega
                  obtain ⟨gs, r1, r2, r3, r4⟩ := HM0.out.out
                  obtain ⟨n9, hn9⟩ : ∃ n9, (kss ++ os).length = n9 := ⟨_, rfl⟩
                  obtain ⟨a9, cap9, rfl⟩ := own_val r2 hn9
                  have hn9b : n9 ≤ k + k := by have := HM0.out.sum; have := HSUM.out; rw [← hn9, List.length_append]; omega
                  have N9 := Lib.hid hn9
                  have R2n := Lib.hid (by rw [hn9] at r2; exact r2 : wr.ownsRow w.heap.size 50 1 (.slice a9 n9 cap9) n9 (nodeVals gs (kss ++ os)))
                  have R1 := Lib.hid r1; have R2 := Lib.hid r2; have R3 := Lib.hid r3; have R4 := Lib.hid r4
                  clear r1 r2 r3 r4 hn9
                  go_upto_region 25 with (fail)
                  rw [← HN1.out]
                  have hls : wc.heap.size ≤ g16 := by omega
                  have hn1b : n1 ≤ 1048576 := by have := HN1.out; omega
                  have hksl : (((now.take (q + 1)).drop f).map (·.1)).length = n1 := by rw [List.length_map, List.length_drop, List.length_take, HNL.out]; have := HN1.out; omega
                  obtain ⟨ks, hks⟩ : ∃ ks, ((now.take (q + 1)).drop f).map (·.1) = ks := ⟨_, rfl⟩
                  rw [hks] at hL4 hksl
                  have HKS := Lib.hid hks; have HKL := Lib.hid hksl
                  clear hks hksl
                  go_loopw [16, 18, 100] (fun v16 _ i wr => ∃ m : Nat, i = .int .i64 m ∧ m ≤ n1 ∧ v16 = .slice (some ⟨g16, 0, none⟩) m n1 ∧ Hid (Ints w.heap.size wr g16 n1 (ks.take m) ∧ wc.grownBy wr none)) (fun _ _ i _ => n1 - (intOf i).toNat)
                  case atStart => exact ⟨0, rfl, Nat.zero_le _, rfl, hL4⟩
                  case round =>
                    obtain ⟨m, rfl, hm, rfl, H⟩ := hrel
                    obtain ⟨hI, hG4⟩ := H.out
                    have HI := Lib.hid hI; have HG4 := Lib.hid hG4; clear hI hG4 H
                    have hM4 := HM1.out.grown HG4.out
                    obtain ⟨capn, hIt⟩ := hM4.now_
                    have hwz := hM4.below.size
                    have HIT4 := Lib.hid hIt; clear hIt hM4
                    by_cases hmn : m < n1
                    · obtain ⟨y, hy⟩ : ∃ y, now[f + m]? = some y := ⟨_, List.getElem?_eq_getElem (by rw [HNL.out]; have := HN1.out; omega)⟩
                      obtain ⟨y1, y2⟩ := HIT4.out.cells (f + m) y hy
                      have hkm : ks[m]? = some y.1 := by
                        rw [← HKS.out, List.getElem?_map, List.getElem?_drop, List.getElem?_take_of_lt (by have := HN1.out; omega), hy]; rfl
                      rw [Nat.add_mul] at y1 y2
                      obtain ⟨yn, yl⟩ := y
                      dsimp only at y1 y2 hkm
                      have hlk : (ks.take m).length = m := by rw [List.length_take, HKL.out]; omega
                      have hown : wr.ownsRow w.heap.size 3 1 (.slice (some ⟨g16, 0, none⟩) m n1) m ((ks.take m).map (fun n : Nat => Value.int .i64 (n : Int))) := by
                        have := HI.out; unfold Ints at this; rwa [hlk] at this
                      have hG5 := World.grownBy_alloc wr (.cells #[.int .i64 yn, .int .i64 yl] 59) none
                      have hG6 := World.grownBy_alloc (wr.alloc (.cells #[.int .i64 yn, .int .i64 yl] 59)) (.cells #[.int .i64 yn] 3) none
                      have hown2 := own_keep (own_keep hown hG5 (fun _ _ e => by cases e)) hG6 (fun _ _ e => by cases e)
                      have HOW5 := Lib.hid hown2
                      have HG6 := Lib.hid (HG4.out.trans (hG5.trans hG6))
                      have hnw := news (wr.alloc (.cells #[.int .i64 yn, .int .i64 yl] 59)) #[.int .i64 yn] 3 (wr.heap.size + 1) (by simp)
                      have HNW := Lib.hid hnw; have HKM := Lib.hid hkm; have HLK := Lib.hid hlk
                      clear hown hG5 hG6 hown2 hnw hkm hlk
                      go_wp2_with (at_builtin; refine wpList_append_own_spare _ rfl _ _ 40 rfl w.heap.size 3 i1 1 Try.underlying40 hi1 hs1 g16 m n1 _ rfl HOW5.out ⟨wr.heap.size + 1, 0, none⟩ 1 1 [.int .i64 yn] rfl rfl HNW.out (by intro u hu; simp at hu; subst hu; rfl) (by omega) ?_; intro w3 hown3 hgrow3; have HO := Lib.hid hown3; have HG := Lib.hid hgrow3; clear hown3 hgrow3)
                      go_roundw
                      case rel =>
                        refine ⟨m + 1, by go_num, by omega, rfl, ?_, grown_new HG6.out hls HG.out⟩
                        have e : ks.take (m + 1) = ks.take m ++ [yn] := by rw [List.take_add_one, HKM.out]; rfl
                        unfold Ints
                        rw [e, List.map_append, List.length_append, HLK.out]
                        exact HO.out
                      case measure => simp [intOf]; omega
                    · obtain rfl : n1 = m := by omega
                      have hwlt : b14 < wr.heap.size := Nat.lt_of_lt_of_le hWs HG4.out.size
                      have k0' : wr.cell? ⟨b14, 0, none⟩ = some (.int .i64 (xn : Int)) := HG4.out.cell k0 (by simp)
                      have k1' : wr.cell? ⟨b14, 1, none⟩ = some (.int .i64 (xl : Int)) := HG4.out.cell k1 (by simp)
                      have kf' : wr.frozen? ⟨b14, 0, none⟩ = false := by rw [World.frozen?_of_block (HG4.out.block b14 hWs (by simp))]; exact kf
                      clear k0 k1 kf
                      have hG5 := grown_new (HGW.out.trans HG4.out) (Nat.le_of_eq HB14.out) (grownBy_set wr b14 (.int .i64 ((k : Int) + (n9 : Int))))
                      have s0 : (wr.setCell ⟨b14, 0, none⟩ (.int .i64 ((k : Int) + (n9 : Int)))).cell? ⟨b14, 0, none⟩ = some (.int .i64 ((k : Int) + (n9 : Int))) := cell_set_same k0'
                      have s1 : (wr.setCell ⟨b14, 0, none⟩ (.int .i64 ((k : Int) + (n9 : Int)))).cell? ⟨b14, 1, none⟩ = some (.int .i64 (xl : Int)) := cell_set_off k1'
                      have hI5 : Ints w.heap.size (wr.setCell ⟨b14, 0, none⟩ (.int .i64 ((k : Int) + (n9 : Int)))) g16 n1 ks := by
                        have := HI.out
                        rw [List.take_of_length_le (by rw [HKL.out]; exact Nat.le_refl _)] at this
                        exact this.grown (grownBy_set wr b14 _) (by intro e; injection e with e; omega)
                      obtain ⟨W5, hW5⟩ : ∃ W5, wr.setCell ⟨b14, 0, none⟩ (.int .i64 ((k : Int) + (n9 : Int))) = W5 := ⟨_, rfl⟩
                      have hs5 : b14 < W5.heap.size := by rw [← hW5]; simp; exact hwlt
                      rw [hW5] at hG5 s0 s1 hI5
                      have hG6 := hG5.trans (World.grownBy_alloc W5 (.cells #[Value.slice (some ⟨g16, 0, none⟩) n1 n1] 50) none)
                      have hO9 := own_keep R2.out hG6 (fun _ _ e => by cases e)
                      rw [N9.out] at hO9
                      have hnw := news W5 #[Value.slice (some ⟨g16, 0, none⟩) n1 n1] 50 W5.heap.size rfl
                      have hb9 : ∀ g, (Value.slice a9 n9 cap9).ownBlock = some g → g < b14 := fun g hg => by rw [← HB14.out]; exact (World.ownsRow.lt R2.out g hg).2
                      have hO11 : (W5.alloc (.cells #[Value.slice (some ⟨g16, 0, none⟩) n1 n1] 50)).ownsRow w.heap.size 59 2 (.slice (some ⟨g11, 0, none⟩) j L) j (itCells nx) := by
                        have := own_keep HM0.out.nxt hG6 (fun _ _ e => by cases e)
                        rwa [HJ.out, HNL.out] at this
                      have hF3 : ∀ v3 w3, w3.ownsRow w.heap.size 50 1 v3 (n9 + 1) (nodeVals gs (kss ++ os) ++ [Value.slice (some ⟨g16, 0, none⟩) n1 n1]) → (W5.alloc (.cells #[Value.slice (some ⟨g16, 0, none⟩) n1 n1] 50)).grownBy w3 (Value.slice a9 n9 cap9).ownBlock →
                          w3.cell? ⟨b14, 0, none⟩ = some (.int .i64 ((k : Int) + (n9 : Int))) ∧ w3.cell? ⟨b14, 1, none⟩ = some (.int .i64 (xl : Int)) ∧ (w3.alloc (.cells #[.int .i64 ((k : Int) + (n9 : Int)), .int .i64 xl] 59)).ownsRow w.heap.size 59 2 (.slice (some ⟨g11, 0, none⟩) j L) j (itCells nx) := by
                        intro v3 w3 ho hg
                        have hne : some b14 ≠ (Value.slice a9 n9 cap9).ownBlock := fun e => Nat.lt_irrefl _ (hb9 b14 e.symm)
                        exact ⟨hg.cell ((World.grownBy_alloc W5 _ none).cell s0 (by simp)) hne, hg.cell ((World.grownBy_alloc W5 _ none).cell s1 (by simp)) hne, own_keep (own_keep hO11 hg (fun k hk e => own_unlike hO9 hO11 (by decide) k e hk)) (World.grownBy_alloc w3 _ none) (fun _ _ e => by cases e)⟩
                      have hI6 := hI5.alloc (.cells #[Value.slice (some ⟨g16, 0, none⟩) n1 n1] 50)
                      have hB6 := (HM0.out.grown hG6).below.size
                      have HG6 := Lib.hid hG6; have HO9 := Lib.hid hO9; have HNW := Lib.hid hnw; have HF3 := Lib.hid hF3; have HI6 := Lib.hid hI6; have HB6 := Lib.hid hB6
                      have HNN := Lib.hid (fun w3 => news w3 #[.int .i64 ((k : Int) + (n9 : Int)), .int .i64 xl] 59 w3.heap.size rfl)
                      clear hG5 s0 s1 hI5 hG6 hO9 hnw hb9 hO11 hF3 hI6 hB6
                      go_wp2_with (at_builtin; first
                        | (refine wpList_append_own _ rfl _ _ 45 rfl w.heap.size 50 i2 (.agg #[.slice none 0 0]) 1 24 Try.underlying45 hi2 hz2 hs2 hy2 rfl (by decide) (.slice a9 n9 cap9) n9 _ rfl HO9.out ⟨W5.heap.size, 0, none⟩ 1 1 [Value.slice (some ⟨g16, 0, none⟩) n1 n1] rfl rfl HNW.out (by intro u hu; simp at hu; subst hu; rfl) (by unfold maxLen; omega) (by omega) HB6.out ?_; intro v3 w3 hown3 hgrow3 _; obtain ⟨d1, d2, d3⟩ := HF3.out v3 w3 hown3 hgrow3; have HOV := Lib.hid hown3; have HGV := Lib.hid hgrow3; have HD3 := Lib.hid d3; clear hown3 hgrow3 d3)
                        | (refine wpList_append_own_spare _ rfl _ _ 57 rfl w.heap.size 59 i0 2 Try.underlying57 hi0 hs0 g11 j L _ rfl HD3.out ⟨w3.heap.size, 0, none⟩ 1 1 [.int .i64 ((k : Int) + (n9 : Int)), .int .i64 xl] rfl rfl (HNN.out w3) (by intro u hu; simp at hu; rcases hu with rfl | rfl <;> rfl) (by omega) ?_; intro w4 hown4 hgrow4; have HO := Lib.hid hown4; have HG := Lib.hid hgrow4; clear hown4 hgrow4))
                      go_roundw
                      case rel =>
                        have hkn : k + n9 = base + os.length := by rw [← N9.out, List.length_append, HBASE.out]; omega
                        have hO4 := HO.out
                        refine ⟨q + 1, q + 1, j + 1, by go_num, by omega, by go_num, Nat.le_refl _, rfl, nx ++ [(base + os.length, xl)], os ++ [ks], by rw [List.length_append, HJ.out]; rfl, ?_⟩
                        refine Mid.group (x := (xn, xl)) (cap16 := n1) (g16 := g16) HM0.out HG6.out HI6.out (by rw [HB14.out]; omega) hg611 hwg R1.out (by rw [N9.out]; exact R2n.out) R3.out R4.out (by rw [N9.out, HKL.out]; exact HOV.out) HGV.out ?_ HG.out HX.out hgr (by rw [HNL.out, ← HN1.out]; exact HC2.out) HKS.out.symm
                        rw [HJ.out, HNL.out, itCells_append, ← hkn]
                        exact hO4
                      case measure => simp [intOf]; omega
                  all_goals done
                · obtain rfl : f = q := by omega
                  have h11 : n1 = 1 := by have := HN1.out; omega
                  subst h11
                  have hnw := news wc #[.int .i64 xn, .int .i64 xl] 59 wc.heap.size rfl
                  have hgr2 := World.grownBy_alloc wc (.cells #[.int .i64 xn, .int .i64 xl] 59) none
                  have HNW := Lib.hid hnw; have HG2 := Lib.hid hgr2
                  have HOW2 := Lib.hid (World.ownsRow.alloc HOW.out (.cells #[.int .i64 xn, .int .i64 xl] 59))
                  clear hnw hgr2
                  go_wp2_with (at_builtin; refine wpList_append_own_spare _ rfl _ _ 57 rfl w.heap.size 59 i0 2 Try.underlying57 hi0 hs0 g11 j L _ rfl HOW2.out ⟨wc.heap.size, 0, none⟩ 1 1 [.int .i64 xn, .int .i64 xl] rfl rfl HNW.out (by intro u hu; simp at hu; rcases hu with rfl | rfl <;> rfl) (by omega) ?_; intro w3 hown3 hgrow3; have HO := Lib.hid hown3; have HG := Lib.hid hgrow3; clear hown3 hgrow3)
                  go_roundw
                  case rel =>
                    have hM2 := HM1.out.grown HG2.out
                    have hne6 : some g11 ≠ some g6 := by intro e; injection e with e; omega
                    obtain ⟨cap9, h69⟩ := hM2.now_
                    exact ⟨f + 1, f + 1, j + 1, by go_num, by omega, by go_num, Nat.le_refl _, rfl, nx ++ [(xn, xl)], os, by rw [List.length_append, HJ.out]; rfl,
                      { below := below_of_only hM2.below HG.out (by have := hM2.below.size; omega) hwg
                        now_ := ⟨cap9, h69.grown HG.out hne6⟩
                        nxt := by unfold Items; rw [List.length_append, HJ.out, HNL.out, itCells_append]; exact HO.out
                        out := hM2.out.grown HG.out (fun k hk e => own_unlike hM2.out.choose_spec.2.1 HOW2.out (by decide) k hk (by rw [← e]; rfl)) (fun g cap ks hi e => own_unlike hi HOW2.out (by decide) g rfl (by rw [← e]; rfl))
                        eq := eq_one HM1.out.eq HX.out rfl (by have := HN1.out; have := HC2.out; rw [HNL.out, ← HN1.out]; exact this)
                        nk := by rw [List.length_append, HJ.out]; simp; omega
                        sum := by have := HM1.out.sum; rw [List.length_append]; simp; omega }⟩
                  case measure => simp [intOf]; omega
            · obtain rfl : q = L := by omega
              have hM2 := HM.out
              have hpf := eq_end hM2.eq (by rw [HNL.out]; exact Nat.le_refl _)
              have hbig : 1 < now.length := by rw [HNL.out]; exact hL
              have hstep := tiersA_step most tt base now h2 HL32.out hbig
              have hlev := passF_lev tt most 32 now base [] HL32.out
              have hsm := passF_sum tt most now base []
              rw [hpf] at hstep hlev hsm
              have HST2 := Lib.hid hstep; have HLEV := Lib.hid hlev; have HSM := Lib.hid hsm
              have htt1 : (tt : Int) + 1 ≤ 1048611 := by omega
              clear hM2 hpf hstep hlev hsm
              go_wp2_with fail
              go_roundw
              case rel =>
                have hM2 := HM.out
                have hs1 := HST2.out
                have hs2 := HSM.out
                dsimp only at hs1 hs2
                rw [HJ.out, HNL.out] at hs1
                refine ⟨tt + 1, g11, q, j, rfl, by go_num, by omega, by have := hs1.2; omega, by have := hM2.nk; rw [HJ.out] at this; omega, hM2.below, base + os.length, nx, kss ++ os, HJ.out, by have := hM2.nxt; rwa [HNL.out] at this, hM2.out, ?_, HLEV.out, ?_, ?_⟩
                · rw [HC.out, hs1.1, List.append_assoc]
                · rw [HBASE.out, List.length_append]; omega
                · have := HSUM.out
                  rw [List.length_append]
                  simp at hs2
                  omega
              case measure =>
                have hs1 := HST2.out
                dsimp only at hs1
                rw [HJ.out, HNL.out] at hs1
                have := hs1.2
                simp [intOf, lenS]
                omega
        · have hfin : tiersA most 1 k (enumF lv) = kss := by rw [HC.out, tiersA_end most tt base now (by rw [HNL.out]; exact hL), List.append_nil]
          go_wp2_with fail
          go_ret2
          exact ⟨u9, rfl, HB.out, by rw [hfin]; exact HNO.out⟩
end Go.Proofs.Ytmnggemifcjflaa.Tier
