/-
  The walk over SplitCuts.
-/
import Derived.Test.YtmnggemifcjflaaDoorSplitG
namespace Go.Proofs.YtmnggemifcjflaaDoor.splitCuts
open Go.RowKit PlainP RollP OnesP SplitP
set_option linter.unusedVariables false

theorem own_slice_n {w : World} {B : Nat} {e : TypeId} {size : Nat} {v : Value} {k n : Nat} {xs : List Value} (h : w.ownsRow B e size v k xs) (hn : k = n) : ∃ a cap, v = .slice a n cap := by
  subst hn; exact own_slice h
/-- the worlds of the law, from the third cut on -/
structure S (w : World) (b f m : Int) (vw va vb : Value) (n : Nat) (cs : List (Nat × Nat)) (W : World) : Prop where
  below : Below w.heap.size w W
  plan : Blk W w.heap.size 33 #[.int .i64 b, .int .i64 f, .int .i64 m]
  want : PRow W vw cs
  mine : W.ownsRow w.heap.size 47 2 va n (chCells cs)
  other : PRow W vb cs
theorem S.low {w W W' : World} {b f m : Int} {vw va vb : Value} {n : Nat} {cs : List (Nat × Nat)} (h : S w b f m vw va vb n cs W) (k : Below W.heap.size W W') : S w b f m vw va vb n cs W' :=
  ⟨h.below.trans (k.mono h.below.size), h.plan.below k h.plan.lt, h.want.below k, own_kept h.mine (only_of_below k none) (fun q _ e => by cases e), h.other.below k⟩
theorem below_drewN' {B : Nat} {a w : World} (h : Below B a w) (n : Nat) : Below B a (w.drewN n) := ⟨h.os, h.tape, h.output, h.size, h.block⟩
theorem S.drewN {w W : World} {b f m : Int} {vw va vb : Value} {n : Nat} {cs : List (Nat × Nat)} (h : S w b f m vw va vb n cs W) (k : Nat) : S w b f m vw va vb n cs (W.drewN k) :=
  h.low (below_drewN' (Below.refl _ _) k)

/-- .. while the first list is written over -/
structure T (w : World) (vw va vb : Value) (n k : Nat) (cs : List (Nat × Nat)) (W : World) : Prop where
  below : Below w.heap.size w W
  want : PRow W vw cs
  other : PRow W vb cs
  mine : ∃ xs, W.ownsRow w.heap.size 47 2 va n xs ∧ (0 < k → xs[0]? = some (.int .i64 (-1)))

theorem set2 {W : World} {B ga cap n : Nat} {xs : List Value} (h : W.ownsRow B 47 2 (.slice (some ⟨ga, 0, none⟩) n cap) n xs) (k : Nat) (hk : k < n) (u v : Value) :
    W.frozen? ⟨ga, k * 2, none⟩ = false ∧ W.frozen? ⟨ga, k * 2 + 1, none⟩ = false ∧ (∃ c, W.cell? ⟨ga, k * 2, none⟩ = some c) ∧ (∃ c, W.cell? ⟨ga, k * 2 + 1, none⟩ = some c) ∧
    ((W.setCell ⟨ga, k * 2, none⟩ u).setCell ⟨ga, k * 2 + 1, none⟩ v).ownsRow B 47 2 (.slice (some ⟨ga, 0, none⟩) n cap) n ((xs.set (k * 2) u).set (k * 2 + 1) v) := by
  obtain ⟨hl, h⟩ := h
  rcases h with ⟨h0, -⟩ | ⟨g, cap', cur, hv, hb, hg, hnc, hcm, hcs, htake⟩
  · cases h0
  · cases hv
    have hblk : Blk W ga 47 cur := hg
    have hlt1 : k * 2 < cur.size := by omega
    have hlt2 : k * 2 + 1 < cur.size := by omega
    refine ⟨hblk.frozen _, hblk.frozen _, ⟨cur[k * 2], by rw [hblk.cell, Array.getElem?_eq_getElem hlt1]⟩, ⟨cur[k * 2 + 1], by rw [hblk.cell, Array.getElem?_eq_getElem hlt2]⟩, ?_⟩
    have h2 := (hblk.set_ (k * 2) u).set_ (k * 2 + 1) v
    refine ⟨by rw [List.length_set, List.length_set]; exact hl, .inr ⟨ga, cap, _, rfl, hb, h2, hnc, hcm, by simpa using hcs, ?_⟩⟩
    rw [Array.toList_setIfInBounds, Array.toList_setIfInBounds, ← htake, List.take_set, List.take_set]

/-- a row whose first number is below 0 is none of a list of chunks -/
theorem disj {W : World} {B : Nat} {e : TypeId} {v u : Value} {n : Nat} {xs : List Value} {cs : List (Nat × Nat)} (h : W.ownsRow B e 2 v n xs) (hx : xs[0]? = some (.int .i64 (-1))) (hp : PRow W u cs) (hc : 0 < cs.length) : ∀ q, u.ownBlock = some q → v.ownBlock ≠ some q := by
  intro q hq hv
  have h1 := World.ownsRow.cells h hv 0 _ hx
  rcases hp with ⟨rfl, rfl⟩ | ⟨g, cap, rfl, -, -, hi⟩
  · simp at hc
  · simp [Value.ownBlock] at hq
    subst hq
    obtain ⟨h2, -⟩ := hi 0 cs[0] (List.getElem?_eq_getElem hc)
    rw [Nat.zero_mul] at h2
    have e1 : (⟨g, 0, none⟩ : Addr).add 0 = ⟨g, 0, none⟩ := rfl
    rw [e1, h2] at h1
    injection h1 with h1
    injection h1 with _ h1
    omega
theorem PRow.grown' {w w' : World} {v : Value} {cs : List (Nat × Nat)} (h : PRow w v cs) {row : Option Nat} (k : w.grownBy w' row) (hne : 0 < cs.length → ∀ q, v.ownBlock = some q → row ≠ some q) : PRow w' v cs := by
  rcases Nat.eq_zero_or_pos cs.length with h0 | h0
  · obtain rfl := List.eq_nil_of_length_eq_zero h0
    rcases h with h | ⟨g, cap, rfl, hc, hg, hi⟩
    · exact .inl h
    · exact .inr ⟨g, cap, rfl, hc, Nat.lt_of_lt_of_le hg k.size, fun i c hx => by simp at hx⟩
  · exact h.grown k (hne h0)

set_option maxRecDepth 100000 in
set_option maxHeartbeats 4000000 in
theorem walk (b f m : Int) (s : ByteArray) (w : World) (wb : (Lit.int .i64 b).wf = true) (wf : (Lit.int .i64 f).wf = true) (wm : (Lit.int .i64 m).wf = true) (hs0 : s.size ≤ 140737488351232) (hT : Tab w) :
    Calls Tryd.prog 5 #[.agg #[.int .i64 b, .int .i64 f, .int .i64 m], .string s] w fun e w' => e = .returned (.bool true) ∧ Below w.heap.size w w' := by
  clear wb wf wm
  obtain ⟨i0, hi0, hz0, hs1, hy0⟩ := info_parts chunk_info
  have hB0 : Below w.heap.size w (w.alloc (.cells #[.int .i64 b, .int .i64 f, .int .i64 m] 33)) := (Below.refl _ _).alloc (Nat.le_refl _) _
  have hK0 := Blk.new w 33 #[.int .i64 b, .int .i64 f, .int .i64 m]
  have HB0 := Lib.hid hB0; have HK0 := Lib.hid hK0; clear hB0 hK0
  have HT := Lib.hid hT; clear hT
  go_enter Tryd.func5, Tryd.ntmps5
  by_cases hbig : 4000 < s.size
  · go_upto_region 3 with (fail)
    have htz : (s.extract 0 4000).size ≤ 4000 := by rw [ByteArray.size_extract]; omega
    generalize s.extract 0 4000 = t at *
    generalize (w.alloc (.cells #[.int .i64 b, .int .i64 f, .int .i64 m] 33)) = W0 at *
    obtain ⟨gp, hgp⟩ : ∃ gp, w.heap.size = gp := ⟨_, rfl⟩
    have hB0 := HB0.out
    have hK0 := HK0.out
    clear HB0 HK0
    have hrc := fun W => rcut_gen b f m t W (by omega)
    have hcc := fun W (h : Tab W) => cut_gen b f m t W (by omega) h
    have hin := fun W => in_any b f m W
    have hck := fun W => check_any b f m W
    have hrk := fun W => rcheck_any b f m W
    have hcl := csOf_len b f m (nats t)
    rw [nats_length] at hcl
    generalize csOf b f m (nats t) = cs at *
    generalize planE b f m = E at *
    obtain ⟨n, hn⟩ : ∃ n, cs.length = n := ⟨_, rfl⟩
    rw [hn] at hcl
    unfold planV at *
    have c0 : W0.cell? ⟨w.heap.size, 0, none⟩ = some (.int .i64 b) := by rw [hK0.cell]; rfl
    have c1 : W0.cell? ⟨w.heap.size, 1, none⟩ = some (.int .i64 f) := by rw [hK0.cell]; rfl
    have c2 : W0.cell? ⟨w.heap.size, 2, none⟩ = some (.int .i64 m) := by rw [hK0.cell]; rfl
    have HRC := Lib.hid hrc; have HCC := Lib.hid hcc; have HIN := Lib.hid hin; have HCK := Lib.hid hck; have HRK := Lib.hid hrk
    have HN := Lib.hid hn; have HGP := Lib.hid hgp
    have HB0 := Lib.hid hB0; have HK0 := Lib.hid hK0
    clear hrc hcc hin hck hrk hn hgp hB0 hK0
    go_wp2_with fail
    refine (HRC.out _).mono ?_
    rintro e w1 ⟨vw, rfl, hb, hc⟩
    have hB1 := HB0.out.trans (hb.mono HB0.out.size)
    have hK1 := HK0.out.below hb HK0.out.lt
    have hW1 := prow_of hc
    have hwlt := fun q hq => (World.ownsRow.lt hc q hq).2
    have c0 : w1.cell? ⟨w.heap.size, 0, none⟩ = some (.int .i64 b) := by rw [hK1.cell]; rfl
    have c1 : w1.cell? ⟨w.heap.size, 1, none⟩ = some (.int .i64 f) := by rw [hK1.cell]; rfl
    have c2 : w1.cell? ⟨w.heap.size, 2, none⟩ = some (.int .i64 m) := by rw [hK1.cell]; rfl
    have HB1 := Lib.hid hB1; have HK1 := Lib.hid hK1; have HW1 := Lib.hid hW1; have HWL := Lib.hid hwlt
    obtain ⟨aw, capw, rfl⟩ := own_slice_n hc HN.out
    clear hb hc hB1 hK1 hW1 hwlt
    go_wp2_with fail
    refine (HIN.out _).mono ?_
    rintro e w2 ⟨rfl, hb⟩
    have hB2 := HB1.out.trans (hb.mono HB1.out.size)
    have hK2 := HK1.out.below hb HK1.out.lt
    have hW2 := HW1.out.below hb
    have hz12 := hb.size
    have HB2 := Lib.hid hB2; have HK2 := Lib.hid hK2; have HW2 := Lib.hid hW2
    clear hb hB2 hK2 hW2 c0 c1 c2
    go_wp2_with fail
    refine (HCC.out _ (HT.out.below HB2.out HT.out.1)).mono ?_
    rintro e w3 ⟨va, rfl, hb, hc⟩
    have hB3 := HB2.out.trans (hb.mono HB2.out.size)
    have hK3 := HK2.out.below hb HK2.out.lt
    have hW3 := HW2.out.below hb
    have hz23 := hb.size
    have halt := fun q hq => World.ownsRow.lt hc q hq
    have c0 : w3.cell? ⟨w.heap.size, 0, none⟩ = some (.int .i64 b) := by rw [hK3.cell]; rfl
    have c1 : w3.cell? ⟨w.heap.size, 1, none⟩ = some (.int .i64 f) := by rw [hK3.cell]; rfl
    have c2 : w3.cell? ⟨w.heap.size, 2, none⟩ = some (.int .i64 m) := by rw [hK3.cell]; rfl
    have HB3 := Lib.hid hB3; have HK3 := Lib.hid hK3; have HW3 := Lib.hid hW3; have HAL := Lib.hid halt
    obtain ⟨aa, capa, rfl⟩ := own_slice_n hc HN.out
    have hmine : w3.ownsRow w.heap.size 47 2 (.slice aa n capa) n (chCells cs) := by
      have h := own_base (show w3.ownsRow w2.heap.size 47 2 (.slice aa n capa) cs.length (chCells cs) from hc) HB2.out.size
      rwa [HN.out] at h
    have HM3 := Lib.hid hmine
    clear hb hc hB3 hK3 hW3 halt hmine
    go_wp2_with fail
    refine (HIN.out _).mono ?_
    rintro e w4 ⟨rfl, hb⟩
    have hB4 := HB3.out.trans (hb.mono HB3.out.size)
    have hK4 := HK3.out.below hb HK3.out.lt
    have hW4 := HW3.out.below hb
    have hM4 := own_kept HM3.out (only_of_below hb none) (fun q _ e => by cases e)
    have hz34 := hb.size
    have HB4 := Lib.hid hB4; have HK4 := Lib.hid hK4; have HW4 := Lib.hid hW4; have HM4 := Lib.hid hM4
    clear hb hB4 hK4 hW4 hM4 c0 c1 c2
    go_wp2_with fail
    refine (HCC.out _ (HT.out.below HB4.out HT.out.1)).mono ?_
    rintro e w5 ⟨vb, rfl, hb, hc⟩
    have hblt := fun q hq => (World.ownsRow.lt hc q hq).1
    have hS5 : S w b f m (.slice aw n capw) (.slice aa n capa) vb n cs w5 :=
      ⟨HB4.out.trans (hb.mono HB4.out.size), HK4.out.below hb HK4.out.lt, HW4.out.below hb, own_kept HM4.out (only_of_below hb none) (fun q _ e => by cases e), prow_of hc⟩
    obtain ⟨ab, capb, rfl⟩ := own_slice_n hc HN.out
    have hab : ∀ q, Value.ownBlock (.slice ab n capb) = some q → Value.ownBlock (.slice aa n capa) ≠ some q := fun q hq hq2 => by
      have h1 := hblt q hq
      have h2 := (HAL.out q hq2).2
      omega
    have haw : ∀ q, Value.ownBlock (.slice aw n capw) = some q → Value.ownBlock (.slice aa n capa) ≠ some q := fun q hq hq2 => by
      have h1 := HWL.out q hq
      have h2 := (HAL.out q hq2).1
      omega
    have hch1 := fun W (h : S w b f m (.slice aw n capw) (.slice aa n capa) (.slice ab n capb) n cs W) => (chunks_any (.slice aa n capa) (.slice aw n capw) cs W (prow_of (by rw [HN.out]; exact h.mine)) h.want (by rw [HN.out]; omega)).mono fun e w' ⟨he, q, hq⟩ => (⟨he, by rw [hq]; exact h.drewN q⟩ : _ ∧ S w b f m (.slice aw n capw) (.slice aa n capa) (.slice ab n capb) n cs w')
    have hch2 := fun W (h : S w b f m (.slice aw n capw) (.slice aa n capa) (.slice ab n capb) n cs W) => (chunks_any (.slice ab n capb) (.slice aw n capw) cs W h.other h.want (by rw [HN.out]; omega)).mono fun e w' ⟨he, q, hq⟩ => (⟨he, by rw [hq]; exact h.drewN q⟩ : _ ∧ S w b f m (.slice aw n capw) (.slice aa n capa) (.slice ab n capb) n cs w')
    have hc3 := fun W (h : S w b f m (.slice aw n capw) (.slice aa n capa) (.slice ab n capb) n cs W) => (HIN.out W).mono fun e w' ⟨he, hb⟩ => (⟨he, h.low hb⟩ : _ ∧ S w b f m (.slice aw n capw) (.slice aa n capa) (.slice ab n capb) n cs w')
    have hc4 := fun W (h : S w b f m (.slice aw n capw) (.slice aa n capa) (.slice ab n capb) n cs W) => (HCK.out W).mono fun e w' ⟨he, hb⟩ => (⟨he, h.low hb⟩ : _ ∧ S w b f m (.slice aw n capw) (.slice aa n capa) (.slice ab n capb) n cs w')
    have hc5 := fun W (h : S w b f m (.slice aw n capw) (.slice aa n capa) (.slice ab n capb) n cs W) => (HRK.out W).mono fun e w' ⟨he, hb⟩ => (⟨he, h.low hb⟩ : _ ∧ S w b f m (.slice aw n capw) (.slice aa n capa) (.slice ab n capb) n cs w')
    have e0 : ∀ y : GoodW (S w b f m (.slice aw n capw) (.slice aa n capa) (.slice ab n capb) n cs), y.w.cell? ⟨w.heap.size, 0, none⟩ = some (.int .i64 b) := fun y => by rw [y.h.plan.cell]; rfl
    have e1 : ∀ y : GoodW (S w b f m (.slice aw n capw) (.slice aa n capa) (.slice ab n capb) n cs), y.w.cell? ⟨w.heap.size, 1, none⟩ = some (.int .i64 f) := fun y => by rw [y.h.plan.cell]; rfl
    have e2 : ∀ y : GoodW (S w b f m (.slice aw n capw) (.slice aa n capa) (.slice ab n capb) n cs), y.w.cell? ⟨w.heap.size, 2, none⟩ = some (.int .i64 m) := fun y => by rw [y.h.plan.cell]; rfl
    have HS5 := Lib.hid hS5; have HAB := Lib.hid hab; have HAW := Lib.hid haw
    have HC1 := Lib.hid hch1; have HC2 := Lib.hid hch2; have HC3 := Lib.hid hc3; have HC4 := Lib.hid hc4; have HC5 := Lib.hid hc5
    clear hS5 hab haw hch1 hch2 hc3 hc4 hc5 hb hc hblt c0 c1 c2
    have hEE : (E != E) = false := by simp
    go_wp2_with fail
    refine wp_region_good (S := S w b f m (.slice aw n capw) (.slice aa n capa) (.slice ab n capb) n cs) (by kernel_rfl) (by kernel_rfl) (HS5.out.drewN 1) ?_
    haveI : Nonempty (GoodW (S w b f m (.slice aw n capw) (.slice aa n capa) (.slice ab n capb) n cs)) := ⟨⟨_, HS5.out⟩⟩
    repeat (go_big_quiet_step ((first
      | (go_at_call_of 23 (Value.slice aa n capa); exact good_of _ (HC1.out _ (GoodW.h _)))
      | (go_at_call_of 23 (Value.slice ab n capb); exact good_of _ (HC2.out _ (GoodW.h _)))
      | (go_at_call 22; exact good_of _ (HC3.out _ (GoodW.h _)))
      | (go_at_call 24; exact good_of _ (HC4.out _ (GoodW.h _)))
      | (go_at_call 25; exact good_of _ (HC5.out _ (GoodW.h _))))))
    refine wpQuiet_nil ?_
    rintro wd ⟨⟨wd', hS⟩, rfl⟩
    have HS := Lib.hid hS; clear hS e0 e1 e2 HC1 HC2 HC3 HC4 HC5
    go_wp2_with fail
    have hT0 : T w (.slice aw n capw) (.slice aa n capa) (.slice ab n capb) n 0 cs wd := ⟨HS.out.below, HS.out.want, HS.out.other, chCells cs, HS.out.mine, fun h => absurd h (Nat.lt_irrefl 0)⟩
    have HT0 := Lib.hid hT0; clear hT0 HS HS5
    go_loopw [11] (fun i wr => ∃ k : Nat, i = .int .i64 k ∧ k ≤ n ∧ Hid (T w (.slice aw n capw) (.slice aa n capa) (.slice ab n capb) n k cs wr)) (fun i _ => n - (intOf i).toNat)
    case atStart => exact ⟨0, rfl, Nat.zero_le _, HT0.out⟩
    case round =>
      obtain ⟨k, rfl, hk, H⟩ := hrel
      by_cases hlt : k < n
      · obtain ⟨xs, hxs, hx0⟩ := H.out.mine
        obtain ⟨ga, rfl⟩ : ∃ ga, aa = some ⟨ga, 0, none⟩ := by
          rcases hxs.2 with ⟨-, h0⟩ | ⟨g, cap, cur, h0, -⟩
          · omega
          · injection h0 with h0; exact ⟨g, h0⟩
        obtain ⟨z1, z2, ⟨c1, hc1⟩, ⟨c2, hc2⟩, hset⟩ := set2 hxs k hlt (.int .i64 (-1)) (.int .i64 0)
        have hgb := (World.ownsRow.lt hxs ga rfl).1
        have hgr : wr.grownBy ((wr.setCell ⟨ga, k * 2, none⟩ (.int .i64 (-1))).setCell ⟨ga, k * 2 + 1, none⟩ (.int .i64 0)) (some ga) := only_setCell (only_setCell (only_refl wr (some ga)) (.inl rfl) _) (.inl rfl) _
        have hnext : T w (.slice aw n capw) (.slice (some ⟨ga, 0, none⟩) n capa) (.slice ab n capb) n (k + 1) cs ((wr.setCell ⟨ga, k * 2, none⟩ (.int .i64 (-1))).setCell ⟨ga, k * 2 + 1, none⟩ (.int .i64 0)) := by
          refine ⟨below_of_only H.out.below hgr H.out.below.size hgb, H.out.want.grown hgr (fun q hq e => HAW.out q hq (by show some ga = some q; exact e)), H.out.other.grown hgr (fun q hq e => HAB.out q hq (by show some ga = some q; exact e)), _, hset, fun _ => ?_⟩
          rw [List.getElem?_set, if_neg (by omega), List.getElem?_set]
          by_cases hk0 : k = 0
          · subst hk0
            rw [if_pos rfl, if_pos (by have := hxs.1; omega)]
          · rw [if_neg (by omega)]; exact hx0 (by omega)
        have HNX := Lib.hid hnext; clear hnext hset hgr hxs hx0 H
        go_wp2_with fail
        go_roundw
        case rel => exact ⟨k + 1, by go_num, by omega, HNX.out⟩
        case measure => simp [intOf]; omega
      · obtain rfl : k = n := by omega
        obtain ⟨xs, hxs, hx0⟩ := H.out.mine
        have hT1 : Below w.heap.size w wr ∧ PRow wr (.slice aw k capw) cs ∧ PRow wr (.slice ab k capb) cs ∧ ∃ xs, wr.ownsRow w.heap.size 47 2 (.slice aa k capa) (k + 0) xs ∧ (0 < k → xs[0]? = some (.int .i64 (-1))) := ⟨H.out.below, H.out.want, H.out.other, xs, hxs, hx0⟩
        have HT1 := Lib.hid hT1; clear hT1 H hxs hx0
        go_wp2_with fail
        go_loopw [7, 12] (fun v i wr => ∃ j : Nat, i = .int .i64 j ∧ j ≤ 20 ∧ Hid (Below w.heap.size w wr ∧ PRow wr (.slice aw k capw) cs ∧ PRow wr (.slice ab k capb) cs ∧ ∃ xs, wr.ownsRow w.heap.size 47 2 v (k + j) xs ∧ (0 < k → xs[0]? = some (.int .i64 (-1))))) (fun _ i _ => 20 - (intOf i).toNat)
        case atStart => exact ⟨0, rfl, by omega, HT1.out⟩
        case round =>
          obtain ⟨j, rfl, hj, H⟩ := hrel
          obtain ⟨hB, hW, hO, xs, hxs, hx0⟩ := H.out
          by_cases hj20 : j < 20
          · have hnew := news_at wr #[.int .i64 (-2), .int .i64 0] 47 wr.heap.size rfl
            have hown := World.ownsRow.alloc hxs (.cells #[.int .i64 (-2), .int .i64 0] 47)
            have hbw := hB.size
            have hfin : ∀ (v3 : Value) (w3 : World), w3.ownsRow w.heap.size 47 2 v3 (k + j + 1) (xs ++ [.int .i64 (-2), .int .i64 0]) → (wr.alloc (.cells #[.int .i64 (-2), .int .i64 0] 47)).grownBy w3 (Value.ownBlock u7) →
                Below w.heap.size w w3 ∧ PRow w3 (.slice aw k capw) cs ∧ PRow w3 (.slice ab k capb) cs ∧ ∃ xs, w3.ownsRow w.heap.size 47 2 v3 (k + (j + 1)) xs ∧ (0 < k → xs[0]? = some (.int .i64 (-1))) := by
              intro v3 w3 ho hg
              have hga := World.grownBy_alloc wr (.cells #[.int .i64 (-2), .int .i64 0] 47) none
              refine ⟨Below.grown (hB.alloc hbw _) hg (by simp; omega) (fun q hq => (World.ownsRow.lt hxs q hq).1), ?_, ?_, _, ho, fun hk0 => ?_⟩
              · exact PRow.grown' (hW.grown hga (fun q _ e => by cases e)) hg (fun hc => disj hown (hx0 (by rw [← HN.out]; exact hc)) (hW.grown hga (fun q _ e => by cases e)) hc)
              · exact PRow.grown' (hO.grown hga (fun q _ e => by cases e)) hg (fun hc => disj hown (hx0 (by rw [← HN.out]; exact hc)) (hO.grown hga (fun q _ e => by cases e)) hc)
              · have h1 := hx0 hk0
                rw [List.getElem?_append_left (List.getElem?_eq_some_iff.1 h1).1]; exact h1
            have HF := Lib.hid hfin; have HOW := Lib.hid hown; have HNW := Lib.hid hnew
            clear hfin hown hnew hB hW hO hxs hx0 H
            go_wp2_with (at_builtin; refine wpList_append_own _ rfl _ _ 38 rfl w.heap.size 47 i0 (.agg #[.int .i64 0, .int .i64 0]) 2 16 Tryd.underlying38 hi0 hz0 hs1 hy0 rfl (by decide) u7 (k + j) _ rfl HOW.out ⟨wr.heap.size, 0, none⟩ 1 1 [.int .i64 (-2), .int .i64 0] rfl rfl HNW.out (by intro u hu; simp at hu; rcases hu with rfl | rfl <;> rfl) (by unfold maxLen; omega) (by omega) (by simp; omega) ?_; intro v3 w3 hown3 hgrow3 _; have HD := Lib.hid (HF.out v3 w3 hown3 hgrow3); clear hown3 hgrow3)
            go_roundw
            case rel => exact ⟨j + 1, by go_num, by omega, HD.out⟩
            case measure => simp [intOf]; omega
          · obtain rfl : j = 20 := by omega
            obtain ⟨a7, cap7, rfl⟩ := own_slice hxs
            have hch := chunks_any (.slice ab k capb) (.slice aw k capw) cs wr hO hW (by rw [HN.out]; omega)
            have HCH := Lib.hid hch; have HB := Lib.hid hB
            clear hch hO hW hB hxs hx0 H
            go_wp2_with fail
            refine HCH.out.mono ?_
            rintro e w9 ⟨rfl, q, rfl⟩
            go_wp2_with fail
            go_ret
            refine ⟨?_, below_drewN' HB.out q⟩
            show Ending.returned (Value.bool (decide ((20 : Int) ≤ (k : Int) + 20))) = _
            rw [decide_eq_true (by omega)]
  · go_upto_region 3 with (fail)
    have htz : s.size ≤ 4000 := by omega
    generalize (w.alloc (.cells #[.int .i64 b, .int .i64 f, .int .i64 m] 33)) = W0 at *
    obtain ⟨gp, hgp⟩ : ∃ gp, w.heap.size = gp := ⟨_, rfl⟩
    have hB0 := HB0.out
    have hK0 := HK0.out
    clear HB0 HK0
    have hrc := fun W => rcut_gen b f m s W (by omega)
    have hcc := fun W (h : Tab W) => cut_gen b f m s W (by omega) h
    have hin := fun W => in_any b f m W
    have hck := fun W => check_any b f m W
    have hrk := fun W => rcheck_any b f m W
    have hcl := csOf_len b f m (nats s)
    rw [nats_length] at hcl
    generalize csOf b f m (nats s) = cs at *
    generalize planE b f m = E at *
    obtain ⟨n, hn⟩ : ∃ n, cs.length = n := ⟨_, rfl⟩
    rw [hn] at hcl
    unfold planV at *
    have c0 : W0.cell? ⟨w.heap.size, 0, none⟩ = some (.int .i64 b) := by rw [hK0.cell]; rfl
    have c1 : W0.cell? ⟨w.heap.size, 1, none⟩ = some (.int .i64 f) := by rw [hK0.cell]; rfl
    have c2 : W0.cell? ⟨w.heap.size, 2, none⟩ = some (.int .i64 m) := by rw [hK0.cell]; rfl
    have HRC := Lib.hid hrc; have HCC := Lib.hid hcc; have HIN := Lib.hid hin; have HCK := Lib.hid hck; have HRK := Lib.hid hrk
    have HN := Lib.hid hn; have HGP := Lib.hid hgp
    have HB0 := Lib.hid hB0; have HK0 := Lib.hid hK0
    clear hrc hcc hin hck hrk hn hgp hB0 hK0
    go_wp2_with fail
    refine (HRC.out _).mono ?_
    rintro e w1 ⟨vw, rfl, hb, hc⟩
    have hB1 := HB0.out.trans (hb.mono HB0.out.size)
    have hK1 := HK0.out.below hb HK0.out.lt
    have hW1 := prow_of hc
    have hwlt := fun q hq => (World.ownsRow.lt hc q hq).2
    have c0 : w1.cell? ⟨w.heap.size, 0, none⟩ = some (.int .i64 b) := by rw [hK1.cell]; rfl
    have c1 : w1.cell? ⟨w.heap.size, 1, none⟩ = some (.int .i64 f) := by rw [hK1.cell]; rfl
    have c2 : w1.cell? ⟨w.heap.size, 2, none⟩ = some (.int .i64 m) := by rw [hK1.cell]; rfl
    have HB1 := Lib.hid hB1; have HK1 := Lib.hid hK1; have HW1 := Lib.hid hW1; have HWL := Lib.hid hwlt
    obtain ⟨aw, capw, rfl⟩ := own_slice_n hc HN.out
    clear hb hc hB1 hK1 hW1 hwlt
    go_wp2_with fail
    refine (HIN.out _).mono ?_
    rintro e w2 ⟨rfl, hb⟩
    have hB2 := HB1.out.trans (hb.mono HB1.out.size)
    have hK2 := HK1.out.below hb HK1.out.lt
    have hW2 := HW1.out.below hb
    have hz12 := hb.size
    have HB2 := Lib.hid hB2; have HK2 := Lib.hid hK2; have HW2 := Lib.hid hW2
    clear hb hB2 hK2 hW2 c0 c1 c2
    go_wp2_with fail
    refine (HCC.out _ (HT.out.below HB2.out HT.out.1)).mono ?_
    rintro e w3 ⟨va, rfl, hb, hc⟩
    have hB3 := HB2.out.trans (hb.mono HB2.out.size)
    have hK3 := HK2.out.below hb HK2.out.lt
    have hW3 := HW2.out.below hb
    have hz23 := hb.size
    have halt := fun q hq => World.ownsRow.lt hc q hq
    have c0 : w3.cell? ⟨w.heap.size, 0, none⟩ = some (.int .i64 b) := by rw [hK3.cell]; rfl
    have c1 : w3.cell? ⟨w.heap.size, 1, none⟩ = some (.int .i64 f) := by rw [hK3.cell]; rfl
    have c2 : w3.cell? ⟨w.heap.size, 2, none⟩ = some (.int .i64 m) := by rw [hK3.cell]; rfl
    have HB3 := Lib.hid hB3; have HK3 := Lib.hid hK3; have HW3 := Lib.hid hW3; have HAL := Lib.hid halt
    obtain ⟨aa, capa, rfl⟩ := own_slice_n hc HN.out
    have hmine : w3.ownsRow w.heap.size 47 2 (.slice aa n capa) n (chCells cs) := by
      have h := own_base (show w3.ownsRow w2.heap.size 47 2 (.slice aa n capa) cs.length (chCells cs) from hc) HB2.out.size
      rwa [HN.out] at h
    have HM3 := Lib.hid hmine
    clear hb hc hB3 hK3 hW3 halt hmine
    go_wp2_with fail
    refine (HIN.out _).mono ?_
    rintro e w4 ⟨rfl, hb⟩
    have hB4 := HB3.out.trans (hb.mono HB3.out.size)
    have hK4 := HK3.out.below hb HK3.out.lt
    have hW4 := HW3.out.below hb
    have hM4 := own_kept HM3.out (only_of_below hb none) (fun q _ e => by cases e)
    have hz34 := hb.size
    have HB4 := Lib.hid hB4; have HK4 := Lib.hid hK4; have HW4 := Lib.hid hW4; have HM4 := Lib.hid hM4
    clear hb hB4 hK4 hW4 hM4 c0 c1 c2
    go_wp2_with fail
    refine (HCC.out _ (HT.out.below HB4.out HT.out.1)).mono ?_
    rintro e w5 ⟨vb, rfl, hb, hc⟩
    have hblt := fun q hq => (World.ownsRow.lt hc q hq).1
    have hS5 : S w b f m (.slice aw n capw) (.slice aa n capa) vb n cs w5 :=
      ⟨HB4.out.trans (hb.mono HB4.out.size), HK4.out.below hb HK4.out.lt, HW4.out.below hb, own_kept HM4.out (only_of_below hb none) (fun q _ e => by cases e), prow_of hc⟩
    obtain ⟨ab, capb, rfl⟩ := own_slice_n hc HN.out
    have hab : ∀ q, Value.ownBlock (.slice ab n capb) = some q → Value.ownBlock (.slice aa n capa) ≠ some q := fun q hq hq2 => by
      have h1 := hblt q hq
      have h2 := (HAL.out q hq2).2
      omega
    have haw : ∀ q, Value.ownBlock (.slice aw n capw) = some q → Value.ownBlock (.slice aa n capa) ≠ some q := fun q hq hq2 => by
      have h1 := HWL.out q hq
      have h2 := (HAL.out q hq2).1
      omega
    have hch1 := fun W (h : S w b f m (.slice aw n capw) (.slice aa n capa) (.slice ab n capb) n cs W) => (chunks_any (.slice aa n capa) (.slice aw n capw) cs W (prow_of (by rw [HN.out]; exact h.mine)) h.want (by rw [HN.out]; omega)).mono fun e w' ⟨he, q, hq⟩ => (⟨he, by rw [hq]; exact h.drewN q⟩ : _ ∧ S w b f m (.slice aw n capw) (.slice aa n capa) (.slice ab n capb) n cs w')
    have hch2 := fun W (h : S w b f m (.slice aw n capw) (.slice aa n capa) (.slice ab n capb) n cs W) => (chunks_any (.slice ab n capb) (.slice aw n capw) cs W h.other h.want (by rw [HN.out]; omega)).mono fun e w' ⟨he, q, hq⟩ => (⟨he, by rw [hq]; exact h.drewN q⟩ : _ ∧ S w b f m (.slice aw n capw) (.slice aa n capa) (.slice ab n capb) n cs w')
    have hc3 := fun W (h : S w b f m (.slice aw n capw) (.slice aa n capa) (.slice ab n capb) n cs W) => (HIN.out W).mono fun e w' ⟨he, hb⟩ => (⟨he, h.low hb⟩ : _ ∧ S w b f m (.slice aw n capw) (.slice aa n capa) (.slice ab n capb) n cs w')
    have hc4 := fun W (h : S w b f m (.slice aw n capw) (.slice aa n capa) (.slice ab n capb) n cs W) => (HCK.out W).mono fun e w' ⟨he, hb⟩ => (⟨he, h.low hb⟩ : _ ∧ S w b f m (.slice aw n capw) (.slice aa n capa) (.slice ab n capb) n cs w')
    have hc5 := fun W (h : S w b f m (.slice aw n capw) (.slice aa n capa) (.slice ab n capb) n cs W) => (HRK.out W).mono fun e w' ⟨he, hb⟩ => (⟨he, h.low hb⟩ : _ ∧ S w b f m (.slice aw n capw) (.slice aa n capa) (.slice ab n capb) n cs w')
    have e0 : ∀ y : GoodW (S w b f m (.slice aw n capw) (.slice aa n capa) (.slice ab n capb) n cs), y.w.cell? ⟨w.heap.size, 0, none⟩ = some (.int .i64 b) := fun y => by rw [y.h.plan.cell]; rfl
    have e1 : ∀ y : GoodW (S w b f m (.slice aw n capw) (.slice aa n capa) (.slice ab n capb) n cs), y.w.cell? ⟨w.heap.size, 1, none⟩ = some (.int .i64 f) := fun y => by rw [y.h.plan.cell]; rfl
    have e2 : ∀ y : GoodW (S w b f m (.slice aw n capw) (.slice aa n capa) (.slice ab n capb) n cs), y.w.cell? ⟨w.heap.size, 2, none⟩ = some (.int .i64 m) := fun y => by rw [y.h.plan.cell]; rfl
    have HS5 := Lib.hid hS5; have HAB := Lib.hid hab; have HAW := Lib.hid haw
    have HC1 := Lib.hid hch1; have HC2 := Lib.hid hch2; have HC3 := Lib.hid hc3; have HC4 := Lib.hid hc4; have HC5 := Lib.hid hc5
    clear hS5 hab haw hch1 hch2 hc3 hc4 hc5 hb hc hblt c0 c1 c2
    have hEE : (E != E) = false := by simp
    go_wp2_with fail
    refine wp_region_good (S := S w b f m (.slice aw n capw) (.slice aa n capa) (.slice ab n capb) n cs) (by kernel_rfl) (by kernel_rfl) (HS5.out.drewN 1) ?_
    haveI : Nonempty (GoodW (S w b f m (.slice aw n capw) (.slice aa n capa) (.slice ab n capb) n cs)) := ⟨⟨_, HS5.out⟩⟩
    repeat (go_big_quiet_step ((first
      | (go_at_call_of 23 (Value.slice aa n capa); exact good_of _ (HC1.out _ (GoodW.h _)))
      | (go_at_call_of 23 (Value.slice ab n capb); exact good_of _ (HC2.out _ (GoodW.h _)))
      | (go_at_call 22; exact good_of _ (HC3.out _ (GoodW.h _)))
      | (go_at_call 24; exact good_of _ (HC4.out _ (GoodW.h _)))
      | (go_at_call 25; exact good_of _ (HC5.out _ (GoodW.h _))))))
    refine wpQuiet_nil ?_
    rintro wd ⟨⟨wd', hS⟩, rfl⟩
    have HS := Lib.hid hS; clear hS e0 e1 e2 HC1 HC2 HC3 HC4 HC5
    go_wp2_with fail
    have hT0 : T w (.slice aw n capw) (.slice aa n capa) (.slice ab n capb) n 0 cs wd := ⟨HS.out.below, HS.out.want, HS.out.other, chCells cs, HS.out.mine, fun h => absurd h (Nat.lt_irrefl 0)⟩
    have HT0 := Lib.hid hT0; clear hT0 HS HS5
    go_loopw [11] (fun i wr => ∃ k : Nat, i = .int .i64 k ∧ k ≤ n ∧ Hid (T w (.slice aw n capw) (.slice aa n capa) (.slice ab n capb) n k cs wr)) (fun i _ => n - (intOf i).toNat)
    case atStart => exact ⟨0, rfl, Nat.zero_le _, HT0.out⟩
    case round =>
      obtain ⟨k, rfl, hk, H⟩ := hrel
      by_cases hlt : k < n
      · obtain ⟨xs, hxs, hx0⟩ := H.out.mine
        obtain ⟨ga, rfl⟩ : ∃ ga, aa = some ⟨ga, 0, none⟩ := by
          rcases hxs.2 with ⟨-, h0⟩ | ⟨g, cap, cur, h0, -⟩
          · omega
          · injection h0 with h0; exact ⟨g, h0⟩
        obtain ⟨z1, z2, ⟨c1, hc1⟩, ⟨c2, hc2⟩, hset⟩ := set2 hxs k hlt (.int .i64 (-1)) (.int .i64 0)
        have hgb := (World.ownsRow.lt hxs ga rfl).1
        have hgr : wr.grownBy ((wr.setCell ⟨ga, k * 2, none⟩ (.int .i64 (-1))).setCell ⟨ga, k * 2 + 1, none⟩ (.int .i64 0)) (some ga) := only_setCell (only_setCell (only_refl wr (some ga)) (.inl rfl) _) (.inl rfl) _
        have hnext : T w (.slice aw n capw) (.slice (some ⟨ga, 0, none⟩) n capa) (.slice ab n capb) n (k + 1) cs ((wr.setCell ⟨ga, k * 2, none⟩ (.int .i64 (-1))).setCell ⟨ga, k * 2 + 1, none⟩ (.int .i64 0)) := by
          refine ⟨below_of_only H.out.below hgr H.out.below.size hgb, H.out.want.grown hgr (fun q hq e => HAW.out q hq (by show some ga = some q; exact e)), H.out.other.grown hgr (fun q hq e => HAB.out q hq (by show some ga = some q; exact e)), _, hset, fun _ => ?_⟩
          rw [List.getElem?_set, if_neg (by omega), List.getElem?_set]
          by_cases hk0 : k = 0
          · subst hk0
            rw [if_pos rfl, if_pos (by have := hxs.1; omega)]
          · rw [if_neg (by omega)]; exact hx0 (by omega)
        have HNX := Lib.hid hnext; clear hnext hset hgr hxs hx0 H
        go_wp2_with fail
        go_roundw
        case rel => exact ⟨k + 1, by go_num, by omega, HNX.out⟩
        case measure => simp [intOf]; omega
      · obtain rfl : k = n := by omega
        obtain ⟨xs, hxs, hx0⟩ := H.out.mine
        have hT1 : Below w.heap.size w wr ∧ PRow wr (.slice aw k capw) cs ∧ PRow wr (.slice ab k capb) cs ∧ ∃ xs, wr.ownsRow w.heap.size 47 2 (.slice aa k capa) (k + 0) xs ∧ (0 < k → xs[0]? = some (.int .i64 (-1))) := ⟨H.out.below, H.out.want, H.out.other, xs, hxs, hx0⟩
        have HT1 := Lib.hid hT1; clear hT1 H hxs hx0
        go_wp2_with fail
        go_loopw [7, 12] (fun v i wr => ∃ j : Nat, i = .int .i64 j ∧ j ≤ 20 ∧ Hid (Below w.heap.size w wr ∧ PRow wr (.slice aw k capw) cs ∧ PRow wr (.slice ab k capb) cs ∧ ∃ xs, wr.ownsRow w.heap.size 47 2 v (k + j) xs ∧ (0 < k → xs[0]? = some (.int .i64 (-1))))) (fun _ i _ => 20 - (intOf i).toNat)
        case atStart => exact ⟨0, rfl, by omega, HT1.out⟩
        case round =>
          obtain ⟨j, rfl, hj, H⟩ := hrel
          obtain ⟨hB, hW, hO, xs, hxs, hx0⟩ := H.out
          by_cases hj20 : j < 20
          · have hnew := news_at wr #[.int .i64 (-2), .int .i64 0] 47 wr.heap.size rfl
            have hown := World.ownsRow.alloc hxs (.cells #[.int .i64 (-2), .int .i64 0] 47)
            have hbw := hB.size
            have hfin : ∀ (v3 : Value) (w3 : World), w3.ownsRow w.heap.size 47 2 v3 (k + j + 1) (xs ++ [.int .i64 (-2), .int .i64 0]) → (wr.alloc (.cells #[.int .i64 (-2), .int .i64 0] 47)).grownBy w3 (Value.ownBlock u7) →
                Below w.heap.size w w3 ∧ PRow w3 (.slice aw k capw) cs ∧ PRow w3 (.slice ab k capb) cs ∧ ∃ xs, w3.ownsRow w.heap.size 47 2 v3 (k + (j + 1)) xs ∧ (0 < k → xs[0]? = some (.int .i64 (-1))) := by
              intro v3 w3 ho hg
              have hga := World.grownBy_alloc wr (.cells #[.int .i64 (-2), .int .i64 0] 47) none
              refine ⟨Below.grown (hB.alloc hbw _) hg (by simp; omega) (fun q hq => (World.ownsRow.lt hxs q hq).1), ?_, ?_, _, ho, fun hk0 => ?_⟩
              · exact PRow.grown' (hW.grown hga (fun q _ e => by cases e)) hg (fun hc => disj hown (hx0 (by rw [← HN.out]; exact hc)) (hW.grown hga (fun q _ e => by cases e)) hc)
              · exact PRow.grown' (hO.grown hga (fun q _ e => by cases e)) hg (fun hc => disj hown (hx0 (by rw [← HN.out]; exact hc)) (hO.grown hga (fun q _ e => by cases e)) hc)
              · have h1 := hx0 hk0
                rw [List.getElem?_append_left (List.getElem?_eq_some_iff.1 h1).1]; exact h1
            have HF := Lib.hid hfin; have HOW := Lib.hid hown; have HNW := Lib.hid hnew
            clear hfin hown hnew hB hW hO hxs hx0 H
            go_wp2_with (at_builtin; refine wpList_append_own _ rfl _ _ 38 rfl w.heap.size 47 i0 (.agg #[.int .i64 0, .int .i64 0]) 2 16 Tryd.underlying38 hi0 hz0 hs1 hy0 rfl (by decide) u7 (k + j) _ rfl HOW.out ⟨wr.heap.size, 0, none⟩ 1 1 [.int .i64 (-2), .int .i64 0] rfl rfl HNW.out (by intro u hu; simp at hu; rcases hu with rfl | rfl <;> rfl) (by unfold maxLen; omega) (by omega) (by simp; omega) ?_; intro v3 w3 hown3 hgrow3 _; have HD := Lib.hid (HF.out v3 w3 hown3 hgrow3); clear hown3 hgrow3)
            go_roundw
            case rel => exact ⟨j + 1, by go_num, by omega, HD.out⟩
            case measure => simp [intOf]; omega
          · obtain rfl : j = 20 := by omega
            obtain ⟨a7, cap7, rfl⟩ := own_slice hxs
            have hch := chunks_any (.slice ab k capb) (.slice aw k capw) cs wr hO hW (by rw [HN.out]; omega)
            have HCH := Lib.hid hch; have HB := Lib.hid hB
            clear hch hO hW hB hxs hx0 H
            go_wp2_with fail
            refine HCH.out.mono ?_
            rintro e w9 ⟨rfl, q, rfl⟩
            go_wp2_with fail
            go_ret
            refine ⟨?_, below_drewN' HB.out q⟩
            show Ending.returned (Value.bool (decide ((20 : Int) ≤ (k : Int) + 20))) = _
            rw [decide_eq_true (by omega)]
end Go.Proofs.YtmnggemifcjflaaDoor.splitCuts
