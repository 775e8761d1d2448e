/-
  Two splitters side by side: words for the memory of the law.
-/
import Derived.Test.YtmnggemifcjflaaDoorRSplW2
namespace Go.Proofs.YtmnggemifcjflaaDoor
open Go.RowKit PlainP RollP OnesP SplitP

/-- a splitter of the program and the document's, alike -/
def Side (wr : World) (v : Value) (g : Nat) (O : Nat → Prop) : Prop :=
  v = .pointer none ∨ ∃ (gx : Nat) (p : Plan) (r : ByteArray) (all : Nat) (cl : Bool), v = .pointer (some ⟨gx, 0, none⟩) ∧ SplAt O wr gx p (nats r) all cl ∧ Blk wr g 55 (rsC p r all cl) ∧ p.Ok ∧ SplitP.Clean p (nats r) ∧ r.size < p.most ∧ r.size ≤ all ∧ all ≤ 1048576
structure Two (w wr : World) (v1 v2 : Value) (g1 g2 : Nat) (O1 O2 : Nat → Prop) : Prop where
  below : Below w.heap.size w wr
  ne : g1 ≠ g2
  dj : ∀ b, O1 b → ¬ O2 b
  o1 : ∀ b, O1 b → w.heap.size ≤ b ∧ b ≠ g1 ∧ b ≠ g2 ∧ b < wr.heap.size
  o2 : ∀ b, O2 b → w.heap.size ≤ b ∧ b ≠ g1 ∧ b ≠ g2 ∧ b < wr.heap.size
  s1 : Side wr v1 g1 O1
  s2 : Side wr v2 g2 O2
  b1 : w.heap.size ≤ g1 ∧ g1 < wr.heap.size
  b2 : w.heap.size ≤ g2 ∧ g2 < wr.heap.size
theorem Two.swap {w wr : World} {v1 v2 : Value} {g1 g2 : Nat} {O1 O2 : Nat → Prop} (h : Two w wr v1 v2 g1 g2 O1 O2) : Two w wr v2 v1 g2 g1 O2 O1 :=
  ⟨h.below, h.ne.symm, fun b h2 h1 => h.dj b h1 h2, fun b hb => ⟨(h.o2 b hb).1, (h.o2 b hb).2.2.1, (h.o2 b hb).2.1, (h.o2 b hb).2.2.2⟩, fun b hb => ⟨(h.o1 b hb).1, (h.o1 b hb).2.2.1, (h.o1 b hb).2.1, (h.o1 b hb).2.2.2⟩, h.s2, h.s1, h.b2, h.b1⟩
/-- a change that spares both -/
theorem Side.spared {wr wr' : World} {v : Value} {g : Nat} {O : Nat → Prop} (h : Side wr v g O) (hz : wr.heap.size ≤ wr'.heap.size) (hk : ∀ b, O b → wr'.heap[b]? = wr.heap[b]?) (hg : wr'.heap[g]? = wr.heap[g]?) : Side wr' v g O := by
  rcases h with h | ⟨gx, p, r, all, cl, h1, h2, h3, h4⟩
  · exact .inl h
  · exact .inr ⟨gx, p, r, all, cl, h1, h2.spared hz hk, hg.trans h3, h4⟩
theorem Two.more {w wr wr' : World} {v1 v2 : Value} {g1 g2 : Nat} {O1 O2 : Nat → Prop} (h : Two w wr v1 v2 g1 g2 O1 O2) (k : wr.grownBy wr' none) : Two w wr' v1 v2 g1 g2 O1 O2 := by
  have hb := fun b hb => k.block b hb (by simp)
  exact ⟨h.below.grown k h.below.size (fun _ e => by cases e), h.ne, h.dj, fun b hb => ⟨(h.o1 b hb).1, (h.o1 b hb).2.1, (h.o1 b hb).2.2.1, Nat.lt_of_lt_of_le (h.o1 b hb).2.2.2 k.size⟩, fun b hb => ⟨(h.o2 b hb).1, (h.o2 b hb).2.1, (h.o2 b hb).2.2.1, Nat.lt_of_lt_of_le (h.o2 b hb).2.2.2 k.size⟩,
    h.s1.spared k.size (fun b hb' => hb b (h.o1 b hb').2.2.2) (hb _ h.b1.2), h.s2.spared k.size (fun b hb' => hb b (h.o2 b hb').2.2.2) (hb _ h.b2.2), ⟨h.b1.1, Nat.lt_of_lt_of_le h.b1.2 k.size⟩, ⟨h.b2.1, Nat.lt_of_lt_of_le h.b2.2 k.size⟩⟩
/-- a row of pieces is none of a splitter's blocks -/
theorem SplAt.piece {O : Nat → Prop} {W W' : World} {gx : Nat} {p : Plan} {seg : List Nat} {all : Nat} {cl : Bool} (h : SplAt O W gx p seg all cl) {q : Nat} {cs : Array Value} (hq : Blk W q 68 cs) (k : W.grownBy W' (some q)) : SplAt O W' gx p seg all cl := by
  obtain ⟨g, gb, gr, rv, ov, e1, e2, e3, e4, e5, e6, e7, e8, e9⟩ := h.at_
  obtain ⟨y, hy⟩ := e2.blk
  exact ⟨fun b hb => Nat.lt_of_lt_of_le (h.lt b hb) k.size, h.tab, h.ox, g, gb, gr, rv, ov, e1.grown k (fun e => blk_ne e1 hq (by decide) (Option.some.inj e)), e2.grown k (fun e => blk_ne hy hq (by decide) (Option.some.inj e)), e3.grown k (fun e => blk_ne e3 hq (by decide) (Option.some.inj e)), e4.grown k (fun e => blk_ne e4 hq (by decide) (Option.some.inj e)),
    own_kept e5 k (fun c hc e => own_ne e5 hq (by decide) (e.trans hc.symm)), e6, e7, e8, e9⟩
theorem Side.piece {wr wr' : World} {v : Value} {g : Nat} {O : Nat → Prop} (h : Side wr v g O) {q : Nat} {cs : Array Value} (hq : Blk wr q 68 cs) (k : wr.grownBy wr' (some q)) : Side wr' v g O := by
  rcases h with h | ⟨gx, p, r, all, cl, h1, h2, h3, h4⟩
  · exact .inl h
  · exact .inr ⟨gx, p, r, all, cl, h1, h2.piece hq k, h3.grown k (fun e => blk_ne h3 hq (by decide) (Option.some.inj e)), h4⟩
theorem Two.piece {w wr wr' : World} {v1 v2 : Value} {g1 g2 : Nat} {O1 O2 : Nat → Prop} (h : Two w wr v1 v2 g1 g2 O1 O2) {q : Nat} {cs : Array Value} (hq : Blk wr q 68 cs) (hw : w.heap.size ≤ q) (k : wr.grownBy wr' (some q)) : Two w wr' v1 v2 g1 g2 O1 O2 :=
  ⟨below_of_only h.below k h.below.size hw, h.ne, h.dj, fun b hb => ⟨(h.o1 b hb).1, (h.o1 b hb).2.1, (h.o1 b hb).2.2.1, Nat.lt_of_lt_of_le (h.o1 b hb).2.2.2 k.size⟩, fun b hb => ⟨(h.o2 b hb).1, (h.o2 b hb).2.1, (h.o2 b hb).2.2.1, Nat.lt_of_lt_of_le (h.o2 b hb).2.2.2 k.size⟩,
    h.s1.piece hq k, h.s2.piece hq k, ⟨h.b1.1, Nat.lt_of_lt_of_le h.b1.2 k.size⟩, ⟨h.b2.1, Nat.lt_of_lt_of_le h.b2.2 k.size⟩⟩
/-- a call on both of the first side -/
theorem Two.step {w wr w7 w8 : World} {gx : Nat} {v2 : Value} {g1 g2 : Nat} {O1 O2 : Nat → Prop} {p : Plan} {r' : ByteArray} {all' : Nat} {cl' : Bool} (h : Two w wr (.pointer (some ⟨gx, 0, none⟩)) v2 g1 g2 O1 O2) (k : Kept (OT O1 wr) wr w7) (hA : SplAt (OF O1 wr w7) w7 gx p (nats r') all' cl')
    (k8 : w7.grownBy w8 (some g1)) (hB : Blk w8 g1 55 (rsC p r' all' cl')) (hp : p.Ok) (hc : SplitP.Clean p (nats r')) (hm : r'.size < p.most) (hr : r'.size ≤ all') (ha : all' ≤ 1048576) : Two w w8 (.pointer (some ⟨gx, 0, none⟩)) v2 g1 g2 (OF O1 wr w7) O2 := by
  have hn : ∀ b, OF O1 wr w7 b → w.heap.size ≤ b ∧ b ≠ g1 ∧ b ≠ g2 ∧ b < w8.heap.size := fun b hb => by
    rcases hb.1 with e | e
    · exact ⟨(h.o1 b e).1, (h.o1 b e).2.1, (h.o1 b e).2.2.1, Nat.lt_of_lt_of_le hb.2 k8.size⟩
    · have := h.b1.2
      have := h.b2.2
      exact ⟨Nat.le_trans h.below.size e, by omega, by omega, Nat.lt_of_lt_of_le hb.2 k8.size⟩
  have hk2 : ∀ b, (O2 b ∨ b = g2) → w8.heap[b]? = wr.heap[b]? := fun b hb => by
    have hlt : b < wr.heap.size := by
      rcases hb with e | e
      · exact (h.o2 b e).2.2.2
      · rw [e]; exact h.b2.2
    have h7 : w7.heap[b]? = wr.heap[b]? := k.block b (fun e => by
      rcases e with e | e
      · rcases hb with e2 | e2
        · exact h.dj b e e2
        · exact (h.o1 b e).2.2.1 e2
      · omega)
    refine (k8.block b (Nat.lt_of_lt_of_le hlt k.size) (fun e => ?_)).trans h7
    injection e with e
    rcases hb with e2 | e2
    · exact (h.o2 b e2).2.1 e
    · exact h.ne (e.symm.trans e2)
  have hb7 : Below w.heap.size w w7 := below_kept h.below h.below.size k (fun b hb => (h.o1 b hb).1)
  have hz := Nat.le_trans k.size k8.size
  refine ⟨below_of_only hb7 k8 hb7.size h.b1.1, h.ne, fun b hb hb2 => ?_, hn, fun b hb => ⟨(h.o2 b hb).1, (h.o2 b hb).2.1, (h.o2 b hb).2.2.1, Nat.lt_of_lt_of_le (h.o2 b hb).2.2.2 hz⟩, .inr ⟨gx, p, r', all', cl', rfl, hA.grown k8 (fun q hq e => ?_), hB, hp, hc, hm, hr, ha⟩, h.s2.spared hz (fun b hb => hk2 b (.inl hb)) (hk2 g2 (.inr rfl)), ⟨h.b1.1, Nat.lt_of_lt_of_le h.b1.2 hz⟩, ⟨h.b2.1, Nat.lt_of_lt_of_le h.b2.2 hz⟩⟩
  · rcases hb.1 with e | e
    · exact h.dj b e hb2
    · have := (h.o2 b hb2).2.2.2; omega
  · injection hq with hq
    exact (hn q e).2.1 hq.symm
/-- New, whatever the plan -/
theorem snew_gen (b f m : Int) (w : World) (hT : Tab w) :
    Calls Tryd.prog 26 #[planV b f m] w fun e w' => ∃ v, e = .returned (.tuple #[v, .int .i64 (planE b f m)]) ∧ Below w.heap.size w w' ∧
      ((planE b f m = 0 ∧ ∃ gx, v = .pointer (some ⟨gx, 0, none⟩) ∧ SplAt (fun k => w.heap.size ≤ k ∧ k < w'.heap.size) w' gx ⟨b.toNat, f.toNat, m.toNat⟩ [] 0 false) ∨ (planE b f m = 90 ∧ v = .pointer none)) := by
  rcases planE_two b f m with h0 | h0
  · refine (snew_any b f m w h0 hT).mono ?_
    rintro e w' ⟨gx, he, hb, hs⟩
    exact ⟨_, by rw [h0]; exact he, hb, .inl ⟨h0, gx, rfl, hs⟩⟩
  · refine (snew_bad b f m w h0).mono ?_
    rintro e w' ⟨he, hb⟩
    exact ⟨_, by rw [h0]; exact he, hb, .inr ⟨h0, rfl⟩⟩
theorem side_start {b f m : Int} {v : Value} {wx W6 : World} {lo g : Nat} (h : (planE b f m = 0 ∧ ∃ gx, v = .pointer (some ⟨gx, 0, none⟩) ∧ SplAt (fun k => lo ≤ k ∧ k < wx.heap.size) wx gx ⟨b.toNat, f.toNat, m.toNat⟩ [] 0 false) ∨ (planE b f m = 90 ∧ v = .pointer none)) (hb : Below wx.heap.size wx W6)
    (hg : Blk W6 g 55 #[.int .i64 b, .int .i64 f, .int .i64 m, .string ⟨#[]⟩, .int .i64 0, .bool false]) : ∃ O : Nat → Prop, (∀ k, O k → lo ≤ k ∧ k < wx.heap.size) ∧ Side W6 v g O := by
  rcases h with ⟨h0, gx, rfl, hs⟩ | ⟨-, rfl⟩
  · obtain ⟨hp, -⟩ := plan_of b f m h0
    refine ⟨_, fun k hk => hk, .inr ⟨gx, ⟨b.toNat, f.toNat, m.toNat⟩, ⟨#[]⟩, 0, false, rfl, hs.below hb, ?_, hp, clean_nil _, ?_, Nat.le_refl _, by omega⟩⟩
    · unfold rsC
      unfold planE at h0
      split at h0
      · rw [Int.toNat_of_nonneg (by omega), Int.toNat_of_nonneg (by omega), Int.toNat_of_nonneg (by omega)]
        exact hg
      · cases h0
    · have := hp.m64
      show 0 < m.toNat
      exact Nat.lt_of_lt_of_le (by omega) this
  · exact ⟨fun _ => False, fun k hk => hk.elim, .inl rfl⟩
theorem two_start {w W6 : World} {v1 v2 : Value} {g1 g2 l1 h1 l2 h2 : Nat} {O1 O2 : Nat → Prop} (hB : Below w.heap.size w W6) (hO1 : ∀ k, O1 k → l1 ≤ k ∧ k < h1) (hO2 : ∀ k, O2 k → l2 ≤ k ∧ k < h2) (s1 : Side W6 v1 g1 O1) (s2 : Side W6 v2 g2 O2)
    (e1 : w.heap.size ≤ l1) (e2 : h1 ≤ l2) (e3 : l1 ≤ h1) (e4 : l2 ≤ h2) (e5 : h2 ≤ g1) (e6 : g1 < g2) (e7 : g2 < W6.heap.size) : Two w W6 v1 v2 g1 g2 O1 O2 := by
  refine ⟨hB, by omega, fun b a c => ?_, fun b a => ?_, fun b a => ?_, s1, s2, by omega, by omega⟩
  · have := hO1 b a; have := hO2 b c; omega
  · have := hO1 b a; omega
  · have := hO2 b a; omega
/-- any row of pieces -/
theorem pieces_open {w : World} {B : Nat} {e : TypeId} {v : Value} {ps : List (List Nat × Nat)} (h : w.ownsRow B e 2 v ps.length (pcCells ps)) : ∃ a cap n, v = .slice a n cap ∧ ps.length = n ∧ n ≤ cap ∧ ∀ i c, ps[i]? = some c → ∃ g, a = some ⟨g, 0, none⟩ ∧ w.cell? ⟨g, i * 2, none⟩ = some (.string (mkS c.1)) ∧ w.cell? ⟨g, i * 2 + 1, none⟩ = some (.int .i64 (c.2 : Int)) := by
  have h' := h
  rcases h.2 with ⟨rfl, hn⟩ | ⟨g, cap, cur, rfl, -, hg, hc, -⟩
  · exact ⟨none, 0, 0, rfl, hn, Nat.le_refl _, fun i c hi => by rw [List.eq_nil_of_length_eq_zero hn] at hi; simp at hi⟩
  · have hcell := World.ownsRow.cells h' (g := g) rfl
    refine ⟨_, cap, _, rfl, rfl, hc, fun i c hi => ⟨g, rfl, ?_⟩⟩
    obtain ⟨h1, h2⟩ := pcCells_get ps i c hi
    have a1 := hcell _ _ h1
    have a2 := hcell _ _ h2
    rw [show (⟨g, 0, none⟩ : Addr).add (i * 2) = ⟨g, i * 2, none⟩ by unfold Addr.add; split <;> simp_all] at a1
    rw [show (⟨g, 0, none⟩ : Addr).add (i * 2 + 1) = ⟨g, i * 2 + 1, none⟩ by unfold Addr.add; split <;> simp_all] at a2
    exact ⟨a1, a2⟩
set_option maxRecDepth 100000 in
set_option maxHeartbeats 1000000 in
theorem pieces_any (v u : Value) (ps : List (List Nat × Nat)) (w : World) (B : Nat) (hv : PieceRow w v ps) (hu : RPieceRow B w u ps) (hl : ps.length ≤ 1048577) :
    Calls Tryd.prog 31 #[v, u] w fun e w' => e = .returned (.bool true) ∧ ∃ m, w' = w.drewN m := by
  obtain ⟨a1, cap1, n, rfl, hn, hc1, h1⟩ := pieces_open hv
  obtain ⟨a2, cap2, n2, rfl, hn2, hc2, h2⟩ := pieces_open hu
  obtain rfl : n = n2 := hn.symm.trans hn2
  clear hv hu hn2
  rw [hn] at hl
  have HN := Lib.hid hn; clear hn
  have H1 := Lib.hid h1; have H2 := Lib.hid h2
  clear h1 h2
  go_enter Tryd.func31, Tryd.ntmps31
  go_wp2_with fail
  go_loopw [5] (fun i wr => ∃ k : Nat, i = .int .i64 k ∧ k ≤ n ∧ Hid (∃ m, wr = w.drewN m)) (fun i _ => n - (intOf i).toNat)
  case atStart => exact ⟨0, rfl, Nat.zero_le _, 0, rfl⟩
  case round =>
    obtain ⟨k, rfl, hk, H⟩ := hrel
    obtain ⟨m, rfl⟩ := H.out
    clear H
    by_cases hlt : k < n
    · obtain ⟨c, hc⟩ : ∃ c, ps[k]? = some c := ⟨_, List.getElem?_eq_getElem (by rw [HN.out]; exact hlt)⟩
      obtain ⟨g1, rfl, p1, p2⟩ := H1.out k c hc
      obtain ⟨g2, rfl, q1, q2⟩ := H2.out k c hc
      obtain ⟨x, y⟩ := c
      dsimp only at p1 p2 q1 q2
      have hd1 : ((y : Int) != (y : Int)) = false := by simp
      generalize mkS x = D at *
      clear hc
      go_wp2_with fail
      go_quiet (fail)
      go_wp2_with fail
      go_roundw
      case rel => exact ⟨k + 1, by go_num, by omega, _, rfl⟩
      case measure => simp [intOf]; omega
    · obtain rfl : k = n := by omega
      go_wp2_with fail
      go_ret
      exact ⟨rfl, m, rfl⟩
/-- what a step of the script leaves -/
def Res (w : World) (v15 vo : Value) (g16 go : Nat) (wx : World) (v17 v18 : Value) : Prop :=
  ∃ ps B O1 O2, PieceRow wx v17 ps ∧ RPieceRow B wx v18 ps ∧ ps.length ≤ 1048577 ∧ (∀ q, v17.ownBlock = some q → w.heap.size ≤ q) ∧ Two w wx v15 vo g16 go O1 O2
theorem res_none {w wx : World} {v15 vo : Value} {g16 go : Nat} {O1 O2 : Nat → Prop} (h : Two w wx v15 vo g16 go O1 O2) : Res w v15 vo g16 go wx (.slice none 0 0) (.slice none 0 0) :=
  ⟨[], 0, O1, O2, World.ownsRow_nil _ _ _ _, World.ownsRow_nil _ _ _ _, Nat.zero_le _, (fun q hq => by cases hq), h⟩
theorem res_some {w wr w7 w8 : World} {gx g16 go : Nat} {vo ov u : Value} {O1 O2 : Nat → Prop} {p : Plan} {r r' : ByteArray} {all all' : Nat} {cl cl' : Bool} {ps : List (List Nat × Nat)} (h : Two w wr (.pointer (some ⟨gx, 0, none⟩)) vo g16 go O1 O2) (k : Kept (OT O1 wr) wr w7) (hA : SplAt (OF O1 wr w7) w7 gx p (nats r') all' cl')
    (hP : PieceRow w7 ov ps) (hO : Owned (OF O1 wr w7) ov) (hB7 : Blk w7 g16 55 (rsC p r all cl)) (k8 : w7.grownBy w8 (some g16)) (hB : Blk w8 g16 55 (rsC p r' all' cl')) (hR : RPieceRow w7.heap.size w8 u ps) (hl : ps.length ≤ 1048577)
    (hp : p.Ok) (hc : SplitP.Clean p (nats r')) (hm : r'.size < p.most) (hr : r'.size ≤ all') (ha : all' ≤ 1048576) : Res w (.pointer (some ⟨gx, 0, none⟩)) vo g16 go w8 ov u :=
  ⟨ps, _, _, _, own_kept hP k8 (fun q hq e => own_ne hP hB7 (by decide) (e.trans hq.symm)), hR, hl, fun q hq => by
    rcases (hO q hq).1 with e | e
    · exact (h.o1 q e).1
    · exact Nat.le_trans h.below.size e, h.step k hA k8 hB hp hc hm hr ha⟩
theorem Two.ref {w wr w7 : World} {v1 v2 : Value} {g1 g2 : Nat} {O1 O2 : Nat → Prop} (h : Two w wr v1 v2 g1 g2 O1 O2) (k : Kept (OT O1 wr) wr w7) {cs : Array Value} (hB : Blk wr g1 55 cs) : Blk w7 g1 55 cs :=
  (k.block g1 (fun e => by
    rcases e with e | e
    · exact (h.o1 g1 e).2.1 rfl
    · have := h.b1.2; omega)).trans hB
end Go.Proofs.YtmnggemifcjflaaDoor
