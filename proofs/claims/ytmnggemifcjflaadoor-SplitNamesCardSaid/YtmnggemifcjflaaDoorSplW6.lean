/-
  A splitter, the walk: Close, New.
-/
import Derived.Test.YtmnggemifcjflaaDoorSplW5
import Derived.Test.YtmnggemifcjflaaDoorAllP
namespace Go.Proofs.YtmnggemifcjflaaDoor
open Go.RowKit PlainP RollP OnesP SplitP


theorem SplAt.widen {O O2 : Nat → Prop} {W : World} {gx : Nat} {p : Plan} {seg : List Nat} {all : Nat} {cl : Bool} (h : SplAt O W gx p seg all cl) (h1 : ∀ b, O b → O2 b) (h2 : ∀ b, O2 b → b < W.heap.size) (h3 : ¬ O2 0) : SplAt O2 W gx p seg all cl := by
  obtain ⟨g, gb, gr, rv, ov, e1, e2, e3, e4, e5, e6, e7, e8, e9⟩ := h.at_
  exact ⟨h2, h3, h1 _ h.ox, g, gb, gr, rv, ov, e1, e2, e3, e4, e5, fun k hk => h1 k (e6 k hk), h1 _ e7, h1 _ e8, h1 _ e9⟩

theorem sclose_nil (w : World) : Calls Tryd.prog 29 #[.pointer none] w fun e w' => e = .returned (.tuple #[.slice none 0 0, .int .i64 2]) ∧ w = w' := by
  go_enter Tryd.func29, Tryd.ntmps29
  go_wp2_with fail
  go_ret2
  exact ⟨rfl, rfl⟩
theorem sclose_done {O : Nat → Prop} {w : World} {gx : Nat} {p : Plan} {seg : List Nat} {all : Nat} (h : SplAt O w gx p seg all true) : Calls Tryd.prog 29 #[.pointer (some ⟨gx, 0, none⟩)] w fun e w' => e = .returned (.tuple #[.slice none 0 0, .int .i64 5]) ∧ w = w' := by
  obtain ⟨g, gb, gr, rv, ov, -, -, -, h4, -⟩ := h.at_
  have c4 : w.cell? ⟨gx, 4, none⟩ = some (.bool true) := by rw [h4.cell]; rfl
  clear h4 h
  go_enter Tryd.func29, Tryd.ntmps29
  go_wp2_with fail
  go_ret2
  exact ⟨rfl, rfl⟩

theorem piece_one (W : World) (seg : List Nat) (g : Nat) (hg : g = W.heap.size) : PieceRow (W.alloc (.cells #[.string (mkS seg), .int .i64 0] 68)) (.slice (some ⟨g, 0, none⟩) 1 1) [(seg, 0)] := by
  subst hg
  exact ⟨rfl, .inr ⟨W.heap.size, 1, _, rfl, Nat.zero_le _, heap_alloc_new W _, Nat.le_refl _, by unfold maxLen; omega, rfl, rfl⟩⟩
set_option maxRecDepth 100000 in
theorem sclose_any (O : Nat → Prop) (w : World) (gx : Nat) (p : Plan) (seg : List Nat) (all : Nat) (h : SplAt O w gx p seg all false) (hb : Bytes seg) (hT : Tab w) :
    Calls Tryd.prog 29 #[.pointer (some ⟨gx, 0, none⟩)] w fun e w' => ∃ ov, e = .returned (.tuple #[ov, .int .i64 0]) ∧ Kept (OT O w) w w' ∧ SplAt (OF O w w') w' gx p seg all true ∧ PieceRow w' ov (lastP seg) ∧ Owned (OF O w w') ov := by
  obtain ⟨g, gb, gr, rv, ov, e1, e2, e3, e4, e5, e6, e7, e8, e9⟩ := h.at_
  have c4 : w.cell? ⟨gx, 4, none⟩ = some (.bool false) := by rw [e4.cell]; rfl
  have f4 := e4.frozen 4
  have hO : ∀ b, w.heap.size ≤ b → OT O w b := fun b hb => .inr hb
  have hgx := e4.lt
  have k0 : w.grownBy (w.setCell ⟨gx, 4, none⟩ (.bool true)) (some gx) := only_setCell (only_refl w (some gx)) (.inl rfl) _
  have a1 : Blk (w.setCell ⟨gx, 4, none⟩ (.bool true)) gx 99 (splC g rv ov (all : Int) true) := e4.set_ 4 (.bool true)
  have hK0 := (Kept.refl (OT O w) w).grown hO k0 (fun _ e => by injection e with e; subst e; exact .inl h.ox)
  obtain ⟨y, hy⟩ := e2.blk
  have a5 : ByteRow (w.setCell ⟨gx, 4, none⟩ (.bool true)) rv seg := own_kept e5 k0 (fun q hq e => own_ne e5 e4 (by decide) (e.trans hq.symm))
  have hA : SplAt O (w.setCell ⟨gx, 4, none⟩ (.bool true)) gx p seg all true :=
    ⟨fun b hb => Nat.lt_of_lt_of_le (h.lt b hb) k0.size, h.tab, h.ox, g, gb, gr, rv, ov, e1.grown k0 (fun e => blk_ne e1 e4 (by decide) (Option.some.inj e)), e2.grown k0 (fun e => blk_ne e4 hy (by decide) (Option.some.inj e).symm), e3.grown k0 (fun e => blk_ne e3 e4 (by decide) (Option.some.inj e)), a1, a5, e6, e7, e8, e9⟩
  have x1 : (w.setCell ⟨gx, 4, none⟩ (.bool true)).cell? ⟨gx, 1, none⟩ = some rv := by rw [a1.cell]; rfl
  have hT0 : ∀ w', ¬ OF O w w' 0 := fun w' e => by
    rcases e.1 with e | e
    · exact h.tab e
    · exact Nat.lt_irrefl _ (Nat.lt_of_lt_of_le hT.1 e)
  have hz : w.heap.size = (w.setCell ⟨gx, 4, none⟩ (.bool true)).heap.size := by simp
  have HA := Lib.hid hA; have HK0 := Lib.hid hK0; have HT0 := Lib.hid hT0; have HZ := Lib.hid hz; have HO := Lib.hid hO; have HLT := Lib.hid h.lt
  by_cases h0 : seg.length = 0
  · have hrv : ∃ a cap, rv = .slice a 0 cap := by
      rcases e5.2 with ⟨rfl, _⟩ | ⟨g', cap, cur, rfl, -⟩
      · exact ⟨_, _, rfl⟩
      · exact ⟨_, _, by rw [h0]⟩
    obtain ⟨ra, rcap, rfl⟩ := hrv
    have hlp : lastP seg = [] := if_pos h0
    clear e1 e2 e3 e4 e5 e6 e7 e8 e9 a1 a5 hA hK0 hT0 hz hO k0 h
    go_enter Tryd.func29, Tryd.ntmps29
    go_wp2_with fail
    go_ret2
    rw [hlp]
    exact ⟨_, rfl, HK0.out, HA.out.widen (fun b hb => ⟨.inl hb, Nat.lt_of_lt_of_le (HLT.out b hb) HK0.out.size⟩) (fun b hb => hb.2) (HT0.out _), World.ownsRow_nil _ _ _ _, fun k hk => by cases hk⟩
  · obtain ⟨rg, cap, rfl, hh⟩ := byteRow_holds a5 (by omega)
    obtain ⟨n, hn⟩ : ∃ n, seg.length = n := ⟨_, rfl⟩
    rw [hn] at x1
    have hcv : (convert 74 9 (.slice (some ⟨rg, 0, none⟩) n cap)).run Tryd.prog (w.setCell ⟨gx, 4, none⟩ (.bool true)) = .ok (.string (mkS seg)) (w.setCell ⟨gx, 4, none⟩ (.bool true)) := by
      have := back_bytes (cap := cap) hh hb
      rwa [hn] at this
    have hn0 : ¬ (n = 0) := by omega
    have hlp : lastP seg = [(seg, 0)] := if_neg h0
    clear e1 e2 e3 e4 e5 e6 e7 e8 e9 a1 a5 hA hK0 hT0 hz hO k0 h hh
    go_enter Tryd.func29, Tryd.ntmps29
    go_wp2_with fail
    go_ret2
    rw [hlp]
    have hal := World.grownBy_alloc (w.setCell ⟨gx, 4, none⟩ (.bool true)) (.cells #[.string (mkS seg), .int .i64 0] 68) none
    have hK := HK0.out.grown HO.out hal (fun _ e => by cases e)
    have hA := HA.out.grown hal (fun _ e => by cases e)
    exact ⟨_, rfl, hK, hA.widen (fun b hb => ⟨.inl hb, Nat.lt_of_lt_of_le (HLT.out b hb) hK.size⟩) (fun b hb => hb.2) (HT0.out _), piece_one (w.setCell ⟨gx, 4, none⟩ (.bool true)) seg w.heap.size HZ.out, fun k hk => by
      injection hk with hk
      subst hk
      exact ⟨.inr (Nat.le_refl _), by simp⟩⟩


theorem snew_fin (b f m : Int) (w W2 w3 : World) (C gx : Nat) (hb : ((b.toNat : Nat) : Int) = b) (hf : ((f.toNat : Nat) : Int) = f) (hm : ((m.toNat : Nat) : Int) = m) (hz2 : W2.heap.size = gx + 2)
    (b0 : Blk W2 gx 99 #[.pointer none, .slice none 0 0, .slice none 0 0, .int .i64 0, .bool false]) (b1 : Blk W2 (gx + 1) 50 #[.pointer (some ⟨gx, 0, none⟩)]) (b2 : Blk W2 C 41 #[.int .i64 b, .int .i64 f, .int .i64 m])
    (hB : Below w.heap.size w W2) (hg : w.heap.size ≤ gx) (hT : Tab w) (k3 : W2.drew.grownBy w3 none) (l3 : W2.drew.heap.size < w3.heap.size) (r3 : RollAt w3 W2.drew.heap.size (win [])) :
    (w3.cell? ⟨gx + 1, 0, none⟩ = some (.pointer (some ⟨gx, 0, none⟩)) ∧ w3.cell? ⟨C, 0, none⟩ = some (.int .i64 b) ∧ w3.cell? ⟨C, 1, none⟩ = some (.int .i64 f) ∧ w3.cell? ⟨C, 2, none⟩ = some (.int .i64 m)) ∧
    ((w3.alloc (.cells #[.int .i64 b, .int .i64 f, .int .i64 m, .pointer (some ⟨gx + 2, 0, none⟩), .int .i64 0, Value.func (.func 41) #[] #[.pointer (some ⟨gx + 1, 0, none⟩)]] 97)).cell? ⟨gx + 1, 0, none⟩ = some (.pointer (some ⟨gx, 0, none⟩)) ∧ (w3.alloc (.cells #[.int .i64 b, .int .i64 f, .int .i64 m, .pointer (some ⟨gx + 2, 0, none⟩), .int .i64 0, Value.func (.func 41) #[] #[.pointer (some ⟨gx + 1, 0, none⟩)]] 97)).cell? ⟨C, 0, none⟩ = some (.int .i64 b) ∧ (w3.alloc (.cells #[.int .i64 b, .int .i64 f, .int .i64 m, .pointer (some ⟨gx + 2, 0, none⟩), .int .i64 0, Value.func (.func 41) #[] #[.pointer (some ⟨gx + 1, 0, none⟩)]] 97)).cell? ⟨C, 1, none⟩ = some (.int .i64 f) ∧ (w3.alloc (.cells #[.int .i64 b, .int .i64 f, .int .i64 m, .pointer (some ⟨gx + 2, 0, none⟩), .int .i64 0, Value.func (.func 41) #[] #[.pointer (some ⟨gx + 1, 0, none⟩)]] 97)).cell? ⟨C, 2, none⟩ = some (.int .i64 m)) ∧
    (w3.alloc (.cells #[.int .i64 b, .int .i64 f, .int .i64 m, .pointer (some ⟨gx + 2, 0, none⟩), .int .i64 0, Value.func (.func 41) #[] #[.pointer (some ⟨gx + 1, 0, none⟩)]] 97)).cell? ⟨gx, 0, none⟩ = some (.pointer none) ∧ (w3.alloc (.cells #[.int .i64 b, .int .i64 f, .int .i64 m, .pointer (some ⟨gx + 2, 0, none⟩), .int .i64 0, Value.func (.func 41) #[] #[.pointer (some ⟨gx + 1, 0, none⟩)]] 97)).frozen? ⟨gx, 0, none⟩ = false ∧
    (((w3.alloc (.cells #[.int .i64 b, .int .i64 f, .int .i64 m, .pointer (some ⟨gx + 2, 0, none⟩), .int .i64 0, Value.func (.func 41) #[] #[.pointer (some ⟨gx + 1, 0, none⟩)]] 97)).setCell ⟨gx, 0, none⟩ (.pointer (some ⟨w3.heap.size, 0, none⟩))).cell? ⟨gx + 1, 0, none⟩ = some (.pointer (some ⟨gx, 0, none⟩)) ∧ ((w3.alloc (.cells #[.int .i64 b, .int .i64 f, .int .i64 m, .pointer (some ⟨gx + 2, 0, none⟩), .int .i64 0, Value.func (.func 41) #[] #[.pointer (some ⟨gx + 1, 0, none⟩)]] 97)).setCell ⟨gx, 0, none⟩ (.pointer (some ⟨w3.heap.size, 0, none⟩))).cell? ⟨C, 0, none⟩ = some (.int .i64 b) ∧ ((w3.alloc (.cells #[.int .i64 b, .int .i64 f, .int .i64 m, .pointer (some ⟨gx + 2, 0, none⟩), .int .i64 0, Value.func (.func 41) #[] #[.pointer (some ⟨gx + 1, 0, none⟩)]] 97)).setCell ⟨gx, 0, none⟩ (.pointer (some ⟨w3.heap.size, 0, none⟩))).cell? ⟨C, 1, none⟩ = some (.int .i64 f) ∧ ((w3.alloc (.cells #[.int .i64 b, .int .i64 f, .int .i64 m, .pointer (some ⟨gx + 2, 0, none⟩), .int .i64 0, Value.func (.func 41) #[] #[.pointer (some ⟨gx + 1, 0, none⟩)]] 97)).setCell ⟨gx, 0, none⟩ (.pointer (some ⟨w3.heap.size, 0, none⟩))).cell? ⟨C, 2, none⟩ = some (.int .i64 m)) ∧
    Below w.heap.size w ((w3.alloc (.cells #[.int .i64 b, .int .i64 f, .int .i64 m, .pointer (some ⟨gx + 2, 0, none⟩), .int .i64 0, Value.func (.func 41) #[] #[.pointer (some ⟨gx + 1, 0, none⟩)]] 97)).setCell ⟨gx, 0, none⟩ (.pointer (some ⟨w3.heap.size, 0, none⟩))) ∧
    SplAt (fun k => w.heap.size ≤ k ∧ k < ((w3.alloc (.cells #[.int .i64 b, .int .i64 f, .int .i64 m, .pointer (some ⟨gx + 2, 0, none⟩), .int .i64 0, Value.func (.func 41) #[] #[.pointer (some ⟨gx + 1, 0, none⟩)]] 97)).setCell ⟨gx, 0, none⟩ (.pointer (some ⟨w3.heap.size, 0, none⟩))).heap.size) ((w3.alloc (.cells #[.int .i64 b, .int .i64 f, .int .i64 m, .pointer (some ⟨gx + 2, 0, none⟩), .int .i64 0, Value.func (.func 41) #[] #[.pointer (some ⟨gx + 1, 0, none⟩)]] 97)).setCell ⟨gx, 0, none⟩ (.pointer (some ⟨w3.heap.size, 0, none⟩))) gx ⟨b.toNat, f.toNat, m.toNat⟩ [] 0 false := by
  have hz : W2.drew.heap.size = gx + 2 := hz2
  rw [hz] at l3 r3
  have c0 : Blk w3 gx _ _ := b0.drew.grown k3 (by simp)
  have c1 : Blk w3 (gx + 1) _ _ := b1.drew.grown k3 (by simp)
  have c2 : Blk w3 C _ _ := b2.drew.grown k3 (by simp)
  have hBd : Below w.heap.size w w3 := hB.drew.grown k3 hB.drew.size (fun _ e => by cases e)
  have hnew := Blk.new w3 97 #[.int .i64 b, .int .i64 f, .int .i64 m, .pointer (some ⟨gx + 2, 0, none⟩), .int .i64 0, Value.func (.func 41) #[] #[.pointer (some ⟨gx + 1, 0, none⟩)]]
  have hal := World.grownBy_alloc w3 (.cells #[.int .i64 b, .int .i64 f, .int .i64 m, .pointer (some ⟨gx + 2, 0, none⟩), .int .i64 0, Value.func (.func 41) #[] #[.pointer (some ⟨gx + 1, 0, none⟩)]] 97) none
  have r4 := r3.grown hal (by simp)
  have d0 := c0.alloc (.cells #[.int .i64 b, .int .i64 f, .int .i64 m, .pointer (some ⟨gx + 2, 0, none⟩), .int .i64 0, Value.func (.func 41) #[] #[.pointer (some ⟨gx + 1, 0, none⟩)]] 97)
  have d1 := c1.alloc (.cells #[.int .i64 b, .int .i64 f, .int .i64 m, .pointer (some ⟨gx + 2, 0, none⟩), .int .i64 0, Value.func (.func 41) #[] #[.pointer (some ⟨gx + 1, 0, none⟩)]] 97)
  have d2 := c2.alloc (.cells #[.int .i64 b, .int .i64 f, .int .i64 m, .pointer (some ⟨gx + 2, 0, none⟩), .int .i64 0, Value.func (.func 41) #[] #[.pointer (some ⟨gx + 1, 0, none⟩)]] 97)
  have hB4 := hBd.alloc hBd.size (.cells #[.int .i64 b, .int .i64 f, .int .i64 m, .pointer (some ⟨gx + 2, 0, none⟩), .int .i64 0, Value.func (.func 41) #[] #[.pointer (some ⟨gx + 1, 0, none⟩)]] 97)
  have hz4 : (w3.alloc (.cells #[.int .i64 b, .int .i64 f, .int .i64 m, .pointer (some ⟨gx + 2, 0, none⟩), .int .i64 0, Value.func (.func 41) #[] #[.pointer (some ⟨gx + 1, 0, none⟩)]] 97)).heap.size = w3.heap.size + 1 := by simp
  generalize w3.alloc (.cells #[.int .i64 b, .int .i64 f, .int .i64 m, .pointer (some ⟨gx + 2, 0, none⟩), .int .i64 0, Value.func (.func 41) #[] #[.pointer (some ⟨gx + 1, 0, none⟩)]] 97) = W4 at *
  have k5 : W4.grownBy (W4.setCell ⟨gx, 0, none⟩ (.pointer (some ⟨w3.heap.size, 0, none⟩))) (some gx) := only_setCell (only_refl W4 (some gx)) (.inl rfl) _
  have e0 := d0.set_ 0 (.pointer (some ⟨w3.heap.size, 0, none⟩))
  have e1 := d1.grown k5 (fun e => blk_ne d1 d0 (by decide) (Option.some.inj e))
  have e2 := d2.grown k5 (fun e => blk_ne d2 d0 (by decide) (Option.some.inj e))
  have e3 := hnew.grown k5 (fun e => blk_ne hnew d0 (by decide) (Option.some.inj e))
  obtain ⟨y, hy⟩ := r4.blk
  have r5 := r4.grown k5 (fun e => blk_ne hy d0 (by decide) (Option.some.inj e))
  have hz5 := k5.size
  have l0 := e0.lt
  have l1 := e1.lt
  have l3' := e3.lt
  have l5 := r5.lt
  have hw := hB.size
  refine ⟨⟨c1.cell 0, c2.cell 0, c2.cell 1, c2.cell 2⟩, ⟨d1.cell 0, d2.cell 0, d2.cell 1, d2.cell 2⟩, d0.cell 0, d0.frozen 0, ⟨e1.cell 0, e2.cell 0, e2.cell 1, e2.cell 2⟩, below_of_only hB4 k5 hB4.size hg, fun k hk => hk.2, fun e => ?_, ⟨hg, l0⟩, w3.heap.size, gx + 1, gx + 2, .slice none 0 0, .slice none 0 0, ?_, r5, e1, e0, World.ownsRow_nil _ _ _ _, (fun k hk => by cases hk), ⟨hBd.size, l3'⟩, ⟨by omega, l1⟩, ⟨by omega, l5⟩⟩
  · exact Nat.lt_irrefl _ (Nat.lt_of_lt_of_le hT.1 e.1)
  · unfold eachC
    simp only [hb, hf, hm]
    exact e3
set_option maxRecDepth 100000 in
set_option maxHeartbeats 1000000 in
theorem snew_any (b f m : Int) (w : World) (hE : planE b f m = 0) (hT : Tab w) :
    Calls Tryd.prog 26 #[planV b f m] w fun e w' => ∃ gx, e = .returned (.tuple #[.pointer (some ⟨gx, 0, none⟩), .int .i64 0]) ∧ Below w.heap.size w w' ∧ SplAt (fun k => w.heap.size ≤ k ∧ k < w'.heap.size) w' gx ⟨b.toNat, f.toNat, m.toNat⟩ [] 0 false := by
  obtain ⟨hp, hv⟩ := plan_of b f m hE
  have hck := fun W => check_any b f m W
  rw [hE] at hck
  have hb : ((b.toNat : Nat) : Int) = b := by unfold planE at hE; split at hE <;> omega
  have hf : ((f.toNat : Nat) : Int) = f := by unfold planE at hE; split at hE <;> omega
  have hm : ((m.toNat : Nat) : Int) = m := by unfold planE at hE; split at hE <;> omega
  have HCK := Lib.hid hck; clear hck
  have HT := Lib.hid hT; clear hT
  unfold planV at *
  go_enter Tryd.func26, Tryd.ntmps26
  go_wp2_with fail
  refine (HCK.out _).mono ?_
  rintro e w1 ⟨rfl, hb1⟩
  have hB1 : Below w.heap.size w w1 := ((Below.refl _ _).alloc (Nat.le_refl _) _).trans (hb1.mono (by simp))
  have hK1 : Blk w1 w.heap.size 41 #[.int .i64 b, .int .i64 f, .int .i64 m] := (Blk.new w _ _).below hb1 (by simp)
  have c0 : w1.cell? ⟨w.heap.size, 0, none⟩ = some (.int .i64 b) := by rw [hK1.cell]; rfl
  have c1 : w1.cell? ⟨w.heap.size, 1, none⟩ = some (.int .i64 f) := by rw [hK1.cell]; rfl
  have c2 : w1.cell? ⟨w.heap.size, 2, none⟩ = some (.int .i64 m) := by rw [hK1.cell]; rfl
  have hlt1 := hK1.lt
  have HB1 := Lib.hid hB1; have HK1 := Lib.hid hK1; clear hB1 hb1 hK1
  go_upto_region 5 with (fail)
  obtain ⟨C, hC⟩ : ∃ C, w.heap.size = C := ⟨_, rfl⟩
  obtain ⟨gx, hgx⟩ : ∃ gx, w1.heap.size = gx := ⟨_, rfl⟩
  obtain ⟨W2, hW2⟩ : ∃ W2, (w1.alloc (.cells #[.pointer none, .slice none 0 0, .slice none 0 0, .int .i64 0, .bool false] 99)).alloc (.cells #[.pointer (some ⟨gx, 0, none⟩)] 50) = W2 := ⟨_, rfl⟩
  have hz2 : W2.heap.size = gx + 2 := by rw [← hW2, ← hgx]; simp
  have b0 : Blk W2 gx 99 #[.pointer none, .slice none 0 0, .slice none 0 0, .int .i64 0, .bool false] := by rw [← hW2, ← hgx]; exact (Blk.new w1 _ _).alloc _
  have b1 : Blk W2 (gx + 1) 50 #[.pointer (some ⟨gx, 0, none⟩)] := by
    have := Blk.new (w1.alloc (.cells #[.pointer none, .slice none 0 0, .slice none 0 0, .int .i64 0, .bool false] 99)) 50 #[.pointer (some ⟨gx, 0, none⟩)]
    rw [hW2] at this
    rwa [show (w1.alloc (.cells #[.pointer none, .slice none 0 0, .slice none 0 0, .int .i64 0, .bool false] 99)).heap.size = gx + 1 by rw [← hgx]; simp] at this
  have b2 : Blk W2 C 41 #[.int .i64 b, .int .i64 f, .int .i64 m] := by rw [← hW2, ← hC]; exact ((HK1.out.alloc _).alloc _)
  have hB2 : Below w.heap.size w W2 := by rw [← hW2]; exact (HB1.out.alloc HB1.out.size _).alloc (by simp; have := HB1.out.size; omega) _
  have hgw : w.heap.size ≤ gx := by rw [← hgx]; exact HB1.out.size
  rw [hC, hgx, hW2]
  rw [hC] at c0 c1 c2 hlt1
  have hS : W2.drew.cell? ⟨gx + 1, 0, none⟩ = some (.pointer (some ⟨gx, 0, none⟩)) ∧ W2.drew.cell? ⟨C, 0, none⟩ = some (.int .i64 b) ∧ W2.drew.cell? ⟨C, 1, none⟩ = some (.int .i64 f) ∧ W2.drew.cell? ⟨C, 2, none⟩ = some (.int .i64 m) :=
    ⟨b1.drew.cell 0, b2.drew.cell 0, b2.drew.cell 1, b2.drew.cell 2⟩
  have HF := Lib.hid (fun w3 (k3 : W2.drew.grownBy w3 none) l3 r3 => snew_fin b f m w W2 w3 C gx hb hf hm hz2 b0 b1 b2 hB2 hgw HT.out k3 l3 r3)
  have HS := Lib.hid hS
  clear hW2 hgx hC b0 b1 b2 hB2 hS
  go_region_held_law (fun X => X.cell? ⟨gx + 1, 0, none⟩ = some (.pointer (some ⟨gx, 0, none⟩)) ∧ X.cell? ⟨C, 0, none⟩ = some (.int .i64 b) ∧ X.cell? ⟨C, 1, none⟩ = some (.int .i64 f) ∧ X.cell? ⟨C, 2, none⟩ = some (.int .i64 m))
    (first | exact HS.out | exact S3.out | exact S4.out | exact S5.out)
    (first | (go_at_call 19; refine (new_roll _).mono ?_; rintro e w3 ⟨W3, hW3, rfl, k3, l3, r3⟩; obtain ⟨s3, s4, x4, f4, s5, t5⟩ := HF.out w3 k3 l3 r3; have S3 := Lib.hid s3; have S4 := Lib.hid s4; have S5 := Lib.hid s5; have T5 := Lib.hid t5; clear k3 l3 r3 s3 s4 s5 t5 hW3 W3))
  all_goals (
    go_wp2_with fail
    go_ret2
    exact ⟨gx, rfl, T5.out⟩)
theorem snew_bad (b f m : Int) (w : World) (hE : planE b f m = 90) :
    Calls Tryd.prog 26 #[planV b f m] w fun e w' => e = .returned (.tuple #[.pointer none, .int .i64 90]) ∧ Below w.heap.size w w' := by
  have hck := fun W => check_any b f m W
  rw [hE] at hck
  have HCK := Lib.hid hck; clear hck
  unfold planV at *
  go_enter Tryd.func26, Tryd.ntmps26
  go_wp2_with fail
  refine (HCK.out _).mono ?_
  rintro e w1 ⟨rfl, hb1⟩
  have hB1 : Below w.heap.size w w1 := ((Below.refl _ _).alloc (Nat.le_refl _) _).trans (hb1.mono (by simp))
  have HB1 := Lib.hid hB1; clear hB1 hb1
  go_wp2_with fail
  go_ret2
  exact ⟨rfl, HB1.out⟩
end Go.Proofs.YtmnggemifcjflaaDoor
