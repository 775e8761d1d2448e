/-
  A splitter, the walk: Write, Close, New.
-/
import Derived.Test.YtmnggemifcjflaaDoorSplW3
namespace Go.Proofs.YtmnggemifcjflaaDoor
open Go.RowKit PlainP RollP OnesP SplitP

/-- a splitter between two calls: O holds its blocks -/
structure SplAt (O : Nat → Prop) (W : World) (gx : Nat) (p : Plan) (seg : List Nat) (all : Nat) (cl : Bool) : Prop where
  lt : ∀ b, O b → b < W.heap.size
  tab : ¬ O 0
  ox : O gx
  at_ : ∃ g gb gr rv ov, Blk W g 97 (eachC p gr seg.length (onNew gb)) ∧ RollAt W gr (win seg) ∧ Blk W gb 50 #[.pointer (some ⟨gx, 0, none⟩)] ∧ Blk W gx 99 (splC g rv ov (all : Int) cl) ∧ ByteRow W rv seg ∧ Owned O rv ∧ O g ∧ O gb ∧ O gr

section
variable {O : Nat → Prop} {W W' : World} {gx : Nat} {p : Plan} {seg : List Nat} {all : Nat} {cl : Bool}
/-- a change that spares its blocks -/
theorem SplAt.spared (h : SplAt O W gx p seg all cl) (hz : W.heap.size ≤ W'.heap.size) (hk : ∀ b, O b → W'.heap[b]? = W.heap[b]?) : SplAt O W' gx p seg all cl := by
  obtain ⟨g, gb, gr, rv, ov, h1, h2, h3, h4, h5, h6, h7, h8, h9⟩ := h.at_
  refine ⟨fun b hb => Nat.lt_of_lt_of_le (h.lt b hb) hz, h.tab, h.ox, g, gb, gr, rv, ov, (hk g h7).trans h1, ?_, (hk gb h8).trans h3, (hk gx h.ox).trans h4, ?_, h6, h7, h8, h9⟩
  · obtain ⟨c, q, e1, e2, e3, e4, e5⟩ := h2
    exact ⟨c, q, e1, e2, e3, e4, (hk gr h9).trans e5⟩
  · refine ⟨h5.1, ?_⟩
    rcases h5.2 with e | ⟨b, cap, cur, e1, e2, e3, e4⟩
    · exact .inl e
    · exact .inr ⟨b, cap, cur, e1, e2, (hk b (h6 b (by rw [e1]; rfl))).trans e3, e4⟩
theorem SplAt.grown (h : SplAt O W gx p seg all cl) {row : Option Nat} (k : W.grownBy W' row) (hr : ∀ q, row = some q → ¬ O q) : SplAt O W' gx p seg all cl :=
  h.spared k.size fun b hb => k.block b (h.lt b hb) (fun e => hr b e.symm hb)
theorem SplAt.below (h : SplAt O W gx p seg all cl) (k : Below W.heap.size W W') : SplAt O W' gx p seg all cl :=
  h.spared k.size fun b hb => k.block b (h.lt b hb)
/-- another's blocks have turned -/
theorem SplAt.kept (h : SplAt O W gx p seg all cl) {O2 : Nat → Prop} (k : Kept (fun b => O2 b ∨ W.heap.size ≤ b) W W') (hd : ∀ b, O b → ¬ O2 b) : SplAt O W' gx p seg all cl :=
  h.spared k.size fun b hb => k.block b (fun e => by
    rcases e with e | e
    · exact hd b hb e
    · exact Nat.lt_irrefl _ (Nat.lt_of_lt_of_le (h.lt b hb) e))

/-- x.rest = append(x.rest, b) -/
theorem SplIn.pushRest {w : World} {g gb gr : Nat} {ec : Array Value} {l rest : List Nat} {ps : List (List Nat × Nat)} {all : Int} (h : SplIn O w W g gx gb gr ec l rest ps all cl) {rv ov : Value} (h1 : Blk W gx 99 (splC g rv ov all cl)) (h2 : ByteRow W rv rest) (h3 : PieceRow W ov ps) (h4 : Owned O rv) (h5 : Owned O ov)
    (x : Nat) (v' : Value) (w3 : World) (ho : w3.ownsRow 0 5 1 v' (rest.length + 1) (byCells rest ++ [.int .u8 x])) (hgw : W.grownBy w3 rv.ownBlock) (hat : v'.ownBlock = rv.ownBlock ∨ v'.ownBlock = some W.heap.size) :
    w3.cell? ⟨gx, 1, none⟩ = some rv ∧ w3.frozen? ⟨gx, 1, none⟩ = false ∧ SplIn O w (w3.setCell ⟨gx, 1, none⟩ v') g gx gb gr ec l (rest ++ [x]) ps all cl := by
  obtain ⟨y, hy⟩ := h.roll.blk
  have e1 : Blk w3 gx 99 (splC g rv ov all cl) := h1.grown hgw (own_ne h2 h1 (by decide))
  have eb : Blk w3 gb 50 #[.pointer (some ⟨gx, 0, none⟩)] := h.box.grown hgw (own_ne h2 h.box (by decide))
  have er : RollAt w3 gr l := h.roll.grown hgw (fun e => own_ne h2 hy (by decide) e)
  have ee : Blk w3 g 97 ec := h.each_.grown hgw (own_ne h2 h.each_ (by decide))
  have ep : PieceRow w3 ov ps := own_kept h3 hgw (fun q hq e => by
    rcases h2.2 with ⟨e', -⟩ | ⟨g', cap', cur, e', -, hg', -⟩
    · rw [e'] at e; cases e
    · rw [e'] at e
      injection e with e
      subst e
      exact own_ne h3 (show Blk W g' 5 cur from hg') (by decide) hq.symm)
  have o' : Owned O v' := fun k hk => by
    rcases hat with e | e
    · rw [e] at hk; exact h4 k hk
    · rw [e] at hk; injection hk with hk; subst hk; exact h.new_ _ h.kept.size
  have hb : ByteRow w3 v' (rest ++ [x]) := by unfold ByteRow byCells; rw [List.map_append, List.length_append]; exact ho
  have k1 : w3.grownBy (w3.setCell ⟨gx, 1, none⟩ v') (some gx) := only_setCell (only_refl w3 (some gx)) (.inl rfl) v'
  have h' : SplIn O w w3 g gx gb gr ec l rest ps all cl → True := fun _ => trivial
  obtain ⟨z, hz⟩ := er.blk
  refine ⟨by rw [e1.cell]; rfl, e1.frozen 1, h.new_, (h.kept.grown h.new_ hgw h4).grown h.new_ k1 (fun _ e => by injection e with e; subst e; exact h.ox), ee.grown k1 (fun e => blk_ne ee e1 (by decide) (Option.some.inj e)), er.grown k1 (fun e => blk_ne e1 hz (by decide) (Option.some.inj e).symm), eb.grown k1 (fun e => blk_ne eb e1 (by decide) (Option.some.inj e)),
    ⟨v', ov, e1.set_ 1 v', own_kept hb k1 (fun q hq e => own_ne hb e1 (by decide) (e.trans hq.symm)), own_kept ep k1 (fun q hq e => own_ne ep e1 (by decide) (e.trans hq.symm)), o', h5⟩, h.og, h.ox, h.ob, h.or_⟩
end

theorem swrite_nil (s : ByteArray) (w : World) : Calls Tryd.prog 27 #[.pointer none, .string s] w fun e w' => e = .returned (.tuple #[.slice none 0 0, .int .i64 2]) ∧ w = w' := by
  go_enter Tryd.func27, Tryd.ntmps27
  go_wp2_with fail
  go_ret2
  exact ⟨rfl, rfl⟩
theorem swrite_done {O : Nat → Prop} {w : World} {gx : Nat} {p : Plan} {seg : List Nat} {all : Nat} (h : SplAt O w gx p seg all true) (s : ByteArray) : Calls Tryd.prog 27 #[.pointer (some ⟨gx, 0, none⟩), .string s] w fun e w' => e = .returned (.tuple #[.slice none 0 0, .int .i64 5]) ∧ w = w' := by
  obtain ⟨g, gb, gr, rv, ov, -, -, -, h4, -⟩ := h.at_
  have c4 : w.cell? ⟨gx, 4, none⟩ = some (.bool true) := by rw [h4.cell]; rfl
  clear h4 h
  go_enter Tryd.func27, Tryd.ntmps27
  go_wp2_with fail
  go_ret2
  exact ⟨rfl, rfl⟩
theorem swrite_full {O : Nat → Prop} {w : World} {gx : Nat} {p : Plan} {seg : List Nat} {all : Nat} (h : SplAt O w gx p seg all false) (s : ByteArray) (ha : all ≤ 1048576) (hf : 1048576 < all + s.size) : Calls Tryd.prog 27 #[.pointer (some ⟨gx, 0, none⟩), .string s] w fun e w' => e = .returned (.tuple #[.slice none 0 0, .int .i64 1]) ∧ w = w' := by
  obtain ⟨g, gb, gr, rv, ov, -, -, -, h4, -⟩ := h.at_
  have c4 : w.cell? ⟨gx, 4, none⟩ = some (.bool false) := by rw [h4.cell]; rfl
  have c3 : w.cell? ⟨gx, 3, none⟩ = some (.int .i64 all) := by rw [h4.cell]; rfl
  have hd : (1048576 : Int) - (all : Int) < (s.size : Int) := by omega
  clear h4 h
  go_enter Tryd.func27, Tryd.ntmps27
  go_wp2_with fail
  go_ret2
  exact ⟨rfl, rfl⟩
end Go.Proofs.YtmnggemifcjflaaDoor
