/-
  A splitter, the walk: words for its memory; its closure.
-/
import Derived.Test.YtmnggemifcjflaaDoorSplP
import Derived.Test.YtmnggemifcjflaaDoorSplitG
import Derived.Maps.AppendAt
namespace Go.Proofs.YtmnggemifcjflaaDoor
open Go.RowKit PlainP RollP OnesP SplitP

/-- all but what O holds is as it was -/
structure Kept (O : Nat → Prop) (a w : World) : Prop where
  os : w.os = a.os
  tape : w.tape = a.tape
  output : w.output = a.output
  size : a.heap.size ≤ w.heap.size
  block : ∀ b, ¬ O b → w.heap[b]? = a.heap[b]?
theorem Kept.refl (O : Nat → Prop) (w : World) : Kept O w w := ⟨rfl, rfl, rfl, Nat.le_refl _, fun _ _ => rfl⟩
theorem Kept.grown {O : Nat → Prop} {a w w' : World} {row : Option Nat} (h : Kept O a w) (hO : ∀ b, a.heap.size ≤ b → O b) (k : w.grownBy w' row) (hr : ∀ q, row = some q → O q) : Kept O a w' :=
  ⟨k.os.trans h.os, k.tape.trans h.tape, k.output.trans h.output, Nat.le_trans h.size k.size, fun b hb => (k.block b (by
    rcases Nat.lt_or_ge b w.heap.size with h1 | h1
    · exact h1
    · exact absurd (hO b (Nat.le_trans h.size h1)) hb) (fun e => hb (hr b e.symm))).trans (h.block b hb)⟩
theorem Kept.drewN {O : Nat → Prop} {a w : World} (h : Kept O a w) (n : Nat) : Kept O a (w.drewN n) := ⟨h.os, h.tape, h.output, h.size, h.block⟩
theorem Kept.drew {O : Nat → Prop} {a w : World} (h : Kept O a w) : Kept O a w.drew := ⟨h.os, h.tape, h.output, h.size, h.block⟩

/-- the cells of some pieces -/
def pcCells (ps : List (List Nat × Nat)) : List Value := ps.flatMap fun c => [Value.string (mkS c.1), Value.int .i64 (c.2 : Int)]
theorem pcCells_append (a b : List (List Nat × Nat)) : pcCells (a ++ b) = pcCells a ++ pcCells b := List.flatMap_append
def byCells (l : List Nat) : List Value := l.map fun n : Nat => Value.int .u8 (n : Int)
def PieceRow (w : World) (v : Value) (ps : List (List Nat × Nat)) : Prop := w.ownsRow 0 68 2 v ps.length (pcCells ps)
def ByteRow (w : World) (v : Value) (l : List Nat) : Prop := w.ownsRow 0 5 1 v l.length (byCells l)
def Owned (O : Nat → Prop) (v : Value) : Prop := ∀ k, v.ownBlock = some k → O k
def splC (g : Nat) (rv ov : Value) (all : Int) (cl : Bool) : Array Value := #[.pointer (some ⟨g, 0, none⟩), rv, ov, .int .i64 all, .bool cl]

/-- the splitter's memory -/
structure SplIn (O : Nat → Prop) (w W : World) (g gx gb gr : Nat) (ec : Array Value) (l rest : List Nat) (ps : List (List Nat × Nat)) (all : Int) (cl : Bool) : Prop where
  new_ : ∀ b, w.heap.size ≤ b → O b
  kept : Kept O w W
  each_ : Blk W g 97 ec
  roll : RollAt W gr l
  box : Blk W gb 50 #[.pointer (some ⟨gx, 0, none⟩)]
  spl : ∃ rv ov, Blk W gx 99 (splC g rv ov all cl) ∧ ByteRow W rv rest ∧ PieceRow W ov ps ∧ Owned O rv ∧ Owned O ov
  og : O g
  ox : O gx
  ob : O gb
  or_ : O gr

section
variable {O : Nat → Prop} {w W W' : World} {g gx gb gr : Nat} {ec : Array Value} {l rest : List Nat} {ps : List (List Nat × Nat)} {all : Int} {cl : Bool}
theorem SplIn.neR (h : SplIn O w W g gx gb gr ec l rest ps all cl) {t : TypeId} {q : Nat} {cs : Array Value} (k : Blk W q t cs) (ht : t ≠ 89) : q ≠ gr := fun e => by
  obtain ⟨x, hx⟩ := h.roll.blk
  exact ht (blk_type k (e ▸ hx))
theorem blk_ne {w : World} {g h : Nat} {t u : TypeId} {cs ds : Array Value} (a : Blk w g t cs) (b : Blk w h u ds) (ht : t ≠ u) : g ≠ h := fun e => ht (blk_type a (e ▸ b))
/-- a change that spares all but new blocks -/
theorem SplIn.more (h : SplIn O w W g gx gb gr ec l rest ps all cl) (k : W.grownBy W' none) : SplIn O w W' g gx gb gr ec l rest ps all cl := by
  obtain ⟨rv, ov, h1, h2, h3, h4, h5⟩ := h.spl
  exact ⟨h.new_, h.kept.grown h.new_ k (fun _ e => by cases e), h.each_.grown k (by simp), h.roll.grown k (by simp), h.box.grown k (by simp),
    ⟨rv, ov, h1.grown k (by simp), own_kept h2 k (fun _ _ e => by cases e), own_kept h3 k (fun _ _ e => by cases e), h4, h5⟩, h.og, h.ox, h.ob, h.or_⟩
theorem SplIn.alloc (h : SplIn O w W g gx gb gr ec l rest ps all cl) (o : Obj) : SplIn O w (W.alloc o) g gx gb gr ec l rest ps all cl := h.more (World.grownBy_alloc W o none)
theorem SplIn.drewN (h : SplIn O w W g gx gb gr ec l rest ps all cl) (n : Nat) : SplIn O w (W.drewN n) g gx gb gr ec l rest ps all cl := h.more (only_drewN (only_refl W none) n)
theorem SplIn.drew (h : SplIn O w W g gx gb gr ec l rest ps all cl) : SplIn O w W.drew g gx gb gr ec l rest ps all cl := h.more (only_drew (only_refl W none))
/-- only the roll has turned -/
theorem SplIn.add (h : SplIn O w W g gx gb gr ec l rest ps all cl) {l' : List Nat} (k : W.grownBy W' (some gr)) (hr : RollAt W' gr l') : SplIn O w W' g gx gb gr ec l' rest ps all cl := by
  obtain ⟨rv, ov, h1, h2, h3, h4, h5⟩ := h.spl
  obtain ⟨x, hx⟩ := h.roll.blk
  refine ⟨h.new_, h.kept.grown h.new_ k (fun _ e => by injection e with e; subst e; exact h.or_), h.each_.grown k (fun e => blk_ne h.each_ hx (by decide) (Option.some.inj e)), hr, h.box.grown k (fun e => blk_ne h.box hx (by decide) (Option.some.inj e)),
    ⟨rv, ov, h1.grown k (fun e => blk_ne h1 hx (by decide) (Option.some.inj e)), own_kept h2 k (fun q hq e => ?_), own_kept h3 k (fun q hq e => ?_), h4, h5⟩, h.og, h.ox, h.ob, h.or_⟩
  · exact own_ne h2 hx (by decide) (e.trans hq.symm)
  · exact own_ne h3 hx (by decide) (e.trans hq.symm)
/-- a cell of the cutter has turned -/
theorem SplIn.set_ (h : SplIn O w W g gx gb gr ec l rest ps all cl) (i : Nat) (u : Value) : SplIn O w (W.setCell ⟨g, i, none⟩ u) g gx gb gr (ec.setIfInBounds i u) l rest ps all cl := by
  obtain ⟨rv, ov, h1, h2, h3, h4, h5⟩ := h.spl
  obtain ⟨x, hx⟩ := h.roll.blk
  have k : W.grownBy (W.setCell ⟨g, i, none⟩ u) (some g) := only_setCell (only_refl W (some g)) (.inl rfl) u
  refine ⟨h.new_, h.kept.grown h.new_ k (fun _ e => by injection e with e; subst e; exact h.og), h.each_.set_ i u, h.roll.grown k (fun e => blk_ne h.each_ hx (by decide) (Option.some.inj e).symm), h.box.grown k (fun e => blk_ne h.box h.each_ (by decide) (Option.some.inj e)),
    ⟨rv, ov, h1.grown k (fun e => blk_ne h1 h.each_ (by decide) (Option.some.inj e)), own_kept h2 k (fun q hq e => ?_), own_kept h3 k (fun q hq e => ?_), h4, h5⟩, h.og, h.ox, h.ob, h.or_⟩
  · exact own_ne h2 h.each_ (by decide) (e.trans hq.symm)
  · exact own_ne h3 h.each_ (by decide) (e.trans hq.symm)
/-- a new roll, not yet the cutter's -/
theorem SplIn.fresh (h : SplIn O w W g gx gb gr ec l rest ps all cl) {q : Nat} {l' : List Nat} (k : W.grownBy W' none) (hq : w.heap.size ≤ q) (hr : RollAt W' q l') : SplIn O w W' g gx gb q ec l' rest ps all cl := by
  have h' := h.more k
  exact ⟨h'.new_, h'.kept, h'.each_, hr, h'.box, h'.spl, h'.og, h'.ox, h'.ob, h.new_ q hq⟩
/-- the splitter's own cells have turned -/
theorem SplIn.put (h : SplIn O w W g gx gb gr ec l rest ps all cl) {rv' ov' : Value} {rest' : List Nat} {ps' : List (List Nat × Nat)} {all' : Int} {cl' : Bool} (k : W.grownBy W' (some gx)) (h1' : Blk W' gx 99 (splC g rv' ov' all' cl'))
    (h2' : ByteRow W' rv' rest') (h3' : PieceRow W' ov' ps') (h4' : Owned O rv') (h5' : Owned O ov') : SplIn O w W' g gx gb gr ec l rest' ps' all' cl' := by
  obtain ⟨rv, ov, h1, -⟩ := h.spl
  obtain ⟨x, hx⟩ := h.roll.blk
  exact ⟨h.new_, h.kept.grown h.new_ k (fun _ e => by injection e with e; subst e; exact h.ox), h.each_.grown k (fun e => blk_ne h.each_ h1 (by decide) (Option.some.inj e)), h.roll.grown k (fun e => blk_ne h1 hx (by decide) (Option.some.inj e).symm), h.box.grown k (fun e => blk_ne h.box h1 (by decide) (Option.some.inj e)),
    ⟨rv', ov', h1', h2', h3', h4', h5'⟩, h.og, h.ox, h.ob, h.or_⟩
end

theorem piece_info : (Tryd.prog.info? 68).map (fun i => (i.zero, i.size, i.bytes)) = some (some (.agg #[.string .empty, .int .i64 0]), 2, 24) := by kernel_rfl

/-- append to a row of the call's own, as a step of a region that draws: the new row is the old block, or a new one -/
theorem step_append_at {P : Program} {ops : Array Oper} {o : Oper} {a : Act} {w : World} {K : Act → World → Prop} {Q : Exit → Act → World → Prop} {E : Prop}
    (hg : o.guard = none) (s x : Operand) (t : TypeId) (ho : o.op = Op.call { callee := Callee.builtin Builtin.append, args := #[s, x], argTypes := #[t, t] })
    (base : Nat) (e : TypeId) (i : TypeInfo) (z : Value) (size bytes : Nat) (ht : P.underlying t = some (.slice e)) (hi : P.info? e = some i) (hz : i.zero = some z)
    (hsize : i.size = size) (hby : i.bytes = bytes) (hzs : z.cells.size = size) (hsz : 0 < size)
    (v : Value) (n : Nat) (xs : List Value) (hs : a.eval s = v) (hown : w.ownsRow base e size v n xs)
    (ad : Addr) (m c : Nat) (news : List Value) (hx : a.eval x = .slice (some ad) m c) (hl : news.length = m * size) (hnews : ∀ j u, news[j]? = some u → w.cell? (ad.add j) = some u) (h1 : ∀ u ∈ news, u.oneCell' = true)
    (h63 : n + m ≤ maxLen) (hbytes : (n + m) * bytes ≤ 140737488355328) (hbase : base ≤ w.heap.size)
    (h : ∀ v' w', w'.ownsRow base e size v' (n + m) (xs ++ news) → w.grownBy w' v.ownBlock → (v'.ownBlock = v.ownBlock ∨ v'.ownBlock = some w.heap.size) → K (a.put o.dst v') w') :
    if Region.wanted o (yielded ops a.tmps) = true then Oper.wp P o a w K Q else E := by
  have hw : Region.wanted o (yielded ops a.tmps) = true := by simp [Region.wanted, hg]
  rw [if_pos hw]
  obtain ⟨v', w', hr, h2, h3, h4, h5⟩ := run_append_own_at (P := P) w base t o.type e i z size bytes ht hi hz hsize hby hzs hsz v n xs hown ad m c news hl hnews h1 h63 hbytes hbase
  unfold Oper.wp execOp
  simp only [ho, resolve, invoke, builtin, Sem.run_bind, Sem.run_pure, Result.andThen_ok, List.map_toArray, List.map_cons, List.map_nil, hs, hx, hr]
  exact h v' w' h2 h3 h5
end Go.Proofs.YtmnggemifcjflaaDoor
