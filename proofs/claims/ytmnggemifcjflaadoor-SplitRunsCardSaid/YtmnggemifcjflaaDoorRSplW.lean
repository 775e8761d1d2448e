/-
  The reference's splitter, the walk: Write, Close; 'pieces' of the law.
-/
import Derived.Test.YtmnggemifcjflaaDoorGotW
namespace Go.Proofs.YtmnggemifcjflaaDoor
open Go.RowKit PlainP RollP OnesP SplitP

/-- the first chunk of a text, with its bytes -/
theorem firstF_piece (p : Plan) : ∀ (l seg : List Nat), (∃ m lev, firstF p seg l = (seg.length + m, lev, true) ∧ 0 < m ∧ m ≤ l.length ∧ pieceF p seg l = ((seg ++ l.take m, lev) :: (pieceF p [] (l.drop m)).1, (pieceF p [] (l.drop m)).2)) ∨
    (firstF p seg l = (seg.length + l.length, 0, false) ∧ pieceF p seg l = ([], seg ++ l))
  | [], seg => .inr ⟨by rw [firstF]; rfl, by rw [pieceF_nil, List.append_nil]⟩
  | b :: t, seg => by
    cases he : ends p (seg ++ [b]) with
    | some lev => exact .inl ⟨1, lev, firstF_yes p seg b t lev he, by omega, by simp, by rw [pieceF_yes p seg b t lev he]; rfl⟩
    | none =>
      rw [firstF_no p seg b t he, pieceF_no p seg b t he]
      rcases firstF_piece p t (seg ++ [b]) with ⟨m, lev, h1, h2, h3, h4⟩ | ⟨h1, h2⟩
      · refine .inl ⟨m + 1, lev, ?_, by omega, by simp only [List.length_cons]; omega, ?_⟩
        · rw [h1, List.length_append]; simp; omega
        · rw [h4, List.take_succ_cons, List.drop_succ_cons, List.append_assoc]; rfl
      · refine .inr ⟨?_, ?_⟩
        · rw [h1, List.length_append, List.length_cons]; simp; omega
        · rw [h2, List.append_assoc]; rfl

theorem rpiece_info : (Tryd.prog.info? 100).map (fun i => (i.zero, i.size, i.bytes)) = some (some (.agg #[.string .empty, .int .i64 0]), 2, 24) := by kernel_rfl
def RPieceRow (B : Nat) (w : World) (v : Value) (ps : List (List Nat × Nat)) : Prop := w.ownsRow B 100 2 v ps.length (pcCells ps)
def rsC (p : Plan) (r : ByteArray) (all : Nat) (cl : Bool) : Array Value := #[.int .i64 p.bits, .int .i64 p.fan, .int .i64 p.most, .string r, .int .i64 all, .bool cl]
def restLen (gm : Nat) (wr : World) : Nat := match wr.cell? ⟨gm, 3, none⟩ with
  | some (.string s) => s.size
  | _ => 0

section
variable {w : World} {gm : Nat} {p : Plan} {r : ByteArray} {all : Nat} {cl : Bool}
theorem rs_facts (h : Blk w gm 55 (rsC p r all cl)) : w.cell? ⟨gm, 0, none⟩ = some (.int .i64 p.bits) ∧ w.cell? ⟨gm, 1, none⟩ = some (.int .i64 p.fan) ∧ w.cell? ⟨gm, 2, none⟩ = some (.int .i64 p.most) ∧ w.cell? ⟨gm, 3, none⟩ = some (.string r) ∧ w.cell? ⟨gm, 4, none⟩ = some (.int .i64 all) ∧ w.cell? ⟨gm, 5, none⟩ = some (.bool cl) ∧ ∀ i, w.frozen? ⟨gm, i, none⟩ = false := by
  refine ⟨?_, ?_, ?_, ?_, ?_, ?_, fun i => h.frozen i⟩ <;> (rw [h.cell]; rfl)
end
theorem rwrite_done {w : World} {gm : Nat} {p : Plan} {r : ByteArray} {all : Nat} (h : Blk w gm 55 (rsC p r all true)) (s : ByteArray) : Calls Tryd.prog 28 #[.pointer (some ⟨gm, 0, none⟩), .string s] w fun e w' => e = .returned (.tuple #[.slice none 0 0, .int .i64 5]) ∧ w = w' := by
  obtain ⟨-, -, -, -, -, c5, -⟩ := rs_facts h
  clear h
  go_enter Tryd.func28, Tryd.ntmps28
  go_wp2_with fail
  go_ret2
  exact ⟨rfl, rfl⟩
theorem rwrite_full {w : World} {gm : Nat} {p : Plan} {r : ByteArray} {all : Nat} (h : Blk w gm 55 (rsC p r all false)) (s : ByteArray) (ha : all ≤ 1048576) (hf : 1048576 < all + s.size) : Calls Tryd.prog 28 #[.pointer (some ⟨gm, 0, none⟩), .string s] w fun e w' => e = .returned (.tuple #[.slice none 0 0, .int .i64 1]) ∧ w = w' := by
  obtain ⟨-, -, -, -, c4, c5, -⟩ := rs_facts h
  have hd : (1048576 : Int) - (all : Int) < (s.size : Int) := by omega
  clear h
  go_enter Tryd.func28, Tryd.ntmps28
  go_wp2_with fail
  go_ret2
  exact ⟨rfl, rfl⟩
theorem rclose_done {w : World} {gm : Nat} {p : Plan} {r : ByteArray} {all : Nat} (h : Blk w gm 55 (rsC p r all true)) : Calls Tryd.prog 30 #[.pointer (some ⟨gm, 0, none⟩)] w fun e w' => e = .returned (.tuple #[.slice none 0 0, .int .i64 5]) ∧ w = w' := by
  obtain ⟨-, -, -, -, -, c5, -⟩ := rs_facts h
  clear h
  go_enter Tryd.func30, Tryd.ntmps30
  go_wp2_with fail
  go_ret2
  exact ⟨rfl, rfl⟩
theorem rpiece_one (W : World) (r : ByteArray) (g : Nat) (hg : g = W.heap.size) (B : Nat) (hB : B ≤ g) : RPieceRow B (W.alloc (.cells #[.string r, .int .i64 0] 100)) (.slice (some ⟨g, 0, none⟩) 1 1) [(nats r, 0)] := by
  subst hg
  refine ⟨rfl, .inr ⟨W.heap.size, 1, _, rfl, hB, heap_alloc_new W _, Nat.le_refl _, by unfold maxLen; omega, rfl, ?_⟩⟩
  unfold pcCells
  simp [mkS_nats]
set_option maxRecDepth 100000 in
theorem rclose_any (w : World) (gm : Nat) (p : Plan) (r : ByteArray) (all : Nat) (h : Blk w gm 55 (rsC p r all false)) :
    Calls Tryd.prog 30 #[.pointer (some ⟨gm, 0, none⟩)] w fun e w' => ∃ v, e = .returned (.tuple #[v, .int .i64 0]) ∧ w.grownBy w' (some gm) ∧ Blk w' gm 55 (rsC p r all true) ∧ RPieceRow w.heap.size w' v (lastP (nats r)) := by
  obtain ⟨-, -, -, c3, -, c5, ff⟩ := rs_facts h
  have f5 := ff 5
  have h1 : Blk (w.setCell ⟨gm, 5, none⟩ (.bool true)) gm 55 (rsC p r all true) := h.set_ 5 (.bool true)
  have k1 : w.grownBy (w.setCell ⟨gm, 5, none⟩ (.bool true)) (some gm) := only_setCell (only_refl w (some gm)) (.inl rfl) _
  have c3' : (w.setCell ⟨gm, 5, none⟩ (.bool true)).cell? ⟨gm, 3, none⟩ = some (.string r) := by rw [h1.cell]; rfl
  have H1 := Lib.hid h1; have K1 := Lib.hid k1
  clear h h1 k1 ff
  by_cases h0 : r.size = 0
  · have hl : lastP (nats r) = [] := by unfold lastP; rw [if_pos (by rw [nats_length]; exact h0)]
    go_enter Tryd.func30, Tryd.ntmps30
    go_wp2_with fail
    go_ret2
    rw [hl]
    exact ⟨_, rfl, K1.out, H1.out, World.ownsRow_nil _ _ _ _⟩
  · have hl : lastP (nats r) = [(nats r, 0)] := by unfold lastP; rw [if_neg (by rw [nats_length]; exact h0)]
    have hz : w.heap.size = (w.setCell ⟨gm, 5, none⟩ (.bool true)).heap.size := by simp
    have HZ := Lib.hid hz; clear hz
    go_enter Tryd.func30, Tryd.ntmps30
    go_wp2_with fail
    go_ret2
    rw [hl]
    exact ⟨_, rfl, only_alloc K1.out _, H1.out.alloc _, rpiece_one (w.setCell ⟨gm, 5, none⟩ (.bool true)) r w.heap.size HZ.out _ (Nat.le_refl _)⟩
end Go.Proofs.YtmnggemifcjflaaDoor
