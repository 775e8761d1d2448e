/-
  A splitter in plain words: pieces with their bytes. No program in sight.
-/
import Derived.Test.YtmnggemifcjflaaDoorSplitP
namespace SplitP
open PlainP

/-- the pieces that end in l, the bytes `seg` standing ahead since the last cut; and what is left -/
def pieceF (p : Plan) : List Nat → List Nat → List (List Nat × Nat) × List Nat
  | seg, [] => ([], seg)
  | seg, b :: t => match ends p (seg ++ [b]) with
    | some lev => ((seg ++ [b], lev) :: (pieceF p [] t).1, (pieceF p [] t).2)
    | none => pieceF p (seg ++ [b]) t

theorem pieceF_nil (p : Plan) (seg : List Nat) : pieceF p seg [] = ([], seg) := rfl
theorem pieceF_yes (p : Plan) (seg : List Nat) (b : Nat) (t : List Nat) (lev : Nat) (h : ends p (seg ++ [b]) = some lev) : pieceF p seg (b :: t) = ((seg ++ [b], lev) :: (pieceF p [] t).1, (pieceF p [] t).2) := by
  rw [pieceF, h]
theorem pieceF_no (p : Plan) (seg : List Nat) (b : Nat) (t : List Nat) (h : ends p (seg ++ [b]) = none) : pieceF p seg (b :: t) = pieceF p (seg ++ [b]) t := by
  rw [pieceF, h]
theorem pieceF_append (p : Plan) : ∀ (a seg b : List Nat), pieceF p seg (a ++ b) = ((pieceF p seg a).1 ++ (pieceF p (pieceF p seg a).2 b).1, (pieceF p (pieceF p seg a).2 b).2)
  | [], seg, b => by rw [pieceF_nil]; rfl
  | x :: t, seg, b => by
    rw [List.cons_append]
    cases he : ends p (seg ++ [x]) with
    | some lev => rw [pieceF_yes p seg x _ lev he, pieceF_yes p seg x t lev he, pieceF_append p t [] b]; rfl
    | none => rw [pieceF_no p seg x _ he, pieceF_no p seg x t he, pieceF_append p t (seg ++ [x]) b]
/-- what a byte does -/
def stepS (p : Plan) (seg : List Nat) (x : Nat) (ps : List (List Nat × Nat)) : List (List Nat × Nat) × List Nat :=
  match ends p (seg ++ [x]) with
  | some lev => (ps ++ [(seg ++ [x], lev)], [])
  | none => (ps, seg ++ [x])
theorem pieceF_step (p : Plan) (seg l : List Nat) (k x : Nat) (h : l[k]? = some x) : stepS p (pieceF p seg (l.take k)).2 x (pieceF p seg (l.take k)).1 = ((pieceF p seg (l.take (k + 1))).1, (pieceF p seg (l.take (k + 1))).2) := by
  have e : l.take (k + 1) = l.take k ++ [x] := by rw [List.take_add_one, h]; rfl
  rw [e, pieceF_append]
  unfold stepS
  cases he : ends p ((pieceF p seg (l.take k)).2 ++ [x]) with
  | some lev => rw [pieceF_yes p _ x [] lev he, pieceF_nil]
  | none => rw [pieceF_no p _ x [] he, pieceF_nil, List.append_nil]
theorem pieceF_seg (p : Plan) (hm : 0 < p.most) : ∀ (l seg : List Nat), seg.length < p.most → (pieceF p seg l).2.length < p.most
  | [], seg, h => h
  | b :: t, seg, h => by
    cases he : ends p (seg ++ [b]) with
    | some lev => rw [pieceF_yes p seg b t lev he]; exact pieceF_seg p hm t [] hm
    | none => rw [pieceF_no p seg b t he]; exact pieceF_seg p hm t _ (ends_none p _ he)
theorem pieceF_len (p : Plan) : ∀ (l seg : List Nat), (pieceF p seg l).1.length ≤ l.length
  | [], _ => Nat.le_refl _
  | b :: t, seg => by
    cases he : ends p (seg ++ [b]) with
    | some lev => rw [pieceF_yes p seg b t lev he]; have := pieceF_len p t []; simp only [List.length_cons]; omega
    | none => rw [pieceF_no p seg b t he]; have := pieceF_len p t (seg ++ [b]); simp only [List.length_cons]; omega
theorem pieceF_sub (p : Plan) : ∀ (l seg : List Nat), (pieceF p seg l).2.length ≤ seg.length + l.length
  | [], _ => by rw [pieceF_nil]; simp
  | b :: t, seg => by
    cases he : ends p (seg ++ [b]) with
    | some lev => rw [pieceF_yes p seg b t lev he]; have := pieceF_sub p t []; simp only [List.length_cons, List.length_nil] at this ⊢; omega
    | none => rw [pieceF_no p seg b t he]; have := pieceF_sub p t (seg ++ [b]); simp only [List.length_cons, List.length_append, List.length_nil] at this ⊢; omega
/-- all the bytes, in order -/
theorem pieceF_all (p : Plan) : ∀ (l seg : List Nat), (pieceF p seg l).1.flatMap (·.1) ++ (pieceF p seg l).2 = seg ++ l
  | [], seg => by rw [pieceF_nil]; simp
  | b :: t, seg => by
    cases he : ends p (seg ++ [b]) with
    | some lev => rw [pieceF_yes p seg b t lev he, List.flatMap_cons, List.append_assoc, pieceF_all p t []]; simp
    | none => rw [pieceF_no p seg b t he, pieceF_all p t (seg ++ [b])]; simp
theorem pieceF_bytes (p : Plan) (l seg : List Nat) (hl : Bytes l) (hs : Bytes seg) : (∀ c ∈ (pieceF p seg l).1, Bytes c.1) ∧ Bytes (pieceF p seg l).2 := by
  have h := pieceF_all p l seg
  have ha : Bytes ((pieceF p seg l).1.flatMap (·.1) ++ (pieceF p seg l).2) := by rw [h]; exact hs.append hl
  refine ⟨fun c hc x hx => ha x (List.mem_append_left _ (List.mem_flatMap.2 ⟨c, hc, hx⟩)), fun x hx => ha x (List.mem_append_right _ hx)⟩
/-- the same cuts -/
theorem pieceF_cut (p : Plan) : ∀ (l seg : List Nat), cutF p seg l = ((pieceF p seg l).1.map fun c => (c.1.length, c.2), (pieceF p seg l).2)
  | [], seg => rfl
  | b :: t, seg => by
    cases he : ends p (seg ++ [b]) with
    | some lev => rw [pieceF_yes p seg b t lev he, cutF_yes p seg b t lev he, pieceF_cut p t []]; simp
    | none => rw [pieceF_no p seg b t he, cutF_no p seg b t he, pieceF_cut p t (seg ++ [b])]
/-- no cut within -/
def Clean (p : Plan) (seg : List Nat) : Prop := pieceF p [] seg = ([], seg)
theorem clean_nil (p : Plan) : Clean p [] := rfl
theorem clean_snoc {p : Plan} {seg : List Nat} {b : Nat} (h : Clean p seg) (he : ends p (seg ++ [b]) = none) : Clean p (seg ++ [b]) := by
  unfold Clean at *
  rw [pieceF_append, h]
  show ([] ++ (pieceF p seg [b]).1, (pieceF p seg [b]).2) = _
  rw [pieceF_no p seg b [] he, pieceF_nil]; rfl
theorem clean_rest (p : Plan) : ∀ (l seg : List Nat), Clean p seg → Clean p (pieceF p seg l).2
  | [], seg, h => h
  | b :: t, seg, h => by
    cases he : ends p (seg ++ [b]) with
    | some lev => rw [pieceF_yes p seg b t lev he]; exact clean_rest p t [] (clean_nil p)
    | none => rw [pieceF_no p seg b t he]; exact clean_rest p t _ (clean_snoc h he)
theorem clean_from {p : Plan} {seg : List Nat} (h : Clean p seg) (l : List Nat) : pieceF p [] (seg ++ l) = pieceF p seg l := by
  rw [pieceF_append, h]
  show ([] ++ (pieceF p seg l).1, (pieceF p seg l).2) = _
  rw [List.nil_append]
end SplitP
