/-
  Cuts in plain words: no program in sight.
-/
import Derived.Test.YtmnggemifcjflaaDoorRollP
import Derived.Test.YtmnggemifcjflaaDoorOnesP
namespace SplitP
open PlainP

structure Plan where
  bits : Nat
  fan : Nat
  most : Nat
structure Plan.Ok (p : Plan) : Prop where
  b4 : 4 ≤ p.bits
  b16 : p.bits ≤ 16
  f1 : 1 ≤ p.fan
  f8 : p.fan ≤ 8
  m64 : 64 ≤ p.most
  m65536 : p.most ≤ 65536

/-- does a piece end here, and at what level? -/
def ends (p : Plan) (s : List Nat) : Option Nat :=
  if p.bits ≤ OnesP.ones (RollP.dig (RollP.win s)) then some ((OnesP.ones (RollP.dig (RollP.win s)) - p.bits) / p.fan) else if p.most ≤ s.length then some 0 else none

/-- the pieces that end in l, the bytes `seg` standing ahead since the last cut; and what is left -/
def cutF (p : Plan) : List Nat → List Nat → List (Nat × Nat) × List Nat
  | seg, [] => ([], seg)
  | seg, b :: t => match ends p (seg ++ [b]) with
    | some lev => (((seg ++ [b]).length, lev) :: (cutF p [] t).1, (cutF p [] t).2)
    | none => cutF p (seg ++ [b]) t
/-- what is left is a piece too -/
def lastC (seg : List Nat) : List (Nat × Nat) := if seg.length = 0 then [] else [(seg.length, 0)]
def cutAll (p : Plan) (l : List Nat) : List (Nat × Nat) := (cutF p [] l).1 ++ lastC (cutF p [] l).2

theorem cutF_nil (p : Plan) (seg : List Nat) : cutF p seg [] = ([], seg) := rfl
theorem cutF_yes (p : Plan) (seg : List Nat) (b : Nat) (t : List Nat) (lev : Nat) (h : ends p (seg ++ [b]) = some lev) : cutF p seg (b :: t) = ((seg.length + 1, lev) :: (cutF p [] t).1, (cutF p [] t).2) := by
  rw [cutF, h]; simp
theorem cutF_no (p : Plan) (seg : List Nat) (b : Nat) (t : List Nat) (h : ends p (seg ++ [b]) = none) : cutF p seg (b :: t) = cutF p (seg ++ [b]) t := by
  rw [cutF, h]
theorem cutF_append (p : Plan) : ∀ (a seg b : List Nat), cutF p seg (a ++ b) = ((cutF p seg a).1 ++ (cutF p (cutF p seg a).2 b).1, (cutF p (cutF p seg a).2 b).2)
  | [], seg, b => by rw [cutF_nil]; rfl
  | x :: t, seg, b => by
    rw [List.cons_append]
    cases he : ends p (seg ++ [x]) with
    | some lev => rw [cutF_yes p seg x _ lev he, cutF_yes p seg x t lev he, cutF_append p t [] b]; rfl
    | none => rw [cutF_no p seg x _ he, cutF_no p seg x t he, cutF_append p t (seg ++ [x]) b]
theorem cutF_snoc_yes (p : Plan) (l : List Nat) (x lev : Nat) (h : ends p ((cutF p [] l).2 ++ [x]) = some lev) :
    cutF p [] (l ++ [x]) = ((cutF p [] l).1 ++ [((cutF p [] l).2.length + 1, lev)], []) := by
  rw [cutF_append, cutF_yes p _ x [] lev h, cutF_nil]
theorem cutF_snoc_no (p : Plan) (l : List Nat) (x : Nat) (h : ends p ((cutF p [] l).2 ++ [x]) = none) :
    cutF p [] (l ++ [x]) = ((cutF p [] l).1, (cutF p [] l).2 ++ [x]) := by
  rw [cutF_append, cutF_no p _ x [] h, cutF_nil, List.append_nil]
theorem ends_none (p : Plan) (s : List Nat) (h : ends p s = none) : s.length < p.most := by
  unfold ends at h
  split at h
  · cases h
  · split at h
    · cases h
    · omega
theorem cutF_seg (p : Plan) (hm : 0 < p.most) : ∀ (l seg : List Nat), seg.length < p.most → (cutF p seg l).2.length < p.most
  | [], seg, h => h
  | b :: t, seg, h => by
    cases he : ends p (seg ++ [b]) with
    | some lev => rw [cutF_yes p seg b t lev he]; exact cutF_seg p hm t [] hm
    | none => rw [cutF_no p seg b t he]; exact cutF_seg p hm t _ (ends_none p _ he)
theorem cutF_len (p : Plan) : ∀ (l seg : List Nat), (cutF p seg l).1.length ≤ l.length
  | [], _ => Nat.le_refl _
  | b :: t, seg => by
    cases he : ends p (seg ++ [b]) with
    | some lev => rw [cutF_yes p seg b t lev he]; have := cutF_len p t []; simp only [List.length_cons]; omega
    | none => rw [cutF_no p seg b t he]; have := cutF_len p t (seg ++ [b]); simp only [List.length_cons]; omega
theorem cutF_sub (p : Plan) : ∀ (l seg : List Nat), (cutF p seg l).2.length ≤ seg.length + l.length
  | [], _ => by rw [cutF_nil]; simp
  | b :: t, seg => by
    cases he : ends p (seg ++ [b]) with
    | some lev => rw [cutF_yes p seg b t lev he]; have := cutF_sub p t []; simp only [List.length_cons, List.length_nil] at this ⊢; omega
    | none => rw [cutF_no p seg b t he]; have := cutF_sub p t (seg ++ [b]); simp only [List.length_cons, List.length_append, List.length_nil] at this ⊢; omega
end SplitP
