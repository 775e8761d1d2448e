/-
  All pieces of a text, with their bytes: plain words.
-/
import Derived.Test.YtmnggemifcjflaaDoorSplP
namespace SplitP
open PlainP

/-- what is left is a piece too -/
def lastP (seg : List Nat) : List (List Nat × Nat) := if seg.length = 0 then [] else [(seg, 0)]
def allP (p : Plan) (l : List Nat) : List (List Nat × Nat) := (pieceF p [] l).1 ++ lastP (pieceF p [] l).2
theorem lastP_cut (seg : List Nat) : (lastP seg).map (fun c => (c.1.length, c.2)) = lastC seg := by
  unfold lastP lastC; split <;> rfl
theorem allP_cut (p : Plan) (l : List Nat) : cutAll p l = (allP p l).map fun c => (c.1.length, c.2) := by
  unfold cutAll allP
  rw [pieceF_cut, List.map_append, lastP_cut]
theorem lastP_all (seg : List Nat) : (lastP seg).flatMap (·.1) = seg := by
  unfold lastP
  split
  · rename_i h; rw [List.eq_nil_of_length_eq_zero h]; rfl
  · simp
theorem allP_all (p : Plan) (l : List Nat) : (allP p l).flatMap (·.1) = l := by
  unfold allP
  rw [List.flatMap_append, lastP_all, pieceF_all, List.nil_append]
theorem ones_le32 (n : Nat) : OnesP.ones n ≤ 32 := OnesP.ones_le n
/-- a piece is neither empty nor too long, its level is in bounds -/
structure PieceOk (p : Plan) (c : List Nat × Nat) : Prop where
  pos : 1 ≤ c.1.length
  most : c.1.length ≤ p.most
  lev : c.2 ≤ (32 - p.bits) / p.fan
theorem ends_ok {p : Plan} {seg : List Nat} {b lev : Nat} (h : ends p (seg ++ [b]) = some lev) (hs : seg.length < p.most) : PieceOk p (seg ++ [b], lev) := by
  refine ⟨by simp, by simp; omega, ?_⟩
  show lev ≤ _
  have := ones_le32 (RollP.dig (RollP.win (seg ++ [b])))
  unfold ends at h
  split at h
  · injection h with h
    rw [← h]
    exact Nat.div_le_div_right (by omega)
  · split at h
    · injection h with h
      rw [← h]
      exact Nat.zero_le _
    · cases h
theorem pieceF_ok (p : Plan) (hm : 0 < p.most) : ∀ (l seg : List Nat), seg.length < p.most → ∀ c ∈ (pieceF p seg l).1, PieceOk p c
  | [], seg, _, c, hc => by rw [pieceF_nil] at hc; cases hc
  | b :: t, seg, hs, c, hc => by
    cases he : ends p (seg ++ [b]) with
    | some lev =>
      rw [pieceF_yes p seg b t lev he] at hc
      rcases List.mem_cons.1 hc with rfl | hc
      · exact ends_ok he hs
      · exact pieceF_ok p hm t [] hm c hc
    | none =>
      rw [pieceF_no p seg b t he] at hc
      exact pieceF_ok p hm t _ (ends_none p _ he) c hc
theorem allP_ok (p : Plan) (hm : 0 < p.most) (l : List Nat) : ∀ c ∈ allP p l, PieceOk p c := by
  intro c hc
  unfold allP at hc
  rcases List.mem_append.1 hc with hc | hc
  · exact pieceF_ok p hm l [] hm c hc
  · unfold lastP at hc
    split at hc
    · cases hc
    · rw [List.mem_singleton] at hc
      subst hc
      have := pieceF_seg p hm l [] hm
      exact ⟨by show 1 ≤ (pieceF p [] l).2.length; omega, by show (pieceF p [] l).2.length ≤ p.most; omega, Nat.zero_le _⟩
/-- how many bytes stand ahead of piece i -/
def offP (ps : List (List Nat × Nat)) (i : Nat) : Nat := ((ps.take i).flatMap (·.1)).length
theorem offP_zero (ps : List (List Nat × Nat)) : offP ps 0 = 0 := rfl
theorem offP_step {ps : List (List Nat × Nat)} {i : Nat} {c : List Nat × Nat} (h : ps[i]? = some c) : offP ps (i + 1) = offP ps i + c.1.length := by
  unfold offP
  rw [List.take_add_one, h, List.flatMap_append, List.length_append]
  simp
theorem offP_end (p : Plan) (l : List Nat) : offP (allP p l) (allP p l).length = l.length := by
  unfold offP
  rw [List.take_length, allP_all]
theorem allP_at {p : Plan} {l : List Nat} {i : Nat} {c : List Nat × Nat} (h : (allP p l)[i]? = some c) : (l.drop (offP (allP p l) i)).take c.1.length = c.1 ∧ offP (allP p l) i + c.1.length ≤ l.length := by
  obtain ⟨hi, he⟩ := List.getElem?_eq_some_iff.1 h
  have e : l = ((allP p l).take i).flatMap (·.1) ++ (c.1 ++ ((allP p l).drop (i + 1)).flatMap (·.1)) := by
    rw [← allP_all p l, allP_all p l]
    conv => lhs; rw [← allP_all p l, ← List.take_append_drop i (allP p l), List.drop_eq_getElem_cons hi, he, List.flatMap_append, List.flatMap_cons]
  have hlen := congrArg List.length e
  rw [List.length_append, List.length_append] at hlen
  refine ⟨?_, by unfold offP; omega⟩
  unfold offP
  generalize allP p l = ps at *
  rw [e, List.drop_left, List.take_left]
end SplitP
