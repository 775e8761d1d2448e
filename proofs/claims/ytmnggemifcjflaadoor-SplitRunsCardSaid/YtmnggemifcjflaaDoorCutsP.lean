/-
  Where a text is cut: what the laws of chapter 9 ask, in plain words.
-/
import Derived.Test.YtmnggemifcjflaaDoorSplitG
namespace Go.Proofs.YtmnggemifcjflaaDoor
open PlainP RollP OnesP SplitP

/-- behind the first i pieces stand n bytes -/
structure AtCut (p : Plan) (l : List Nat) (i n : Nat) : Prop where
  le : n ≤ l.length
  rest : (cutAll p l).drop i = cutAll p (l.drop n)
  pre : cutF p [] (l.take n) = ((cutAll p l).take i, []) ∨ (n = l.length ∧ i = (cutAll p l).length)

theorem at_start (p : Plan) (l : List Nat) : AtCut p l 0 0 := ⟨Nat.zero_le _, rfl, .inl rfl⟩
theorem firstF_cut (p : Plan) : ∀ (l seg : List Nat) (m lev : Nat), firstF p seg l = (seg.length + m, lev, true) → cutF p seg (l.take m) = ([(seg.length + m, lev)], [])
  | [], seg, m, lev, h => by rw [firstF] at h; simp at h
  | b :: t, seg, m, lev, h => by
    cases he : ends p (seg ++ [b]) with
    | some lv =>
      rw [firstF_yes p seg b t lv he] at h
      simp only [Prod.mk.injEq, and_true] at h
      obtain rfl : m = 1 := by omega
      obtain rfl := h.2
      rw [show (b :: t).take 1 = [b] from rfl, cutF_yes p seg b [] lv he, cutF_nil]
    | none =>
      rw [firstF_no p seg b t he] at h
      cases m with
      | zero =>
        rcases firstF_spec p t (seg ++ [b]) with ⟨m', lv', q, _⟩ | ⟨q, _⟩
        · rw [q] at h; simp at h; omega
        · rw [q] at h; simp at h
      | succ m =>
        have e : (seg ++ [b]).length + m = seg.length + (m + 1) := by simp; omega
        rw [List.take_succ_cons, cutF_no p seg b _ he, firstF_cut p t (seg ++ [b]) m lev (by rw [h, e]), e]
theorem at_step {p : Plan} {l : List Nat} {i n : Nat} (h : AtCut p l i n) {c : Nat × Nat} (hc : (cutAll p l)[i]? = some c) :
    AtCut p l (i + 1) (n + c.1) ∧ 0 < c.1 ∧ n + c.1 ≤ l.length ∧ ∃ b, firstF p [] (l.drop n) = (c.1, c.2, b) ∧ (b = false → n + c.1 = l.length ∧ i + 1 = (cutAll p l).length) := by
  obtain ⟨hi, hci⟩ := List.getElem?_eq_some_iff.1 hc
  have hr := h.rest
  rw [List.drop_eq_getElem_cons hi, hci] at hr
  have hne : 0 < (l.drop n).length := by
    rcases Nat.eq_zero_or_pos (l.drop n).length with h0 | h0
    · rw [List.eq_nil_of_length_eq_zero h0, cutAll_nil] at hr; cases hr
    · exact h0
  obtain ⟨m, lev, b, h1, h2, h3, h4⟩ := cut_first p (l.drop n) hne
  rw [h4] at hr
  injection hr with hr1 hr2
  subst hr1
  rw [List.length_drop] at h3
  have hle : n + m ≤ l.length := by have := h.le; omega
  have hfin : b = false → n + m = l.length ∧ i + 1 = (cutAll p l).length := by
    intro hb
    rcases firstF_spec p (l.drop n) [] with ⟨m', lv', q, _⟩ | ⟨q, _⟩
    · rw [q] at h1; simp [hb] at h1
    · rw [q] at h1
      simp at h1
      have hn := h.le
      have hm : n + m = l.length := by omega
      refine ⟨hm, ?_⟩
      rw [List.drop_drop, hm, List.drop_eq_nil_of_le (Nat.le_refl _), cutAll_nil] at hr2
      have := congrArg List.length hr2
      rw [List.length_drop] at this
      simp at this
      omega
  refine ⟨⟨hle, by rw [hr2, List.drop_drop], ?_⟩, h2, hle, b, h1, hfin⟩
  cases b with
  | false => exact .inr (hfin rfl)
  | true =>
    rcases h.pre with hp | ⟨_, hp⟩
    · refine .inl ?_
      have hx := firstF_cut p (l.drop n) [] m lev (by rw [h1]; simp)
      rw [List.take_add, cutF_append, hp]
      show (_ ++ (cutF p [] _).1, (cutF p [] _).2) = _
      rw [hx]
      rw [List.take_add_one, hc]
      simp
    · omega
theorem at_end {p : Plan} {l : List Nat} {i n : Nat} (h : AtCut p l i n) (hi : (cutAll p l).length ≤ i) : n = l.length := by
  have hr := h.rest
  rw [List.drop_eq_nil_of_le hi] at hr
  rcases Nat.eq_zero_or_pos (l.drop n).length with h0 | h0
  · rw [List.length_drop] at h0; have := h.le; omega
  · obtain ⟨m, lev, b, h1, h2, h3, h4⟩ := cut_first p (l.drop n) h0
    rw [h4] at hr; cases hr
/-- the beginning that ends with a cut is cut as the text -/
theorem at_pre {p : Plan} {l : List Nat} {i n : Nat} (h : AtCut p l i n) : cutAll p (l.take n) = (cutAll p l).take i := by
  rcases h.pre with hp | ⟨h1, h2⟩
  · unfold cutAll at hp ⊢
    rw [hp]
    show _ ++ lastC [] = _
    exact List.append_nil _
  · rw [List.take_of_length_le (by omega), List.take_of_length_le (by omega)]
/-- .. and alike behind alike -/
theorem at_same {p : Plan} {l l' : List Nat} {i k n n' : Nat} (h : AtCut p l i n) (h' : AtCut p l' k n') (e : l.drop n = l'.drop n') : (cutAll p l).drop i = (cutAll p l').drop k := by
  rw [h.rest, h'.rest, e]
theorem firstF_pre (p : Plan) : ∀ (F seg A B : List Nat) (m lev : Nat), firstF p seg (F ++ A) = (seg.length + m, lev, true) → m ≤ F.length → firstF p seg (F ++ B) = (seg.length + m, lev, true)
  | [], seg, A, B, m, lev, h, hm => by
    rw [List.nil_append] at h
    rcases firstF_spec p A seg with ⟨m', lv', q, q2, _⟩ | ⟨q, _⟩
    · rw [q] at h; simp at h hm; omega
    · rw [q] at h; simp at h
  | b :: t, seg, A, B, m, lev, h, hm => by
    rw [List.cons_append] at h ⊢
    cases he : ends p (seg ++ [b]) with
    | some lv =>
      rw [firstF_yes p seg b _ lv he] at h ⊢
      exact h
    | none =>
      rw [firstF_no p seg b _ he] at h ⊢
      cases m with
      | zero =>
        rcases firstF_spec p (t ++ A) (seg ++ [b]) with ⟨m', lv', q, _⟩ | ⟨q, _⟩
        · rw [q] at h; simp at h; omega
        · rw [q] at h; simp at h
      | succ m =>
        have e : (seg ++ [b]).length + m = seg.length + (m + 1) := by simp; omega
        rw [← e] at h ⊢
        exact firstF_pre p t (seg ++ [b]) A B m lev h (by simpa using hm)
/-- alike at the front -/
theorem at_front {p : Plan} {F A B : List Nat} {i n : Nat} (h : AtCut p (F ++ A) i n) (h' : AtCut p (F ++ B) i n) {c c' : Nat × Nat} (hc : (cutAll p (F ++ A))[i]? = some c) (hc' : (cutAll p (F ++ B))[i]? = some c')
    (hn : n ≤ F.length) (h1 : n + c.1 ≤ F.length) (hl : i + 1 ≠ (cutAll p (F ++ A)).length) : c = c' := by
  obtain ⟨-, a2, a3, b, a4, a5⟩ := at_step h hc
  obtain ⟨-, b2, b3, b', b4, b5⟩ := at_step h' hc'
  have hb : b = true := by
    cases b with
    | true => rfl
    | false => exact absurd (a5 rfl).2 hl
  subst hb
  rw [List.drop_append_of_le_length hn] at a4 b4
  have := firstF_pre p (F.drop n) [] A B c.1 c.2 (by rw [a4]; simp) (by rw [List.length_drop]; omega)
  rw [b4] at this
  simp at this
  exact Prod.ext this.1.symm this.2.1.symm
open Go.RowKit in
theorem prow_open {w : World} {v : Value} {cs : List (Nat × Nat)} (h : PRow w v cs) : ∃ a cap n, v = .slice a n cap ∧ cs.length = n ∧ n ≤ cap ∧ ∀ i c, cs[i]? = some c → ∃ g, a = some ⟨g, 0, none⟩ ∧ g < w.heap.size ∧ w.cell? ⟨g, i * 2, none⟩ = some (.int .i64 (c.1 : Int)) ∧ w.cell? ⟨g, i * 2 + 1, none⟩ = some (.int .i64 (c.2 : Int)) := by
  rcases h with ⟨rfl, rfl⟩ | ⟨g, cap, rfl, hc, hg, hi⟩
  · exact ⟨none, 0, 0, rfl, rfl, Nat.le_refl _, fun i c h => by simp at h⟩
  · exact ⟨_, cap, _, rfl, rfl, hc, fun i c h => ⟨g, rfl, hg, hi i c h⟩⟩
end Go.Proofs.YtmnggemifcjflaaDoor
