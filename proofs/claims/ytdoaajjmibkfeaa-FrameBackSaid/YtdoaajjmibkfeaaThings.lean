/-
  The things of the law: a list of them out of a slice that came in; what lays each, and the reader's answers at what was laid.
-/
import Derived.Test.YtdoaajjmibkfeaaWireX
import Derived.Test.YtdoaajjmibkfeaaRecs
namespace Go.Proofs.Ytdoaajjmibkfeaa
open Go.RowKit PlainP WireP

structure Thing where
  kind : Int
  width : Int
  n : Nat
  t : ByteArray

theorem list_of {α : Type} (P : Nat → α → Prop) : ∀ n, (∀ i, i < n → ∃ x, P i x) → ∃ L : List α, L.length = n ∧ ∀ i x, L[i]? = some x → P i x
  | 0, _ => ⟨[], rfl, fun i x h => by simp at h⟩
  | n + 1, h => by
    obtain ⟨L, hl, hL⟩ := list_of P n (fun i hi => h i (by omega))
    obtain ⟨x, hx⟩ := h n (by omega)
    refine ⟨L ++ [x], by simp [hl], fun i y hy => ?_⟩
    rcases Nat.lt_or_ge i n with hi | hi
    · rw [List.getElem?_append_left (by omega)] at hy; exact hL i y hy
    · rw [List.getElem?_append_right (by omega), hl] at hy
      obtain ⟨rfl, rfl⟩ : i = n ∧ y = x := by
        have := (List.getElem?_eq_some_iff.1 hy).1
        simp at this
        have e : i = n := by omega
        subst e
        rw [Nat.sub_self] at hy
        exact ⟨rfl, by simpa using hy.symm⟩
      exact hx

structure ThingAt (w : World) (a : Option Addr) (i : Nat) (x : Thing) : Prop where
  kind1 : -9223372036854775808 ≤ x.kind
  kind2 : x.kind ≤ 9223372036854775807
  width1 : -9223372036854775808 ≤ x.width
  width2 : x.width ≤ 9223372036854775807
  n : x.n < 18446744073709551616
  t : x.t.size ≤ 140737488351232
  at_ : ∃ b off : Nat, a = some ⟨b, off, none⟩ ∧ b < w.heap.size ∧ ∀ w', Below w.heap.size w w' → w'.cell? ⟨b, off + i * 4, none⟩ = some (.int .i64 x.kind) ∧ w'.cell? ⟨b, off + i * 4 + 1, none⟩ = some (.int .i64 x.width) ∧
    w'.cell? ⟨b, off + i * 4 + 2, none⟩ = some (.int .u64 x.n) ∧ w'.cell? ⟨b, off + i * 4 + 3, none⟩ = some (.string x.t)

theorem wf_i64 {n : Int} (h : (Lit.int .i64 n).wf = true) : -9223372036854775808 ≤ n ∧ n ≤ 9223372036854775807 := by
  simp only [Lit.wf, Bool.and_eq_true, decide_eq_true_eq] at h
  have e1 : IntKind.i64.min = -9223372036854775808 := by decide
  have e2 : IntKind.i64.max = 9223372036854775807 := by decide
  rw [e1, e2] at h; exact h
theorem wf_u64 {n : Int} (h : (Lit.int .u64 n).wf = true) : 0 ≤ n ∧ n ≤ 18446744073709551615 := by
  simp only [Lit.wf, Bool.and_eq_true, decide_eq_true_eq] at h
  have e1 : IntKind.u64.min = 0 := by decide
  have e2 : IntKind.u64.max = 18446744073709551615 := by decide
  rw [e1, e2] at h; exact h
theorem things_of {w : World} {a : Option Addr} {len cap : Nat} (h : Recs [some .i64, some .i64, some .u64, none] w a len cap) : ∃ L : List Thing, L.length = len ∧ ∀ i x, L[i]? = some x → ThingAt w a i x := by
  refine list_of _ len fun i hi => ?_
  obtain ⟨b, off, ha, hbl, hf⟩ := h.at_ (Below.refl _ _) hi
  obtain ⟨_, c0, k, rfl, wk⟩ := hf 0 _ rfl
  obtain ⟨_, c1, d, rfl, wd⟩ := hf 1 _ rfl
  obtain ⟨_, c2, n, rfl, wn⟩ := hf 2 _ rfl
  obtain ⟨_, c3, t, rfl, wt⟩ := hf 3 _ rfl
  simp only [List.length_cons, List.length_nil, Nat.zero_add, Nat.reduceAdd, Nat.add_zero] at c0 c1 c2 c3
  have hk := wf_i64 wk
  have hd := wf_i64 wd
  have hn := wf_u64 wn
  obtain ⟨n, rfl⟩ : ∃ m : Nat, n = (m : Int) := ⟨n.toNat, by omega⟩
  exact ⟨⟨k, d, n, t⟩, by dsimp only; omega, by dsimp only; omega, by dsimp only; omega, by dsimp only; omega, by dsimp only; omega, wt, b, off, ha, hbl, fun w' hb => ⟨by rw [hb.cell hbl]; exact c0, by rw [hb.cell hbl]; exact c1, by rw [hb.cell hbl]; exact c2, by rw [hb.cell hbl]; exact c3⟩⟩
end Go.Proofs.Ytdoaajjmibkfeaa
