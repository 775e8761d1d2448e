/-
  A slice of texts that came in.
-/
import Derived.Test.YtdoaajjmibkfeaaRecs
import Derived.Deep.Strs
namespace Go.Proofs.Ytdoaajjmibkfeaa
open Go.RowKit PlainP

structure InStrs (w : World) (a : Option Addr) (len cap : Nat) (ps : List ByteArray) : Prop where
  len_ : ps.length = len
  cap_ : len ≤ cap
  max_ : cap ≤ maxLen
  nil_ : a = none → len = 0 ∧ cap = 0
  at_ : ∀ i p, ps[i]? = some p → ∃ b off, a = some ⟨b, off, none⟩ ∧ w.cell? ⟨b, off + i, none⟩ = some (.string p) ∧ b < w.heap.size ∧ p.size ≤ 140737488351232

section
open Go.ChangeShapes Go.WideShapes Go.Deep
variable {H : Type} {enc : TypeId × Value → H} {P : Program} {w : World} {base : Nat} {spare : Nat → Bool} {held : Bool}
theorem sized_text {ts : List TypeId} {ds : List (DataW H)} (h : (DataW.weightsEach P ts ds).all (· ≤ reachBytes) = true) {j : Nat} {t e : TypeId} {elems sp : List (DataW H)} (ht : ts[j]? = some t) (hd : ds[j]? = some (.slice elems sp)) (hu : P.underlying t = some (.slice e))
    {i : Nat} {bytes : List UInt8} (hi : elems[i]? = some (.lit (.string bytes))) : bytes.length ≤ reachBytes := by
  have h3 : bytes.length ∈ (DataW.lit (H := H) (.string bytes)).weights P e := by simp [DataW.weights]
  have h4 : bytes.length ∈ (DataW.slice (H := H) elems sp).weights P t := by
    rw [DataW.weights, hu]
    exact List.mem_cons_of_mem _ (List.mem_append_left _ (weights_mem_all hi _ h3))
  have := List.all_eq_true.1 h _ (DataW.weights_mem_each ht hd _ h4)
  simpa using this

theorem strs_open {t e : TypeId} {fuel : Nat} {d : DataW H} {pl : List MemPlace} {a : Option Addr} {len cap : Nat} (ht : P.underlying t = some (.slice e)) (he : P.underlying e = some .string)
    (hC : P.cellsOf e = 1) (h : DataW.trod enc P w base spare held fuel t [.slice a len cap] = some (d, pl))
    {ts : List TypeId} {ds : List (DataW H)} (hsz : (DataW.weightsEach P ts ds).all (· ≤ reachBytes) = true) {p : Nat} (hp : ts[p]? = some t) (hdp : ds[p]? = some d) : ∃ ps, InStrs w a len cap ps := by
  rcases open_strs ht he hC h with ⟨hcs, -⟩ | ⟨x, l, c, m, Sx, hcs, -, hl, hm, hmm, hx, hf⟩
  · injection hcs with hcs
    injection hcs with h1 h2 h3
    subst h1 h2 h3
    exact ⟨[], ⟨rfl, Nat.le_refl _, by unfold maxLen; omega, fun _ => ⟨rfl, rfl⟩, fun i p h => by simp at h⟩⟩
  · injection hcs with hcs
    injection hcs with h1 h2 h3
    subst h1 h2 h3
    have hxd : d = .slice ((List.range len).map fun i => .lit (.string (Sx i).data.toList)) ((List.range (m - len)).map fun j => .lit (.string (Sx (len + j)).data.toList)) := by injection hx
    refine ⟨(List.range len).map Sx, ⟨by simp, hl, hm, fun h => (by cases h), fun i q hq => ?_⟩⟩
    rw [List.getElem?_map] at hq
    rcases Nat.lt_or_ge i len with hi | hi
    · rw [List.getElem?_range hi] at hq
      simp only [Option.map_some, Option.some.injEq] at hq
      subst hq
      obtain ⟨hc, -⟩ := hf i (by rw [hmm]; split <;> omega)
      obtain ⟨b, off, spot⟩ := x
      have hc0 := (hf 0 (by rw [hmm]; split <;> omega)).1
      have hspot : spot = none := by simpa [Addr.add] using World.cell?_spot hc0
      subst hspot
      have ea : (⟨b, off, none⟩ : Addr).add i = ⟨b, off + i, none⟩ := by unfold Addr.add; split <;> simp_all
      rw [ea] at hc
      have hb := sized_text hsz hp (by rw [hdp, hxd]) ht (i := i) (bytes := (Sx i).data.toList) (by rw [List.getElem?_map, List.getElem?_range hi]; rfl)
      rw [Array.length_toList] at hb
      unfold reachBytes at hb
      exact ⟨b, off, rfl, hc, cell_lt hc, hb⟩
    · rw [List.getElem?_eq_none (by simpa using hi)] at hq; cases hq
end
end Go.Proofs.Ytdoaajjmibkfeaa
