/-
  An argument that is a slice of structs of one-cell fields (integers, strings): what the walk is told of it, and how the row's reading gives it.
-/
import Derived.Test.YtmnggemifcjflaaDoorBytes
import Derived.Deep.Slices
import Derived.Deep.Fields
import Derived.ChangeSame
import Derived.SizedLaws
namespace Go.Proofs.YtmnggemifcjflaaDoor
open Go.RowKit PlainP

/-- a field's cell: an integer of a kind (some k), or a string within the form's reach (none) -/
def FieldOk : Option IntKind → Value → Prop
  | some k, v => ∃ n : Int, v = .int k n ∧ (Lit.int k n).wf = true
  | none, v => ∃ s : ByteArray, v = .string s ∧ s.size ≤ 140737488351232

/-- a slice of structs that came in -/
def Recs (ks : List (Option IntKind)) (w : World) (a : Option Addr) (len cap : Nat) : Prop :=
  (a = none ∧ len = 0 ∧ cap = 0) ∨ (len ≤ cap ∧ cap ≤ maxLen ∧ ∃ x, a = some x ∧ ∀ i, i < len → ∀ (j : Nat) k, ks[j]? = some k → ∃ v, w.cell? (x.add (i * ks.length + j)) = some v ∧ FieldOk k v)

theorem Recs.len_le {ks : List (Option IntKind)} {w : World} {a : Option Addr} {len cap : Nat} (h : Recs ks w a len cap) : len ≤ cap ∧ cap ≤ maxLen := by
  rcases h with ⟨-, rfl, rfl⟩ | ⟨h1, h2, -⟩
  · exact ⟨Nat.le_refl _, Nat.zero_le _⟩
  · exact ⟨h1, h2⟩

/-- element i, in a later world -/
theorem Recs.at_ {k0 : Option IntKind} {ks : List (Option IntKind)} {w w' : World} {a : Option Addr} {len cap : Nat} (h : Recs (k0 :: ks) w a len cap) (hb : Below w.heap.size w w') {i : Nat} (hi : i < len) :
    ∃ b off : Nat, a = some ⟨b, off, none⟩ ∧ b < w.heap.size ∧ ∀ (j : Nat) k, (k0 :: ks)[j]? = some k → ∃ v, w'.cell? ⟨b, off + i * (k0 :: ks).length + j, none⟩ = some v ∧ FieldOk k v := by
  rcases h with ⟨-, rfl, -⟩ | ⟨hl, hm, x, rfl, hf⟩
  · omega
  · obtain ⟨b, off, spot⟩ := x
    obtain ⟨v0, hv0, -⟩ := hf 0 (by omega) 0 k0 rfl
    have hspot : spot = none := by simpa [Addr.add] using World.cell?_spot hv0
    subst hspot
    refine ⟨b, off, rfl, by have h9 := cell_lt hv0; simpa [Addr.add] using h9, fun j k hk => ?_⟩
    obtain ⟨v, hv, hok⟩ := hf i hi j k hk
    have e : ∀ n, (⟨b, off, none⟩ : Addr).add n = ⟨b, off + n, none⟩ := fun n => by unfold Addr.add; split <;> simp_all
    rw [e, ← Nat.add_assoc] at hv
    exact ⟨v, by rw [hb.cell (cell_lt hv)]; exact hv, hok⟩

section
open Go.ChangeShapes Go.WideShapes Go.Deep
variable {H : Type} {enc : TypeId × Value → H} {P : Program} {w : World} {base : Nat} {spare : Nat → Bool} {held : Bool}
theorem open_slice_fields {t e : TypeId} {fs : Array Field} {fuel : Nat} {cs : List Value} {x : DataW H × List MemPlace} (ht : P.underlying t = some (.slice e)) (he : P.underlying e = some (.struct fs))
    (hone : oneCellFields P fs = true) (hC : P.cellsOf e = fs.size) (h : DataW.trod enc P w base spare held fuel t cs = some x) :
    (cs = [.slice none 0 0] ∧ x = (.nil, [])) ∨
    ∃ (a : Addr) (len cap m : Nat) (D : Nat → DataW H) (Pl : Nat → List MemPlace), cs = [.slice (some a) len cap] ∧ base ≤ a.block ∧ len ≤ cap ∧ cap ≤ maxLen ∧ m = (if spare a.block then cap else len) ∧
      x = (.slice ((List.range len).map D) ((List.range (m - len)).map fun j => D (len + j)), MemPlace.row a (m * fs.size) ++ (List.range m).flatMap Pl) ∧
      ∀ i, i < m → ∃ (ys : List (DataW H × List MemPlace)) (n : Nat), D i = .agg (ys.map (·.1)) ∧ Pl i = ys.flatMap (·.2) ∧ ys.length = fs.size ∧
        ∀ (j : Nat) (f : Field), fs[j]? = some f → ∃ (v : Value) (y : DataW H × List MemPlace), w.cell? (a.add (i * fs.size + j)) = some v ∧ ys[j]? = some y ∧ DataW.trod enc P w base spare held n f.type [v] = some y := by
  rcases open_slice ht h with h0 | ⟨a, len, cap, m, n, D, Pl, hcs, hb, hl, hm, hmm, hx, hi⟩
  · exact .inl h0
  · refine .inr ⟨a, len, cap, m, D, Pl, hcs, hb, hl, hm, hmm, by rw [hC] at hx; exact hx, fun i him => ?_⟩
    obtain ⟨cs', hc, ht'⟩ := hi i him
    rw [hC] at hc
    obtain ⟨ys, n', hn', hy, hlen, hyl, hf⟩ := DataW.trod_struct he ht'
    obtain ⟨_, hcl, hat⟩ := World.cells?_some hc
    simp only [Prod.mk.injEq] at hy
    refine ⟨ys, n', hy.1, hy.2, hyl, fun j f hj => ?_⟩
    obtain ⟨ho, hk⟩ := hone_of hone j f hj
    have hjl : j < fs.size := (Array.getElem?_eq_some_iff.1 hj).1
    have hcell := hat j hjl
    have hv : cs'[j]? = some (cs'[j]'(by omega)) := List.getElem?_eq_getElem (by omega)
    have h1 := hf j f hj
    rw [ho, hk] at h1
    have hone' : (cs'.drop j).take 1 = [cs'[j]'(by omega)] := by
      rw [List.drop_eq_getElem_cons (by omega)]
      rfl
    rw [hone'] at h1
    have hys : ys[j]? = some (ys[j]'(by omega)) := List.getElem?_eq_getElem (by omega)
    refine ⟨_, _, ?_, hys, h1.trans hys⟩
    rw [← Go.Deep.add_add, hcell, hv]

theorem weights_mem_all {e : TypeId} : ∀ {ds : List (DataW H)} {i : Nat} {d : DataW H}, ds[i]? = some d → ∀ n ∈ d.weights P e, n ∈ DataW.weightsAll P e ds
  | d0 :: ds, 0, d, hd, n, hn => by
    simp only [List.getElem?_cons_zero, Option.some.injEq] at hd
    subst hd
    simp only [DataW.weightsAll, List.mem_append]
    exact Or.inl hn
  | d0 :: ds, i + 1, d, hd, n, hn => by
    simp only [List.getElem?_cons_succ] at hd
    simp only [DataW.weightsAll, List.mem_append]
    exact Or.inr (weights_mem_all hd n hn)
  | [], _, _, hd, _, _ => by simp at hd

theorem sized_field {ts : List TypeId} {ds : List (DataW H)} (h : (DataW.weightsEach P ts ds).all (· ≤ reachBytes) = true) {j : Nat} {t e : TypeId} {elems sp : List (DataW H)} (ht : ts[j]? = some t) (hd : ds[j]? = some (.slice elems sp)) (hu : P.underlying t = some (.slice e))
    {fs : Array Field} (he : P.underlying e = some (.struct fs)) {i k : Nat} {parts : List (DataW H)} (hi : elems[i]? = some (.agg parts)) {f : Field} (hf : fs[k]? = some f) {bytes : List UInt8} (hp : parts[k]? = some (.lit (.string bytes))) : bytes.length ≤ reachBytes := by
  have h1 : bytes.length ∈ (DataW.lit (H := H) (.string bytes)).weights P f.type := by simp [DataW.weights]
  have h2 : bytes.length ∈ DataW.weightsEach P (fs.toList.map (·.type)) parts := DataW.weights_mem_each (j := k) (by rw [List.getElem?_map, Array.getElem?_toList, hf]; rfl) hp _ h1
  have h3 : bytes.length ∈ (DataW.agg (H := H) parts).weights P e := by rw [DataW.weights, he]; exact h2
  have h4 : bytes.length ∈ (DataW.slice (H := H) elems sp).weights P t := by
    rw [DataW.weights, hu]
    exact List.mem_cons_of_mem _ (List.mem_append_left _ (weights_mem_all hi _ h3))
  have := List.all_eq_true.1 h _ (DataW.weights_mem_each ht hd _ h4)
  simpa using this

/-- the fields' types are as the kinds say -/
def kindsOk (P : Program) (fs : Array Field) (ks : List (Option IntKind)) : Bool :=
  fs.size == ks.length && (List.range ks.length).all fun j => match fs[j]?, ks[j]? with
    | some f, some (some k) => match P.underlying f.type with | some (.int k') => decide (k' = k) | _ => false
    | some f, some none => match P.underlying f.type with | some .string => true | _ => false
    | _, _ => false

theorem recs_open {t e : TypeId} {fs : Array Field} {ks : List (Option IntKind)} {fuel : Nat} {d : DataW H} {pl : List MemPlace} {a : Option Addr} {len cap : Nat} (ht : P.underlying t = some (.slice e)) (he : P.underlying e = some (.struct fs))
    (hone : oneCellFields P fs = true) (hC : P.cellsOf e = fs.size) (hk : kindsOk P fs ks = true) (h : DataW.trod enc P w base spare held fuel t [.slice a len cap] = some (d, pl))
    {ts : List TypeId} {ds : List (DataW H)} (hsz : (DataW.weightsEach P ts ds).all (· ≤ reachBytes) = true) {p : Nat} (hp : ts[p]? = some t) (hdp : ds[p]? = some d) : Recs ks w a len cap := by
  simp only [kindsOk, Bool.and_eq_true, beq_iff_eq, List.all_eq_true, List.mem_range] at hk
  obtain ⟨hn, hk⟩ := hk
  rcases open_slice_fields ht he hone hC h with ⟨hcs, -⟩ | ⟨x, l, c, m, D, Pl, hcs, -, hl, hm, hmm, hx, hf⟩
  · injection hcs with hcs
    injection hcs with h1 h2 h3
    exact .inl ⟨h1, h2, h3⟩
  · injection hcs with hcs
    injection hcs with h1 h2 h3
    subst h1 h2 h3
    refine .inr ⟨hl, hm, x, rfl, fun i hi j k hj => ?_⟩
    obtain ⟨ys, n, hD, -, hyl, hfld⟩ := hf i (by rw [hmm]; split <;> omega)
    have hjl : j < ks.length := (List.getElem?_eq_some_iff.1 hj).1
    obtain ⟨f, hfj⟩ : ∃ f, fs[j]? = some f := ⟨fs[j], Array.getElem?_eq_getElem (by omega)⟩
    obtain ⟨v, y, hcell, hy, htr⟩ := hfld j f hfj
    rw [hn] at hcell
    refine ⟨v, hcell, ?_⟩
    have hkj := hk j hjl
    rw [hfj, hj] at hkj
    cases k with
    | some k =>
      simp only at hkj
      split at hkj
      · rename_i k' hu
        have hk' : k' = k := of_decide_eq_true hkj
        subst hk'
        obtain ⟨q, hq, -, hw⟩ := DataW.trod_int hu htr
        injection hq with hq
        exact ⟨q, hq, hw⟩
      · cases hkj
    | none =>
      simp only at hkj
      split at hkj
      · rename_i hu
        obtain ⟨s, hs, hys, -⟩ := DataW.trod_string hu htr
        injection hs with hs
        refine ⟨s, hs, ?_⟩
        have hxd : d = .slice ((List.range len).map D) ((List.range (m - len)).map fun j => D (len + j)) := by injection hx
        have hb := sized_field hsz hp (by rw [hdp, hxd]) ht he (i := i) (k := j) (parts := ys.map (·.1)) (by rw [List.getElem?_map, List.getElem?_range hi, ← hD]; rfl) hfj (bytes := s.data.toList) (by rw [List.getElem?_map, hy, hys]; rfl)
        rw [Array.length_toList] at hb
        unfold reachBytes at hb
        exact hb
      · cases hkj
end
end Go.Proofs.YtmnggemifcjflaaDoor
