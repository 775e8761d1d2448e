/-
  Trees that are read: the law's own comparison.
-/
import Derived.Test.YtmnggemifcjflaaTiersW2
import Derived.Deep.DeepCutAuto
namespace Go.Proofs.Ytmnggemifcjflaa.Tier
open Go.RowKit PlainP TiersP

/-- a list of lists, to be read -/
def NRow (w : World) (v : Value) (kss : List (List Nat)) : Prop :=
  ∃ a cap, v = .slice a kss.length cap ∧ kss.length ≤ cap ∧ ∀ (i : Nat) (ks : List Nat), kss[i]? = some ks → ∃ b off, a = some ⟨b, off, none⟩ ∧ b < w.heap.size ∧ ∃ g c, w.cell? ⟨b, off + i, none⟩ = some (.slice g ks.length c) ∧ ks.length ≤ c ∧
    ∀ (j n : Nat), ks[j]? = some n → ∃ bg, g = some ⟨bg, 0, none⟩ ∧ bg < w.heap.size ∧ w.cell? ⟨bg, j, none⟩ = some (.int .i64 (n : Int))
theorem NRow.keep {w w' : World} {v : Value} {kss : List (List Nat)} (h : NRow w v kss) (hz : w.heap.size ≤ w'.heap.size) (hk : ∀ b o, b < w.heap.size → w'.cell? ⟨b, o, none⟩ = w.cell? ⟨b, o, none⟩) : NRow w' v kss := by
  obtain ⟨a, cap, h1, h2, h3⟩ := h
  refine ⟨a, cap, h1, h2, fun i ks hi => ?_⟩
  obtain ⟨b, off, r1, r2, g, c, r3, r4, r5⟩ := h3 i ks hi
  refine ⟨b, off, r1, Nat.lt_of_lt_of_le r2 hz, g, c, by rw [hk _ _ r2]; exact r3, r4, fun j n hj => ?_⟩
  obtain ⟨bg, q1, q2, q3⟩ := r5 j n hj
  exact ⟨bg, q1, Nat.lt_of_lt_of_le q2 hz, by rw [hk _ _ q2]; exact q3⟩
theorem NRow.below {w w' : World} {v : Value} {kss : List (List Nat)} (h : NRow w v kss) (k : Below w.heap.size w w') : NRow w' v kss :=
  h.keep k.size (fun b o hb => k.cell (p := ⟨b, o, none⟩) hb)
theorem NRow.drewN {w : World} {v : Value} {kss : List (List Nat)} (h : NRow w v kss) (n : Nat) : NRow (w.drewN n) v kss := h
theorem Ints.cells {B : Nat} {W : World} {g cap : Nat} {l : List Nat} (h : Ints B W g cap l) (i n : Nat) (hi : l[i]? = some n) : W.cell? ⟨g, i, none⟩ = some (.int .i64 (n : Int)) := by
  have a1 := World.ownsRow.cells h (g := g) rfl i (.int .i64 (n : Int)) (by rw [List.getElem?_map, hi]; rfl)
  rwa [show (⟨g, 0, none⟩ : Addr).add i = ⟨g, i, none⟩ by unfold Addr.add; split <;> simp_all] at a1
theorem Ints.capOk {B : Nat} {W : World} {g cap : Nat} {l : List Nat} (h : Ints B W g cap l) : l.length ≤ cap := by
  rcases h.2 with ⟨h0, -⟩ | ⟨g', cap', cur, hv, -, -, hc, -⟩
  · cases h0
  · cases hv; exact hc
theorem nodeVals_get (gs : List (Nat × Nat)) (kss : List (List Nat)) (h : gs.length = kss.length) (i : Nat) (ks : List Nat) (hi : kss[i]? = some ks) : ∃ g : Nat × Nat, gs[i]? = some g ∧ (nodeVals gs kss)[i]? = some (Value.slice (some ⟨g.1, 0, none⟩) ks.length g.2) := by
  have hl := (List.getElem?_eq_some_iff.1 hi).1
  refine ⟨gs[i], List.getElem?_eq_getElem (by omega), ?_⟩
  unfold nodeVals
  rw [List.getElem?_zipWith, List.getElem?_eq_getElem (by omega), hi]
/-- the answer of Tiers can be read -/
theorem Nodes.nrow {B : Nat} {W : World} {v : Value} {kss : List (List Nat)} (h : Nodes B W v kss) : NRow W v kss := by
  obtain ⟨gs, h1, h2, h3, -⟩ := h
  have hcell := fun g hg => World.ownsRow.cells h2 (g := g) hg
  have hlt := World.ownsRow.lt h2
  rcases h2.2 with ⟨rfl, h0⟩ | ⟨g, cap, cur, rfl, -, -, hc, -⟩
  · have hk : kss = [] := List.eq_nil_of_length_eq_zero h0
    subst hk
    exact ⟨none, 0, rfl, Nat.le_refl _, fun i ks hi => by simp at hi⟩
  · refine ⟨some ⟨g, 0, none⟩, cap, rfl, hc, fun i ks hi => ⟨g, 0, rfl, (hlt g rfl).2, ?_⟩⟩
    obtain ⟨q, q1, q2⟩ := nodeVals_get gs kss h1 i ks hi
    have a1 := hcell g rfl i _ q2
    rw [show (⟨g, 0, none⟩ : Addr).add i = ⟨g, 0 + i, none⟩ by unfold Addr.add; split <;> simp_all] at a1
    have hin := h3 i q ks q1 hi
    exact ⟨some ⟨q.1, 0, none⟩, q.2, a1, hin.capOk, fun j n hj => ⟨q.1, rfl, (World.ownsRow.lt hin q.1 rfl).2, hin.cells j n hj⟩⟩

theorem drew_more (w : World) (m n : Nat) : ∃ k, (w.drewN m).drewN n = w.drewN k := ⟨m + n, by simp [World.drewN, Nat.add_assoc]⟩
set_option maxRecDepth 100000 in
set_option maxHeartbeats 2000000 in
theorem numbers_any (v u : Value) (kss : List (List Nat)) (w : World) (hv : NRow w v kss) (hu : NRow w u kss) (hl : kss.length ≤ 2097152) (hks : ∀ ks ∈ kss, ks.length ≤ 1048576) :
    Calls Try.prog 17 #[v, u] w fun e w' => e = .returned (.bool true) ∧ ∃ m, w' = w.drewN m := by
  obtain ⟨n, hn⟩ : ∃ n, kss.length = n := ⟨_, rfl⟩
  obtain ⟨a1, cap1, rfl, hc1, h1⟩ := hv
  obtain ⟨a2, cap2, rfl, hc2, h2⟩ := hu
  rw [hn] at hl hc1 hc2
  rw [hn]
  have HN := Lib.hid hn; have HKS := Lib.hid hks
  have H1 := Lib.hid h1; have H2 := Lib.hid h2
  clear h1 h2 hn hks
  go_enter Try.func17, Try.ntmps17
  go_wp2_with fail
  go_loopw [5, 6] (fun i _ wr => ∃ k : Nat, i = .int .i64 k ∧ k ≤ n ∧ Hid (∃ m, wr = w.drewN m)) (fun i _ _ => n - (intOf i).toNat)
  case atStart => exact ⟨0, rfl, Nat.zero_le _, 0, rfl⟩
  case round =>
    obtain ⟨k, rfl, hk, H⟩ := hrel
    obtain ⟨m, rfl⟩ := H.out
    clear H
    by_cases hlt : k < n
    · obtain ⟨ks, hks⟩ : ∃ ks, kss[k]? = some ks := ⟨_, List.getElem?_eq_getElem (by rw [HN.out]; exact hlt)⟩
      obtain ⟨b1, o1, rfl, -, g1, c1, p1, pc1, r1⟩ := H1.out k ks hks
      obtain ⟨b2, o2, rfl, -, g2, c2, p2, pc2, r2⟩ := H2.out k ks hks
      have hkl := HKS.out ks (List.mem_of_getElem? hks)
      obtain ⟨len, hlen⟩ : ∃ len, ks.length = len := ⟨_, rfl⟩
      rw [hlen] at p1 p2 pc1 pc2 hkl
      have hd1 : ((len : Int) != (len : Int)) = false := by simp
      have HR1 := Lib.hid r1; have HR2 := Lib.hid r2; have HLEN := Lib.hid hlen
      clear r1 r2 hlen hks
      go_wp2_with fail
      go_quiet (fail)
      go_wp2_with fail
      go_loopw [6] (fun i wr => ∃ q : Nat, i = .int .i64 q ∧ q ≤ len ∧ Hid (∃ m, wr = w.drewN m)) (fun i _ => len - (intOf i).toNat)
      case atStart => exact ⟨0, rfl, Nat.zero_le _, drew_more _ _ _⟩
      case round =>
        obtain ⟨q, rfl, hq, H⟩ := hrel
        obtain ⟨m2, rfl⟩ := H.out
        clear H
        by_cases hql : q < len
        · obtain ⟨x, hx⟩ : ∃ x, ks[q]? = some x := ⟨_, List.getElem?_eq_getElem (by rw [HLEN.out]; exact hql)⟩
          obtain ⟨bg1, rfl, -, t1⟩ := HR1.out q x hx
          obtain ⟨bg2, rfl, -, t2⟩ := HR2.out q x hx
          have hd2 : ((x : Int) != (x : Int)) = false := by simp
          clear hx
          go_wp2_with fail
          go_quiet (fail)
          go_wp2_with fail
          go_roundw
          case rel => exact ⟨q + 1, by go_num, by omega, by first | exact drew_more _ _ _ | exact ⟨_, rfl⟩⟩
          case measure => simp [intOf]; omega
        · obtain rfl : q = len := by omega
          go_wp2_with fail
          go_roundw
          case rel => exact ⟨k + 1, by go_num, by omega, by first | exact drew_more _ _ _ | exact ⟨_, rfl⟩⟩
          case measure => simp [intOf]; omega
    · obtain rfl : k = n := by omega
      go_wp2_with fail
      go_ret
      exact ⟨rfl, m, rfl⟩
end Go.Proofs.Ytmnggemifcjflaa.Tier
