/-
  awake.
-/
import Derived.Test.YtmnggemifcjflaaDoorZerosP
import Derived.Test.YtmnggemifcjflaaDoorSplitG
import Derived.Test.YtmnggemifcjflaaDoorNumbersW
namespace Go.Proofs.YtmnggemifcjflaaDoor
open Go.RowKit PlainP RollP OnesP SplitP TiersP Tier

theorem cs_hundred : csOf 4 2 64 (List.replicate 100 0) = [(64, 0), (36, 0)] := by
  unfold csOf
  rw [if_pos (by decide)]
  have h := cutAll_zeros ⟨4, 2, 64⟩ (by decide) (by decide) 100
  exact h.trans (by decide)
theorem tiers_five : tiersA 2 1 5 (enumF [0, 0, 0, 0, 0]) = [[0, 1], [2, 3], [5, 6], [7, 4]] := by decide +kernel
theorem cell_up {w : World} {o : Obj} {p : Addr} {v : Value} (h : w.cell? p = some v) : (w.alloc o).cell? p = some v := (World.grownBy_alloc w o none).cell h (by simp)
theorem built4 (W : World) (e1 e2 : TypeId) :
    NRow (((((W.alloc (.cells #[.int .i64 0, .int .i64 1] e1)).alloc (.cells #[.int .i64 2, .int .i64 3] e1)).alloc (.cells #[.int .i64 5, .int .i64 6] e1)).alloc (.cells #[.int .i64 7, .int .i64 4] e1)).alloc
      (.cells #[.slice (some ⟨W.heap.size, 0, none⟩) 2 2, .slice (some ⟨W.heap.size + 1, 0, none⟩) 2 2, .slice (some ⟨W.heap.size + 1 + 1, 0, none⟩) 2 2, .slice (some ⟨W.heap.size + 1 + 1 + 1, 0, none⟩) 2 2] e2))
      (.slice (some ⟨W.heap.size + 1 + 1 + 1 + 1, 0, none⟩) 4 4) [[0, 1], [2, 3], [5, 6], [7, 4]] := by
  have n1 := news W #[.int .i64 0, .int .i64 1] e1 W.heap.size rfl
  have n2 := news (W.alloc (.cells #[.int .i64 0, .int .i64 1] e1)) #[.int .i64 2, .int .i64 3] e1 (W.heap.size + 1) (by simp)
  have n3 := news ((W.alloc (.cells #[.int .i64 0, .int .i64 1] e1)).alloc (.cells #[.int .i64 2, .int .i64 3] e1)) #[.int .i64 5, .int .i64 6] e1 (W.heap.size + 1 + 1) (by simp)
  have n4 := news (((W.alloc (.cells #[.int .i64 0, .int .i64 1] e1)).alloc (.cells #[.int .i64 2, .int .i64 3] e1)).alloc (.cells #[.int .i64 5, .int .i64 6] e1)) #[.int .i64 7, .int .i64 4] e1 (W.heap.size + 1 + 1 + 1) (by simp)
  have n5 := news ((((W.alloc (.cells #[.int .i64 0, .int .i64 1] e1)).alloc (.cells #[.int .i64 2, .int .i64 3] e1)).alloc (.cells #[.int .i64 5, .int .i64 6] e1)).alloc (.cells #[.int .i64 7, .int .i64 4] e1))
    #[.slice (some ⟨W.heap.size, 0, none⟩) 2 2, .slice (some ⟨W.heap.size + 1, 0, none⟩) 2 2, .slice (some ⟨W.heap.size + 1 + 1, 0, none⟩) 2 2, .slice (some ⟨W.heap.size + 1 + 1 + 1, 0, none⟩) 2 2] e2 (W.heap.size + 1 + 1 + 1 + 1) (by simp)
  refine ⟨some ⟨W.heap.size + 1 + 1 + 1 + 1, 0, none⟩, 4, rfl, Nat.le_refl _, fun i ks hi => ⟨_, 0, rfl, by simp, ?_⟩⟩
  have h4 : i < 4 := (List.getElem?_eq_some_iff.1 hi).1
  rw [Nat.zero_add]
  have q : i = 0 ∨ i = 1 ∨ i = 2 ∨ i = 3 := by omega
  rcases q with rfl | rfl | rfl | rfl
  all_goals (simp only [List.getElem?_cons_zero, List.getElem?_cons_succ, Option.some.injEq] at hi; subst hi)
  · refine ⟨_, 2, n5 0 _ rfl, by decide, fun j n hj => ⟨W.heap.size, rfl, by simp; omega, ?_⟩⟩
    have hj2 : j < 2 := (List.getElem?_eq_some_iff.1 hj).1
    have q : j = 0 ∨ j = 1 := by omega
    rcases q with rfl | rfl <;> (simp at hj; subst hj)
    · exact cell_up (cell_up (cell_up (cell_up (n1 0 _ rfl))))
    · exact cell_up (cell_up (cell_up (cell_up (n1 1 _ rfl))))
  · refine ⟨_, 2, n5 1 _ rfl, by decide, fun j n hj => ⟨W.heap.size + 1, rfl, by simp, ?_⟩⟩
    have hj2 : j < 2 := (List.getElem?_eq_some_iff.1 hj).1
    have q : j = 0 ∨ j = 1 := by omega
    rcases q with rfl | rfl <;> (simp at hj; subst hj)
    · exact cell_up (cell_up (cell_up (n2 0 _ rfl)))
    · exact cell_up (cell_up (cell_up (n2 1 _ rfl)))
  · refine ⟨_, 2, n5 2 _ rfl, by decide, fun j n hj => ⟨W.heap.size + 1 + 1, rfl, by simp, ?_⟩⟩
    have hj2 : j < 2 := (List.getElem?_eq_some_iff.1 hj).1
    have q : j = 0 ∨ j = 1 := by omega
    rcases q with rfl | rfl <;> (simp at hj; subst hj)
    · exact cell_up (cell_up (n3 0 _ rfl))
    · exact cell_up (cell_up (n3 1 _ rfl))
  · refine ⟨_, 2, n5 3 _ rfl, by decide, fun j n hj => ⟨W.heap.size + 1 + 1 + 1, rfl, by simp, ?_⟩⟩
    have hj2 : j < 2 := (List.getElem?_eq_some_iff.1 hj).1
    have q : j = 0 ∨ j = 1 := by omega
    rcases q with rfl | rfl <;> (simp at hj; subst hj)
    · exact cell_up (n4 0 _ rfl)
    · exact cell_up (n4 1 _ rfl)
theorem levels5 (W : World) (e : TypeId) : Levels (W.alloc (.cells #[.int .i64 0, .int .i64 0, .int .i64 0, .int .i64 0, .int .i64 0] e)) (some ⟨W.heap.size, 0, none⟩) 5 5 [0, 0, 0, 0, 0] := by
  have n1 := news W #[.int .i64 0, .int .i64 0, .int .i64 0, .int .i64 0, .int .i64 0] e W.heap.size rfl
  refine ⟨rfl, Nat.le_refl _, by decide, by decide, fun i x hi => ⟨_, 0, rfl, by simp, ?_⟩⟩
  have h4 : i < 5 := (List.getElem?_eq_some_iff.1 hi).1
  rw [Nat.zero_add]
  have q : i = 0 ∨ i = 1 ∨ i = 2 ∨ i = 3 ∨ i = 4 := by omega
  rcases q with rfl | rfl | rfl | rfl | rfl
  all_goals (simp only [List.getElem?_cons_zero, List.getElem?_cons_succ, Option.some.injEq] at hi; subst hi)
  · exact n1 0 _ rfl
  · exact n1 1 _ rfl
  · exact n1 2 _ rfl
  · exact n1 3 _ rfl
  · exact n1 4 _ rfl

set_option maxRecDepth 100000 in
set_option maxHeartbeats 2000000 in
theorem awake_any (w : World) (hT : Tab w) : Calls Tryd.prog 32 #[] w fun e w' => e = .returned (.bool true) ∧ Below w.heap.size w w' := by
  have hmk : (Instr.makeSlice 74 (.int .i64 100) (.int .i64 100)).run Tryd.prog w = _ := make_bytes w 100 (by omega)
  have hcv := zeros_back w 100 5
  have hsz : (mkS (List.replicate 100 0)).size = 100 := by rw [← nats_length, nats_mkS (Bytes.replicate 100 (by omega)), List.length_replicate]
  have hcut := fun W (h : Tab W) => cut_gen 4 2 64 (mkS (List.replicate 100 0)) W (by rw [hsz]; omega) h
  rw [nats_mkS (Bytes.replicate 100 (by omega)), cs_hundred, show planE 4 2 64 = 0 from rfl] at hcut
  generalize mkS (List.replicate 100 0) = S at *
  unfold planV at hcut
  have HCUT := Lib.hid hcut; have HT := Lib.hid hT
  clear hcut hT hsz
  go_enter Tryd.func32, Tryd.ntmps32
  go_wp2_with fail
  refine (HCUT.out _ (HT.out.below ((Below.refl _ _).alloc (Nat.le_refl _) _) HT.out.1)).mono ?_
  rintro e w1 ⟨v, rfl, hb, hc⟩
  have hB1 : Below w.heap.size w w1 := ((Below.refl _ _).alloc (Nat.le_refl _) _).trans (hb.mono (by simp))
  have hp := prow_of hc
  obtain ⟨a, cap, rfl⟩ := own_slice hc
  have HB1 := Lib.hid hB1; have HP := Lib.hid hp
  clear hmk hcv hB1 hb hc hp
  have htier := tiers_any (some ⟨w1.heap.size, 0, none⟩) 5 5 [0, 0, 0, 0, 0] 2 (w1.alloc (.cells #[.int .i64 0, .int .i64 0, .int .i64 0, .int .i64 0, .int .i64 0] 3)) (levels5 w1 _) (by omega) (by omega) (by omega)
  rw [tiers_five] at htier
  have HTI := Lib.hid htier; clear htier
  go_wp2_with fail
  refine HTI.out.mono ?_
  rintro e w2 ⟨v, rfl, hb, hn⟩
  have hb' : Below w1.heap.size w1 w2 := ((Below.refl _ _).alloc (Nat.le_refl _) _).trans (hb.mono (by simp))
  have hB2 := HB1.out.trans (hb'.mono HB1.out.size)
  have hp2 := HP.out.below hb'
  have hnr := hn.nrow
  rcases hp2 with ⟨h0, h1⟩ | ⟨g, cap', hv, hcap, hg, hcell⟩
  · cases h1
  · injection hv with hv1 hv2 hv3
    subst hv1
    have c0 := (hcell 0 _ rfl).1
    obtain ⟨va, vcap, rfl, hn4, hn5⟩ := hnr
    have hnr : NRow w2 (.slice va 4 vcap) [[0, 1], [2, 3], [5, 6], [7, 4]] := ⟨va, vcap, rfl, hn4, hn5⟩
    have HB2 := Lib.hid hB2; have HN := Lib.hid hnr
    clear hcell hb hb' hn hB2 hnr hn5 HTI HP HB1
    go_wp2_with fail
    have hup : ∀ o1 o2 o3 o4 o5, Below w2.heap.size w2 (((((w2.alloc o1).alloc o2).alloc o3).alloc o4).alloc o5) := fun o1 o2 o3 o4 o5 => (((((Below.refl _ _).alloc (by simp) _).alloc (by simp) _).alloc (by simp; omega) _).alloc (by simp; omega) _).alloc (by simp; omega) _
    have hup2 : ∀ o1 o2 o3 o4 o5, Below w.heap.size w (((((w2.alloc o1).alloc o2).alloc o3).alloc o4).alloc o5) := fun o1 o2 o3 o4 o5 => HB2.out.trans ((hup o1 o2 o3 o4 o5).mono HB2.out.size)
    have HUP := Lib.hid hup2
    refine (numbers_any _ _ [[0, 1], [2, 3], [5, 6], [7, 4]] _ (HN.out.below (hup _ _ _ _ _)) (built4 w2 _ _) (by decide) (by decide)).mono ?_
    rintro e w3 ⟨rfl, m, rfl⟩
    clear hup hup2
    go_wp2_with fail
    go_ret
    exact ⟨rfl, below_drewN (HUP.out _ _ _ _ _) m⟩
end Go.Proofs.YtmnggemifcjflaaDoor
