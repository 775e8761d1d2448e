/-
  The walk over SplitAsBefore.
-/
import Derived.Test.YtmnggemifcjflaaDoorCutsP
import Derived.Test.YtmnggemifcjflaaDoorAskW
import Derived.Maps.OwnSet
import Derived.Maps.OwnOps
import Derived.Maps.Views
import Derived.BigQuiet
namespace Go.Proofs.YtmnggemifcjflaaDoor.splitAsBefore
open Go.RowKit PlainP RollP OnesP SplitP Tier Go.Maps
set_option linter.unusedVariables false

theorem lawInt : Keyed Tryd.prog 3 := int_keyed Tryd.underlying3
theorem zeroInt (w : World) : (zeroValue 3).run Tryd.prog w = .ok (.int .i64 0) w := by kernel_rfl

/-- the map tells, of a place told from the end, which cut it is -/
def Sound (p : Plan) (l : List Nat) (D : DataW Unit) : Prop :=
  IsMap D ∧ ∀ z c : Int, has D (.int .i64 z) = true → D.atKey (.int .i64 z) (.lit (.int .i64 0)) = .lit (.int .i64 c) → ∃ i n : Nat, c = (i : Int) ∧ (l.length : Int) - n = z ∧ AtCut p l i n ∧ i ≤ (cutAll p l).length
theorem sound_nil (p : Plan) (l : List Nat) : Sound p l (.map []) := ⟨⟨[], rfl⟩, fun z c h => by simp [has] at h⟩
theorem sound_put {p : Plan} {l : List Nat} {D : DataW Unit} (h : Sound p l D) {i n : Nat} (ha : AtCut p l i n) (hi : i ≤ (cutAll p l).length) : Sound p l (D.put (.int .i64 ((l.length : Int) - n)) (.lit (.int .i64 i))) := by
  obtain ⟨hm, hs⟩ := h
  refine ⟨hm.put _ _, fun z c h1 h2 => ?_⟩
  by_cases e : Lit.int .i64 z = Lit.int .i64 ((l.length : Int) - n)
  · injection e with _ e
    subst e
    rw [atKey_put_same hm (by trivial)] at h2
    injection h2 with h2
    injection h2 with _ h2
    exact ⟨i, n, h2.symm, rfl, ha, hi⟩
  · rw [has_put_other e] at h1
    rw [atKey_put_other e] at h2
    exact hs z c h1 h2

theorem suffix_same {a b e : List Nat} {n n' : Nat} (h : ((a ++ e).length : Int) - n = ((b ++ e).length : Int) - n') (hn : n ≤ (a ++ e).length) (hn' : n' ≤ (b ++ e).length) (hl : ((b ++ e).length : Int) - n' ≤ (e.length : Int)) : (a ++ e).drop n = (b ++ e).drop n' := by
  rw [List.length_append, List.length_append] at h
  rw [List.length_append] at hl hn hn'
  have h1 : (a ++ e).drop n = e.drop (n - a.length) := by rw [List.drop_append, List.drop_eq_nil_of_le (by omega), List.nil_append]
  have h2 : (b ++ e).drop n' = e.drop (n' - b.length) := by rw [List.drop_append, List.drop_eq_nil_of_le (by omega), List.nil_append]
  rw [h1, h2, show n - a.length = n' - b.length by omega]
set_option maxRecDepth 100000 in
set_option maxHeartbeats 4000000 in
theorem walk (b f m : Int) (s0 s1 s2 : ByteArray) (w : World) (wb : (Lit.int .i64 b).wf = true) (wf : (Lit.int .i64 f).wf = true) (wm : (Lit.int .i64 m).wf = true) (hs0 : s0.size ≤ 140737488351232) (hs1 : s1.size ≤ 140737488351232) (hs2 : s2.size ≤ 140737488351232) (hT : Tab w) :
    Calls Tryd.prog 7 #[.agg #[.int .i64 b, .int .i64 f, .int .i64 m], .string s0, .string s1, .string s2] w fun e w' => e = .returned (.bool true) ∧ Below w.heap.size w w' := by
  clear wb wf wm
  have hB0 : Below w.heap.size w (w.alloc (.cells #[.int .i64 b, .int .i64 f, .int .i64 m] 33)) := (Below.refl _ _).alloc (Nat.le_refl _) _
  have hK0 := Blk.new w 33 #[.int .i64 b, .int .i64 f, .int .i64 m]
  have HB0 := Lib.hid hB0; have HK0 := Lib.hid hK0; clear hB0 hK0
  have HT := Lib.hid hT; clear hT
  go_enter Tryd.func7, Tryd.ntmps7
  go_wp2_with fail
  refine (awake_any _ (HT.out.below HB0.out HT.out.1)).mono ?_
  rintro e w1 ⟨rfl, hb⟩
  have hB1 := HB0.out.trans (hb.mono HB0.out.size)
  have hK1 := HK0.out.below hb HK0.out.lt
  have c0 : w1.cell? ⟨w.heap.size, 0, none⟩ = some (.int .i64 b) := by rw [hK1.cell]; rfl
  have c1 : w1.cell? ⟨w.heap.size, 1, none⟩ = some (.int .i64 f) := by rw [hK1.cell]; rfl
  have c2 : w1.cell? ⟨w.heap.size, 2, none⟩ = some (.int .i64 m) := by rw [hK1.cell]; rfl
  have HB1 := Lib.hid hB1
  clear hb hB1 hK1 HB0 HK0
  have hpl := planOf_any b f m w1
  have hq := ask_ok b f m
  generalize askB b f m = qb at *
  generalize askF b f m = qf at *
  generalize askM b f m = qm at *
  unfold planV at hpl
  have HPL := Lib.hid hpl; clear hpl
  go_wp2_with fail
  refine HPL.out.mono ?_
  rintro e w2 ⟨rfl, hb⟩
  have hB2 := HB1.out.trans (hb.mono HB1.out.size)
  have HB2 := Lib.hid hB2
  have hB3 := hB2.alloc hB2.size (.cells #[.int .i64 qb, .int .i64 qf, .int .i64 qm] 41)
  have hK3 := Blk.new w2 41 #[.int .i64 qb, .int .i64 qf, .int .i64 qm]
  obtain ⟨Q, hQ⟩ : ∃ Q, w2.heap.size = Q := ⟨_, rfl⟩
  have hQw : w.heap.size ≤ Q := by rw [← hQ]; exact hB2.size
  rw [hQ] at hK3
  have hta := fun W => text_any s0 3000 W (by omega) (by omega)
  have htb := fun W => text_any s1 3000 W (by omega) (by omega)
  have hte := fun W => text_any s2 6000 W (by omega) (by omega)
  have hA : (s0.extract 0 3000).size ≤ 3000 := by rw [ByteArray.size_extract]; omega
  have hC : (s1.extract 0 3000).size ≤ 3000 := by rw [ByteArray.size_extract]; omega
  have hE : (s2.extract 0 6000).size ≤ 6000 := by rw [ByteArray.size_extract]; omega
  generalize s0.extract 0 3000 = A at *
  generalize s1.extract 0 3000 = C at *
  generalize s2.extract 0 6000 = E at *
  have HTA := Lib.hid hta; have HTB := Lib.hid htb; have HTE := Lib.hid hte; have HB3 := Lib.hid hB3; have HK3 := Lib.hid hK3; have HQQ := Lib.hid hQ; have HQ := Lib.hid hq
  clear hb hB2 HB1 HB2 HPL c0 c1 c2 hta htb hte hB3 hK3 hQ hq
  go_wp2_with fail
  rw [HQQ.out]
  generalize (w2.alloc (.cells #[.int .i64 qb, .int .i64 qf, .int .i64 qm] 41)) = W3 at *
  clear HQQ
  refine (HTA.out _).mono ?_
  rintro e w4 ⟨rfl, rfl⟩
  go_wp2_with fail
  refine (HTB.out _).mono ?_
  rintro e w4 ⟨rfl, rfl⟩
  go_wp2_with fail
  refine (HTE.out _).mono ?_
  rintro e w4 ⟨rfl, rfl⟩
  clear HTA HTB HTE
  have p0 : w4.cell? ⟨Q, 0, none⟩ = some (.int .i64 qb) := by rw [HK3.out.cell]; rfl
  have p1 : w4.cell? ⟨Q, 1, none⟩ = some (.int .i64 qf) := by rw [HK3.out.cell]; rfl
  have p2 : w4.cell? ⟨Q, 2, none⟩ = some (.int .i64 qm) := by rw [HK3.out.cell]; rfl
  have hcut1 := fun W (h : Tab W) => cut_gen qb qf qm (A ++ E) W (by rw [ByteArray.size_append]; omega) h
  have hcut2 := fun W (h : Tab W) => cut_gen qb qf qm (C ++ E) W (by rw [ByteArray.size_append]; omega) h
  have hcut3 := fun W (n : Nat) (h : Tab W) => cut_gen qb qf qm ((A ++ E).extract 0 n) W (by rw [ByteArray.size_extract, ByteArray.size_append]; omega) h
  have h0E := HQ.out
  have hcs : ∀ l, csOf qb qf qm l = cutAll ⟨qb.toNat, qf.toNat, qm.toNat⟩ l := fun l => by unfold csOf; rw [if_pos h0E]
  have hp := (plan_of qb qf qm h0E).1
  simp only [h0E, hcs, nats_append, nats_extract, List.drop_zero, Nat.sub_zero] at hcut1 hcut2 hcut3
  unfold planV at hcut1 hcut2 hcut3
  have hnA := nats_length A
  have hnC := nats_length C
  have hnE := nats_length E
  clear hcs h0E HQ
  generalize (⟨qb.toNat, qf.toNat, qm.toNat⟩ : Plan) = p at *
  generalize nats A = lA at *
  generalize nats C = lC at *
  generalize nats E = lE at *
  have HC1 := Lib.hid hcut1; have HC2 := Lib.hid hcut2; have HC3 := Lib.hid hcut3; have HNA := Lib.hid hnA; have HNC := Lib.hid hnC; have HNE := Lib.hid hnE
  have HP := Lib.hid hp
  clear hcut1 hcut2 hcut3 hnA hnC hnE hp
  go_wp2_with fail
  refine (HC1.out _ (HT.out.below HB3.out HT.out.1)).mono ?_
  rintro e w5 ⟨v10, rfl, hb, hc⟩
  have hB5 := HB3.out.trans (hb.mono HB3.out.size)
  have hK5 := HK3.out.below hb HK3.out.lt
  have hP5 := prow_of hc
  have p0 : w5.cell? ⟨Q, 0, none⟩ = some (.int .i64 qb) := by rw [hK5.cell]; rfl
  have p1 : w5.cell? ⟨Q, 1, none⟩ = some (.int .i64 qf) := by rw [hK5.cell]; rfl
  have p2 : w5.cell? ⟨Q, 2, none⟩ = some (.int .i64 qm) := by rw [hK5.cell]; rfl
  have HB5 := Lib.hid hB5; have HK5 := Lib.hid hK5; have HP5 := Lib.hid hP5
  clear hb hc hB5 hK5 hP5 HB3 HK3
  go_wp2_with fail
  refine (HC2.out _ (HT.out.below HB5.out HT.out.1)).mono ?_
  rintro e w6 ⟨v12, rfl, hb, hc⟩
  have hB6 := HB5.out.trans (hb.mono HB5.out.size)
  have hK6 := HK5.out.below hb HK5.out.lt
  have hx := HP5.out.below hb
  have hy := prow_of hc
  have hlx := cutAll_len p (lA ++ lE)
  have hly := cutAll_len p (lC ++ lE)
  rw [List.length_append] at hlx hly
  have HB6 := Lib.hid hB6; have HK6 := Lib.hid hK6
  obtain ⟨a1, cap1, nx, rfl, hnx, hcx, hix⟩ := prow_open hx
  obtain ⟨a2, cap2, ny, rfl, hny, hcy, hiy⟩ := prow_open hy
  rw [hnx, HNA.out, HNE.out] at hlx
  rw [hny, HNC.out, HNE.out] at hly
  have HIX := Lib.hid hix; have HIY := Lib.hid hiy; have HNX := Lib.hid hnx; have HNY := Lib.hid hny
  clear hb hc hB6 hK6 hx hy hix hiy hnx hny HB5 HK5 HP5 HC1 HC2 p0 p1 p2
  have hmm := @run_makeMap Tryd.prog
  have hL1 : (A.size : Int) + (E.size : Int) = ((lA ++ lE).length : Int) := by rw [List.length_append, HNA.out, HNE.out]; simp
  have hL2 : (C.size : Int) + (E.size : Int) = ((lC ++ lE).length : Int) := by rw [List.length_append, HNC.out, HNE.out]; simp
  have hl1b : (lA ++ lE).length ≤ 9000 := by rw [List.length_append, HNA.out, HNE.out]; omega
  have hl2b : (lC ++ lE).length ≤ 9000 := by rw [List.length_append, HNC.out, HNE.out]; omega
  obtain ⟨L1, hL1n⟩ : ∃ L1, (lA ++ lE).length = L1 := ⟨_, rfl⟩
  obtain ⟨L2, hL2n⟩ : ∃ L2, (lC ++ lE).length = L2 := ⟨_, rfl⟩
  rw [hL1n] at hL1 hl1b
  rw [hL2n] at hL2 hl2b
  have HL1N := Lib.hid hL1n; have HL2N := Lib.hid hL2n; have HL1 := Lib.hid hL1; have HL2 := Lib.hid hL2
  have hom := World.ownsMap_made w6 Tryd.prog 3 (plainElem (H := Unit) Tryd.prog 3)
  have hbm : Below w6.heap.size w6 (w6.alloc (.map #[] 0)) := (Below.refl _ _).alloc (Nat.le_refl _) _
  obtain ⟨M, hM⟩ : ∃ M, w6.heap.size = M := ⟨_, rfl⟩
  have HOM := Lib.hid hom; have HBM := Lib.hid hbm; have HM := Lib.hid hM
  clear hL1n hL2n hL1 hL2 hom hbm hM
  go_upto_region 13 with (fail)
  rw [HL1.out, HM.out]
  go_wp2_with fail
  go_loopw [15, 16] (fun v15 v16 wr => ∃ n i : Nat, v15 = .int .i64 ((L1 : Int) - (n : Int)) ∧ v16 = .int .i64 i ∧ n ≤ L1 ∧ i ≤ nx ∧ Hid (AtCut p (lA ++ lE) i n ∧ Below w6.heap.size w6 wr ∧ ∃ D, wr.ownsMap Tryd.prog 3 (plainElem (H := Unit) Tryd.prog 3) M i D ∧ Sound p (lA ++ lE) D)) (fun _ i _ => nx - (intOf i).toNat)
  case atStart => exact ⟨0, 0, by simp, rfl, Nat.zero_le _, Nat.zero_le _, at_start _ _, HBM.out, _, by rw [← HM.out]; exact HOM.out, sound_nil _ _⟩
  case round =>
    obtain ⟨n, i, rfl, rfl, hn, hi, H⟩ := hrel
    obtain ⟨hA1, hB1, D, hD, hS⟩ := H.out
    have HA1 := Lib.hid hA1; have HB1 := Lib.hid hB1; have HD := Lib.hid hD; have HS := Lib.hid hS
    clear hA1 hB1 hD hS H
    by_cases h1 : i < nx
    · obtain ⟨c, hc⟩ : ∃ c, (cutAll p (lA ++ lE))[i]? = some c := ⟨_, List.getElem?_eq_getElem (by rw [HNX.out]; exact h1)⟩
      obtain ⟨s1, s2, s3, -⟩ := at_step HA1.out hc
      obtain ⟨g1, rfl, hg1, q1, q2⟩ := HIX.out i c hc
      obtain ⟨x, y⟩ := c
      dsimp only at q1 q2 s1 s2 s3
      rw [HL1N.out] at s3
      have hkey : keyOf Tryd.prog 3 (.int .i64 ((L1 : Int) - (n : Int))) = some (.int .i64 ((L1 : Int) - (n : Int))) := keyOf_int_mk Tryd.underlying3 (by simp [Lit.wf, IntKind.min, IntKind.max, IntKind.signed, IntKind.bits]; omega)
      have hval : plainElem (H := Unit) Tryd.prog 3 (.int .i64 (i : Int)) = some (.lit (.int .i64 (i : Int)), []) := plainElem_int Tryd.underlying3 (by simp [Lit.wf, IntKind.min, IntKind.max, IntKind.signed, IntKind.bits]; omega)
      have hF : ∀ wq, wr.grownBy wq (some M) → wq.cell? ⟨g1, i * 2, none⟩ = some (.int .i64 (x : Int)) := fun wq hgq => by
        rw [(below_of_only HB1.out hgq HB1.out.size (Nat.le_of_eq HM.out)).cell (p := ⟨g1, i * 2, none⟩) hg1]; exact q1
      have HS1 := Lib.hid s1; have HF := Lib.hid hF; have HKEY := Lib.hid hkey; have HVAL := Lib.hid hval
      clear s1 hc q1 q2 hF hkey hval
      go_wp2_with (first
        | (at_mapUpdate; refine wpList_mapUpdate_own _ rfl _ _ _ 71 rfl 3 3 lawInt Tryd.underlying71 _ M i D rfl HD.out (by unfold maxLen; omega) _ _ _ rfl rfl HKEY.out _ [] HVAL.out ?_; intro w7 hown7 hgrow7; have q1 := HF.out w7 hgrow7; have HO := Lib.hid hown7; have HG := Lib.hid hgrow7; clear hown7 hgrow7)
        | fail)
      go_roundw
      case rel =>
        refine ⟨n + x, i + 1, by rw [show (L1 : Int) - (n : Int) - (x : Int) = (L1 : Int) - ((n + x : Nat) : Int) by omega], by go_num, by omega, by omega, HS1.out, below_of_only HB1.out HG.out HB1.out.size (Nat.le_of_eq HM.out), _, HO.out, ?_⟩
        have := sound_put HS.out HA1.out (by rw [HNX.out]; omega)
        rwa [HL1N.out] at this
      case measure => simp [intOf]; omega
    · obtain rfl : nx = i := by omega
      obtain ⟨w7, hw7⟩ : ∃ w7, w7 = wr := ⟨_, rfl⟩
      have hIX7 : ∀ (i : Nat) (c : Nat × Nat), (cutAll p (lA ++ lE))[i]? = some c → ∃ g, a1 = some ⟨g, 0, none⟩ ∧ g < w7.heap.size ∧ w7.cell? ⟨g, i * 2, none⟩ = some (.int .i64 (c.1 : Int)) ∧ w7.cell? ⟨g, i * 2 + 1, none⟩ = some (.int .i64 (c.2 : Int)) := fun i c hc => by
        obtain ⟨g, r1, r2, r3, r4⟩ := HIX.out i c hc
        rw [hw7]
        exact ⟨g, r1, Nat.lt_of_lt_of_le r2 HB1.out.size, by rw [HB1.out.cell (p := ⟨g, _, none⟩) r2]; exact r3, by rw [HB1.out.cell (p := ⟨g, _, none⟩) r2]; exact r4⟩
      have hIY7 : ∀ (i : Nat) (c : Nat × Nat), (cutAll p (lC ++ lE))[i]? = some c → ∃ g, a2 = some ⟨g, 0, none⟩ ∧ g < w7.heap.size ∧ w7.cell? ⟨g, i * 2, none⟩ = some (.int .i64 (c.1 : Int)) ∧ w7.cell? ⟨g, i * 2 + 1, none⟩ = some (.int .i64 (c.2 : Int)) := fun i c hc => by
        obtain ⟨g, r1, r2, r3, r4⟩ := HIY.out i c hc
        rw [hw7]
        exact ⟨g, r1, Nat.lt_of_lt_of_le r2 HB1.out.size, by rw [HB1.out.cell (p := ⟨g, _, none⟩) r2]; exact r3, by rw [HB1.out.cell (p := ⟨g, _, none⟩) r2]; exact r4⟩
      have hB7 : Below w.heap.size w w7 := by rw [hw7]; exact HB6.out.trans (HB1.out.mono HB6.out.size)
      have hK7 : Blk w7 Q 41 #[.int .i64 qb, .int .i64 qf, .int .i64 qm] := by rw [hw7]; exact HK6.out.below HB1.out HK6.out.lt
      have hD7 : w7.ownsMap Tryd.prog 3 (plainElem (H := Unit) Tryd.prog 3) M nx D := by rw [hw7]; exact HD.out
      have HIX7 := Lib.hid hIX7; have HIY7 := Lib.hid hIY7; have HB7 := Lib.hid hB7; have HK7 := Lib.hid hK7; have HD7 := Lib.hid hD7
      clear hIX7 hIY7 hB7 hK7 hD7 HIX HIY HB1 HB6 HK6 HD hi hn h1 HA1 HOM HBM HM
      subst hw7
      go_upto_block 2 with (fail)
      rw [HL2.out]
      go_cut [15, 17, 18, 19] from 84 to 144 (fun _ _ _ _ wx => Hid (∃ md, wx = w7.drewN md))
      case first =>
        go_wp2_with fail
        go_loopw [15, 17, 18, 19] (fun v15 v17 _ _ wr => ∃ n k : Nat, v15 = .int .i64 ((L2 : Int) - (n : Int)) ∧ v17 = .int .i64 k ∧ n ≤ L2 ∧ k ≤ ny ∧ Hid (AtCut p (lC ++ lE) k n ∧ ∃ md, wr = w7.drewN md)) (fun _ k _ _ _ => ny - (intOf k).toNat)
        case atStart => exact ⟨0, 0, by simp, rfl, Nat.zero_le _, Nat.zero_le _, at_start _ _, 0, rfl⟩
        case round =>
          obtain ⟨n, k, rfl, rfl, hn, hk, H⟩ := hrel
          obtain ⟨hA1, md, rfl⟩ := H.out
          have HA1 := Lib.hid hA1
          clear hA1 H
          by_cases h1 : k < ny
          · obtain ⟨c, hc⟩ : ∃ c, (cutAll p (lC ++ lE))[k]? = some c := ⟨_, List.getElem?_eq_getElem (by rw [HNY.out]; exact h1)⟩
            obtain ⟨s1, s2, s3, -⟩ := at_step HA1.out hc
            obtain ⟨g1, rfl, hg1, q1, q2⟩ := HIY7.out k c hc
            obtain ⟨x, y⟩ := c
            dsimp only at q1 q2 s1 s2 s3
            rw [HL2N.out] at s3
            have hkey : keyOf Tryd.prog 3 (.int .i64 ((L2 : Int) - (n : Int))) = some (.int .i64 ((L2 : Int) - (n : Int))) := keyOf_int_mk Tryd.underlying3 (by simp [Lit.wf, IntKind.min, IntKind.max, IntKind.signed, IntKind.bits]; omega)
            have HS1 := Lib.hid s1; have HKEY := Lib.hid hkey
            clear s1 hc hkey
            by_cases hh : has D (.int .i64 ((L2 : Int) - (n : Int))) = true
            · by_cases hle : (L2 : Int) - (n : Int) ≤ (E.size : Int)
              · have HH := Lib.hid hh
                go_wp2_with (first
                  | (at_lookup; refine wpList_lookup_own_ok_int _ rfl _ _ 71 rfl 3 3 .i64 lawInt Tryd.underlying71 Tryd.underlying3 (zeroInt _) M nx D rfl (show World.ownsMap (w7.drewN md) Tryd.prog 3 (plainElem (H := Unit) Tryd.prog 3) M nx D from HD7.out) _ _ rfl HKEY.out ?_; intro c hat hwc; obtain ⟨i2, n2, rfl, e1, e2, e3⟩ := HS.out.2 _ c HH.out hat; have HE1 := Lib.hid e1; have HE2 := Lib.hid e2; have HE3 := Lib.hid e3; clear e1 e2 e3 hat hwc)
                  | fail)
                have hsame : (cutAll p (lA ++ lE)).drop i2 = (cutAll p (lC ++ lE)).drop k := at_same HE2.out HA1.out (suffix_same (by rw [HE1.out, HL2N.out]) HE2.out.le HA1.out.le (by rw [HL2N.out, HNE.out]; exact hle))
                have hi2 := HE3.out
                rw [HNX.out] at hi2
                have hlen := congrArg List.length hsame
                rw [List.length_drop, List.length_drop, HNX.out, HNY.out] at hlen
                have HSAME := Lib.hid hsame
                clear hsame
                go_loopw [17, 18] (fun v17 v18 wr => ∃ j q : Nat, v18 = .int .i64 j ∧ v17 = .int .i64 q ∧ j + k = i2 + q ∧ i2 ≤ j ∧ j ≤ nx ∧ Hid (∃ md, wr = w7.drewN md)) (fun _ j _ => nx - (intOf j).toNat)
                case atStart => exact ⟨i2, k, rfl, rfl, rfl, Nat.le_refl _, hi2, _, rfl⟩
                case round =>
                  obtain ⟨j, q, rfl, rfl, hjq, hij, hjx, H⟩ := hrel
                  obtain ⟨md2, rfl⟩ := H.out
                  clear H
                  by_cases hj : j < nx
                  · obtain ⟨d, hd⟩ : ∃ d, (cutAll p (lA ++ lE))[j]? = some d := ⟨_, List.getElem?_eq_getElem (by rw [HNX.out]; exact hj)⟩
                    have hd2 : (cutAll p (lC ++ lE))[q]? = some d := by
                      have := congrArg (fun l => l[j - i2]?) HSAME.out
                      simp only [List.getElem?_drop] at this
                      rw [show i2 + (j - i2) = j by omega, show k + (j - i2) = q by omega, hd] at this
                      exact this.symm
                    obtain ⟨gx, rfl, -, t1, t2⟩ := HIX7.out j d hd
                    obtain ⟨gy, hgy, -, t3, t4⟩ := HIY7.out q d hd2
                    injection hgy with hgy
                    injection hgy with hgy _ _
                    subst hgy
                    obtain ⟨dx, dy⟩ := d
                    dsimp only at t1 t2 t3 t4
                    have z1 : decide ((nx : Int) ≤ (j : Int)) = false := decide_eq_false (by omega)
                    have z2 : decide ((ny : Int) ≤ (q : Int)) = false := decide_eq_false (by omega)
                    have z3 : ((dx : Int) != (dx : Int)) = false := by simp
                    have z4 : ((dy : Int) != (dy : Int)) = false := by simp
                    clear hd hd2
                    go_wp2_with fail
                    have z5 : decide (nx ≤ j) = false := decide_eq_false (by omega)
                    have z6 : decide (ny ≤ q) = false := decide_eq_false (by omega)
                    go_quiet (fail)
                    go_wp2_with fail
                    go_roundw
                    case rel => exact ⟨j + 1, q + 1, by go_num, by go_num, by omega, by omega, by omega, _, rfl⟩
                    case measure => simp [intOf]; omega
                  · obtain rfl : nx = j := by omega
                    obtain rfl : ny = q := by omega
                    go_wp2_with fail
                    go_meet
                    case rel => exact ⟨md2, rfl⟩
              · have hle' : decide ((L2 : Int) - (n : Int) ≤ (E.size : Int)) = false := decide_eq_false hle
                go_wp2_with (first
                  | (at_lookup; refine wpList_lookup_own_ok_int _ rfl _ _ 71 rfl 3 3 .i64 lawInt Tryd.underlying71 Tryd.underlying3 (zeroInt _) M nx D rfl (show World.ownsMap (w7.drewN md) Tryd.prog 3 (plainElem (H := Unit) Tryd.prog 3) M nx D from HD7.out) _ _ rfl HKEY.out ?_; intro c hat hwc)
                  | fail)
                go_roundw
                case rel => exact ⟨n + x, k + 1, by rw [show (L2 : Int) - (n : Int) - (x : Int) = (L2 : Int) - ((n + x : Nat) : Int) by omega], by go_num, by omega, by omega, HS1.out, _, rfl⟩
                case measure => simp [intOf]; omega
            · have hh' : has D (.int .i64 ((L2 : Int) - (n : Int))) = false := by simpa using hh
              go_wp2_with (first
                | (at_lookup; refine wpList_lookup_own_ok_int _ rfl _ _ 71 rfl 3 3 .i64 lawInt Tryd.underlying71 Tryd.underlying3 (zeroInt _) M nx D rfl (show World.ownsMap (w7.drewN md) Tryd.prog 3 (plainElem (H := Unit) Tryd.prog 3) M nx D from HD7.out) _ _ rfl HKEY.out ?_; intro c hat hwc)
                | fail)
              go_roundw
              case rel => exact ⟨n + x, k + 1, by rw [show (L2 : Int) - (n : Int) - (x : Int) = (L2 : Int) - ((n + x : Nat) : Int) by omega], by go_num, by omega, by omega, HS1.out, _, rfl⟩
              case measure => simp [intOf]; omega
          · go_wp2_with fail
            go_meet
            case rel => exact ⟨md, rfl⟩
      case rest =>
      obtain ⟨md, rfl⟩ := hcut.out
      clear hcut HIY7 HD7 HS HNC HNY HL1 HL2 HL2N hcy hly
      have p0 : (w7.drewN md).cell? ⟨Q, 0, none⟩ = some (.int .i64 qb) := by rw [show (w7.drewN md).cell? ⟨Q, 0, none⟩ = w7.cell? ⟨Q, 0, none⟩ from rfl, HK7.out.cell]; rfl
      have p1 : (w7.drewN md).cell? ⟨Q, 1, none⟩ = some (.int .i64 qf) := by rw [show (w7.drewN md).cell? ⟨Q, 1, none⟩ = w7.cell? ⟨Q, 1, none⟩ from rfl, HK7.out.cell]; rfl
      have hAE : A.size + E.size = L1 := by have := HL1N.out; rw [List.length_append, HNA.out, HNE.out] at this; exact this
      clear p0 p1
      go_wp2_with fail
      go_loopw [20, 21, 22, 23, 24] (fun v20 v21 _ _ _ wr => ∃ n i : Nat, v20 = .int .i64 n ∧ v21 = .int .i64 i ∧ n ≤ L1 ∧ i ≤ nx ∧ Hid (AtCut p (lA ++ lE) i n ∧ Below w7.heap.size w7 wr)) (fun _ i _ _ _ _ => nx - (intOf i).toNat)
      case atStart => exact ⟨0, 0, rfl, rfl, Nat.zero_le _, Nat.zero_le _, at_start _ _, below_drewN (Below.refl _ _) md⟩
      case round =>
        obtain ⟨n, i, rfl, rfl, hn, hi, H⟩ := hrel
        obtain ⟨hA1, hB8⟩ := H.out
        have HA1 := Lib.hid hA1; have HB8 := Lib.hid hB8
        clear hA1 hB8 H
        by_cases h1 : i < nx
        · by_cases h40 : i < 40
          · obtain ⟨c, hc⟩ : ∃ c, (cutAll p (lA ++ lE))[i]? = some c := ⟨_, List.getElem?_eq_getElem (by rw [HNX.out]; exact h1)⟩
            obtain ⟨s1, s2, s3, -⟩ := at_step HA1.out hc
            obtain ⟨g1, rfl, hg1, q1, q2⟩ := HIX7.out i c hc
            obtain ⟨x, y⟩ := c
            dsimp only at q1 q2 s1 s2 s3
            rw [HL1N.out] at s3
            have q1' : wr.cell? ⟨g1, i * 2, none⟩ = some (.int .i64 (x : Int)) := by rw [HB8.out.cell (p := ⟨g1, _, none⟩) hg1]; exact q1
            have hK8 := HK7.out.below HB8.out HK7.out.lt
            have p0 : wr.cell? ⟨Q, 0, none⟩ = some (.int .i64 qb) := by rw [hK8.cell]; rfl
            have p1 : wr.cell? ⟨Q, 1, none⟩ = some (.int .i64 qf) := by rw [hK8.cell]; rfl
            have p2 : wr.cell? ⟨Q, 2, none⟩ = some (.int .i64 qm) := by rw [hK8.cell]; rfl
            obtain ⟨n', hn'⟩ : ∃ n', n + x = n' := ⟨_, rfl⟩
            have hn'i : (n : Int) + (x : Int) = (n' : Int) := by omega
            have hpre := at_pre s1
            have hnx9 : n + x ≤ 9000 := by omega
            have hsz9 : n' ≤ A.size + E.size := by omega
            rw [hn'] at s1 s3 hpre
            have hc3 := fun h => HC3.out wr.drew n' h
            rw [hpre] at hc3
            have HC4 := Lib.hid hc3; have HS1 := Lib.hid s1; have HNI := Lib.hid hn'i
            clear hK8 q1 q2 hc s1 hc3 hpre hn' hn'i
            have hd40 : decide ((i : Int) < 40) = true := decide_eq_true (by omega)
            go_upto_region 35 with (fail)
            rw [HNI.out]
            go_cut [22, 23] from 162 to 171 (fun v22 v23 wx => v23 = .int .i64 0 ∧ Hid (Below w7.heap.size w7 wx ∧ PRow wx v22 ((cutAll p (lA ++ lE)).take (i + 1))))
            case first =>
              go_region_with (first
                | (go_at_call 21; refine (HC4.out (HT.out.below (HB7.out.trans (HB8.out.drew.mono HB7.out.size)) HT.out.1)).mono ?_; rintro e w' ⟨v, rfl, hb, hc⟩))
              all_goals (
                go_wp2_with fail
                go_meet
                case rel => exact ⟨rfl, HB8.out.drew.trans (hb.mono HB8.out.size), prow_of hc⟩)
            case rest =>
            obtain ⟨rfl, H9⟩ := hcut
            have HB9 := Lib.hid H9.out.1
            obtain ⟨a3, cap3, n3, rfl, hn3, hc3, hi3⟩ := prow_open H9.out.2
            rw [List.length_take, HNX.out] at hn3
            obtain rfl : n3 = i + 1 := by omega
            have HI3 := Lib.hid hi3
            clear hi3 hn3 H9
            have z0 : ((i : Int) + 1 != (i : Int) + 1) = false := by simp
            generalize hw9 : wc = w9 at *
            go_wp2_with fail
            go_loopw [24] (fun v24 wr => ∃ k : Nat, v24 = .int .i64 k ∧ k ≤ i + 1 ∧ Hid (∃ md, wr = w9.drewN md)) (fun v24 _ => i + 1 - (intOf v24).toNat)
            case atStart => exact ⟨0, rfl, Nat.zero_le _, 0, rfl⟩
            case round =>
              obtain ⟨k, rfl, hk, H⟩ := hrel
              obtain ⟨md2, rfl⟩ := H.out
              clear H
              by_cases hki : k ≤ i
              · obtain ⟨d, hd⟩ : ∃ d, (cutAll p (lA ++ lE))[k]? = some d := ⟨_, List.getElem?_eq_getElem (by rw [HNX.out]; omega)⟩
                obtain ⟨gx, hgx, hgl, t1, t2⟩ := HIX7.out k d hd
                injection hgx with hgx
                injection hgx with hgx _ _
                subst hgx
                have hd2 : ((cutAll p (lA ++ lE)).take (i + 1))[k]? = some d := by rw [List.getElem?_take_of_lt (by omega)]; exact hd
                obtain ⟨gz, rfl, -, t3, t4⟩ := HI3.out k d hd2
                obtain ⟨dx, dy⟩ := d
                dsimp only at t1 t2 t3 t4
                have t1' : w9.cell? ⟨g1, k * 2, none⟩ = some (.int .i64 (dx : Int)) := by rw [HB9.out.cell (p := ⟨g1, _, none⟩) hgl]; exact t1
                have t2' : w9.cell? ⟨g1, k * 2 + 1, none⟩ = some (.int .i64 (dy : Int)) := by rw [HB9.out.cell (p := ⟨g1, _, none⟩) hgl]; exact t2
                clear hd hd2 t1 t2
                have z3 : ((dx : Int) != (dx : Int)) = false := by simp
                have z4 : ((dy : Int) != (dy : Int)) = false := by simp
                by_cases hlt : k < i
                · have z1 : decide ((k : Int) < (i : Int)) = true := decide_eq_true (by omega)
                  have z2 : decide (k < i) = true := decide_eq_true hlt
                  go_wp2_with fail
                  go_quiet (fail)
                  go_wp2_with fail
                  go_roundw
                  case rel => exact ⟨k + 1, by go_num, by omega, _, rfl⟩
                  case measure => simp [intOf]; omega
                · have z1 : decide ((k : Int) < (i : Int)) = false := decide_eq_false (by omega)
                  have z2 : decide (k < i) = false := decide_eq_false hlt
                  go_wp2_with fail
                  go_quiet (fail)
                  go_wp2_with fail
                  go_roundw
                  case rel => exact ⟨k + 1, by go_num, by omega, _, rfl⟩
                  case measure => simp [intOf]; omega
              · obtain rfl : k = i + 1 := by omega
                go_wp2_with fail
                go_roundw
                case rel => exact ⟨n', i + 1, rfl, by go_num, by omega, by omega, HS1.out, below_drewN HB9.out md2⟩
                case measure => simp [intOf]; omega
          · go_wp2_with fail
            go_ret
            exact ⟨rfl, HB7.out.trans (HB8.out.mono HB7.out.size)⟩
        · go_wp2_with fail
          go_ret
          exact ⟨rfl, HB7.out.trans (HB8.out.mono HB7.out.size)⟩
end Go.Proofs.YtmnggemifcjflaaDoor.splitAsBefore
