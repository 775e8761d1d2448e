/-
  The walk over SplitNames.
-/
import Derived.Test.YtmnggemifcjflaaDoorSplW6
import Derived.Test.YtmnggemifcjflaaDoorZerosP
import Derived.Test.YtmnggemifcjflaaDoorCutsP
namespace Go.Proofs.YtmnggemifcjflaaDoor
open Go.RowKit PlainP RollP OnesP SplitP

set_option maxRecDepth 100000 in
theorem cut_big (b f m : Int) (s : ByteArray) (w : World) (hE : planE b f m = 0) (hs : 1048576 < s.size) :
    Calls Tryd.prog 21 #[planV b f m, .string s] w fun e w' => e = .returned (.tuple #[.slice none 0 0, .int .i64 1]) ∧ Below w.heap.size w w' := by
  have hck := fun W => check_any b f m W
  rw [hE] at hck
  have HCK := Lib.hid hck; clear hck
  unfold planV at *
  go_enter Tryd.func21, Tryd.ntmps21
  go_wp2_with fail
  refine (HCK.out _).mono ?_
  rintro e w1 ⟨rfl, hb1⟩
  have hB1 : Below w.heap.size w w1 := ((Below.refl _ _).alloc (Nat.le_refl _) _).trans (hb1.mono (by simp))
  have HB1 := Lib.hid hB1; clear hB1 hb1
  go_wp2_with fail
  go_ret2
  exact ⟨rfl, HB1.out⟩
theorem zeros_size (n : Nat) : (mkS (List.replicate n 0)).size = n := by rw [mkS_size, List.length_replicate]
theorem zeros_nats (n : Nat) : nats (mkS (List.replicate n 0)) = List.replicate n 0 := nats_mkS (Bytes.replicate n (by omega))
theorem cs_full : (csOf 16 1 65536 (List.replicate 1048576 0)).length = 16 := by
  unfold csOf
  rw [if_pos (by decide)]
  have h := cutAll_zeros ⟨16, 1, 65536⟩ (by decide) (by decide) 1048576
  refine (congrArg List.length h).trans ?_
  rw [List.length_append, List.length_replicate]
  rfl
theorem cs_hundred2 : csOf 4 2 64 (List.replicate 100 0) = [(64, 0), (36, 0)] := by
  unfold csOf
  rw [if_pos (by decide)]
  have h := cutAll_zeros ⟨4, 2, 64⟩ (by decide) (by decide) 100
  exact h.trans (by decide)

/-- string(make([]byte, n)) -/
theorem zeros_made (n : Nat) (h : n ≤ 281474976710656) : ∃ (o : Obj) (S : ByteArray), S.size = n ∧ nats S = List.replicate n 0 ∧ (∀ W : World, (Instr.makeSlice 74 (.int .i64 n) (.int .i64 n)).run Tryd.prog W = .ok (.slice (some ⟨W.heap.size, 0, none⟩) n n) (W.alloc o)) ∧
    ∀ W : World, (convert 74 9 (.slice (some ⟨W.heap.size, 0, none⟩) n n)).run Tryd.prog (W.alloc o) = .ok (.string S) (W.alloc o) :=
  ⟨_, _, zeros_size n, zeros_nats n, fun W => make_bytes W n h, fun W => zeros_back W n _⟩

namespace splitNames
set_option maxRecDepth 100000 in
set_option maxHeartbeats 1000000 in
theorem walk (w : World) (hT : Tab w) : Calls Tryd.prog 10 #[] w fun e w' => e = .returned (.bool true) ∧ Below w.heap.size w w' := by
  have hn1 := fun W => swrite_nil ⟨#[97]⟩ W
  have hn2 := fun W => sclose_nil W
  have HN1 := Lib.hid hn1; have HN2 := Lib.hid hn2; have HT := Lib.hid hT
  clear hn1 hn2 hT
  go_enter Tryd.func10, Tryd.ntmps10
  go_wp2_with fail
  refine (HN1.out _).mono ?_
  rintro e w1 ⟨rfl, rfl⟩
  go_wp2_with fail
  refine (HN2.out _).mono ?_
  rintro e w1 ⟨rfl, rfl⟩
  go_wp2_with fail
  obtain ⟨o1, S1, hz1, hnt1, hmk1, hcv1⟩ := zeros_made 1048576 (by omega)
  obtain ⟨o2, S2, hz2, hnt2, hmk2, hcv2⟩ := zeros_made 1048577 (by omega)
  have hB0 : Below w.heap.size w (w.alloc (.cells #[.int .i64 16, .int .i64 1, .int .i64 65536] 41)) := (Below.refl _ _).alloc (Nat.le_refl _) _
  have hK0 := Blk.new w 41 #[.int .i64 16, .int .i64 1, .int .i64 65536]
  generalize w.alloc (.cells #[.int .i64 16, .int .i64 1, .int .i64 65536] 41) = W0 at *
  obtain ⟨C, hC⟩ : ∃ C, w.heap.size = C := ⟨_, rfl⟩
  rw [hC] at hK0 ⊢
  have hcut1 := fun W (h : Tab W) => cut_gen 16 1 65536 S1 W (by omega) h
  rw [hnt1, show planE 16 1 65536 = 0 from rfl] at hcut1
  have hl16 := cs_full
  generalize csOf 16 1 65536 (List.replicate 1048576 0) = cs1 at *
  have hcut2 := fun W => cut_big 16 1 65536 S2 W rfl (by omega)
  unfold planV at hcut1 hcut2
  have hm5 : (Instr.makeSlice 74 (.int .i64 1048576) (.int .i64 1048576)).run Tryd.prog W0.drew = .ok (.slice (some ⟨W0.heap.size, 0, none⟩) 1048576 1048576) (W0.alloc o1).drew := hmk1 W0.drew
  have hc5 : (convert 74 9 (.slice (some ⟨W0.heap.size, 0, none⟩) 1048576 1048576)).run Tryd.prog (W0.alloc o1).drew = .ok (.string S1) (W0.alloc o1).drew := hcv1 W0.drew
  have s5 : W0.drew.cell? ⟨C, 0, none⟩ = some (.int .i64 16) ∧ W0.drew.cell? ⟨C, 1, none⟩ = some (.int .i64 1) ∧ W0.drew.cell? ⟨C, 2, none⟩ = some (.int .i64 65536) := ⟨hK0.drew.cell 0, hK0.drew.cell 1, hK0.drew.cell 2⟩
  have hK1 := hK0.drew.alloc o1
  have s6 := And.intro (hK1.cell 0) (And.intro (hK1.cell 1) (hK1.cell 2))
  have hB1 := hB0.drew.alloc hB0.drew.size o1
  have HB1 := Lib.hid hB1; have HK1 := Lib.hid hK1; have S5 := Lib.hid s5; have S6 := Lib.hid s6
  have HC1 := Lib.hid hcut1; have HC2 := Lib.hid hcut2; have HMK1 := Lib.hid hmk1; have HMK2 := Lib.hid hmk2; have HCV1 := Lib.hid hcv1; have HCV2 := Lib.hid hcv2; have HNT1 := Lib.hid hnt1; have HL16 := Lib.hid hl16
  clear hB1 hK1 s5 s6 hcut1 hcut2 hmk1 hmk2 hcv1 hcv2 hnt1 hnt2 hK0 hB0 hl16
  go_region_held_law (fun X => X.cell? ⟨C, 0, none⟩ = some (.int .i64 16) ∧ X.cell? ⟨C, 1, none⟩ = some (.int .i64 1) ∧ X.cell? ⟨C, 2, none⟩ = some (.int .i64 65536))
    (first | exact S5.out | exact S6.out | exact S7.out)
    (first | (go_at_call 21; refine (HC1.out _ (HT.out.below HB1.out HT.out.1)).mono ?_; rintro e w2 ⟨v1, rfl, hb, hc⟩; have hK2 := HK1.out.below hb HK1.out.lt; have S7 := Lib.hid (And.intro (hK2.cell 0) (And.intro (hK2.cell 1) (hK2.cell 2))); have HK2 := Lib.hid hK2; have HB2 := Lib.hid (HB1.out.trans (hb.mono HB1.out.size)); have hlen := congrArg id HL16.out; obtain ⟨a1, cap1, rfl⟩ := own_slice hc; clear hb hc hK2 hlen))
  all_goals (
    rw [HL16.out]
    clear HB1 HK1 S5 S6 S7 hm5 hc5 HC1
    go_wp2_with fail
    have hm5 : (Instr.makeSlice 74 (.int .i64 1048577) (.int .i64 1048577)).run Tryd.prog w2.drew = .ok (.slice (some ⟨w2.heap.size, 0, none⟩) 1048577 1048577) (w2.alloc o2).drew := HMK2.out w2.drew
    have hc5 : (convert 74 9 (.slice (some ⟨w2.heap.size, 0, none⟩) 1048577 1048577)).run Tryd.prog (w2.alloc o2).drew = .ok (.string S2) (w2.alloc o2).drew := HCV2.out w2.drew
    have s5 : w2.drew.cell? ⟨C, 0, none⟩ = some (.int .i64 16) ∧ w2.drew.cell? ⟨C, 1, none⟩ = some (.int .i64 1) ∧ w2.drew.cell? ⟨C, 2, none⟩ = some (.int .i64 65536) := ⟨HK2.out.drew.cell 0, HK2.out.drew.cell 1, HK2.out.drew.cell 2⟩
    have hK1 := HK2.out.drew.alloc o2
    have s6 := And.intro (hK1.cell 0) (And.intro (hK1.cell 1) (hK1.cell 2))
    have hB1 := HB2.out.drew.alloc HB2.out.drew.size o2
    have HB1 := Lib.hid hB1; have HK1 := Lib.hid hK1; have S5 := Lib.hid s5; have S6 := Lib.hid s6
    clear hB1 hK1 s5 s6 HMK2 HCV2 HK2 HB2
    go_region_held_law (fun X => X.cell? ⟨C, 0, none⟩ = some (.int .i64 16) ∧ X.cell? ⟨C, 1, none⟩ = some (.int .i64 1) ∧ X.cell? ⟨C, 2, none⟩ = some (.int .i64 65536))
      (first | exact S5.out | exact S6.out | exact S7.out)
      (first | (go_at_call 21; refine (HC2.out _).mono ?_; rintro e w3 ⟨rfl, hb⟩; have hK2 := HK1.out.below hb HK1.out.lt; have S7 := Lib.hid (And.intro (hK2.cell 0) (And.intro (hK2.cell 1) (hK2.cell 2))); have HK2 := Lib.hid hK2; have HB2 := Lib.hid (HB1.out.trans (hb.mono HB1.out.size)); clear hb hK2))
    all_goals (
      clear HB1 HK1 S5 S6 hm5 hc5 HC2
      have hsn := snew_any 16 1 65536 w3 rfl (HT.out.below HB2.out HT.out.1)
      unfold planV at hsn
      have HSN := Lib.hid hsn; clear hsn
      obtain ⟨p0, p1, p2⟩ := S7.out
      clear S7
      go_wp2_with fail
      refine HSN.out.mono ?_
      rintro e w4 ⟨gx, rfl, hb, hA⟩
      have hz30 := HB2.out.size
      have hB4 := HB2.out.trans (hb.mono HB2.out.size)
      have hlz := hB4.size
      have HB4 := Lib.hid (hB4.alloc hlz o1)
      have hA4 := hA.grown (World.grownBy_alloc w4 o1 none) (fun _ e => by cases e)
      have hsw := swrite_any _ _ gx _ [] 0 S1 (plan_of 16 1 65536 rfl).1 hA4 (HT.out.below (hB4.alloc hlz o1) HT.out.1) (by decide) Bytes.nil (by omega)
      have HSW := Lib.hid hsw
      have hm5 : (Instr.makeSlice 74 (.int .i64 1048576) (.int .i64 1048576)).run Tryd.prog w4 = .ok (.slice (some ⟨w4.heap.size, 0, none⟩) 1048576 1048576) (w4.alloc o1) := HMK1.out w4
      have hc5 : (convert 74 9 (.slice (some ⟨w4.heap.size, 0, none⟩) 1048576 1048576)).run Tryd.prog (w4.alloc o1) = .ok (.string S1) (w4.alloc o1) := HCV1.out w4
      clear hb hB4 hA hA4 hsw HSN HB2 HK2 p0 p1 p2 HMK1 HCV1
      go_wp2_with fail
      refine HSW.out.mono ?_
      rintro e w5 ⟨ov, rfl, hk, hA, hP, -⟩
      have hB5 : Below w.heap.size w w5 := HB4.out.trans ⟨hk.os, hk.tape, hk.output, hk.size, fun b hb => hk.block b (by
        rintro (e | e)
        · have := e.1; omega
        · have := HB4.out.size; omega)⟩
      have hsw := swrite_full hA ⟨#[97]⟩ (by omega) (by rw [hz1]; decide)
      have HSW2 := Lib.hid hsw; have HB5 := Lib.hid hB5
      clear hk hA hP hsw HSW HB4 hB5
      go_wp2_with fail
      refine HSW2.out.mono ?_
      rintro e w6 ⟨rfl, rfl⟩
      obtain ⟨o3, S3, hz3, hnt3, hmk3, hcv3⟩ := zeros_made 100 (by omega)
      have hm5 : (Instr.makeSlice 74 (.int .i64 100) (.int .i64 100)).run Tryd.prog w5 = .ok (.slice (some ⟨w5.heap.size, 0, none⟩) 100 100) (w5.alloc o3) := hmk3 w5
      have hc5 : (convert 74 9 (.slice (some ⟨w5.heap.size, 0, none⟩) 100 100)).run Tryd.prog (w5.alloc o3) = .ok (.string S3) (w5.alloc o3) := hcv3 w5
      have hB6 := HB5.out.alloc HB5.out.size o3
      have hcut := cut_gen 4 2 64 S3 (w5.alloc o3) (by omega) (HT.out.below hB6 HT.out.1)
      rw [hnt3, cs_hundred2, show planE 4 2 64 = 0 from rfl] at hcut
      unfold planV at hcut
      have HCUT := Lib.hid hcut; have HB6 := Lib.hid hB6
      clear hcut hB6 hmk3 hcv3 hnt3 HSW2 HB5
      go_wp2_with fail
      refine HCUT.out.mono ?_
      rintro e w7 ⟨v, rfl, hb, hc⟩
      have hB7 := HB6.out.trans (hb.mono HB6.out.size)
      obtain ⟨a7, cap7, n7, rfl, hn7, hcp7, hi7⟩ := prow_open (prow_of hc)
      obtain rfl : n7 = 2 := hn7.symm
      obtain ⟨g7, rfl, -, q0, q1⟩ := hi7 0 (64, 0) rfl
      obtain ⟨g8, hg8, -, q2, q3⟩ := hi7 1 (36, 0) rfl
      injection hg8 with hg8
      injection hg8 with hg8 _ _
      subst hg8
      have HB7 := Lib.hid hB7
      clear hc hi7 hb hB7 HCUT HB6 hm5 hc5
      go_wp2_with fail
      go_ret
      exact ⟨rfl, HB7.out⟩))
end splitNames
end Go.Proofs.YtmnggemifcjflaaDoor
