/-
  Cuts, the walk: take.
-/
import Derived.Test.YtmnggemifcjflaaDoorSplitW2
import Derived.Deep.RegionWith
import Derived.Deep.DeepCutAuto
import Derived.Deep.CutRange
import Derived.Deep.CutBlock
namespace Go.Proofs.YtmnggemifcjflaaDoor
open Go.RowKit PlainP RollP OnesP SplitP

theorem each_facts {w W : World} {g gr q go n : Nat} {p : Plan} {fv : Value} {l : List Nat} {cs : List (Nat × Nat)} (h : CutIn w W g q go (eachC p gr n fv) l cs) :
    W.cell? ⟨g, 0, none⟩ = some (.int .i64 (p.bits : Int)) ∧ W.cell? ⟨g, 1, none⟩ = some (.int .i64 (p.fan : Int)) ∧ W.cell? ⟨g, 2, none⟩ = some (.int .i64 (p.most : Int)) ∧ W.cell? ⟨g, 3, none⟩ = some (.pointer (some ⟨gr, 0, none⟩)) ∧ W.cell? ⟨g, 4, none⟩ = some (.int .i64 (n : Int)) ∧ W.cell? ⟨g, 5, none⟩ = some fv ∧ ∀ i, W.frozen? ⟨g, i, none⟩ = false := by
  refine ⟨?_, ?_, ?_, ?_, ?_, ?_, fun i => h.each_.frozen i⟩ <;> (rw [h.each_.cell]; rfl)

/-- what a byte does -/
def stepC (p : Plan) (seg : List Nat) (x : Nat) (cs : List (Nat × Nat)) : List (Nat × Nat) × List Nat :=
  match ends p (seg ++ [x]) with
  | some lev => (cs ++ [(seg.length + 1, lev)], [])
  | none => (cs, seg ++ [x])

def onCut (go : Nat) : Value := .func (.func 39) #[] #[.pointer (some ⟨go, 0, none⟩)]
theorem dig_lt32 (l : List Nat) : dig l < 4294967296 := by unfold dig; omega

set_option maxRecDepth 100000 in
set_option maxHeartbeats 1000000 in
theorem take_any (w W : World) (g gr go : Nat) (p : Plan) (seg : List Nat) (x : Nat) (cs : List (Nat × Nat)) (hp : p.Ok) (h : CutIn w W g gr go (eachC p gr seg.length (onCut go)) (win seg) cs)
    (hg : w.heap.size ≤ g) (hgo : w.heap.size ≤ go) (hT : Tab w) (hseg : seg.length < p.most) (hlen : cs.length ≤ 1048576) (hx : x < 256) :
    Calls Tryd.prog 40 #[.pointer (some ⟨g, 0, none⟩), .int .u8 x] W fun e w' => e = .returned (.tuple #[]) ∧ ∃ gr', CutIn w w' g gr' go (eachC p gr' (stepC p seg x cs).2.length (onCut go)) (win (stepC p seg x cs).2) (stepC p seg x cs).1 := by
  obtain ⟨b4, b16, f1, f8, m64, m65⟩ := hp
  obtain ⟨c0, c1, c2, c3, c4, c5, -⟩ := each_facts h
  have hadd := add_any gr x (win seg) W h.roll hx
  rw [← win_snoc] at hadd
  have HA := Lib.hid hadd; clear hadd
  have H := Lib.hid h; clear h
  have HT := Lib.hid hT; clear hT
  go_enter Tryd.func40, Tryd.ntmps40
  go_wp2_with fail
  refine HA.out.mono ?_
  rintro e w1 ⟨rfl, hgr, hr⟩
  have h1 := H.out.add hgr hr
  obtain ⟨-, -, -, -, e4, -, ef⟩ := each_facts h1
  have ef4 := ef 4
  have h2 := h1.set_ hg 4 (.int .i64 ((seg.length + 1 : Nat) : Int))
  rw [show ((seg.length + 1 : Nat) : Int) = (seg.length : Int) + 1 by omega] at h2
  have h2' : CutIn w (w1.setCell ⟨g, 4, none⟩ (.int .i64 ((seg.length : Int) + 1))) g gr go (eachC p gr (seg.length + 1) (onCut go)) (win (seg ++ [x])) cs := h2
  have H2 := Lib.hid h2'; clear h2 h2' h1 hgr hr c0 c1 c2 c3 c4 c5 ef
  go_upto_region 2 with (fail)
  generalize w1.setCell ⟨g, 4, none⟩ (.int .i64 ((seg.length : Int) + 1)) = w2 at *
  clear e4 ef4
  obtain ⟨o, ho⟩ : ∃ o, ones (dig (win (seg ++ [x]))) = o := ⟨_, rfl⟩
  have ho32 : o ≤ 32 := by rw [← ho]; exact ones_le _
  have hdg := fun n => digest_any gr (win (seg ++ [x])) (w2.drewN n) (H2.out.drewN n).roll
  have hon := fun n => (ones_any (dig (win (seg ++ [x]))) (dig_lt32 _) (w2.drewN n) (HT.out.below (H2.out.drewN n).below HT.out.1)).mono fun e w' ⟨he, hw⟩ => (⟨he, hw.symm⟩ : _ ∧ w' = w2.drewN n)
  rw [ho] at hon
  have hsl : (seg ++ [x]).length = seg.length + 1 := by simp
  have hends : ends p (seg ++ [x]) = if p.bits ≤ o then some ((o - p.bits) / p.fan) else if p.most ≤ seg.length + 1 then some 0 else none := by
    unfold ends; rw [ho, hsl]
  generalize dig (win (seg ++ [x])) = d at *
  clear ho
  obtain ⟨c0, c1, c2, c3, c4, c5, -⟩ := each_facts H2.out
  have HDG := Lib.hid hdg; clear hdg
  have HON := Lib.hid hon; clear hon
  have HE := Lib.hid hends; clear hends
  have HSL := Lib.hid hsl; clear hsl
  go_quiet (first
    | (go_at_call 18; exact Calls.quiet_of (HDG.out _))
    | (go_at_call 14; exact Calls.quiet_of_same (HON.out _)))
  have H3 := Lib.hid (H2.out.drewN nq); clear H2 HDG HON
  clear c0 c1 c2 c3 c4 c5
  generalize w2.drewN nq = w3 at *
  obtain ⟨c0, c1, c2, c3, c4, c5, -⟩ := each_facts H3.out
  by_cases hA : o < p.bits
  · obtain ⟨z, hz⟩ : ∃ z : Int, (o : Int) - (p.bits : Int) = z := ⟨_, rfl⟩
    have hz0 : z < 0 := by omega
    rw [hz]
    clear hz
    have hd1 : decide (z < 0) = true := decide_eq_true hz0
    by_cases hM : seg.length + 1 < p.most
    · have hd2 : decide ((seg.length : Int) + 1 < (p.most : Int)) = true := decide_eq_true (by omega)
      have hn : ends p (seg ++ [x]) = none := by rw [HE.out, if_neg (by omega), if_neg (by omega)]
      have hst : stepC p seg x cs = (cs, seg ++ [x]) := by unfold stepC; rw [hn]
      have HST := Lib.hid hst; clear hst hn
      go_wp2_with fail
      go_quiet (fail)
      go_wp2_with fail
      go_returns
      refine ⟨rfl, gr, ?_⟩
      rw [HST.out]
      show CutIn w _ g gr go (eachC p gr (seg ++ [x]).length (onCut go)) (win (seg ++ [x])) cs
      rw [HSL.out]
      exact H3.out.drewN _
    · have hd2 : decide ((seg.length : Int) + 1 < (p.most : Int)) = false := decide_eq_false (by omega)
      have hn : ends p (seg ++ [x]) = some 0 := by rw [HE.out, if_neg (by omega), if_pos (by omega)]
      have hst : stepC p seg x cs = (cs ++ [(seg.length + 1, 0)], []) := by unfold stepC; rw [hn]
      have HST0 := Lib.hid hst; clear hst hn
      go_wp2_with fail
      go_quiet (fail)
      have H4 := Lib.hid (H3.out.drewN nq); clear H3
      clear c0 c1 c2 c3 c4 c5
      generalize w3.drewN nq = w4 at *
      obtain ⟨c0, c1, c2, c3, c4, c5, -⟩ := each_facts H4.out
      obtain ⟨lev, hlev⟩ : ∃ lev : Nat, lev = 0 := ⟨0, rfl⟩
      have hq1 : (0 : Int) / (p.fan : Int) = (lev : Int) := by rw [hlev, Int.zero_ediv]; rfl
      have hq2 : (0 : Int).tdiv (p.fan : Int) = (lev : Int) := by rw [hlev, Int.zero_tdiv]; rfl
      have hf0 : ¬ (p.fan = 0) := by omega
      have hl32 : lev ≤ 32 := by omega
      have hst : stepC p seg x cs = (cs ++ [(seg.length + 1, lev)], []) := by rw [HST0.out, hlev]
      have HST := Lib.hid hst; clear hst
      have HLEV := Lib.hid hlev; clear hlev
      go_wp2_with fail
      go_still_tail 17, (by kernel_rfl)
      change wpList _ _ _ _ _ w4.drew
      have h5 := cut1_any w w4.drew g gr go _ _ cs (seg.length + 1) lev H4.out.drew hg hgo hlen
      rw [show ((seg.length + 1 : Nat) : Int) = (seg.length : Int) + 1 by omega] at h5
      have H5 := Lib.hid h5; clear h5
      have hqw : IntKind.i64.wrap (lev : Int) = (lev : Int) := by rw [IntKind.wrap_i64]; omega
      clear c0 c1 c2 c3 c4 c5
      unfold onCut
      go_wp2_with fail
      refine H5.out.mono ?_
      rintro e w5 ⟨rfl, h6⟩
      have H6 := Lib.hid h6; clear h6
      go_wp2_with fail
      refine (new_roll w5).mono ?_
      rintro e w6 ⟨W6, hW6, rfl, hg6, hlt6, hr6⟩
      have h7 := H6.out.fresh hg6 H6.out.below.size hr6
      obtain ⟨-, -, -, e3, e4, -, ef⟩ := each_facts h7
      have ef3 := ef 3
      have ef4 := ef 4
      have h8 := (h7.set_ hg 3 (.pointer (some ⟨w5.heap.size, 0, none⟩))).set_ hg 4 (.int .i64 0)
      have H8 := Lib.hid h8; clear h8 h7 hg6 hlt6 hr6 ef hW6
      go_wp2_with fail
      go_end0
      refine ⟨rfl, w5.heap.size, ?_⟩
      rw [HST.out]
      exact H8.out
  · obtain ⟨z, hz⟩ : ∃ z : Nat, (o : Int) - (p.bits : Int) = (z : Int) := ⟨o - p.bits, by omega⟩
    have hz0 : ¬ ((z : Int) < 0) := by omega
    rw [hz]
    have hzq : o - p.bits = z := by omega
    have HZQ := Lib.hid hzq; clear hz hzq
    have hd1 : decide ((z : Int) < 0) = false := decide_eq_false hz0
    have hn : ends p (seg ++ [x]) = some ((o - p.bits) / p.fan) := by rw [HE.out, if_pos (by omega)]
    have hst : stepC p seg x cs = (cs ++ [(seg.length + 1, (o - p.bits) / p.fan)], []) := by unfold stepC; rw [hn]
    have HST0 := Lib.hid hst; clear hst hn
    go_wp2_with fail
    go_quiet (fail)
    have H4 := Lib.hid (H3.out.drewN nq); clear H3
    clear c0 c1 c2 c3 c4 c5
    generalize w3.drewN nq = w4 at *
    obtain ⟨c0, c1, c2, c3, c4, c5, -⟩ := each_facts H4.out
    obtain ⟨lev, hlev⟩ : ∃ lev, z / p.fan = lev := ⟨_, rfl⟩
    have hq1 : (z : Int) / (p.fan : Int) = (lev : Int) := by rw [← hlev, Int.natCast_ediv]
    have hq2 : (z : Int).tdiv (p.fan : Int) = (lev : Int) := by rw [← hlev, Int.ofNat_tdiv]
    have hf0 : ¬ (p.fan = 0) := by omega
    have hl32 : lev ≤ 32 := by have := HZQ.out; rw [← hlev]; exact Nat.le_trans (Nat.div_le_self _ _) (by omega)
    have hst : stepC p seg x cs = (cs ++ [(seg.length + 1, lev)], []) := by rw [HST0.out, ← hlev, HZQ.out]
    have HST := Lib.hid hst; clear hst
    have HLEV := Lib.hid hlev; clear hlev
    go_wp2_with fail
    go_still_tail 17, (by kernel_rfl)
    change wpList _ _ _ _ _ w4.drew
    have h5 := cut1_any w w4.drew g gr go _ _ cs (seg.length + 1) lev H4.out.drew hg hgo hlen
    rw [show ((seg.length + 1 : Nat) : Int) = (seg.length : Int) + 1 by omega] at h5
    have H5 := Lib.hid h5; clear h5
    have hqw : IntKind.i64.wrap (lev : Int) = (lev : Int) := by rw [IntKind.wrap_i64]; omega
    clear c0 c1 c2 c3 c4 c5
    unfold onCut
    go_wp2_with fail
    refine H5.out.mono ?_
    rintro e w5 ⟨rfl, h6⟩
    have H6 := Lib.hid h6; clear h6
    go_wp2_with fail
    refine (new_roll w5).mono ?_
    rintro e w6 ⟨W6, hW6, rfl, hg6, hlt6, hr6⟩
    have h7 := H6.out.fresh hg6 H6.out.below.size hr6
    obtain ⟨-, -, -, e3, e4, -, ef⟩ := each_facts h7
    have ef3 := ef 3
    have ef4 := ef 4
    have h8 := (h7.set_ hg 3 (.pointer (some ⟨w5.heap.size, 0, none⟩))).set_ hg 4 (.int .i64 0)
    have H8 := Lib.hid h8; clear h8 h7 hg6 hlt6 hr6 ef hW6
    go_wp2_with fail
    go_end0
    refine ⟨rfl, w5.heap.size, ?_⟩
    rw [HST.out]
    exact H8.out
end Go.Proofs.YtmnggemifcjflaaDoor
