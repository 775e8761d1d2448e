/-
  All frames from the front on, the walk over the program's All; and awake of the law.
-/
import Derived.Test.YtdoaajjmibkfeaaFrameW
import Derived.Test.YtdoaajjmibkfeaaPutsR2
import Derived.WalkMore
namespace Go.Proofs.Ytdoaajjmibkfeaa
open Go.RowKit PlainP WireP CrcP

theorem str_info : (Try.prog.info? 9).map (fun i => (i.zero, i.size, i.bytes)) = some (some (.string ⟨#[]⟩), 1, 16) := by kernel_rfl
/-- a row of texts of the call's own -/
def Strs (B : Nat) (w : World) (v : Value) (ps : List ByteArray) : Prop := w.ownsRow B 9 1 v ps.length (ps.map Value.string)
def lenV : Value → Nat
  | .string s => s.size
  | _ => 0

set_option maxRecDepth 100000 in
set_option maxHeartbeats 1000000 in
theorem all_any (s : ByteArray) (w : World) (hs : s.size ≤ 9000000000000000) (hc : (allA s).1.length ≤ 1048576) :
    Calls Try.prog 17 #[.string s] w fun e w' => ∃ v, e = .returned (.tuple #[v, .int .i64 ((s.size : Int) - ((allA s).2.size : Int))]) ∧ Below w.heap.size w w' ∧ Strs w.heap.size w' v (allA s).1 := by
  obtain ⟨i0, hi0, hz0, hs0, hy0⟩ := info_parts str_info
  have HC := Lib.hid hc; clear hc
  go_enter Try.func17, Try.ntmps17
  go_wp2_with fail
  go_step3
  go_wp2_with fail
  go_step3
  go_wp2_with fail
  go_loopw [2, 3, 4, 5, 6, 7] (fun v x r _ _ _ wr => ∃ rest : ByteArray, r = .string rest ∧ x = .int .i64 ((s.size : Int) - (rest.size : Int)) ∧ rest.size ≤ s.size ∧ Hid (Below w.heap.size w wr ∧ ∃ ps, Strs w.heap.size wr v ps ∧ allA s = (ps ++ (allA rest).1, (allA rest).2))) (fun _ _ r _ _ _ _ => lenV r)
  case atStart => exact ⟨s, rfl, by simp, Nat.le_refl _, Below.refl _ _, [], World.ownsRow_nil _ _ _ _, rfl⟩
  case round =>
    obtain ⟨rest, rfl, rfl, hr, H⟩ := hrel
    obtain ⟨hB, ps, hps, hal⟩ := H.out
    have hun := fun W => unframe_any rest W (by omega)
    have HB := Lib.hid hB; clear hB H
    have HP := Lib.hid hps; clear hps
    have HA := Lib.hid hal; clear hal
    cases hu : unfS rest with
    | none =>
      rw [hu, unfV] at hun
      have hA2 := HA.out
      rw [allA_none hu] at hA2
      have hrs : ((allA s).2.size : Int) = (rest.size : Int) := by rw [hA2]
      have h1 : (allA s).1 = ps := by rw [hA2]; exact List.append_nil _
      have HUN := Lib.hid hun; clear hun
      have H1 := Lib.hid h1; clear h1 hA2 hu
      have HRS := Lib.hid hrs; clear hrs
      go_wp2_with fail
      refine (HUN.out _).mono ?_
      rintro e w2 ⟨rfl, hb⟩
      have HB2 := Lib.hid hb; clear hb
      go_wp2_with fail
      simp only [Exit.noGoto]
      go_ret2
      refine ⟨_, by rw [HRS.out]; rfl, HB.out.trans (HB2.out.mono HB.out.size), ?_⟩
      rw [H1.out]
      exact World.ownsRow.kept HP.out (only_of_below HB2.out none) (by
        rcases HP.out.2 with ⟨h0, -⟩ | ⟨g, cap, cur, h0, -⟩
        · left; show Value.ownBlock u2 = none; rw [h0]; rfl
        · right; show Value.ownBlock u2 ≠ none; rw [h0]; simp [Value.ownBlock])
    | some q =>
      obtain ⟨p, r2⟩ := q
      rw [hu, unfV] at hun
      have hz := unf_size hu
      have hA2 := HA.out
      rw [allA_some hu] at hA2
      have hlen : ps.length + 1 ≤ 1048576 := by
        have h1 := HC.out
        rw [hA2] at h1
        simp only [List.length_append, List.length_cons] at h1; omega
      have HUN := Lib.hid hun; clear hun
      have HA2 := Lib.hid hA2; clear hA2 hu
      go_wp2_with fail
      refine (HUN.out _).mono ?_
      rintro e w2 ⟨rfl, hb⟩
      have hB2 := HB.out.trans (hb.mono HB.out.size)
      have hP2 : Strs w.heap.size w2 u2 ps := World.ownsRow.kept HP.out (only_of_below hb none) (by
        rcases HP.out.2 with ⟨h0, -⟩ | ⟨g, cap, cur, h0, -⟩
        · left; rw [h0]; rfl
        · right; rw [h0]; simp [Value.ownBlock])
      have hw2 := hB2.size
      have HB2 := Lib.hid hB2; clear hb hB2
      have HP2 := Lib.hid hP2; clear hP2
      go_wp2_with (at_builtin; refine wpList_append_own _ rfl _ _ 34 rfl w.heap.size 9 i0 (.string ⟨#[]⟩) 1 16 Try.underlying34 hi0 hz0 hs0 hy0 rfl (by decide) u2 ps.length _ rfl (World.ownsRow.alloc (w := w2) HP2.out _) ⟨w2.heap.size, 0, none⟩ 1 1 [.string p] rfl rfl (news_new w2 _ _) (by intro u hu; simp at hu; subst hu; rfl) (by unfold maxLen; omega) (by omega) (by simp; omega) ?_; intro v3 w3 hown3 hgrow3 _; have HO := Lib.hid hown3; have HG := Lib.hid hgrow3; clear hown3 hgrow3)
      go_roundw
      case rel =>
        refine ⟨r2, rfl, by go_num, by omega, ?_, ps ++ [p], ?_, ?_⟩
        · exact Below.grown (HB2.out.alloc hw2 _) HG.out (by simp; omega) (fun b hb => (World.ownsRow.lt HP2.out b hb).1)
        · unfold Strs
          rw [List.length_append, List.map_append]
          exact HO.out
        · rw [HA2.out, List.append_assoc]; rfl
      case measure => simp [lenV]; omega
end Go.Proofs.Ytdoaajjmibkfeaa
