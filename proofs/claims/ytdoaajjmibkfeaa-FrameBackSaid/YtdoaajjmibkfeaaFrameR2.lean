/-
  All of the reference, and 'same' of the law, the walk.
-/
import Derived.Test.YtdoaajjmibkfeaaFrameR
namespace Go.Proofs.Ytdoaajjmibkfeaa
open Go.RowKit PlainP WireP CrcP

set_option maxRecDepth 100000 in
set_option maxHeartbeats 1000000 in
theorem rall_any (s : ByteArray) (w : World) (hs : s.size ≤ 9000000000000000) (hc : (allA s).1.length ≤ 1048576) :
    Calls Try.prog 18 #[.string s] w fun e w' => ∃ v, e = .returned (.tuple #[v, .int .i64 ((s.size : Int) - ((allA s).2.size : Int))]) ∧ Below w.heap.size w w' ∧ Strs w.heap.size w' v (allA s).1 := by
  obtain ⟨i0, hi0, hz0, hs0, hy0⟩ := info_parts str_info
  have HC := Lib.hid hc; clear hc
  go_enter Try.func18, Try.ntmps18
  go_wp2_with fail
  go_loopw [4, 5, 6, 7, 8] (fun v r _ _ _ wr => ∃ rest : ByteArray, r = .string rest ∧ rest.size ≤ s.size ∧ Hid (Below w.heap.size w wr ∧ ∃ ps, Strs w.heap.size wr v ps ∧ allA s = (ps ++ (allA rest).1, (allA rest).2))) (fun _ r _ _ _ _ => lenV r)
  case atStart => exact ⟨s, rfl, Nat.le_refl _, Below.refl _ _, [], World.ownsRow_nil _ _ _ _, rfl⟩
  case round =>
    obtain ⟨rest, rfl, hr, H⟩ := hrel
    obtain ⟨hB, ps, hps, hal⟩ := H.out
    have hun := fun W => runframe_any rest W (by omega)
    have HB := Lib.hid hB; clear hB H
    have HP := Lib.hid hps; clear hps
    have HA := Lib.hid hal; clear hal
    cases hu : unfS rest with
    | none =>
      rw [hu, unfV] at hun
      have hA2 := HA.out
      rw [allA_none hu] at hA2
      have hrs : ((allA s).2.size : Int) = (rest.size : Int) := by rw [hA2]
      have h1 : (allA s).1 = ps := by rw [hA2]; exact List.append_nil _
      have HUN := Lib.hid hun; clear hun
      have H1 := Lib.hid h1; clear h1 hA2 hu
      have HRS := Lib.hid hrs; clear hrs
      go_wp2_with fail
      refine (HUN.out _).mono ?_
      rintro e w2 ⟨rfl, hb⟩
      have HB2 := Lib.hid hb; clear hb
      go_wp2_with fail
      go_ret2
      refine ⟨_, by rw [HRS.out]; rfl, HB.out.trans (HB2.out.mono HB.out.size), ?_⟩
      rw [H1.out]
      exact World.ownsRow.kept HP.out (only_of_below HB2.out none) (by
        rcases HP.out.2 with ⟨h0, -⟩ | ⟨g, cap, cur, h0, -⟩
        · left; show Value.ownBlock u4 = none; rw [h0]; rfl
        · right; show Value.ownBlock u4 ≠ none; rw [h0]; simp [Value.ownBlock])
    | some q =>
      obtain ⟨p, r2⟩ := q
      rw [hu, unfV] at hun
      have hz := unf_size hu
      have hA2 := HA.out
      rw [allA_some hu] at hA2
      have hlen : ps.length + 1 ≤ 1048576 := by
        have h1 := HC.out
        rw [hA2] at h1
        simp only [List.length_append, List.length_cons] at h1; omega
      have HUN := Lib.hid hun; clear hun
      have HA2 := Lib.hid hA2; clear hA2 hu
      go_wp2_with fail
      refine (HUN.out _).mono ?_
      rintro e w2 ⟨rfl, hb⟩
      have hB2 := HB.out.trans (hb.mono HB.out.size)
      have hP2 : Strs w.heap.size w2 u4 ps := World.ownsRow.kept HP.out (only_of_below hb none) (by
        rcases HP.out.2 with ⟨h0, -⟩ | ⟨g, cap, cur, h0, -⟩
        · left; rw [h0]; rfl
        · right; rw [h0]; simp [Value.ownBlock])
      have hw2 := hB2.size
      have HB2 := Lib.hid hB2; clear hb hB2
      have HP2 := Lib.hid hP2; clear hP2
      go_wp2_with (at_builtin; refine wpList_append_own _ rfl _ _ 34 rfl w.heap.size 9 i0 (.string ⟨#[]⟩) 1 16 Try.underlying34 hi0 hz0 hs0 hy0 rfl (by decide) u4 ps.length _ rfl (World.ownsRow.alloc (w := w2) HP2.out _) ⟨w2.heap.size, 0, none⟩ 1 1 [.string p] rfl rfl (news_new w2 _ _) (by intro u hu; simp at hu; subst hu; rfl) (by unfold maxLen; omega) (by omega) (by simp; omega) ?_; intro v3 w3 hown3 hgrow3 _; have HO := Lib.hid hown3; have HG := Lib.hid hgrow3; clear hown3 hgrow3)
      go_roundw
      case rel =>
        refine ⟨r2, rfl, by omega, ?_, ps ++ [p], ?_, ?_⟩
        · exact Below.grown (HB2.out.alloc hw2 _) HG.out (by simp; omega) (fun b hb => (World.ownsRow.lt HP2.out b hb).1)
        · unfold Strs
          rw [List.length_append, List.map_append]
          exact HO.out
        · rw [HA2.out, List.append_assoc]; rfl
      case measure => simp [lenV]; omega

/-- a slice of texts: nil, or its places hold them -/
def SRow (w : World) (v : Value) (ps : List ByteArray) : Prop :=
  ∃ a cap, v = .slice a ps.length cap ∧ ps.length ≤ cap ∧ ps.length ≤ 140737488355328 ∧ ∀ i p, ps[i]? = some p → ∃ b off, a = some ⟨b, off, none⟩ ∧ w.cell? ⟨b, off + i, none⟩ = some (.string p)
theorem srow_of {B : Nat} {w : World} {v : Value} {ps : List ByteArray} (h : Strs B w v ps) (hl : ps.length ≤ 140737488355328) : SRow w v ps := by
  have hcell := fun g hg => World.ownsRow.cells h (g := g) hg
  rcases h.2 with ⟨rfl, h0⟩ | ⟨g, cap, cur, rfl, -, -, hc, -⟩
  · obtain rfl : ps = [] := List.eq_nil_of_length_eq_zero h0
    exact ⟨none, 0, rfl, Nat.le_refl _, hl, fun i p hp => by simp at hp⟩
  · refine ⟨some ⟨g, 0, none⟩, cap, rfl, hc, hl, fun i p hp => ⟨g, 0, rfl, ?_⟩⟩
    have := hcell g rfl i (.string p) (by rw [List.getElem?_map, hp]; rfl)
    rwa [show (⟨g, 0, none⟩ : Addr).add i = ⟨g, 0 + i, none⟩ by unfold Addr.add; split <;> simp_all] at this
theorem SRow.drewN {w : World} {v : Value} {ps : List ByteArray} (h : SRow w v ps) (n : Nat) : SRow (w.drewN n) v ps := h
theorem SRow.below {w w' : World} {v : Value} {ps : List ByteArray} (h : SRow w v ps) (k : Below w.heap.size w w') : SRow w' v ps := by
  obtain ⟨a, cap, h1, h2, h3, h4⟩ := h
  refine ⟨a, cap, h1, h2, h3, fun i p hp => ?_⟩
  obtain ⟨b, off, ha, hc⟩ := h4 i p hp
  exact ⟨b, off, ha, by rw [k.cell (cell_lt hc)]; exact hc⟩

set_option maxRecDepth 100000 in
set_option maxHeartbeats 1000000 in
theorem same3_any (v u : Value) (ps : List ByteArray) (w : World) (hv : SRow w v ps) (hu : SRow w u ps) :
    Calls Try.prog 23 #[v, u] w fun e w' => e = .returned (.bool true) ∧ Below w.heap.size w w' := by
  obtain ⟨a1, cap1, rfl, hc1, hl1, h1⟩ := hv
  obtain ⟨a2, cap2, rfl, hc2, -, h2⟩ := hu
  have H1 := Lib.hid h1; have H2 := Lib.hid h2
  clear h1 h2
  obtain ⟨n, hn⟩ : ∃ n, ps.length = n := ⟨_, rfl⟩
  rw [hn] at hc1 hc2 hl1
  rw [hn]
  have HN := Lib.hid hn; clear hn
  go_enter Try.func23, Try.ntmps23
  go_wp2_with fail
  go_loopw [5] (fun i wr => ∃ k : Nat, i = .int .i64 k ∧ k ≤ n ∧ Hid (∃ m, wr = w.drewN m)) (fun i _ => n - (intOf i).toNat)
  case atStart => exact ⟨0, rfl, Nat.zero_le _, 0, rfl⟩
  case round =>
    obtain ⟨k, rfl, hk, H⟩ := hrel
    obtain ⟨m, rfl⟩ := H.out
    clear H
    by_cases hlt : k < n
    · obtain ⟨p, hp⟩ : ∃ p, ps[k]? = some p := ⟨_, List.getElem?_eq_getElem (by rw [HN.out]; exact hlt)⟩
      obtain ⟨b1, o1, rfl, hcell1⟩ := H1.out k p hp
      obtain ⟨b2, o2, rfl, hcell2⟩ := H2.out k p hp
      clear hp
      go_wp2_with fail
      go_quiet (fail)
      go_wp2_with fail
      go_roundw
      case rel => exact ⟨k + 1, by go_num, by omega, _, rfl⟩
      case measure => simp [intOf]; omega
    · obtain rfl : k = n := by omega
      go_wp2_with fail
      go_ret
      exact ⟨rfl, below_drewN (Below.refl _ _) m⟩
end Go.Proofs.Ytdoaajjmibkfeaa
