/-
  The walk over WireTakes: one take by both readers, and the loop.
-/
import Derived.Test.YtdoaajjmibkfeaaWireS2
import Derived.Test.YtdoaajjmibkfeaaThings
import Derived.StillTailTactics
import Derived.Deep.RegionWith
import Derived.Deep.DeepCutAuto
import Derived.Deep.CutRange
import Derived.Deep.CutBlock
namespace Go.Proofs.Ytdoaajjmibkfeaa.wireTakes
open Go.RowKit PlainP WireP
set_option linter.unusedVariables false

/-- both readers stand at u -/
def At (w : World) (g h o : Nat) (s u : ByteArray) (W : World) : Prop :=
  Below w.heap.size w W ∧ Blk W g 78 #[.string u] ∧ Blk W h 47 #[.string u] ∧ Blk W o 78 #[.string s]

theorem ext_size (s : ByteArray) (a b : Nat) : (s.extract a b).size ≤ s.size := by
  rw [← nats_length, nats_extract, List.length_take, List.length_drop, nats_length]; omega
theorem restU_size (s : ByteArray) (o : Option (Nat × Nat)) : (restU s o).size ≤ s.size := by
  rcases o with _ | ⟨n, k⟩
  · exact Nat.le_refl _
  · exact ext_size _ _ _
theorem fixRest_size (s : ByteArray) (n : Int) : (fixRest s n).size ≤ s.size := by
  unfold fixRest; split
  · exact ext_size _ _ _
  · exact Nat.le_refl _
theorem takeRest_size (s : ByteArray) (n : Int) : (takeRest s n).size ≤ s.size := by
  unfold takeRest; split
  · exact ext_size _ _ _
  · exact Nat.le_refl _
theorem textRest_size (s : ByteArray) (n : Int) : (textRest s n).size ≤ s.size := by
  unfold textRest; split
  · exact Nat.le_refl _
  · rcases txt s n.toNat with _ | ⟨a, b⟩
    · exact Nat.le_refl _
    · exact ext_size _ _ _
theorem uintV_two (o : Option (Nat × Nat)) : ∃ (a : Nat) (e : Int), uintV o = .tuple #[.int .u64 a, .int .i64 e] := by
  rcases o with _ | ⟨n, k⟩ <;> exact ⟨_, _, rfl⟩
theorem fixV_two (s : ByteArray) (n : Int) : ∃ (a : Nat) (e : Int), fixV s n = .tuple #[.int .u64 a, .int .i64 e] := by
  unfold fixV; split
  · exact ⟨0, _, rfl⟩
  · split
    · exact ⟨_, _, rfl⟩
    · exact ⟨0, _, rfl⟩
theorem takeV_two (s : ByteArray) (n : Int) : ∃ (a : ByteArray) (e : Int), takeV s n = .tuple #[.string a, .int .i64 e] := by
  unfold takeV; split
  · exact ⟨_, _, rfl⟩
  · split <;> exact ⟨_, _, rfl⟩
theorem textV_two (s : ByteArray) (n : Int) : ∃ (a : ByteArray) (e : Int), textV s n = .tuple #[.string a, .int .i64 e] := by
  unfold textV; split <;> exact ⟨_, _, rfl⟩

set_option maxRecDepth 100000 in
set_option maxHeartbeats 1000000 in
theorem same_any (w W : World) (g h o : Nat) (s u : ByteArray) (kind n : Int) (hA : At w g h o s u W) (hgh : g ≠ h) (hog : o ≠ g) (hoh : o ≠ h) (hg : w.heap.size ≤ g) (hh : w.heap.size ≤ h) (hs : u.size ≤ 9223372036854775807) (hn : n ≤ 9223372036854775807) :
    Calls Try.prog 25 #[.pointer (some ⟨g, 0, none⟩), .pointer (some ⟨h, 0, none⟩), .agg #[.int .i64 kind, .int .i64 n]] W fun e w' => e = .returned (.bool true) ∧ ∃ u', u'.size ≤ u.size ∧ At w g h o s u' w' := by
  have hgl := hA.2.1.lt
  have hhl := hA.2.2.1.lt
  have hol := hA.2.2.2.lt
  have hb1 : Blk (W.alloc (.cells #[.int .i64 kind, .int .i64 n] 50)) W.heap.size 50 #[.int .i64 kind, .int .i64 n] := Blk.new W _ _
  have hA1 : At w g h o s u (W.alloc (.cells #[.int .i64 kind, .int .i64 n] 50)) := ⟨hA.1.alloc hA.1.size _, hA.2.1.alloc _, hA.2.2.1.alloc _, hA.2.2.2.alloc _⟩
  have hWw := hA.1.size
  have HA1 := Lib.hid hA1; clear hA1
  have HB1 := Lib.hid hb1; clear hb1
  have HA := Lib.hid hA; clear hA

  by_cases k0 : kind = 0
  · have f0 : (kind == 0) = true := beq_iff_eq.2 k0
    clear k0
    have hc1 := fun (W' : World) (hS : Blk W' g 78 #[.string u]) => uint_any g u W' hS hs
    have hc2 := fun (W' : World) (hS : Blk W' h 47 #[.string u]) => ruint_any h u W' hS hs
    have hz : (restU u (short (nats u))).size ≤ u.size := restU_size _ _
    obtain ⟨a, e, hV⟩ := uintV_two (short (nats u))
    rw [hV] at hc1 hc2
    clear hV
    generalize restU u (short (nats u)) = u' at *
    have HC1 := Lib.hid hc1; clear hc1
    have HC2 := Lib.hid hc2; clear hc2
    go_enter Try.func25, Try.ntmps25
    go_wp2_with fail
    refine (HC1.out _ HA1.out.2.1).mono ?_
    rintro ev w1 ⟨rfl, hg1, hb1⟩
    have hx1 : Below w.heap.size w w1 ∧ Blk w1 h 47 #[.string u] ∧ Blk w1 W.heap.size 50 #[.int .i64 kind, .int .i64 n] ∧ Blk w1 o 78 #[.string s] := ⟨below_of_only HA1.out.1 hg1 HA1.out.1.size hg, HA1.out.2.2.1.grown hg1 (by simp; omega), HB1.out.grown hg1 (by simp; omega), HA1.out.2.2.2.grown hg1 (by simp; omega)⟩
    have HX1 := Lib.hid hx1; clear hx1 hg1
    have HR1 := Lib.hid hb1; clear hb1
    have d1 : w1.cell? ⟨W.heap.size, 1, none⟩ = some (.int .i64 n) := by rw [HX1.out.2.2.1.cell]; rfl
    go_wp2_with fail
    refine (HC2.out _ HX1.out.2.1).mono ?_
    rintro ev w2 ⟨rfl, hg2, hb2⟩
    have hx2 : At w g h o s u' w2 := ⟨below_of_only HX1.out.1 hg2 HX1.out.1.size hh, HR1.out.grown hg2 (by simp; omega), hb2, HX1.out.2.2.2.grown hg2 (by simp; omega)⟩
    have HX2 := Lib.hid hx2; clear hx2 hg2 hb2
    go_wp2_with fail
    go_ret
    exact ⟨rfl, u', hz, HX2.out⟩
  have f0 : (kind == 0) = false := beq_eq_false_iff_ne.2 k0
  by_cases k1 : kind = 1
  · have f1 : (kind == 1) = true := beq_iff_eq.2 k1
    clear k1
    have hc1 := fun (W' : World) (hS : Blk W' g 78 #[.string u]) => fixed_any g u n W' hS hs
    have hc2 := fun (W' : World) (hS : Blk W' h 47 #[.string u]) => rfixed_any h u n W' hS hs
    have hz : (fixRest u n).size ≤ u.size := fixRest_size _ _
    obtain ⟨a, e, hV⟩ := fixV_two u n
    rw [hV] at hc1 hc2
    clear hV
    generalize fixRest u n = u' at *
    have HC1 := Lib.hid hc1; clear hc1
    have HC2 := Lib.hid hc2; clear hc2
    go_enter Try.func25, Try.ntmps25
    go_wp2_with fail
    refine (HC1.out _ HA1.out.2.1).mono ?_
    rintro ev w1 ⟨rfl, hg1, hb1⟩
    have hx1 : Below w.heap.size w w1 ∧ Blk w1 h 47 #[.string u] ∧ Blk w1 W.heap.size 50 #[.int .i64 kind, .int .i64 n] ∧ Blk w1 o 78 #[.string s] := ⟨below_of_only HA1.out.1 hg1 HA1.out.1.size hg, HA1.out.2.2.1.grown hg1 (by simp; omega), HB1.out.grown hg1 (by simp; omega), HA1.out.2.2.2.grown hg1 (by simp; omega)⟩
    have HX1 := Lib.hid hx1; clear hx1 hg1
    have HR1 := Lib.hid hb1; clear hb1
    have d1 : w1.cell? ⟨W.heap.size, 1, none⟩ = some (.int .i64 n) := by rw [HX1.out.2.2.1.cell]; rfl
    go_wp2_with fail
    refine (HC2.out _ HX1.out.2.1).mono ?_
    rintro ev w2 ⟨rfl, hg2, hb2⟩
    have hx2 : At w g h o s u' w2 := ⟨below_of_only HX1.out.1 hg2 HX1.out.1.size hh, HR1.out.grown hg2 (by simp; omega), hb2, HX1.out.2.2.2.grown hg2 (by simp; omega)⟩
    have HX2 := Lib.hid hx2; clear hx2 hg2 hb2
    go_wp2_with fail
    go_ret
    exact ⟨rfl, u', hz, HX2.out⟩
  have f1 : (kind == 1) = false := beq_eq_false_iff_ne.2 k1
  by_cases k2 : kind = 2
  · have f2 : (kind == 2) = true := beq_iff_eq.2 k2
    clear k2
    have hc1 := fun (W' : World) (hS : Blk W' g 78 #[.string u]) => text_any g u n W' hS hs hn
    have hc2 := fun (W' : World) (hS : Blk W' h 47 #[.string u]) => rtext_any h u n W' hS hs hn
    have hz : (textRest u n).size ≤ u.size := textRest_size _ _
    obtain ⟨a, e, hV⟩ := textV_two u n
    rw [hV] at hc1 hc2
    clear hV
    generalize textRest u n = u' at *
    have HC1 := Lib.hid hc1; clear hc1
    have HC2 := Lib.hid hc2; clear hc2
    go_enter Try.func25, Try.ntmps25
    go_wp2_with fail
    refine (HC1.out _ HA1.out.2.1).mono ?_
    rintro ev w1 ⟨rfl, hg1, hb1⟩
    have hx1 : Below w.heap.size w w1 ∧ Blk w1 h 47 #[.string u] ∧ Blk w1 W.heap.size 50 #[.int .i64 kind, .int .i64 n] ∧ Blk w1 o 78 #[.string s] := ⟨below_of_only HA1.out.1 hg1 HA1.out.1.size hg, HA1.out.2.2.1.grown hg1 (by simp; omega), HB1.out.grown hg1 (by simp; omega), HA1.out.2.2.2.grown hg1 (by simp; omega)⟩
    have HX1 := Lib.hid hx1; clear hx1 hg1
    have HR1 := Lib.hid hb1; clear hb1
    have d1 : w1.cell? ⟨W.heap.size, 1, none⟩ = some (.int .i64 n) := by rw [HX1.out.2.2.1.cell]; rfl
    go_wp2_with fail
    refine (HC2.out _ HX1.out.2.1).mono ?_
    rintro ev w2 ⟨rfl, hg2, hb2⟩
    have hx2 : At w g h o s u' w2 := ⟨below_of_only HX1.out.1 hg2 HX1.out.1.size hh, HR1.out.grown hg2 (by simp; omega), hb2, HX1.out.2.2.2.grown hg2 (by simp; omega)⟩
    have HX2 := Lib.hid hx2; clear hx2 hg2 hb2
    go_wp2_with fail
    go_ret
    exact ⟨rfl, u', hz, HX2.out⟩
  have f2 : (kind == 2) = false := beq_eq_false_iff_ne.2 k2
  by_cases k3 : kind = 3
  · have f3 : (kind == 3) = true := beq_iff_eq.2 k3
    clear k3
    have hc1 := fun (W' : World) (hS : Blk W' g 78 #[.string u]) => take_any g u n W' hS hs hn
    have hc2 := fun (W' : World) (hS : Blk W' h 47 #[.string u]) => rtake_any h u n W' hS hs hn
    have hz : (takeRest u n).size ≤ u.size := takeRest_size _ _
    obtain ⟨a, e, hV⟩ := takeV_two u n
    rw [hV] at hc1 hc2
    clear hV
    generalize takeRest u n = u' at *
    have HC1 := Lib.hid hc1; clear hc1
    have HC2 := Lib.hid hc2; clear hc2
    go_enter Try.func25, Try.ntmps25
    go_wp2_with fail
    refine (HC1.out _ HA1.out.2.1).mono ?_
    rintro ev w1 ⟨rfl, hg1, hb1⟩
    have hx1 : Below w.heap.size w w1 ∧ Blk w1 h 47 #[.string u] ∧ Blk w1 W.heap.size 50 #[.int .i64 kind, .int .i64 n] ∧ Blk w1 o 78 #[.string s] := ⟨below_of_only HA1.out.1 hg1 HA1.out.1.size hg, HA1.out.2.2.1.grown hg1 (by simp; omega), HB1.out.grown hg1 (by simp; omega), HA1.out.2.2.2.grown hg1 (by simp; omega)⟩
    have HX1 := Lib.hid hx1; clear hx1 hg1
    have HR1 := Lib.hid hb1; clear hb1
    have d1 : w1.cell? ⟨W.heap.size, 1, none⟩ = some (.int .i64 n) := by rw [HX1.out.2.2.1.cell]; rfl
    go_wp2_with fail
    refine (HC2.out _ HX1.out.2.1).mono ?_
    rintro ev w2 ⟨rfl, hg2, hb2⟩
    have hx2 : At w g h o s u' w2 := ⟨below_of_only HX1.out.1 hg2 HX1.out.1.size hh, HR1.out.grown hg2 (by simp; omega), hb2, HX1.out.2.2.2.grown hg2 (by simp; omega)⟩
    have HX2 := Lib.hid hx2; clear hx2 hg2 hb2
    go_wp2_with fail
    go_ret
    exact ⟨rfl, u', hz, HX2.out⟩
  have f3 : (kind == 3) = false := beq_eq_false_iff_ne.2 k3
  clear k0 k1 k2 k3
  have hc1 := fun (W' : World) (hS : Blk W' g 78 #[.string u]) => end_any g u W' hS
  have hc2 := fun (W' : World) (hS : Blk W' h 47 #[.string u]) => rend_any h u W' hS
  generalize (if u.size = 0 then (0 : Int) else 4) = r at *
  have HC1 := Lib.hid hc1; clear hc1
  have HC2 := Lib.hid hc2; clear hc2
  go_enter Try.func25, Try.ntmps25
  go_wp2_with fail
  refine (HC1.out _ HA1.out.2.1).mono ?_
  rintro ev w1 ⟨rfl, rfl⟩
  go_wp2_with fail
  refine (HC2.out _ HA1.out.2.2.1).mono ?_
  rintro ev w1 ⟨rfl, rfl⟩
  go_wp2_with fail
  go_ret
  exact ⟨by first | rfl | simp, u, Nat.le_refl _, HA1.out⟩

theorem At.drew {w : World} {g h o : Nat} {s u : ByteArray} {W : World} (k : At w g h o s u W) : At w g h o s u W.drew := ⟨k.1.drew, k.2.1.drew, k.2.2.1.drew, k.2.2.2.drew⟩

set_option maxRecDepth 100000 in
set_option maxHeartbeats 1000000 in
theorem walk (s : ByteArray) (a0 : Option Addr) (len0 cap0 : Nat) (w : World) (hs : s.size ≤ 140737488351232) (w0 : Recs [some .i64, some .i64] w a0 len0 cap0) :
    Calls Try.prog 7 #[.string s, .slice a0 len0 cap0] w fun e w' => e = .returned (.bool true) ∧ Below w.heap.size w w' := by
  have hcap := w0.len_le
  unfold maxLen at hcap
  have H0 := Lib.hid w0; clear w0
  obtain ⟨m, hm, hm3, hml⟩ : ∃ m : Nat, m ≤ 200 ∧ (m = 200 ∨ m = len0) ∧ m ≤ len0 := ⟨min 200 len0, by omega, by omega, by omega⟩
  go_enter Try.func7, Try.ntmps7
  go_wp2_with fail
  refine (wnew_any s w).mono ?_
  rintro e w1 ⟨rfl, rfl⟩
  go_wp2_with fail
  refine (wnew_any s _).mono ?_
  rintro e w1 ⟨rfl, rfl⟩
  go_wp2_with fail
  have hat : At w w.heap.size (w.heap.size + 1) (w.heap.size + 2) s s (((w.alloc (.cells #[.string s] 78)).alloc (.cells #[.string s] 47)).alloc (.cells #[.string s] 78)) := by
    obtain ⟨b1, b2⟩ := two_new w 78 47 #[.string s] #[.string s]
    have b3 := Blk.new ((w.alloc (.cells #[.string s] 78)).alloc (.cells #[.string s] 47)) 78 #[.string s]
    simp only [World.size_alloc] at b3
    exact ⟨(((Below.refl _ _).alloc (Nat.le_refl _) _).alloc (by simp) _).alloc (by simp; omega) _, b1.alloc _, b2.alloc _, b3⟩
  have HAT := Lib.hid hat; clear hat
  go_loopw [8] (fun i wr => ∃ k : Nat, i = .int .i64 k ∧ k ≤ m ∧ Hid (∃ u, u.size ≤ s.size ∧ At w w.heap.size (w.heap.size + 1) (w.heap.size + 2) s u wr)) (fun i _ => m - (intOf i).toNat)
  case atStart => exact ⟨0, rfl, by omega, s, Nat.le_refl _, HAT.out⟩
  case round =>
    obtain ⟨k, rfl, hk, H⟩ := hrel
    go_upto_region 5 with (fail)
    go_cut [23] from 16 to 23 (fun v wx => v = .bool (decide (k < m)) ∧ wx = wr)
    case first =>
      by_cases h0 : k < len0
      · by_cases h3 : k < 200
        · go_wp2_with fail
          go_meet
          case rel => exact ⟨by rw [decide_eq_true (show k < m by omega), decide_eq_true (by omega)], rfl⟩
        · have hd : decide ((k : Int) < 200) = false := decide_eq_false (by omega)
          go_wp2_with fail
          go_meet
          case rel => exact ⟨by rw [decide_eq_false (show ¬ k < m by omega)], rfl⟩
      · go_wp2_with fail
        go_meet
        case rel => exact ⟨by rw [decide_eq_false (show ¬ k < m by omega)], rfl⟩
    case rest =>
    obtain ⟨rfl, rfl⟩ := hcut
    obtain ⟨u, hus, hA⟩ := H.out
    have HA := Lib.hid hA; clear hA
    by_cases hlt : k < m
    · rw [decide_eq_true hlt]
      have hlt0 : k < len0 := by omega
      obtain ⟨b, off, rfl, hbl, hf⟩ := H0.out.at_ HA.out.1 hlt0
      obtain ⟨_, c0, kind, rfl, wk⟩ := hf 0 _ rfl
      obtain ⟨_, c1, n, rfl, wn⟩ := hf 1 _ rfl
      simp only [List.length_cons, List.length_nil, Nat.zero_add, Nat.reduceAdd, Nat.add_zero] at c0 c1
      clear hf
      have hsm := fun (W : World) (hA : At w w.heap.size (w.heap.size + 1) (w.heap.size + 2) s u W) => same_any w W w.heap.size (w.heap.size + 1) (w.heap.size + 2) s u kind n hA (by omega) (by omega) (by omega) (by omega) (by omega) (by omega) (wf_i64 wn).2
      have HSM := Lib.hid hsm; clear hsm
      go_upto_region 7 with (fail)
      go_cut [43] from 26 to 43 (fun v wx => v = .bool false ∧ Hid (∃ u', u'.size ≤ s.size ∧ At w w.heap.size (w.heap.size + 1) (w.heap.size + 2) s u' wx))
      case first =>
        go_region_with (first
          | (go_at_call 25; refine (HSM.out _ ?_).mono ?_; exact HA.out.drew; rintro e w2 ⟨rfl, u', hu2, hA2⟩; have c2 : w2.cell? ⟨w.heap.size + 1, 0, none⟩ = some (.string u') := hA2.2.2.1.cell 0; have HA2 := Lib.hid hA2; clear hA2)
          | (go_at_call 26; refine (left_any _ u' _ HA2.out.2.1).mono ?_; rintro e w3 ⟨rfl, rfl⟩))
        all_goals
          go_wp2_with fail
          go_meet
          case rel => exact ⟨by first | rfl | simp, u', Nat.le_trans hu2 hus, HA2.out⟩
      case rest =>
        obtain ⟨rfl, HC⟩ := hcut
        go_wp2_with fail
        go_roundw
        case rel => exact ⟨k + 1, by go_num, by omega, HC.out⟩
        case measure => simp [intOf]; omega
    · rw [decide_eq_false hlt]
      have hle := left_any (w.heap.size + 2) s _ HA.out.2.2.2
      have haw := awake_any wc
      have HLE := Lib.hid hle; clear hle
      have HAW := Lib.hid haw; clear haw
      go_wp2_with fail
      refine HLE.out.mono ?_
      rintro e w2 ⟨rfl, rfl⟩
      go_wp2_with fail
      refine HAW.out.mono ?_
      rintro e w2 ⟨rfl, hb2⟩
      have HB2 := Lib.hid hb2; clear hb2
      go_wp2_with fail
      go_ret
      exact ⟨rfl, HA.out.1.trans (HB2.out.mono HA.out.1.size)⟩
end Go.Proofs.Ytdoaajjmibkfeaa.wireTakes
