/-
  Cuts, the walk over the reference: Cut; and 'chunks' of the law.
-/
import Derived.Test.YtmnggemifcjflaaDoorSplitR
namespace Go.Proofs.YtmnggemifcjflaaDoor
open Go.RowKit PlainP RollP OnesP SplitP

theorem firstF_spec (p : Plan) : ∀ (l seg : List Nat), (∃ m lev, firstF p seg l = (seg.length + m, lev, true) ∧ 0 < m ∧ m ≤ l.length ∧ cutF p seg l = ((seg.length + m, lev) :: (cutF p [] (l.drop m)).1, (cutF p [] (l.drop m)).2)) ∨
    (firstF p seg l = (seg.length + l.length, 0, false) ∧ cutF p seg l = ([], seg ++ l))
  | [], seg => .inr ⟨by rw [firstF]; rfl, by rw [cutF_nil, List.append_nil]⟩
  | b :: t, seg => by
    cases he : ends p (seg ++ [b]) with
    | some lev => exact .inl ⟨1, lev, firstF_yes p seg b t lev he, by omega, by simp, by rw [cutF_yes p seg b t lev he]; rfl⟩
    | none =>
      rw [firstF_no p seg b t he, cutF_no p seg b t he]
      rcases firstF_spec p t (seg ++ [b]) with ⟨m, lev, h1, h2, h3, h4⟩ | ⟨h1, h2⟩
      · refine .inl ⟨m + 1, lev, ?_, by omega, by simp only [List.length_cons]; omega, ?_⟩
        · rw [h1, List.length_append]; simp; omega
        · rw [h4, List.length_append, List.drop_succ_cons]; simp; omega
      · refine .inr ⟨?_, ?_⟩
        · rw [h1, List.length_append, List.length_cons]; simp; omega
        · rw [h2, List.append_assoc]; rfl
theorem cutAll_nil (p : Plan) : cutAll p [] = [] := rfl
theorem cut_first (p : Plan) (l : List Nat) (h : 0 < l.length) : ∃ n lev b, firstF p [] l = (n, lev, b) ∧ 0 < n ∧ n ≤ l.length ∧ cutAll p l = (n, lev) :: cutAll p (l.drop n) := by
  rcases firstF_spec p l [] with ⟨m, lev, h1, h2, h3, h4⟩ | ⟨h1, h2⟩
  · simp only [List.length_nil, Nat.zero_add] at h1 h4
    exact ⟨m, lev, true, h1, h2, h3, by unfold cutAll; rw [h4]; rfl⟩
  · simp only [List.length_nil, Nat.zero_add, List.nil_append] at h1 h2
    refine ⟨l.length, 0, false, h1, h, Nat.le_refl _, ?_⟩
    rw [List.drop_eq_nil_of_le (Nat.le_refl _), cutAll_nil]
    unfold cutAll
    rw [h2]
    show ([] : List (Nat × Nat)) ++ (if l.length = 0 then [] else [(l.length, 0)]) = _
    rw [if_neg (by omega)]; rfl
theorem cutAll_len (p : Plan) (l : List Nat) : (cutAll p l).length ≤ l.length + 1 := by
  have h1 := cutF_len p l []
  unfold cutAll lastC
  split <;> simp <;> omega

theorem rchunk_info : (Tryd.prog.info? 91).map (fun i => (i.zero, i.size, i.bytes)) = some (some (.agg #[.int .i64 0, .int .i64 0]), 2, 16) := by kernel_rfl
def RChunks (B : Nat) (w : World) (v : Value) (cs : List (Nat × Nat)) : Prop := w.ownsRow B 91 2 v cs.length (chCells cs)
def lenV : Value → Nat
  | .string s => s.size
  | _ => 0

set_option maxRecDepth 100000 in
set_option maxHeartbeats 4000000 in
theorem rcut_any (p : Plan) (s : ByteArray) (w : World) (hp : p.Ok) (hs : s.size ≤ 1048576) :
    Calls Tryd.prog 20 #[planVP p, .string s] w fun e w' => ∃ v, e = .returned (.tuple #[v, .int .i64 0]) ∧ Below w.heap.size w w' ∧ RChunks w.heap.size w' v (cutAll p (nats s)) := by
  obtain ⟨i0, hi0, hz0, hs0, hy0⟩ := info_parts rchunk_info
  have hck := fun W => rcheck_any p.bits p.fan p.most W
  have hpe : planE p.bits p.fan p.most = 0 := if_pos ⟨by have := hp.b4; omega, by have := hp.b16; omega, by have := hp.f1; omega, by have := hp.f8; omega, by have := hp.m64; omega, by have := hp.m65536; omega⟩
  rw [hpe] at hck
  clear hpe
  have HCK := Lib.hid hck; clear hck
  have HP := Lib.hid hp; clear hp
  have hcl := cutAll_len p (nats s)
  rw [nats_length] at hcl
  have HCL := Lib.hid hcl; clear hcl
  have hfi := fun (r : ByteArray) W (h : r.size ≤ 1048576) => first_any p r W HP.out h
  unfold planVP planV at *
  have HFI := Lib.hid hfi; clear hfi
  go_enter Tryd.func20, Tryd.ntmps20
  go_wp2_with fail
  refine (HCK.out _).mono ?_
  rintro e w1 ⟨rfl, hb1⟩
  have hB1 : Below w.heap.size w w1 := ((Below.refl _ _).alloc (Nat.le_refl _) _).trans (hb1.mono (by simp))
  have hK1 : Blk w1 w.heap.size 33 #[.int .i64 (p.bits : Int), .int .i64 (p.fan : Int), .int .i64 (p.most : Int)] := (Blk.new w _ _).below hb1 (by simp)
  have HB1 := Lib.hid hB1; have HK1 := Lib.hid hK1; clear hB1 hK1 hb1
  go_wp2_with fail
  go_loopw [1, 7, 8, 9] (fun r v _ _ wr => ∃ rest : ByteArray, r = .string rest ∧ rest.size ≤ s.size ∧ Hid (Below w.heap.size w wr ∧ Blk wr w.heap.size 33 #[.int .i64 (p.bits : Int), .int .i64 (p.fan : Int), .int .i64 (p.most : Int)] ∧ ∃ out, RChunks w.heap.size wr v out ∧ cutAll p (nats s) = out ++ cutAll p (nats rest))) (fun r _ _ _ _ => lenV r)
  case atStart => exact ⟨s, rfl, Nat.le_refl _, HB1.out, HK1.out, [], World.ownsRow_nil _ _ _ _, rfl⟩
  case round =>
    obtain ⟨rest, rfl, hr, H⟩ := hrel
    obtain ⟨hB, hK, out, hro, hca⟩ := H.out
    have c0 : wr.cell? ⟨w.heap.size, 0, none⟩ = some (.int .i64 (p.bits : Int)) := by rw [hK.cell]; rfl
    have c1 : wr.cell? ⟨w.heap.size, 1, none⟩ = some (.int .i64 (p.fan : Int)) := by rw [hK.cell]; rfl
    have c2 : wr.cell? ⟨w.heap.size, 2, none⟩ = some (.int .i64 (p.most : Int)) := by rw [hK.cell]; rfl
    have HB := Lib.hid hB; have HK := Lib.hid hK; have HRO := Lib.hid hro; have HCA := Lib.hid hca
    clear hB hK hro hca H
    by_cases hlt : 0 < rest.size
    · obtain ⟨n, lev, b, h1, h2, h3, h4⟩ := cut_first p (nats rest) (by rw [nats_length]; exact hlt)
      rw [nats_length] at h3
      have hfr := fun W => HFI.out rest W (by omega)
      rw [h1, firstV] at hfr
      have hcl2 : out.length ≤ 1048576 := by
        have e1 := HCL.out
        rw [HCA.out, h4, List.length_append, List.length_cons] at e1; omega
      have hext : nats (rest.extract n rest.size) = (nats rest).drop n := by
        rw [nats_extract]; exact List.take_of_length_le (by rw [List.length_drop, nats_length]; omega)
      have hsz : (rest.extract n rest.size).size = rest.size - n := by rw [ByteArray.size_extract]; omega
      have HFR := Lib.hid hfr; clear hfr h1
      have H4 := Lib.hid h4; clear h4
      have HEX := Lib.hid hext; clear hext
      go_wp2_with fail
      refine (HFR.out _).mono ?_
      rintro e w2 ⟨rfl, hb⟩
      have hB2 := HB.out.trans (hb.mono HB.out.size)
      have hK2 := HK.out.below hb HK.out.lt
      have hR2 : w2.ownsRow w.heap.size 91 2 u7 out.length (chCells out) := own_kept HRO.out (only_of_below hb none) (fun q _ e => by cases e)
      have hrl := fun q hq => (World.ownsRow.lt hR2 q hq).2
      have hA : ∀ o : Obj, True := fun _ => trivial
      have hnew := news_at (w2.alloc (.cells #[.int .i64 n, .int .i64 lev] 91)) #[.int .i64 n, .int .i64 lev] 91 (w2.heap.size + 1) (by simp)
      have hfin : ∀ (v3 : Value) (w3 : World), w3.ownsRow w.heap.size 91 2 v3 (out.length + 1) (chCells out ++ [.int .i64 n, .int .i64 lev]) →
          ((w2.alloc (.cells #[.int .i64 n, .int .i64 lev] 91)).alloc (.cells #[.int .i64 n, .int .i64 lev] 91)).grownBy w3 (Value.ownBlock u7) →
          w3.cell? ⟨w2.heap.size, 0, none⟩ = some (.int .i64 n) ∧ Below w.heap.size w w3 ∧ Blk w3 w.heap.size 33 #[.int .i64 (p.bits : Int), .int .i64 (p.fan : Int), .int .i64 (p.most : Int)] ∧ RChunks w.heap.size w3 v3 (out ++ [(n, lev)]) := by
        intro v3 w3 ho hg
        have hcb : Blk w3 w2.heap.size 91 #[.int .i64 n, .int .i64 lev] := ((Blk.new w2 _ _).alloc _).grown hg (fun e => by have := hrl _ e.symm; omega)
        refine ⟨by rw [hcb.cell]; rfl, ?_, ?_, ?_⟩
        · exact Below.grown ((hB2.alloc hB2.size _).alloc (by simp; have := hB2.size; omega) _) hg (by simp; have := hB2.size; omega) (fun q hq => (World.ownsRow.lt hR2 q hq).1)
        · exact ((hK2.alloc _).alloc _).grown hg (own_ne hR2 hK2 (by decide))
        · unfold RChunks
          rw [chCells_append, List.length_append]
          exact ho
      have hRA := World.ownsRow.alloc (World.ownsRow.alloc hR2 (.cells #[.int .i64 n, .int .i64 lev] 91)) (.cells #[.int .i64 n, .int .i64 lev] 91)
      have hbz := hB2.size
      have HRA := Lib.hid hRA; have HFN := Lib.hid hfin; have HNW := Lib.hid hnew
      clear hB2 hK2 hR2 hrl hA hnew hfin hRA hb c0 c1 c2
      go_wp2_with (at_builtin; refine wpList_append_own _ rfl _ _ 34 rfl w.heap.size 91 i0 (.agg #[.int .i64 0, .int .i64 0]) 2 16 Tryd.underlying34 hi0 hz0 hs0 hy0 rfl (by decide) u7 out.length _ rfl HRA.out ⟨w2.heap.size + 1, 0, none⟩ 1 1 [.int .i64 n, .int .i64 lev] rfl rfl HNW.out (by intro u hu; simp at hu; rcases hu with rfl | rfl <;> rfl) (by unfold maxLen; omega) (by omega) (by simp; omega) ?_; intro v3 w3 hown3 hgrow3 _; obtain ⟨d1, d2⟩ := HFN.out v3 w3 hown3 hgrow3; have HD := Lib.hid d2; clear hown3 hgrow3 d2)
      go_roundw
      case rel => exact ⟨rest.extract n rest.size, rfl, by omega, HD.out.1, HD.out.2.1, out ++ [(n, lev)], HD.out.2.2, by rw [HCA.out, H4.out, HEX.out, List.append_assoc]; rfl⟩
      case measure => simp [lenV]; omega
    · have hz : rest.size = 0 := by omega
      have hnil : nats rest = [] := List.eq_nil_of_length_eq_zero (by rw [nats_length]; exact hz)
      have hfin : cutAll p (nats s) = out := by rw [HCA.out, hnil, cutAll_nil, List.append_nil]
      have HF := Lib.hid hfin; clear hfin hnil
      go_wp2_with fail
      go_ret2
      refine ⟨u7, rfl, HB.out, ?_⟩
      rw [HF.out]; exact HRO.out

/-- a slice of pairs, to be read: nil, or a row in a block of its own -/
def PRow (w : World) (v : Value) (cs : List (Nat × Nat)) : Prop :=
  (v = .slice none 0 0 ∧ cs = []) ∨ ∃ g cap, v = .slice (some ⟨g, 0, none⟩) cs.length cap ∧ cs.length ≤ cap ∧ g < w.heap.size ∧ ∀ i c, cs[i]? = some c → w.cell? ⟨g, i * 2, none⟩ = some (.int .i64 (c.1 : Int)) ∧ w.cell? ⟨g, i * 2 + 1, none⟩ = some (.int .i64 (c.2 : Int))
theorem chCells_get (cs : List (Nat × Nat)) : ∀ (i : Nat) (c : Nat × Nat), cs[i]? = some c → (chCells cs)[i * 2]? = some (.int .i64 (c.1 : Int)) ∧ (chCells cs)[i * 2 + 1]? = some (.int .i64 (c.2 : Int)) := by
  induction cs with
  | nil => intro i c h; simp at h
  | cons x t ih =>
    intro i c h
    have e : chCells (x :: t) = .int .i64 (x.1 : Int) :: .int .i64 (x.2 : Int) :: chCells t := rfl
    rw [e]
    cases i with
    | zero => simp at h; subst h; exact ⟨rfl, rfl⟩
    | succ i =>
      rw [List.getElem?_cons_succ] at h
      obtain ⟨h1, h2⟩ := ih i c h
      rw [show (i + 1) * 2 = i * 2 + 1 + 1 by omega]
      exact ⟨by rw [List.getElem?_cons_succ, List.getElem?_cons_succ]; exact h1, by rw [List.getElem?_cons_succ, List.getElem?_cons_succ]; exact h2⟩
theorem prow_of {w : World} {B : Nat} {e : TypeId} {v : Value} {cs : List (Nat × Nat)} (h : w.ownsRow B e 2 v cs.length (chCells cs)) : PRow w v cs := by
  have hcell := fun g hg => World.ownsRow.cells h (g := g) hg
  have hlt := World.ownsRow.lt h
  rcases h.2 with ⟨rfl, h0⟩ | ⟨g, cap, cur, rfl, -, -, hc, -⟩
  · exact .inl ⟨rfl, List.eq_nil_of_length_eq_zero h0⟩
  · refine .inr ⟨g, cap, rfl, hc, (hlt g rfl).2, fun i c hi => ?_⟩
    obtain ⟨h1, h2⟩ := chCells_get cs i c hi
    have a1 := hcell g rfl _ _ h1
    have a2 := hcell g rfl _ _ h2
    rw [show (⟨g, 0, none⟩ : Addr).add (i * 2) = ⟨g, i * 2, none⟩ by unfold Addr.add; split <;> simp_all] at a1
    rw [show (⟨g, 0, none⟩ : Addr).add (i * 2 + 1) = ⟨g, i * 2 + 1, none⟩ by unfold Addr.add; split <;> simp_all] at a2
    exact ⟨a1, a2⟩
theorem PRow.grown {w w' : World} {v : Value} {cs : List (Nat × Nat)} (h : PRow w v cs) {row : Option Nat} (k : w.grownBy w' row) (hne : ∀ q, v.ownBlock = some q → row ≠ some q) : PRow w' v cs := by
  rcases h with h | ⟨g, cap, rfl, hc, hg, hi⟩
  · exact .inl h
  · refine .inr ⟨g, cap, rfl, hc, Nat.lt_of_lt_of_le hg k.size, fun i c hx => ?_⟩
    have hb := k.block g hg (fun e => hne g rfl e.symm)
    obtain ⟨h1, h2⟩ := hi i c hx
    exact ⟨(World.cell?_of_block hb).trans h1, (World.cell?_of_block hb).trans h2⟩
theorem PRow.below {w w' : World} {v : Value} {cs : List (Nat × Nat)} (h : PRow w v cs) (k : Below w.heap.size w w') : PRow w' v cs :=
  h.grown (only_of_below k none) (fun q _ e => by cases e)
theorem PRow.drewN {w : World} {v : Value} {cs : List (Nat × Nat)} (h : PRow w v cs) (n : Nat) : PRow (w.drewN n) v cs := h

set_option maxRecDepth 100000 in
set_option maxHeartbeats 1000000 in
theorem chunks_any (v u : Value) (cs : List (Nat × Nat)) (w : World) (hv : PRow w v cs) (hu : PRow w u cs) (hl : cs.length ≤ 1048577) :
    Calls Tryd.prog 23 #[v, u] w fun e w' => e = .returned (.bool true) ∧ ∃ m, w' = w.drewN m := by
  obtain ⟨n, hn⟩ : ∃ n, cs.length = n := ⟨_, rfl⟩
  have hv2 : ∃ a cap, v = .slice a n cap ∧ n ≤ cap ∧ (0 < n → ∃ g, a = some ⟨g, 0, none⟩ ∧ ∀ i c, cs[i]? = some c → w.cell? ⟨g, i * 2, none⟩ = some (.int .i64 (c.1 : Int)) ∧ w.cell? ⟨g, i * 2 + 1, none⟩ = some (.int .i64 (c.2 : Int))) := by
    rcases hv with ⟨rfl, rfl⟩ | ⟨g, cap, rfl, hc, -, hi⟩
    · subst hn; exact ⟨none, 0, rfl, Nat.le_refl _, fun h => absurd h (by simp)⟩
    · exact ⟨_, cap, by rw [hn], by omega, fun _ => ⟨g, rfl, hi⟩⟩
  have hu2 : ∃ a cap, u = .slice a n cap ∧ n ≤ cap ∧ (0 < n → ∃ g, a = some ⟨g, 0, none⟩ ∧ ∀ i c, cs[i]? = some c → w.cell? ⟨g, i * 2, none⟩ = some (.int .i64 (c.1 : Int)) ∧ w.cell? ⟨g, i * 2 + 1, none⟩ = some (.int .i64 (c.2 : Int))) := by
    rcases hu with ⟨rfl, rfl⟩ | ⟨g, cap, rfl, hc, -, hi⟩
    · subst hn; exact ⟨none, 0, rfl, Nat.le_refl _, fun h => absurd h (by simp)⟩
    · exact ⟨_, cap, by rw [hn], by omega, fun _ => ⟨g, rfl, hi⟩⟩
  clear hv hu
  obtain ⟨a1, cap1, rfl, hc1, h1⟩ := hv2
  obtain ⟨a2, cap2, rfl, hc2, h2⟩ := hu2
  rw [hn] at hl
  have HN := Lib.hid hn; clear hn
  have H1 := Lib.hid h1; have H2 := Lib.hid h2
  clear h1 h2
  go_enter Tryd.func23, Tryd.ntmps23
  go_wp2_with fail
  go_loopw [5] (fun i wr => ∃ k : Nat, i = .int .i64 k ∧ k ≤ n ∧ Hid (∃ m, wr = w.drewN m)) (fun i _ => n - (intOf i).toNat)
  case atStart => exact ⟨0, rfl, Nat.zero_le _, 0, rfl⟩
  case round =>
    obtain ⟨k, rfl, hk, H⟩ := hrel
    obtain ⟨m, rfl⟩ := H.out
    clear H
    by_cases hlt : k < n
    · obtain ⟨c, hc⟩ : ∃ c, cs[k]? = some c := ⟨_, List.getElem?_eq_getElem (by rw [HN.out]; exact hlt)⟩
      obtain ⟨g1, rfl, hi1⟩ := H1.out (by omega)
      obtain ⟨g2, rfl, hi2⟩ := H2.out (by omega)
      obtain ⟨p1, p2⟩ := hi1 k c hc
      obtain ⟨q1, q2⟩ := hi2 k c hc
      obtain ⟨x, y⟩ := c
      dsimp only at p1 p2 q1 q2
      have hd1 : ((x : Int) != (x : Int)) = false := by simp
      clear hc hi1 hi2
      go_wp2_with fail
      go_quiet (fail)
      go_wp2_with fail
      go_roundw
      case rel => exact ⟨k + 1, by go_num, by omega, _, rfl⟩
      case measure => simp [intOf]; omega
    · obtain rfl : k = n := by omega
      go_wp2_with fail
      go_ret
      exact ⟨rfl, m, rfl⟩
end Go.Proofs.YtmnggemifcjflaaDoor
