/-
  The reference's splitter, the walk: Write.
-/
import Derived.Test.YtmnggemifcjflaaDoorRSplW
import Derived.Deep.RegionHeldLaw
namespace Go.Proofs.YtmnggemifcjflaaDoor
open Go.RowKit PlainP RollP OnesP SplitP

theorem none_setCell {a w : World} (h : a.grownBy w none) {p : Addr} (hp : a.heap.size ≤ p.block) (u : Value) : a.grownBy (w.setCell p u) none :=
  ⟨h.os, h.tape, h.output, by simpa [World.setCell] using h.size, fun i hi hne => (Below.heap_setCell w p u i (fun e => by omega)).trans (h.block i hi hne)⟩
set_option maxRecDepth 100000 in
set_option maxHeartbeats 2000000 in
theorem rwrite_any (w : World) (gm : Nat) (p : Plan) (r : ByteArray) (all : Nat) (s : ByteArray) (hp : p.Ok) (h : Blk w gm 55 (rsC p r all false)) (hcl : SplitP.Clean p (nats r)) (hr : r.size ≤ all) (hf : all + s.size ≤ 1048576) :
    Calls Tryd.prog 28 #[.pointer (some ⟨gm, 0, none⟩), .string s] w fun e w' => ∃ v r', e = .returned (.tuple #[v, .int .i64 0]) ∧ nats r' = (pieceF p (nats r) (nats s)).2 ∧ w.grownBy w' (some gm) ∧ Blk w' gm 55 (rsC p r' (all + s.size) false) ∧ RPieceRow w.heap.size w' v (pieceF p (nats r) (nats s)).1 := by
  obtain ⟨i0, hi0, hz0, hs0, hy0⟩ := info_parts rpiece_info
  obtain ⟨-, -, -, c3, c4, c5, ff⟩ := rs_facts h
  have f4 := ff 4
  have hg0 := h.lt
  have hd : ¬ ((1048576 : Int) - (all : Int) < (s.size : Int)) := by omega
  have hd2 : decide ((1048576 : Int) - (all : Int) < (s.size : Int)) = false := decide_eq_false hd
  have a1 : Blk (w.setCell ⟨gm, 4, none⟩ (.int .i64 ((all : Int) + (s.size : Int)))) gm 55 _ := h.set_ 4 (.int .i64 ((all : Int) + (s.size : Int)))
  have c3' : (w.setCell ⟨gm, 4, none⟩ (.int .i64 ((all : Int) + (s.size : Int)))).cell? ⟨gm, 3, none⟩ = some (.string r) := by rw [a1.cell]; rfl
  have f3' := a1.frozen 3
  have a2 := a1.set_ 3 (.string (r ++ s))
  have hsum : ((all + s.size : Nat) : Int) = (all : Int) + (s.size : Int) := by omega
  have k2 : w.grownBy ((w.setCell ⟨gm, 4, none⟩ (.int .i64 ((all : Int) + (s.size : Int)))).setCell ⟨gm, 3, none⟩ (.string (r ++ s))) (some gm) := only_setCell (only_setCell (only_refl w (some gm)) (.inl rfl) _) (.inl rfl) _
  have h2 : Blk ((w.setCell ⟨gm, 4, none⟩ (.int .i64 ((all : Int) + (s.size : Int)))).setCell ⟨gm, 3, none⟩ (.string (r ++ s))) gm 55 (rsC p (r ++ s) (all + s.size) false) := by
    unfold rsC; rw [hsum]; exact a2
  have hrs : (r ++ s).size ≤ 1048576 := by rw [ByteArray.size_append]; omega
  have htot := clean_from hcl (nats s)
  rw [← nats_append] at htot
  have hlen := pieceF_len p (nats (r ++ s)) []
  rw [nats_length, htot] at hlen
  have hfi := fun (q : ByteArray) W (h : q.size ≤ 1048576) => first_any p q W hp h
  unfold planVP planV at hfi
  generalize hT1 : (pieceF p (nats r) (nats s)).1 = T1 at *
  generalize hT2 : (pieceF p (nats r) (nats s)).2 = T2 at *
  have hst : pieceF p [] (nats (r ++ s)) = (T1, T2) := by rw [htot, ← hT1, ← hT2]
  have HF := Lib.hid hfi; have H2 := Lib.hid h2; have K2 := Lib.hid k2; have HST := Lib.hid hst; have HLEN := Lib.hid hlen
  clear hfi h2 k2 hst hlen htot hT1 hT2 a2 a1 h ff hsum hcl hp
  go_enter Tryd.func28, Tryd.ntmps28
  go_wp2_with fail
  generalize hR : r ++ s = R at *
  go_loopw [6, 7, 8] (fun v6 _ _ wr => Hid (∃ (q : ByteArray) (out : List (List Nat × Nat)), q.size ≤ R.size ∧ w.grownBy wr (some gm) ∧ Blk wr gm 55 (rsC p q (all + s.size) false) ∧ RPieceRow w.heap.size wr v6 out ∧ out ++ (pieceF p [] (nats q)).1 = T1 ∧ (pieceF p [] (nats q)).2 = T2)) (fun _ _ _ wr => restLen gm wr)
  case atStart => exact ⟨R, [], Nat.le_refl _, K2.out, H2.out, World.ownsRow_nil _ _ _ _, by rw [HST.out]; rfl, by rw [HST.out]⟩
  case round =>
    obtain ⟨q, out, hq, hG, hB, hO, ho1, ho2⟩ := hrel.out
    clear hrel
    obtain ⟨c0, c1, c2, c3, -, -, ff⟩ := rs_facts hB
    by_cases h0 : 0 < q.size
    · obtain ⟨m, lev, b, e1, hm, hb1, hb2⟩ : ∃ m lev b, firstF p [] (nats q) = (m, lev, b) ∧ m ≤ q.size ∧ (b = true → 0 < m ∧ pieceF p [] (nats q) = (((nats q).take m, lev) :: (pieceF p [] ((nats q).drop m)).1, (pieceF p [] ((nats q).drop m)).2)) ∧ (b = false → pieceF p [] (nats q) = ([], nats q)) := by
        rcases firstF_piece p (nats q) [] with ⟨m, lev, e1, e2, e3, e4⟩ | ⟨e1, e2⟩
        · simp only [List.length_nil, Nat.zero_add, List.nil_append] at e1 e4
          rw [nats_length] at e3
          exact ⟨m, lev, true, e1, e3, fun _ => ⟨e2, e4⟩, fun h => by cases h⟩
        · simp only [List.length_nil, Nat.zero_add, List.nil_append] at e1 e2
          rw [nats_length] at e1
          exact ⟨_, _, false, e1, Nat.le_refl _, (fun h => by cases h), fun _ => e2⟩
      have hfq := fun W => HF.out q W (by omega)
      rw [e1] at hfq
      unfold firstV at hfq
      dsimp only at hfq
      have hS : ∀ X : World, wr.grownBy X none → X.cell? ⟨gm, 0, none⟩ = some (.int .i64 p.bits) ∧ X.cell? ⟨gm, 1, none⟩ = some (.int .i64 p.fan) ∧ X.cell? ⟨gm, 2, none⟩ = some (.int .i64 p.most) ∧ X.cell? ⟨gm, 3, none⟩ = some (.string q) := fun X k =>
        ⟨(hB.grown k (by simp)).cell 0, (hB.grown k (by simp)).cell 1, (hB.grown k (by simp)).cell 2, (hB.grown k (by simp)).cell 3⟩
      have hN := Blk.new wr 91 #[.int .i64 0, .int .i64 0]
      have HFQ := Lib.hid hfq; have HG := Lib.hid hG; have HB := Lib.hid hB; have HO := Lib.hid hO; have HO1 := Lib.hid ho1; have HO2 := Lib.hid ho2; have HS := Lib.hid hS; have HN := Lib.hid hN; have HB1 := Lib.hid hb1; have HB2 := Lib.hid hb2
      clear hfq hG hB hO ho1 ho2 e1 ff hS hN hb1 hb2
      go_upto_region 9 with (fail)
      go_cut [7, 8] from 46 to 57 (fun v7 v8 wx => ∃ g7 : Nat, v7 = .pointer (some ⟨g7, 0, none⟩) ∧ v8 = .bool b ∧ Hid (wr.heap.size ≤ g7 ∧ wr.grownBy wx none ∧ Blk wx g7 91 #[.int .i64 m, .int .i64 lev]))
      case first =>
        go_region_held_law (fun X => X.cell? ⟨gm, 0, none⟩ = some (.int .i64 p.bits) ∧ X.cell? ⟨gm, 1, none⟩ = some (.int .i64 p.fan) ∧ X.cell? ⟨gm, 2, none⟩ = some (.int .i64 p.most) ∧ X.cell? ⟨gm, 3, none⟩ = some (.string q))
          (first | exact HS.out _ (only_drew (only_refl wr none)) | exact HS.out _ (only_drew (World.grownBy_alloc wr _ none)) | exact HS.out _ K2.out | exact HS.out _ (only_alloc K2.out _) | exact HS.out _ (none_setCell (none_setCell K2.out (p := ⟨_, 0, none⟩) (Nat.le_refl _) _) (p := ⟨_, 1, none⟩) (Nat.le_refl _) _))
          (first
            | (go_at_call 38; refine (HFQ.out wr.drew).mono ?_; rintro e w2 ⟨rfl, hb⟩; have K2 := Lib.hid ((only_drew (only_refl wr none)).trans (only_of_below hb none)); clear hb)
            | (go_at_call 38; refine (HFQ.out _).mono ?_; rintro e w2 ⟨rfl, hb⟩; have hK := (only_drew (World.grownBy_alloc wr _ none)).trans (only_of_below hb none); have hN2 := HN.out.drew.grown (only_of_below hb none) (by simp); have x0 := hN2.cell 0; have x1 := hN2.cell 1; have y0 := hN2.frozen 0; have y1 := hN2.frozen 1; have K2 := Lib.hid hK; have N2 := Lib.hid hN2; clear hb hK hN2))
        all_goals (
          go_wp2_with fail
          go_meet
          case rel => first | exact ⟨_, rfl, rfl, K2.out.size, only_alloc K2.out _, Blk.new w2 _ _⟩ | exact ⟨_, rfl, rfl, Nat.le_refl _, none_setCell (none_setCell K2.out (p := ⟨_, 0, none⟩) (Nat.le_refl _) _) (p := ⟨_, 1, none⟩) (Nat.le_refl _) _, (N2.out.set_ 0 _).set_ 1 _⟩)
      case rest =>
      obtain ⟨g7, rfl, rfl, H7⟩ := hcut
      obtain ⟨hg7, hk7, hN7⟩ := H7.out
      have hB7 := HB.out.grown hk7 (by simp)
      have hO7 : wc.ownsRow w.heap.size 100 2 u6 out.length (pcCells out) := own_kept HO.out hk7 (fun _ _ e => by cases e)
      have hG7 := HG.out.trans (only_trans hk7 (only_refl wc none) |> fun h => (⟨h.os, h.tape, h.output, h.size, fun i hi _ => h.block i hi (by simp)⟩ : wr.grownBy wc (some gm)))
      clear HN HS H7 HFQ
      cases b with
      | true =>
        obtain ⟨hm0, hpc⟩ := HB1.out rfl
        have ho1 := HO1.out
        have ho2 := HO2.out
        rw [hpc] at ho1 ho2
        dsimp only at ho1 ho2
        have hnl := congrArg List.length ho1
        have hLN := HLEN.out
        rw [List.length_append, List.length_cons] at hnl
        have hx1 : nats (q.extract 0 m) = (nats q).take m := by rw [nats_extract, List.drop_zero, Nat.sub_zero]
        have hx2 : nats (q.extract m q.size) = (nats q).drop m := by rw [nats_extract]; exact List.take_of_length_le (by rw [List.length_drop, nats_length]; omega)
        have hx3 : (q.extract m q.size).size = q.size - m := by rw [ByteArray.size_extract]; omega
        have hx4 : mkS ((nats q).take m) = q.extract 0 m := by rw [← hx1, mkS_nats]
        have s1 : wc.drew.cell? ⟨gm, 3, none⟩ = some (.string q) ∧ wc.drew.cell? ⟨g7, 0, none⟩ = some (.int .i64 m) ∧ wc.drew.cell? ⟨g7, 1, none⟩ = some (.int .i64 lev) := ⟨hB7.drew.cell 3, hN7.drew.cell 0, hN7.drew.cell 1⟩
        have hal := World.grownBy_alloc wc.drew (.cells #[.string (q.extract 0 m), .int .i64 lev] 100) none
        have hB8 := hB7.drew.grown hal (by simp)
        have hN8 := hN7.drew.grown hal (by simp)
        have hO8 : (wc.drew.alloc (.cells #[.string (q.extract 0 m), .int .i64 lev] 100)).ownsRow w.heap.size 100 2 u6 out.length (pcCells out) := own_kept (w := wc.drew) hO7 hal (fun _ _ e => by cases e)
        have s2 := And.intro (hB8.cell 3) (And.intro (hN8.cell 0) (hN8.cell 1))
        have hwz := hG7.size
        have hnew := news_at wc.drew #[.string (q.extract 0 m), .int .i64 lev] 100 wc.heap.size rfl
        have hF : ∀ v3 w3, w3.ownsRow w.heap.size 100 2 v3 (out.length + 1) (pcCells out ++ [.string (q.extract 0 m), .int .i64 lev]) → (wc.drew.alloc (.cells #[.string (q.extract 0 m), .int .i64 lev] 100)).grownBy w3 u6.ownBlock →
            w.grownBy w3 (some gm) ∧ Blk w3 gm 55 (rsC p q (all + s.size) false) ∧ Blk w3 g7 91 #[.int .i64 m, .int .i64 lev] ∧ RPieceRow w.heap.size w3 v3 (out ++ [((nats q).take m, lev)]) := by
          intro v3 w3 ho hg
          have hB9 := hB8.grown hg (own_ne hO8 hB8 (by decide))
          have hN9 := hN8.grown hg (own_ne hO8 hN8 (by decide))
          have hGA : w.grownBy (wc.drew.alloc (.cells #[.string (q.extract 0 m), .int .i64 lev] 100)) (some gm) := only_alloc (only_drew hG7) _
          refine ⟨⟨hg.os.trans hGA.os, hg.tape.trans hGA.tape, hg.output.trans hGA.output, Nat.le_trans hGA.size hg.size, fun i hi hne => (hg.block i (Nat.lt_of_lt_of_le hi hGA.size) (fun e => by have := (World.ownsRow.lt hO8 i e.symm).1; omega)).trans (hGA.block i hi hne)⟩, hB9, hN9, ?_⟩
          unfold RPieceRow
          rw [pcCells_append, List.length_append, show pcCells [((nats q).take m, lev)] = [.string (mkS ((nats q).take m)), .int .i64 lev] from rfl, hx4]
          exact ho
        have S1 := Lib.hid s1; have S2 := Lib.hid s2; have HF2 := Lib.hid hF; have HO8 := Lib.hid hO8; have HNW := Lib.hid hnew; have HO1' := Lib.hid ho1; have HO2' := Lib.hid ho2; have HX2 := Lib.hid hx2
        clear hO8 s1 s2 hal hB8 hN8 hnew hF hB7 hN7 hO7 hk7 ho1 ho2 hpc hx1 hx2 hx4 HB1 HB2 HO HO1 HO2 HG HB
        have hmeas1 : restLen gm wr = q.size := by unfold restLen; rw [c3]
        go_upto_region 11 with (fail)
        go_cut [6] from 60 to 72 (fun v6 wx => Hid (w.grownBy wx (some gm) ∧ Blk wx gm 55 (rsC p q (all + s.size) false) ∧ Blk wx g7 91 #[.int .i64 m, .int .i64 lev] ∧ RPieceRow w.heap.size wx v6 (out ++ [((nats q).take m, lev)])))
        case first =>
          go_region_held_law (fun X => X.cell? ⟨gm, 3, none⟩ = some (.string q) ∧ X.cell? ⟨g7, 0, none⟩ = some (.int .i64 m) ∧ X.cell? ⟨g7, 1, none⟩ = some (.int .i64 lev))
            (first | exact S1.out | exact S2.out | exact S3.out)
            ((refine step_append_own rfl _ _ 59 rfl w.heap.size 100 i0 (.agg #[.string .empty, .int .i64 0]) 2 24 Tryd.underlying59 hi0 hz0 hs0 hy0 rfl (by decide) _ out.length _ rfl HO8.out ⟨wc.heap.size, 0, none⟩ 1 1 [.string (q.extract 0 m), .int .i64 lev] rfl rfl HNW.out (by intro u hu; simp at hu; rcases hu with rfl | rfl <;> rfl) (by unfold maxLen; omega) (by omega) (by simp; omega) ?_; intro v3 w3 hown3 hgrow3 _; obtain ⟨t1, t2, t3, t4⟩ := HF2.out v3 w3 hown3 hgrow3; have S3 := Lib.hid (And.intro (t2.cell 3) (And.intro (t3.cell 0) (t3.cell 1))); have T1 := Lib.hid t1; have T2 := Lib.hid t2; have T3 := Lib.hid t3; have T4 := Lib.hid t4; clear hown3 hgrow3 t1 t2 t3 t4))
          all_goals (
            go_wp2_with fail
            go_meet
            case rel => exact ⟨T1.out, T2.out, T3.out, T4.out⟩)
        case rest =>
        obtain ⟨t1, t2, t3, t4⟩ := hcut.out
        have y3 : wc.cell? ⟨gm, 3, none⟩ = some (.string q) := t2.cell 3
        have z3 := t2.frozen 3
        have y0 : wc.cell? ⟨g7, 0, none⟩ = some (.int .i64 m) := t3.cell 0
        have hn2 : Blk (wc.setCell ⟨gm, 3, none⟩ (.string (q.extract m q.size))) gm 55 (rsC p (q.extract m q.size) (all + s.size) false) := t2.set_ 3 (.string (q.extract m q.size))
        have hk1 : wc.grownBy (wc.setCell ⟨gm, 3, none⟩ (.string (q.extract m q.size))) (some gm) := only_setCell (only_refl wc (some gm)) (.inl rfl) _
        have hG2 := t1.trans hk1
        have hO2 : RPieceRow w.heap.size (wc.setCell ⟨gm, 3, none⟩ (.string (q.extract m q.size))) u6 (out ++ [((nats q).take m, lev)]) := own_kept t4 hk1 (fun k hk e => own_ne t4 t2 (by decide) (e.trans hk.symm))
        have hmeas2 : restLen gm (wc.setCell ⟨gm, 3, none⟩ (.string (q.extract m q.size))) = q.size - m := by
          unfold restLen
          rw [hn2.cell]
          exact hx3
        have HN2 := Lib.hid hn2; have HG2 := Lib.hid hG2; have HO2 := Lib.hid hO2; have HME := Lib.hid hmeas2; have HM1 := Lib.hid hmeas1
        clear t1 t2 t3 t4 hn2 hk1 hG2 hO2 hmeas2 hmeas1 hcut
        go_wp2_with fail
        go_region
        all_goals (
          go_wp2_with fail
          go_roundw
          case rel => exact ⟨q.extract m q.size, out ++ [((nats q).take m, lev)], by omega, only_drew HG2.out, HN2.out.drew, HO2.out, by rw [HX2.out, List.append_assoc]; exact HO1'.out, by rw [HX2.out]; exact HO2'.out⟩
          case measure =>
            rw [HM1.out]
            show restLen gm (wc.setCell ⟨gm, 3, none⟩ (.string (q.extract m q.size))) < q.size
            rw [HME.out]
            omega)
      | false =>
        have hpc := HB2.out rfl
        have ho1 := HO1.out
        have ho2 := HO2.out
        rw [hpc] at ho1 ho2
        dsimp only at ho1 ho2
        rw [List.append_nil] at ho1
        have HR1 := Lib.hid ho1; have HR2 := Lib.hid ho2
        clear ho1 ho2 hpc
        go_wp2_with fail
        go_ret2
        rw [HR1.out] at hO7
        first | exact ⟨u6, q, rfl, HR2.out, hG7, hB7, hO7⟩ | exact ⟨u6, rfl, q, HR2.out, hG7, hB7, hO7⟩
    · have hz : q.size = 0 := by omega
      have hnil : nats q = [] := List.eq_nil_of_length_eq_zero (by rw [nats_length]; exact hz)
      rw [hnil, pieceF_nil, List.append_nil] at ho1
      rw [hnil, pieceF_nil] at ho2
      dsimp only at ho1 ho2
      have HR1 := Lib.hid ho1; have HR2 := Lib.hid ho2; have HG := Lib.hid hG; have HB := Lib.hid hB; have HO := Lib.hid hO
      clear ho1 ho2 hG hB hO
      go_wp2_with fail
      go_ret2
      exact ⟨u6, q, rfl, by rw [hnil]; exact HR2.out, HG.out, HB.out, by rw [← HR1.out]; exact HO.out⟩
end Go.Proofs.YtmnggemifcjflaaDoor
