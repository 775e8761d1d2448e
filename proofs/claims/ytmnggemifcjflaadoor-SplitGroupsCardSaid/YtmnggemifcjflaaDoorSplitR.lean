/-
  Cuts, the walk over the reference: Check, First, Cut; and 'in' of the law.
-/
import Derived.Test.YtmnggemifcjflaaDoorSplitW4
namespace Go.Proofs.YtmnggemifcjflaaDoor
open Go.RowKit PlainP RollP OnesP SplitP

set_option maxRecDepth 100000 in
set_option maxHeartbeats 1000000 in
theorem rcheck_any (b f m : Int) (w : World) :
    Calls Tryd.prog 25 #[planV b f m] w fun e w' => e = .returned (.int .i64 (planE b f m)) ∧ Below w.heap.size w w' := by
  unfold planV
  by_cases h1 : b < 4
  · have hv : planE b f m = 90 := if_neg (by omega)
    rw [hv]
    go_enter Tryd.func25, Tryd.ntmps25
    go_wp2_with fail
    go_ret
    exact ⟨rfl, by go_grown⟩
  by_cases h2 : 16 < b
  · have hv : planE b f m = 90 := if_neg (by omega)
    rw [hv]
    go_enter Tryd.func25, Tryd.ntmps25
    go_wp2_with fail
    go_ret
    exact ⟨rfl, by go_grown⟩
  by_cases h3 : f < 1
  · have hv : planE b f m = 90 := if_neg (by omega)
    rw [hv]
    go_enter Tryd.func25, Tryd.ntmps25
    go_wp2_with fail
    go_ret
    exact ⟨rfl, by go_grown⟩
  by_cases h4 : 8 < f
  · have hv : planE b f m = 90 := if_neg (by omega)
    rw [hv]
    go_enter Tryd.func25, Tryd.ntmps25
    go_wp2_with fail
    go_ret
    exact ⟨rfl, by go_grown⟩
  by_cases h5 : m < 64
  · have hv : planE b f m = 90 := if_neg (by omega)
    rw [hv]
    go_enter Tryd.func25, Tryd.ntmps25
    go_wp2_with fail
    go_ret
    exact ⟨rfl, by go_grown⟩
  by_cases h6 : 65536 < m
  · have hv : planE b f m = 90 := if_neg (by omega)
    rw [hv]
    go_enter Tryd.func25, Tryd.ntmps25
    go_wp2_with fail
    go_ret
    exact ⟨rfl, by go_grown⟩
  · have hv : planE b f m = 0 := if_pos (by omega)
    rw [hv]
    go_enter Tryd.func25, Tryd.ntmps25
    go_wp2_with fail
    go_ret
    exact ⟨rfl, by go_grown⟩


set_option maxRecDepth 100000 in
theorem in_any (b f m : Int) (w : World) :
    Calls Tryd.prog 22 #[planV b f m] w fun e w' => e = .returned (planV b f m) ∧ Below w.heap.size w w' := by
  unfold planV
  go_enter Tryd.func22, Tryd.ntmps22
  go_wp2_with fail
  go_returns
  exact ⟨rfl, by go_grown⟩

/-- the first chunk, and whether it ends whatever comes -/
def firstF (p : Plan) : List Nat → List Nat → Nat × Nat × Bool
  | seg, [] => (seg.length, 0, false)
  | seg, b :: t => match ends p (seg ++ [b]) with
    | some lev => (seg.length + 1, lev, true)
    | none => firstF p (seg ++ [b]) t
theorem firstF_yes (p : Plan) (seg : List Nat) (b : Nat) (t : List Nat) (lev : Nat) (h : ends p (seg ++ [b]) = some lev) : firstF p seg (b :: t) = (seg.length + 1, lev, true) := by
  rw [firstF, h]
theorem firstF_no (p : Plan) (seg : List Nat) (b : Nat) (t : List Nat) (h : ends p (seg ++ [b]) = none) : firstF p seg (b :: t) = firstF p (seg ++ [b]) t := by
  rw [firstF, h]

def firstV (r : Nat × Nat × Bool) : Value := .tuple #[.agg #[.int .i64 (r.1 : Int), .int .i64 (r.2.1 : Int)], .bool r.2.2]

set_option maxRecDepth 100000 in
set_option maxHeartbeats 4000000 in
theorem first_any (p : Plan) (s : ByteArray) (w : World) (hp : p.Ok) (hs : s.size ≤ 1048576) :
    Calls Tryd.prog 38 #[planVP p, .string s] w fun e w' => e = .returned (firstV (firstF p [] (nats s))) ∧ Below w.heap.size w w' := by
  obtain ⟨b4, b16, f1, f8, m64, m65⟩ := hp
  have hn := nats_length s
  have HN := Lib.hid hn; clear hn
  unfold planVP planV
  go_enter Tryd.func38, Tryd.ntmps38
  go_wp2_with fail
  have hW : Below w.heap.size w ((w.alloc (.cells #[.int .i64 (p.bits : Int), .int .i64 (p.fan : Int), .int .i64 (p.most : Int)] 33)).alloc (.cells #[.int .i64 0, .int .i64 0] 91)) ∧
      Blk ((w.alloc (.cells #[.int .i64 (p.bits : Int), .int .i64 (p.fan : Int), .int .i64 (p.most : Int)] 33)).alloc (.cells #[.int .i64 0, .int .i64 0] 91)) w.heap.size 33 #[.int .i64 (p.bits : Int), .int .i64 (p.fan : Int), .int .i64 (p.most : Int)] ∧
      Blk ((w.alloc (.cells #[.int .i64 (p.bits : Int), .int .i64 (p.fan : Int), .int .i64 (p.most : Int)] 33)).alloc (.cells #[.int .i64 0, .int .i64 0] 91)) (w.heap.size + 1) 91 #[.int .i64 0, .int .i64 0] := by
    refine ⟨by go_grown, (Blk.new w _ _).alloc _, ?_⟩
    have h := Blk.new (w.alloc (.cells #[.int .i64 (p.bits : Int), .int .i64 (p.fan : Int), .int .i64 (p.most : Int)] 33)) 91 #[.int .i64 0, .int .i64 0]
    simp only [World.size_alloc] at h
    exact h
  generalize (w.alloc (.cells #[.int .i64 (p.bits : Int), .int .i64 (p.fan : Int), .int .i64 (p.most : Int)] 33)).alloc (.cells #[.int .i64 0, .int .i64 0] 91) = W at *
  obtain ⟨hB, hK, hC⟩ := hW
  have c0 : W.cell? ⟨w.heap.size, 0, none⟩ = some (.int .i64 (p.bits : Int)) := by rw [hK.cell]; rfl
  have c1 : W.cell? ⟨w.heap.size, 1, none⟩ = some (.int .i64 (p.fan : Int)) := by rw [hK.cell]; rfl
  have c2 : W.cell? ⟨w.heap.size, 2, none⟩ = some (.int .i64 (p.most : Int)) := by rw [hK.cell]; rfl
  have k0 : W.cell? ⟨w.heap.size + 1, 0, none⟩ = some (.int .i64 0) := by rw [hC.cell]; rfl
  have k1 : W.cell? ⟨w.heap.size + 1, 1, none⟩ = some (.int .i64 0) := by rw [hC.cell]; rfl
  have z0 := hC.frozen 0
  have z1 := hC.frozen 1
  have HB := Lib.hid hB; have HC := Lib.hid hC; clear hB hK hC
  go_loop [6, 7] (fun i _ => ∃ k : Nat, i = .int .i64 ((k : Int) + 1) ∧ k ≤ s.size ∧ k < p.most ∧ Hid (firstF p [] (nats s) = firstF p ((nats s).take k) ((nats s).drop k))) (fun i _ => s.size + 1 - (intOf i).toNat)
  case atStart => exact ⟨0, rfl, Nat.zero_le _, by omega, rfl⟩
  case round =>
    obtain ⟨k, rfl, hk, HMOST, H⟩ := hrel
    by_cases hlt : k < s.size
    · obtain ⟨x, hx⟩ : ∃ x, (nats s)[k]? = some x := ⟨_, List.getElem?_eq_getElem (by rw [HN.out]; exact hlt)⟩
      have htk : (nats s).take k ++ [x] = (nats s).take (k + 1) := by rw [List.take_add_one, hx]; rfl
      have hdk : (nats s).drop k = x :: (nats s).drop (k + 1) := by rw [List.drop_eq_getElem?_toList_append, hx]; rfl
      have hlen : ((nats s).take k).length = k := by rw [List.length_take, HN.out]; omega
      have hext : nats (s.extract 0 (k + 1)) = (nats s).take k ++ [x] := by rw [nats_extract, List.drop_zero, Nat.sub_zero, htk]
      have hzx : (s.extract 0 (k + 1)).size = k + 1 := by rw [ByteArray.size_extract]; omega
      have hof := fun V => ref_any (s.extract 0 (k + 1)) V (by omega)
      have hds : digS (s.extract 0 (k + 1)) = dig (win ((nats s).take k ++ [x])) := by unfold digS; rw [hext]
      rw [hds] at hof
      have hon := fun V => refOnes_any (dig (win ((nats s).take k ++ [x]))) (dig_lt32 _) V
      obtain ⟨o, ho⟩ : ∃ o, ones (dig (win ((nats s).take k ++ [x]))) = o := ⟨_, rfl⟩
      have ho32 : o ≤ 32 := by rw [← ho]; exact ones_le _
      have hends : ends p ((nats s).take k ++ [x]) = if p.bits ≤ o then some ((o - p.bits) / p.fan) else if p.most ≤ k + 1 then some 0 else none := by
        unfold ends; rw [ho, List.length_append, hlen]; rfl
      rw [ho] at hon
      generalize dig (win ((nats s).take k ++ [x])) = d at *
      have HOF := Lib.hid hof; clear hof hds hext
      have HON := Lib.hid hon; clear hon ho
      have HE := Lib.hid hends; clear hends
      have HTK := Lib.hid htk; have HDK := Lib.hid hdk; have HLE := Lib.hid hlen
      clear htk hdk hlen hx
      by_cases hA : p.bits ≤ o
      · obtain ⟨z, hz⟩ : ∃ z : Nat, (o : Int) - (p.bits : Int) = (z : Int) := ⟨o - p.bits, by omega⟩
        have hzq : o - p.bits = z := by omega
        obtain ⟨lev, hlev⟩ : ∃ lev, z / p.fan = lev := ⟨_, rfl⟩
        have hq1 : (z : Int) / (p.fan : Int) = (lev : Int) := by rw [← hlev, Int.natCast_ediv]
        have hq2 : (z : Int).tdiv (p.fan : Int) = (lev : Int) := by rw [← hlev, Int.ofNat_tdiv]
        have hf0 : ¬ (p.fan = 0) := by omega
        have hl32 : lev ≤ 32 := by rw [← hlev]; exact Nat.le_trans (Nat.div_le_self _ _) (by omega)
        have hqw : IntKind.i64.wrap (lev : Int) = (lev : Int) := by rw [IntKind.wrap_i64]; omega
        have hfin : firstF p [] (nats s) = (k + 1, lev, true) := by
          rw [H.out, HDK.out, firstF_yes p _ x _ lev (by rw [HE.out, if_pos hA, hzq, hlev]), HLE.out]
        have HF := Lib.hid hfin; clear hfin hzq
        have HLV := Lib.hid hlev; clear hlev
        go_wp2_with fail
        refine (HOF.out _).mono ?_
        rintro e w2 ⟨rfl, rfl⟩
        go_wp2_with fail
        refine (HON.out _).mono ?_
        rintro e w2 ⟨rfl, rfl⟩
        go_wp2_with fail
        have hk := (HC.out.set_ 0 (.int .i64 ((k : Int) + 1))).set_ 1 (.int .i64 (lev : Int))
        have e0 : ((W.setCell ⟨w.heap.size + 1, 0, none⟩ (.int .i64 ((k : Int) + 1))).setCell ⟨w.heap.size + 1, 1, none⟩ (.int .i64 (lev : Int))).cell? ⟨w.heap.size + 1, 0, none⟩ = some (.int .i64 ((k : Int) + 1)) := by rw [hk.cell]; rfl
        have e1 : ((W.setCell ⟨w.heap.size + 1, 0, none⟩ (.int .i64 ((k : Int) + 1))).setCell ⟨w.heap.size + 1, 1, none⟩ (.int .i64 (lev : Int))).cell? ⟨w.heap.size + 1, 1, none⟩ = some (.int .i64 (lev : Int)) := by rw [hk.cell]; rfl
        have hBW : Below w.heap.size w ((W.setCell ⟨w.heap.size + 1, 0, none⟩ (.int .i64 ((k : Int) + 1))).setCell ⟨w.heap.size + 1, 1, none⟩ (.int .i64 (lev : Int))) := (HB.out.setCell (p := ⟨w.heap.size + 1, 0, none⟩) (Nat.le_succ _) _).setCell (p := ⟨w.heap.size + 1, 1, none⟩) (Nat.le_succ _) _
        clear hk
        generalize (W.setCell ⟨w.heap.size + 1, 0, none⟩ (.int .i64 ((k : Int) + 1))).setCell ⟨w.heap.size + 1, 1, none⟩ (.int .i64 (lev : Int)) = WF at *
        try simp only [Exit.inBlock, Exit.then]
        refine bodyPost_ret (by simp [results, Tryd.results38, go_sem, e0, e1]; try rfl) rfl ?_
        refine ⟨?_, hBW⟩
        rw [HF.out]; rfl
      · by_cases hM : k + 1 < p.most
        · have hfin : firstF p [] (nats s) = firstF p ((nats s).take (k + 1)) ((nats s).drop (k + 1)) := by
            rw [H.out, HDK.out, firstF_no p _ x _ (by rw [HE.out, if_neg hA, if_neg (by omega)]), HTK.out]
          have HF := Lib.hid hfin; clear hfin
          go_wp2_with fail
          refine (HOF.out _).mono ?_
          rintro e w2 ⟨rfl, rfl⟩
          go_wp2_with fail
          refine (HON.out _).mono ?_
          rintro e w2 ⟨rfl, rfl⟩
          go_wp2_with fail
          go_round
          case rel => exact ⟨k + 1, by go_num, by omega, hM, HF.out⟩
          case measure => simp [intOf]; omega
        · have HA2 : o < p.bits := by omega
          have hfin : firstF p [] (nats s) = (k + 1, 0, true) := by
            rw [H.out, HDK.out, firstF_yes p _ x _ 0 (by rw [HE.out, if_neg hA, if_pos (by omega)]), HLE.out]
          have HF := Lib.hid hfin; clear hfin
          by_cases hEq : k + 1 = p.most
          · have hEi : ((k : Int) + 1 == (p.most : Int)) = true := by rw [beq_iff_eq]; omega
            have HEQ := Lib.hid hEq; clear hEq hA hM
            have hA : o < p.bits := HA2
            go_wp2_with fail
            refine (HOF.out _).mono ?_
            rintro e w2 ⟨rfl, rfl⟩
            go_wp2_with fail
            refine (HON.out _).mono ?_
            rintro e w2 ⟨rfl, rfl⟩
            go_wp2_with fail
            have hk := (HC.out.set_ 0 (.int .i64 ((k : Int) + 1))).set_ 1 (.int .i64 0)
            have e0 : ((W.setCell ⟨w.heap.size + 1, 0, none⟩ (.int .i64 ((k : Int) + 1))).setCell ⟨w.heap.size + 1, 1, none⟩ (.int .i64 0)).cell? ⟨w.heap.size + 1, 0, none⟩ = some (.int .i64 ((k : Int) + 1)) := by rw [hk.cell]; rfl
            have e1 : ((W.setCell ⟨w.heap.size + 1, 0, none⟩ (.int .i64 ((k : Int) + 1))).setCell ⟨w.heap.size + 1, 1, none⟩ (.int .i64 0)).cell? ⟨w.heap.size + 1, 1, none⟩ = some (.int .i64 0) := by rw [hk.cell]; rfl
            have hBW : Below w.heap.size w ((W.setCell ⟨w.heap.size + 1, 0, none⟩ (.int .i64 ((k : Int) + 1))).setCell ⟨w.heap.size + 1, 1, none⟩ (.int .i64 0)) := (HB.out.setCell (p := ⟨w.heap.size + 1, 0, none⟩) (Nat.le_succ _) _).setCell (p := ⟨w.heap.size + 1, 1, none⟩) (Nat.le_succ _) _
            clear hk
            generalize (W.setCell ⟨w.heap.size + 1, 0, none⟩ (.int .i64 ((k : Int) + 1))).setCell ⟨w.heap.size + 1, 1, none⟩ (.int .i64 0) = WF at *
            try simp only [Exit.inBlock, Exit.then]
            refine bodyPost_ret (by simp [results, Tryd.results38, go_sem, e0, e1]; try rfl) rfl ?_
            refine ⟨?_, hBW⟩
            rw [HF.out]; rfl
          · exfalso
            exact hEq (by have := HMOST; omega)
    · obtain rfl : k = s.size := by omega
      have hfin : firstF p [] (nats s) = (s.size, 0, false) := by
        rw [H.out, List.drop_eq_nil_of_le (by rw [HN.out]; omega), firstF, List.take_of_length_le (by rw [HN.out]; omega), HN.out]
      have HF := Lib.hid hfin; clear hfin
      go_wp2_with fail
      have hk := (HC.out.set_ 0 (.int .i64 (s.size : Int))).set_ 1 (.int .i64 0)
      have e0 : ((W.setCell ⟨w.heap.size + 1, 0, none⟩ (.int .i64 (s.size : Int))).setCell ⟨w.heap.size + 1, 1, none⟩ (.int .i64 0)).cell? ⟨w.heap.size + 1, 0, none⟩ = some (.int .i64 (s.size : Int)) := by rw [hk.cell]; rfl
      have e1 : ((W.setCell ⟨w.heap.size + 1, 0, none⟩ (.int .i64 (s.size : Int))).setCell ⟨w.heap.size + 1, 1, none⟩ (.int .i64 0)).cell? ⟨w.heap.size + 1, 1, none⟩ = some (.int .i64 0) := by rw [hk.cell]; rfl
      have hBW : Below w.heap.size w ((W.setCell ⟨w.heap.size + 1, 0, none⟩ (.int .i64 (s.size : Int))).setCell ⟨w.heap.size + 1, 1, none⟩ (.int .i64 0)) := (HB.out.setCell (p := ⟨w.heap.size + 1, 0, none⟩) (Nat.le_succ _) _).setCell (p := ⟨w.heap.size + 1, 1, none⟩) (Nat.le_succ _) _
      clear hk
      generalize (W.setCell ⟨w.heap.size + 1, 0, none⟩ (.int .i64 (s.size : Int))).setCell ⟨w.heap.size + 1, 1, none⟩ (.int .i64 0) = WF at *
      try simp only [Exit.inBlock, Exit.then]
      refine bodyPost_ret (by simp [results, Tryd.results38, go_sem, e0, e1]; try rfl) rfl ?_
      refine ⟨?_, hBW⟩
      rw [HF.out]; rfl
end Go.Proofs.YtmnggemifcjflaaDoor
