/-
  Cuts, the walk: Check and Cut of the program.
-/
import Derived.Test.YtmnggemifcjflaaDoorSplitW3
namespace Go.Proofs.YtmnggemifcjflaaDoor
open Go.RowKit PlainP RollP OnesP SplitP

/-- may this plan be? -/
def planOk (b f m : Int) : Prop := 4 ≤ b ∧ b ≤ 16 ∧ 1 ≤ f ∧ f ≤ 8 ∧ 64 ≤ m ∧ m ≤ 65536
def planE (b f m : Int) : Int := if 4 ≤ b ∧ b ≤ 16 ∧ 1 ≤ f ∧ f ≤ 8 ∧ 64 ≤ m ∧ m ≤ 65536 then 0 else 90
def planV (b f m : Int) : Value := .agg #[.int .i64 b, .int .i64 f, .int .i64 m]

set_option maxRecDepth 100000 in
set_option maxHeartbeats 1000000 in
theorem check_any (b f m : Int) (w : World) :
    Calls Tryd.prog 24 #[planV b f m] w fun e w' => e = .returned (.int .i64 (planE b f m)) ∧ Below w.heap.size w w' := by
  unfold planV
  by_cases h1 : b < 4
  · have hv : planE b f m = 90 := if_neg (by omega)
    rw [hv]
    go_enter Tryd.func24, Tryd.ntmps24
    go_wp2_with fail
    go_ret
    exact ⟨rfl, by go_grown⟩
  by_cases h2 : 16 < b
  · have hv : planE b f m = 90 := if_neg (by omega)
    rw [hv]
    go_enter Tryd.func24, Tryd.ntmps24
    go_wp2_with fail
    go_ret
    exact ⟨rfl, by go_grown⟩
  by_cases h3 : f < 1
  · have hv : planE b f m = 90 := if_neg (by omega)
    rw [hv]
    go_enter Tryd.func24, Tryd.ntmps24
    go_wp2_with fail
    go_ret
    exact ⟨rfl, by go_grown⟩
  by_cases h4 : 8 < f
  · have hv : planE b f m = 90 := if_neg (by omega)
    rw [hv]
    go_enter Tryd.func24, Tryd.ntmps24
    go_wp2_with fail
    go_ret
    exact ⟨rfl, by go_grown⟩
  by_cases h5 : m < 64
  · have hv : planE b f m = 90 := if_neg (by omega)
    rw [hv]
    go_enter Tryd.func24, Tryd.ntmps24
    go_wp2_with fail
    go_ret
    exact ⟨rfl, by go_grown⟩
  by_cases h6 : 65536 < m
  · have hv : planE b f m = 90 := if_neg (by omega)
    rw [hv]
    go_enter Tryd.func24, Tryd.ntmps24
    go_wp2_with fail
    go_ret
    exact ⟨rfl, by go_grown⟩
  · have hv : planE b f m = 0 := if_pos (by omega)
    rw [hv]
    go_enter Tryd.func24, Tryd.ntmps24
    go_wp2_with fail
    go_ret
    exact ⟨rfl, by go_grown⟩

theorem roll_new (W : World) : RollAt (W.alloc (.cells (rollCells (List.replicate 64 0) 0 1984 64480) 89)) W.heap.size (win []) := by
  refine ⟨List.replicate 64 0, 0, by rw [List.length_replicate], by omega, ?_, ?_, Blk.new _ _ _⟩
  · intro x hx; rw [List.mem_replicate] at hx; omega
  · rw [win_nil]; rfl

theorem CutIn.appended {w W : World} {g gr go : Nat} {ec : Array Value} {l : List Nat} {cs : List (Nat × Nat)} (h2 : CutIn w W g gr go ec l cs) (hgo : w.heap.size ≤ go) {v : Value} (hv : Blk W go 38 #[v]) (hc : Chunks w.heap.size W v cs) (sz lev : Nat) (v' : Value) (w3 : World)
    (ho : w3.ownsRow w.heap.size 47 2 v' (cs.length + 1) (chCells cs ++ [.int .i64 sz, .int .i64 lev])) (hgw : W.grownBy w3 v.ownBlock) :
    w3.cell? ⟨go, 0, none⟩ = some v ∧ w3.frozen? ⟨go, 0, none⟩ = false ∧ CutIn w (w3.setCell ⟨go, 0, none⟩ v') g gr go ec l (cs ++ [(sz, lev)]) := by
  have hv3 : Blk w3 go 38 #[v] := hv.grown hgw (own_ne hc hv (by decide))
  obtain ⟨x, hx⟩ := h2.roll.blk
  have hr3 : RollAt w3 gr l := h2.roll.grown hgw (fun e => own_ne hc hx (by decide) e)
  have he3 : Blk w3 g 97 ec := h2.each_.grown hgw (own_ne hc h2.each_ (by decide))
  have hb3 : Below w.heap.size w w3 := Below.grown h2.below hgw h2.below.size (fun b hb => (World.ownsRow.lt hc b hb).1)
  have hgs : w3.grownBy (w3.setCell ⟨go, 0, none⟩ v') (some go) := only_setCell (only_refl w3 (some go)) (.inl rfl) v'
  refine ⟨by rw [hv3.cell]; rfl, hv3.frozen 0, below_of_only hb3 hgs hb3.size hgo, he3.grown hgs (fun e => h2.ne3 (Option.some.inj e).symm), hr3.grown hgs (fun e => h2.ne2 (Option.some.inj e).symm), h2.gr_, v', hv3.set_ 0 v', ?_⟩
  have h1 : Chunks w.heap.size w3 v' (cs ++ [(sz, lev)]) := by
    unfold Chunks
    rw [chCells_append, List.length_append]
    exact ho
  refine own_kept h1 hgs (fun q hq e => ?_)
  exact own_ne ho hv3 (by decide) (e.trans hq.symm)

/-- append to a row of the call's own, as a step of a region that draws -/
theorem step_append_own {P : Program} {ops : Array Oper} {o : Oper} {a : Act} {w : World} {K : Act → World → Prop} {Q : Exit → Act → World → Prop} {E : Prop}
    (hg : o.guard = none) (s x : Operand) (t : TypeId) (ho : o.op = Op.call { callee := Callee.builtin Builtin.append, args := #[s, x], argTypes := #[t, t] })
    (base : Nat) (e : TypeId) (i : TypeInfo) (z : Value) (size bytes : Nat) (ht : P.underlying t = some (.slice e)) (hi : P.info? e = some i) (hz : i.zero = some z)
    (hsize : i.size = size) (hby : i.bytes = bytes) (hzs : z.cells.size = size) (hsz : 0 < size)
    (v : Value) (n : Nat) (xs : List Value) (hs : a.eval s = v) (hown : w.ownsRow base e size v n xs)
    (ad : Addr) (m c : Nat) (news : List Value) (hx : a.eval x = .slice (some ad) m c) (hl : news.length = m * size) (hnews : ∀ j u, news[j]? = some u → w.cell? (ad.add j) = some u) (h1 : ∀ u ∈ news, u.oneCell' = true)
    (h63 : n + m ≤ maxLen) (hbytes : (n + m) * bytes ≤ 140737488355328) (hbase : base ≤ w.heap.size)
    (h : ∀ v' w', w'.ownsRow base e size v' (n + m) (xs ++ news) → w.grownBy w' v.ownBlock → (v' = .slice none 0 0 ↔ v = .slice none 0 0 ∧ m = 0) → K (a.put o.dst v') w') :
    if Region.wanted o (yielded ops a.tmps) = true then Oper.wp P o a w K Q else E := by
  have hw : Region.wanted o (yielded ops a.tmps) = true := by simp [Region.wanted, hg]
  rw [if_pos hw]
  exact wp_append_own w s x t ho base e i z size bytes ht hi hz hsize hby hzs hsz v n xs hs hown ad m c news hx hl hnews h1 h63 hbytes hbase h
theorem cut_start (w w1 : World) (p : Plan) (fv : Value) (hB : Below w.heap.size w w1) :
    CutIn w (((w1.alloc (.cells #[.slice none 0 0] 38)).alloc (.cells (rollCells (List.replicate 64 0) 0 1984 64480) 89)).alloc (.cells (eachC p (w1.heap.size + 1) 0 fv) 97)).drew (w1.heap.size + 1 + 1) (w1.heap.size + 1) w1.heap.size (eachC p (w1.heap.size + 1) 0 fv) (win []) [] := by
  have hz := hB.size
  refine ⟨by go_grown, ?_, ?_, by omega, .slice none 0 0, ((Blk.new w1 _ _).alloc _).alloc _, World.ownsRow_nil _ _ _ _⟩
  · have h := Blk.new ((w1.alloc (.cells #[.slice none 0 0] 38)).alloc (.cells (rollCells (List.replicate 64 0) 0 1984 64480) 89)) 97 (eachC p (w1.heap.size + 1) 0 fv)
    simp only [World.size_alloc] at h
    exact h
  · have h := roll_new (w1.alloc (.cells #[.slice none 0 0] 38))
    simp only [World.size_alloc] at h
    have h2 := h.grown (World.grownBy_alloc _ (.cells (eachC p (w1.heap.size + 1) 0 fv) 97) none) (by simp)
    exact h2

def planVP (p : Plan) : Value := planV p.bits p.fan p.most
theorem cutF_step (p : Plan) (l : List Nat) (k x : Nat) (h : l[k]? = some x) : stepC p (cutF p [] (l.take k)).2 x (cutF p [] (l.take k)).1 = ((cutF p [] (l.take (k + 1))).1, (cutF p [] (l.take (k + 1))).2) := by
  have e : l.take (k + 1) = l.take k ++ [x] := by rw [List.take_add_one, h]; rfl
  rw [e]
  unfold stepC
  cases he : ends p ((cutF p [] (l.take k)).2 ++ [x]) with
  | some lev => rw [cutF_snoc_yes p _ x lev he]
  | none => rw [cutF_snoc_no p _ x he]

set_option maxRecDepth 100000 in
set_option maxHeartbeats 1000000 in
theorem cut_any (p : Plan) (s : ByteArray) (w : World) (hp : p.Ok) (hs : s.size ≤ 1048576) (hT : Tab w) :
    Calls Tryd.prog 21 #[planVP p, .string s] w fun e w' => ∃ v, e = .returned (.tuple #[v, .int .i64 0]) ∧ Below w.heap.size w w' ∧ Chunks w.heap.size w' v (cutAll p (nats s)) := by
  obtain ⟨i0, hi0, hz0, hs0, hy0⟩ := info_parts chunk_info
  have hck := fun W => check_any p.bits p.fan p.most W
  have hpe : planE p.bits p.fan p.most = 0 := if_pos ⟨by have := hp.b4; omega, by have := hp.b16; omega, by have := hp.f1; omega, by have := hp.f8; omega, by have := hp.m64; omega, by have := hp.m65536; omega⟩
  rw [hpe] at hck
  clear hpe
  have HCK := Lib.hid hck; clear hck
  have hn := nats_length s
  have HN := Lib.hid hn; clear hn
  have HT := Lib.hid hT; clear hT
  have HP := Lib.hid hp; clear hp
  unfold planVP planV
  go_enter Tryd.func21, Tryd.ntmps21
  go_wp2_with fail
  refine (HCK.out _).mono ?_
  rintro e w1 ⟨rfl, hb1⟩
  have hB1 : Below w.heap.size w w1 := ((Below.refl _ _).alloc (Nat.le_refl _) _).trans (hb1.mono (by simp))
  have hK1 : Blk w1 w.heap.size 41 #[.int .i64 (p.bits : Int), .int .i64 (p.fan : Int), .int .i64 (p.most : Int)] := (Blk.new w _ _).below hb1 (by simp)
  have d0 : ∀ q : Nat, w1.cell? ⟨w.heap.size, q, none⟩ = (#[.int .i64 (p.bits : Int), .int .i64 (p.fan : Int), .int .i64 (p.most : Int)] : Array Value)[q]? := hK1.cell
  have c0 : w1.cell? ⟨w.heap.size, 0, none⟩ = some (.int .i64 (p.bits : Int)) := by rw [d0]; rfl
  have c1 : w1.cell? ⟨w.heap.size, 1, none⟩ = some (.int .i64 (p.fan : Int)) := by rw [d0]; rfl
  have c2 : w1.cell? ⟨w.heap.size, 2, none⟩ = some (.int .i64 (p.most : Int)) := by rw [d0]; rfl
  have hlt1 := hK1.lt
  have HB1 := Lib.hid hB1; clear hB1 hb1 d0 hK1
  go_upto_region 7 with (fail)
  go_cut [8] from 18 to 22 (fun v wx => ∃ g gr go : Nat, v = .pointer (some ⟨g, 0, none⟩) ∧ go = w1.heap.size ∧ w.heap.size ≤ g ∧ Hid (CutIn w wx g gr go (eachC p gr 0 (onCut go)) (win []) []))
  case first =>
    go_region_with (first | (go_at_call 19; refine (new_any _).mono ?_; rintro e w' ⟨rfl, rfl⟩))
    all_goals (
      go_wp2_with fail
      go_meet
      case rel => exact ⟨w1.heap.size + 1 + 1, w1.heap.size + 1, w1.heap.size, rfl, rfl, by have := HB1.out.size; omega, cut_start w w1 p (onCut w1.heap.size) HB1.out⟩)
  case rest =>
  obtain ⟨g, gr, go, rfl, hgo, hg, HI⟩ := hcut
  have hgow : w.heap.size ≤ go := by have := HB1.out.size; omega
  rw [← hgo]
  clear hgo c0 c1 c2
  go_wp2_with fail
  go_loopw [9, 25] (fun _ i wr => ∃ k : Nat, i = .int .i64 k ∧ k ≤ s.size ∧ Hid (∃ gr, CutIn w wr g gr go (eachC p gr (cutF p [] ((nats s).take k)).2.length (onCut go)) (win (cutF p [] ((nats s).take k)).2) (cutF p [] ((nats s).take k)).1)) (fun _ i _ => s.size - (intOf i).toNat)
  case atStart => exact ⟨0, rfl, Nat.zero_le _, gr, HI.out⟩
  case round =>
    obtain ⟨k, rfl, hk, H⟩ := hrel
    obtain ⟨gr', hI⟩ := H.out
    clear H
    by_cases hlt : k < s.size
    · obtain ⟨x, hx⟩ : ∃ x, (nats s)[k]? = some x := ⟨_, List.getElem?_eq_getElem (by rw [HN.out]; exact hlt)⟩
      have hxb : x < 256 := nats_bytes s x (List.mem_of_getElem? hx)
      have hbx : ((s[k]'hlt).toNat : Int) = (x : Int) := (PlainAid.get_bt s k hlt).trans (bt_nats s k x hx)
      have hseg := cutF_seg p (by have := HP.out.m64; omega) ((nats s).take k) [] (by have := HP.out.m64; simp; omega)
      have hcl := cutF_len p ((nats s).take k) []
      rw [List.length_take] at hcl
      have htk := take_any w wr g gr' go p _ x _ HP.out hI hg hgow HT.out hseg (by omega) hxb
      rw [cutF_step p (nats s) k x hx] at htk
      have HTK := Lib.hid htk; clear htk hI hx hseg hcl
      go_wp2_with fail
      refine HTK.out.mono ?_
      rintro e w2 ⟨rfl, gr2, h2⟩
      have H2 := Lib.hid h2; clear h2
      go_wp2_with fail
      go_roundw
      case rel => exact ⟨k + 1, by go_num, by omega, gr2, H2.out⟩
      case measure => simp [intOf]; omega
    · obtain rfl : k = s.size := by omega
      rw [List.take_of_length_le (by rw [HN.out]; omega)] at hI
      obtain ⟨-, -, -, -, e4, -, -⟩ := each_facts hI
      have hcl := cutF_len p (nats s) []
      rw [HN.out] at hcl
      have hsub := cutF_sub p (nats s) []
      rw [HN.out] at hsub
      simp only [List.length_nil, Nat.zero_add] at hsub
      have hca : cutAll p (nats s) = (cutF p [] (nats s)).1 ++ lastC (cutF p [] (nats s)).2 := rfl
      generalize (cutF p [] (nats s)).1 = cs at *
      generalize (cutF p [] (nats s)).2 = seg at *
      obtain ⟨v, hv, hch⟩ := hI.out
      have cv : wr.cell? ⟨go, 0, none⟩ = some v := by rw [hv.cell]; rfl
      obtain ⟨n, hn2⟩ : ∃ n, seg.length = n := ⟨_, rfl⟩
      rw [hn2] at e4 hsub
      have HI2 := Lib.hid hI; clear hI HI
      have HV := Lib.hid hv; clear hv
      have HCH := Lib.hid hch; clear hch
      have HCA := Lib.hid hca; clear hca
      by_cases hn0 : 0 < n
      · have hl : lastC seg = [(n, 0)] := by unfold lastC; rw [if_neg (by omega), hn2]
        have hWA : CutIn w (wr.drew.alloc (.cells #[.int .i64 n, .int .i64 0] 47)) g gr' go (eachC p gr' n (onCut go)) (win seg) cs := by
          have := HI2.out.drew.alloc (.cells #[.int .i64 n, .int .i64 0] 47)
          rwa [hn2] at this
        have hvA : Blk (wr.drew.alloc (.cells #[.int .i64 n, .int .i64 0] 47)) go 38 #[v] := (HV.out.drew).alloc _
        have hcA : Chunks w.heap.size (wr.drew.alloc (.cells #[.int .i64 n, .int .i64 0] 47)) v cs := World.ownsRow.alloc (w := wr.drew) HCH.out _
        have hap := fun v' w3 ho hgw => CutIn.appended hWA hgow hvA hcA n 0 v' w3 ho hgw
        have hbw := hWA.below.size
        have hnew := news_at wr.drew #[.int .i64 n, .int .i64 0] 47 wr.heap.size rfl
        have hgl : go < wr.heap.size := HV.out.lt
        have hgg : g < wr.heap.size := HI2.out.each_.lt
        have cA : (wr.alloc (.cells #[.int .i64 n, .int .i64 0] 47)).cell? ⟨go, 0, none⟩ = some v := by have := hvA.cell 0; exact this
        have HAP := Lib.hid hap; clear hap hWA hvA
        have HCC := Lib.hid hcA; clear hcA
        have HNW := Lib.hid hnew; clear hnew
        go_wp2_with fail
        go_region_law (refine step_append_own rfl _ _ 38 rfl w.heap.size 47 i0 (.agg #[.int .i64 0, .int .i64 0]) 2 16 Tryd.underlying38 hi0 hz0 hs0 hy0 rfl (by decide) v cs.length _ rfl HCC.out ⟨wr.heap.size, 0, none⟩ 1 1 [.int .i64 n, .int .i64 0] rfl rfl HNW.out (by intro u hu; simp at hu; rcases hu with rfl | rfl <;> rfl) (by unfold maxLen; omega) (by omega) hbw ?_; intro v3 w3 hown3 hgrow3 _; obtain ⟨d1, d2, d3⟩ := HAP.out v3 w3 hown3 hgrow3; have HD := Lib.hid d3; obtain ⟨a3, cap3, rfl⟩ := own_slice hown3; clear hown3 hgrow3 d3)
        all_goals (
          have HD2 := HD.out
          obtain ⟨v5, hv5, hc5⟩ := HD2.out
          have cv5 := hv5.cell 0
          have c55 : (w3.setCell ⟨go, 0, none⟩ (.slice a3 (cs.length + 1) cap3)).cell? ⟨go, 0, none⟩ = some v5 := cv5
          clear cv5
          have HV5 := Lib.hid hv5
          have HC5 := Lib.hid hc5
          clear hv5 hc5
          generalize w3.setCell ⟨go, 0, none⟩ (.slice a3 (cs.length + 1) cap3) = w5 at *
          go_wp2_with fail
          go_ret2
          refine ⟨v5, rfl, HD2.below, ?_⟩
          rw [HCA.out, hl]
          exact HC5.out)
      · have hl : lastC seg = [] := by unfold lastC; rw [if_pos (by omega)]
        go_wp2_with fail
        go_ret2
        refine ⟨v, rfl, HI2.out.below, ?_⟩
        rw [HCA.out, hl, List.append_nil]
        exact HCH.out
end Go.Proofs.YtmnggemifcjflaaDoor
