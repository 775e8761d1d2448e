/-
  A splitter, the walk: its closure.
-/
import Derived.Test.YtmnggemifcjflaaDoorSplW
import Derived.Deep.RegionHeldLaw
namespace Go.Proofs.YtmnggemifcjflaaDoor
open Go.RowKit PlainP RollP OnesP SplitP

theorem byteRow_holds {w : World} {v : Value} {l : List Nat} (h : ByteRow w v l) (hl : 0 < l.length) : ∃ g cap, v = .slice (some ⟨g, 0, none⟩) l.length cap ∧ HoldsB w g l := by
  rcases h.2 with ⟨-, hn⟩ | ⟨g, cap, cur, rfl, -⟩
  · omega
  · refine ⟨g, cap, rfl, fun j x hx => ?_⟩
    have := World.ownsRow.cells h (g := g) rfl j (.int .u8 (x : Int)) (by unfold byCells; rw [List.getElem?_map, hx]; rfl)
    rwa [show (⟨g, 0, none⟩ : Addr).add j = ⟨g, j, none⟩ by unfold Addr.add; split <;> simp_all] at this
theorem row_none {w : World} {B : Nat} {e : TypeId} {size : Nat} {g n cap : Nat} {xs : List Value} (h : w.ownsRow B e size (.slice (some ⟨g, 0, none⟩) n cap) n xs) : w.ownsRow B e size (.slice (some ⟨g, 0, none⟩) 0 cap) 0 [] := by
  refine ⟨by simp, ?_⟩
  rcases h.2 with ⟨e, -⟩ | ⟨g', cap', cur, e, hb, hg, hc, hm, hs, -⟩
  · cases e
  · cases e
    exact .inr ⟨g, cap, cur, rfl, hb, hg, Nat.zero_le _, hm, hs, by simp⟩

section
variable {O : Nat → Prop} {w W W' : World} {g gx gb gr : Nat} {ec : Array Value} {l rest : List Nat} {ps : List (List Nat × Nat)} {all : Int} {cl : Bool}
/-- x.out = append(x.out, ..), and x.rest = x.rest[:0] -/
theorem SplIn.pushed (h : SplIn O w W g gx gb gr ec l rest ps all cl) {rg n cap : Nat} {ov : Value} (h1 : Blk W gx 99 (splC g (.slice (some ⟨rg, 0, none⟩) n cap) ov all cl)) (hn : rest.length = n) (h2 : ByteRow W (.slice (some ⟨rg, 0, none⟩) n cap) rest) (h3 : PieceRow W ov ps) (h4 : Owned O (.slice (some ⟨rg, 0, none⟩) n cap)) (h5 : Owned O ov)
    {c : Nat} {cd : Array Value} (hch : Blk W c 47 cd) (bs : List Nat) (lev : Nat) (v' : Value) (w3 : World)
    (ho : w3.ownsRow 0 68 2 v' (ps.length + 1) (pcCells ps ++ [.string (mkS bs), .int .i64 lev])) (hgw : W.grownBy w3 ov.ownBlock) (hat : v'.ownBlock = ov.ownBlock ∨ v'.ownBlock = some W.heap.size) :
    w3.cell? ⟨gx, 2, none⟩ = some ov ∧ w3.frozen? ⟨gx, 2, none⟩ = false ∧ w3.cell? ⟨gb, 0, none⟩ = some (.pointer (some ⟨gx, 0, none⟩)) ∧ (w3.setCell ⟨gx, 2, none⟩ v').cell? ⟨gb, 0, none⟩ = some (.pointer (some ⟨gx, 0, none⟩)) ∧
    (w3.setCell ⟨gx, 2, none⟩ v').cell? ⟨gx, 1, none⟩ = some (.slice (some ⟨rg, 0, none⟩) n cap) ∧ (w3.setCell ⟨gx, 2, none⟩ v').frozen? ⟨gx, 1, none⟩ = false ∧
    w3.cell? ⟨gx, 1, none⟩ = some (.slice (some ⟨rg, 0, none⟩) n cap) ∧ ByteRow w3 (.slice (some ⟨rg, 0, none⟩) n cap) rest ∧ ByteRow (w3.setCell ⟨gx, 2, none⟩ v') (.slice (some ⟨rg, 0, none⟩) n cap) rest ∧ Blk w3 c 47 cd ∧ Blk (w3.setCell ⟨gx, 2, none⟩ v') c 47 cd ∧
    SplIn O w ((w3.setCell ⟨gx, 2, none⟩ v').setCell ⟨gx, 1, none⟩ (.slice (some ⟨rg, 0, none⟩) 0 cap)) g gx gb gr ec l [] (ps ++ [(bs, lev)]) all cl := by
  obtain ⟨x, hx⟩ := h.roll.blk
  have e1 : Blk w3 gx 99 (splC g (.slice (some ⟨rg, 0, none⟩) n cap) ov all cl) := h1.grown hgw (own_ne h3 h1 (by decide))
  have eb : Blk w3 gb 50 #[.pointer (some ⟨gx, 0, none⟩)] := h.box.grown hgw (own_ne h3 h.box (by decide))
  have e2 : ByteRow w3 (.slice (some ⟨rg, 0, none⟩) n cap) rest := by
    refine own_kept h2 hgw (fun q hq e => ?_)
    rcases h2.2 with ⟨e', -⟩ | ⟨g', cap', cur, e', -, hg', -⟩
    · cases e'
    · cases e'
      simp [Value.ownBlock] at hq
      subst hq
      exact own_ne h3 (show Blk W rg 5 cur from hg') (by decide) e.symm
  have o' : Owned O v' := fun k hk => by
    rcases hat with e | e
    · rw [e] at hk; exact h5 k hk
    · rw [e] at hk; injection hk with hk; subst hk; exact h.new_ _ h.kept.size
  have hne : gb ≠ gx := blk_ne eb e1 (by decide)
  have s1 := e1.set_ 2 v'
  have s2 := s1.set_ 1 (.slice (some ⟨rg, 0, none⟩) 0 cap)
  have h' : SplIn O w w3 g gx gb gr ec l rest ps all cl → True := fun _ => trivial
  have k1 : w3.grownBy ((w3.setCell ⟨gx, 2, none⟩ v').setCell ⟨gx, 1, none⟩ (.slice (some ⟨rg, 0, none⟩) 0 cap)) (some gx) := only_setCell (only_setCell (only_refl w3 (some gx)) (.inl rfl) v') (.inl rfl) _
  have hr3 : RollAt w3 gr l := h.roll.grown hgw (fun e => own_ne h3 hx (by decide) e)
  have he3 : Blk w3 g 97 ec := h.each_.grown hgw (own_ne h3 h.each_ (by decide))
  have hxx : ∃ y, Blk w3 gr 89 y := hr3.blk
  obtain ⟨y, hy⟩ := hxx
  have p3 : PieceRow w3 v' (ps ++ [(bs, lev)]) := by unfold PieceRow; rw [pcCells_append, List.length_append]; exact ho
  have ec : Blk w3 c 47 cd := hch.grown hgw (own_ne h3 hch (by decide))
  have k0 : w3.grownBy (w3.setCell ⟨gx, 2, none⟩ v') (some gx) := only_setCell (only_refl w3 (some gx)) (.inl rfl) v'
  refine ⟨by rw [e1.cell]; rfl, e1.frozen 2, by rw [eb.cell]; rfl, ?_, by rw [s1.cell]; rfl, s1.frozen 1, by rw [e1.cell]; rfl, e2, own_kept e2 k0 (fun q hq e => own_ne e2 e1 (by decide) (e.trans hq.symm)), ec, ec.far (p := ⟨gx, 2, none⟩) (blk_ne ec e1 (by decide)) v', ?_⟩
  · rw [(eb.far (p := ⟨gx, 2, none⟩) hne v').cell]; rfl
  · refine ⟨h.new_, (h.kept.grown h.new_ hgw h5).grown h.new_ k1 (fun _ e => by injection e with e; subst e; exact h.ox), he3.grown k1 (fun e => blk_ne he3 e1 (by decide) (Option.some.inj e)), hr3.grown k1 (fun e => blk_ne e1 hy (by decide) (Option.some.inj e).symm), eb.grown k1 (fun e => hne (Option.some.inj e)),
      ⟨.slice (some ⟨rg, 0, none⟩) 0 cap, v', s2, ?_, ?_, fun k hk => h4 k hk, o'⟩, h.og, h.ox, h.ob, h.or_⟩
    · subst hn
      refine own_kept (w := w3) (row_none e2) k1 (fun q hq e => ?_)
      exact own_ne e2 e1 (by decide) (e.trans hq.symm)
    · refine own_kept p3 k1 (fun q hq e => ?_)
      exact own_ne p3 e1 (by decide) (e.trans hq.symm)
end

set_option maxRecDepth 100000 in
set_option maxHeartbeats 1000000 in
theorem new1_any (O : Nat → Prop) (w W : World) (g gx gb gr : Nat) (ec : Array Value) (l rest : List Nat) (ps : List (List Nat × Nat)) (all : Int) (cl : Bool) (sz lev : Nat) (h : SplIn O w W g gx gb gr ec l rest ps all cl) (hr : 0 < rest.length) (hb : Bytes rest) (hlen : ps.length ≤ 1048576) :
    Calls Tryd.prog 41 #[.agg #[.int .i64 sz, .int .i64 lev], .pointer (some ⟨gb, 0, none⟩)] W fun e w' => e = .returned (.tuple #[]) ∧ SplIn O w w' g gx gb gr ec l [] (ps ++ [(rest, lev)]) all cl := by
  obtain ⟨i0, hi0, hz0, hs0, hy0⟩ := info_parts piece_info
  have h1 := h.alloc (.cells #[.int .i64 sz, .int .i64 lev] 47)
  have hch : Blk (W.alloc (.cells #[.int .i64 sz, .int .i64 lev] 47)) W.heap.size 47 #[.int .i64 sz, .int .i64 lev] := Blk.new W _ _
  have H1 := Lib.hid h1; clear h1 h
  go_enter Tryd.func41, Tryd.ntmps41
  go_wp2_with fail
  generalize W.alloc (.cells #[.int .i64 sz, .int .i64 lev] 47) = W1 at *
  generalize W.heap.size = C at *
  obtain ⟨rv, ov, k1, k2, k3, k4, k5⟩ := H1.out.spl
  obtain ⟨rg, cap, rfl, -⟩ := byteRow_holds k2 hr
  obtain ⟨n, hn⟩ : ∃ n, rest.length = n := ⟨_, rfl⟩
  rw [hn] at k1 k2 k4
  have hcv : ∀ X : World, ByteRow X (.slice (some ⟨rg, 0, none⟩) n cap) rest → (convert 74 9 (.slice (some ⟨rg, 0, none⟩) n cap)).run Tryd.prog X = .ok (.string (mkS rest)) X := fun X hX => by
    obtain ⟨g', cap', e, hh⟩ := byteRow_holds hX hr
    rw [hn] at e
    cases e
    have := back_bytes (cap := cap) hh hb
    rwa [hn] at this
  have x2 : W1.cell? ⟨gx, 2, none⟩ = some ov := by rw [k1.cell]; rfl
  have s1 := And.intro (H1.out.drew.box.cell 0) (And.intro (k1.cell 1) (And.intro (hch.drew.cell 1) (hcv W1.drew k2)))
  have hnew := news_at W1.drew #[.string (mkS rest), .int .i64 lev] 68 W1.heap.size rfl
  have hP := H1.out.drew.alloc (.cells #[.string (mkS rest), .int .i64 lev] 68)
  have hal := World.grownBy_alloc W1.drew (.cells #[.string (mkS rest), .int .i64 lev] 68) none
  have k1' : Blk (W1.drew.alloc (.cells #[.string (mkS rest), .int .i64 lev] 68)) gx 99 (splC g (.slice (some ⟨rg, 0, none⟩) n cap) ov all cl) := k1.drew.alloc _
  have k2' : ByteRow (W1.drew.alloc (.cells #[.string (mkS rest), .int .i64 lev] 68)) (.slice (some ⟨rg, 0, none⟩) n cap) rest := own_kept (w := W1.drew) k2 hal (fun _ _ e => by cases e)
  have k3' : PieceRow (W1.drew.alloc (.cells #[.string (mkS rest), .int .i64 lev] 68)) ov ps := own_kept (w := W1.drew) k3 hal (fun _ _ e => by cases e)
  have hch' : Blk (W1.drew.alloc (.cells #[.string (mkS rest), .int .i64 lev] 68)) C 47 #[.int .i64 sz, .int .i64 lev] := hch.drew.alloc _
  have hap := fun v' w3 ho hgw hat => SplIn.pushed hP k1' hn k2' k3' k4 k5 hch' rest lev v' w3 ho hgw hat
  have s2 := And.intro (hP.box.cell 0) (And.intro (k1'.cell 1) (And.intro (hch'.cell 1) (hcv _ k2')))
  have x2' : (W1.alloc (.cells #[.string (mkS rest), .int .i64 lev] 68)).cell? ⟨gx, 2, none⟩ = some ov := k1'.cell 2
  have HAP := Lib.hid hap; have HCC := Lib.hid (show World.ownsRow _ _ _ _ _ _ _ from k3'); have HNW := Lib.hid hnew
  have S1 := Lib.hid s1; have S2 := Lib.hid s2; have HCV := Lib.hid hcv
  clear hap k3' hnew hP hal k1' k2' k1 k2 k3 k4 k5 hn H1 s1 s2 hch hch' hcv
  refine wp_region_held_drew (S := fun X => X.cell? ⟨gb, 0, none⟩ = some (.pointer (some ⟨gx, 0, none⟩)) ∧ X.cell? ⟨gx, 1, none⟩ = some (.slice (some ⟨rg, 0, none⟩) n cap) ∧ X.cell? ⟨C, 1, none⟩ = some (.int .i64 lev) ∧ (convert 74 9 (.slice (some ⟨rg, 0, none⟩) n cap)).run Tryd.prog X = .ok (.string (mkS rest)) X) (by kernel_rfl) S1.out (fun hHeld => ?_)
  refine wpAnyH_take (i := 0) (v := ?_) rfl (by kernel_rfl) (by kernel_rfl) (by kernel_rfl) (fun _ _ _ h => h) (Or.inl ⟨by rfl, ?_⟩) (by assumption) ?_
  rotate_left
  · (intro w hSw; go_split_ands; go_simp; try with_reducible rfl)
  try simp only [Act.put, List.setIfInBounds_toArray, List.set_cons_zero, List.set_cons_succ]
  refine wpAnyH_take (i := 1) (v := ?_) rfl (by kernel_rfl) (by kernel_rfl) (by kernel_rfl) (fun _ _ _ h => h) (Or.inl ⟨by rfl, ?_⟩) (by assumption) ?_
  rotate_left
  · (intro w hSw; go_split_ands; go_simp; try with_reducible rfl)
  try simp only [Act.put, List.setIfInBounds_toArray, List.set_cons_zero, List.set_cons_succ]
  refine wpAnyH_take (i := 2) (v := ?_) rfl (by kernel_rfl) (by kernel_rfl) (by kernel_rfl) (fun _ _ _ h => h) (Or.inl ⟨by rfl, ?_⟩) (by assumption) ?_
  rotate_left
  · (intro w hSw; go_split_ands; go_simp; try with_reducible rfl)
  try simp only [Act.put, List.setIfInBounds_toArray, List.set_cons_zero, List.set_cons_succ]
  refine wpAnyH_take (i := 3) (v := ?_) rfl (by kernel_rfl) (by kernel_rfl) (by kernel_rfl) (fun _ _ _ h => h) (Or.inl ⟨by rfl, ?_⟩) (by assumption) ?_
  rotate_left
  · (intro w hSw; go_split_ands; go_simp; try with_reducible rfl)
  try simp only [Act.put, List.setIfInBounds_toArray, List.set_cons_zero, List.set_cons_succ]
  refine wpAnyH_take (i := 5) (v := ?_) rfl (by kernel_rfl) (by kernel_rfl) (by kernel_rfl) (fun _ _ _ h => h) (Or.inl ⟨by rfl, ?_⟩) (by assumption) ?_
  rotate_left
  · (intro w hSw; go_split_ands; go_simp; try with_reducible rfl)
  try simp only [Act.put, List.setIfInBounds_toArray, List.set_cons_zero, List.set_cons_succ]
  refine wpAnyH_take (i := 6) (v := ?_) rfl (by kernel_rfl) (by kernel_rfl) (by kernel_rfl) (fun _ _ _ h => h) (Or.inl ⟨by rfl, ?_⟩) (by assumption) ?_
  rotate_left
  · (intro w hSw; go_split_ands; go_simp; try with_reducible rfl)
  try simp only [Act.put, List.setIfInBounds_toArray, List.set_cons_zero, List.set_cons_succ]
  refine wpAnyH_take (i := 7) (v := ?_) rfl (by kernel_rfl) (by kernel_rfl) (by kernel_rfl) (fun _ _ _ h => h) (Or.inl ⟨by rfl, ?_⟩) (by assumption) ?_
  rotate_left
  · (intro w hSw; go_split_ands; go_simp; try with_reducible rfl)
  try simp only [Act.put, List.setIfInBounds_toArray, List.set_cons_zero, List.set_cons_succ]
  refine wpAnyH_take (i := 8) (v := ?_) rfl (by kernel_rfl) (by kernel_rfl) (by kernel_rfl) (fun _ _ _ h => h) (Or.inl ⟨by rfl, ?_⟩) (by assumption) ?_
  rotate_left
  · (intro w hSw; go_split_ands; go_simp; try with_reducible rfl)
  try simp only [Act.put, List.setIfInBounds_toArray, List.set_cons_zero, List.set_cons_succ]
  refine wpAnyH_take (i := 9) (v := ?_) rfl (by kernel_rfl) (by kernel_rfl) (by kernel_rfl) (fun _ _ _ h => h) (Or.inl ⟨by rfl, ?_⟩) (by assumption) ?_
  rotate_left
  · (intro w hSw; go_split_ands; go_simp; try with_reducible rfl)
  try simp only [Act.put, List.setIfInBounds_toArray, List.set_cons_zero, List.set_cons_succ]
  refine wpAnyH_take (i := 10) (v := ?_) rfl (by kernel_rfl) (by kernel_rfl) (by kernel_rfl) (fun _ _ _ h => h) (Or.inl ⟨by rfl, ?_⟩) (by assumption) ?_
  rotate_left
  · (intro w hSw; go_split_ands; go_simp; try with_reducible rfl)
  try simp only [Act.put, List.setIfInBounds_toArray, List.set_cons_zero, List.set_cons_succ]
  refine wpAnyH_take (i := 11) (v := ?_) rfl (by kernel_rfl) (by kernel_rfl) (by kernel_rfl) (fun _ _ _ h => h) (Or.inl ⟨by rfl, ?_⟩) (by assumption) ?_
  rotate_left
  · (intro w hSw; go_split_ands; go_simp; try with_reducible rfl)
  try simp only [Act.put, List.setIfInBounds_toArray, List.set_cons_zero, List.set_cons_succ]
  refine wpAnyH_take (i := 12) (v := ?_) rfl (by kernel_rfl) (by kernel_rfl) (by kernel_rfl) (fun _ _ _ h => h) (Or.inl ⟨by rfl, ?_⟩) (by assumption) ?_
  rotate_left
  · (intro w hSw; go_split_ands; go_simp; try with_reducible rfl)
  try simp only [Act.put, List.setIfInBounds_toArray, List.set_cons_zero, List.set_cons_succ]
  refine wpAnyH_ready (rs := [4, 13]) (by kernel_rfl) (by simp) ?_
  refine AllReadyH.cons rfl (fun K hK => ?_) (AllReadyH.cons rfl (fun K hK => ?_) AllReadyH.nil)
  · go_simp
    refine hK.out _ _ S1.out (fun hHeld => ?_)
    clear hK K
    try simp only [Act.put, List.setIfInBounds_toArray, List.set_cons_zero, List.set_cons_succ]
    refine wpAnyH_ready (rs := [13]) (by kernel_rfl) (by simp) ?_
    refine AllReadyH.cons rfl (fun K hK => ?_) AllReadyH.nil
    go_simp
    refine hK.out _ _ S2.out (fun hHeld => ?_)
    clear hK K
    try simp only [Act.put, List.setIfInBounds_toArray, List.set_cons_zero, List.set_cons_succ]
    refine wpAnyH_ready (rs := [14]) (by kernel_rfl) (by simp) ?_
    refine AllReadyH.cons rfl (fun K hK => ?_) AllReadyH.nil
    (refine step_append_at rfl _ _ 58 rfl 0 68 i0 (.agg #[.string .empty, .int .i64 0]) 2 24 Tryd.underlying58 hi0 hz0 hs0 hy0 rfl (by decide) ov ps.length _ rfl HCC.out ⟨W1.heap.size, 0, none⟩ 1 1 [.string (mkS rest), .int .i64 lev] rfl rfl HNW.out (by intro u hu; simp at hu; rcases hu with rfl | rfl <;> rfl) (by unfold maxLen; omega) (by omega) (Nat.zero_le _) ?_; intro v3 w3 hown3 hgrow3 hat3; obtain ⟨d1, d2, d3, d4, d5, d6, d7, d8, d9, d10, d11, d12⟩ := HAP.out v3 w3 hown3 hgrow3 hat3; have HD := Lib.hid d12; obtain ⟨a3, cap3, rfl⟩ := own_slice hown3; have S3 := Lib.hid (And.intro d3 (And.intro d7 (And.intro (d10.cell 1) (HCV.out _ d8)))); have S4 := Lib.hid (And.intro d4 (And.intro d5 (And.intro (d11.cell 1) (HCV.out _ d9)))); clear hown3 hgrow3 hat3 d12 d7 d8 d9 d10 d11)
    refine hK.out _ _ S3.out (fun hHeld => ?_)
    clear hK K
    try simp only [Act.put, List.setIfInBounds_toArray, List.set_cons_zero, List.set_cons_succ]
    refine wpAnyH_take (i := 15) (v := ?_) rfl (by kernel_rfl) (by kernel_rfl) (by kernel_rfl) (fun _ _ _ h => h) (Or.inl ⟨by rfl, ?_⟩) (by assumption) ?_
    rotate_left
    · (intro w hSw; go_split_ands; go_simp; try with_reducible rfl)
    try simp only [Act.put, List.setIfInBounds_toArray, List.set_cons_zero, List.set_cons_succ]
    refine wpAnyH_take (i := 16) (v := ?_) rfl (by kernel_rfl) (by kernel_rfl) (by kernel_rfl) (fun _ _ _ h => h) (Or.inl ⟨by rfl, ?_⟩) (by assumption) ?_
    rotate_left
    · (intro w hSw; go_split_ands; go_simp; try with_reducible rfl)
    try simp only [Act.put, List.setIfInBounds_toArray, List.set_cons_zero, List.set_cons_succ]
    refine wpAnyH_ready (rs := [17]) (by kernel_rfl) (by simp) ?_
    refine AllReadyH.cons rfl (fun K hK => ?_) AllReadyH.nil
    go_simp
    refine hK.out _ _ S4.out (fun hHeld => ?_)
    clear hK K
    try simp only [Act.put, List.setIfInBounds_toArray, List.set_cons_zero, List.set_cons_succ]
    refine wpAnyH_done (by kernel_rfl) ?_ _
    go_wp2_with fail
    go_region
    all_goals (
      go_end0
      exact ⟨rfl, HD.out.drew⟩)
  · go_simp
    refine hK.out _ _ S2.out (fun hHeld => ?_)
    clear hK K
    try simp only [Act.put, List.setIfInBounds_toArray, List.set_cons_zero, List.set_cons_succ]
    refine wpAnyH_ready (rs := [4]) (by kernel_rfl) (by simp) ?_
    refine AllReadyH.cons rfl (fun K hK => ?_) AllReadyH.nil
    go_simp
    refine hK.out _ _ S2.out (fun hHeld => ?_)
    clear hK K
    try simp only [Act.put, List.setIfInBounds_toArray, List.set_cons_zero, List.set_cons_succ]
    refine wpAnyH_ready (rs := [14]) (by kernel_rfl) (by simp) ?_
    refine AllReadyH.cons rfl (fun K hK => ?_) AllReadyH.nil
    (refine step_append_at rfl _ _ 58 rfl 0 68 i0 (.agg #[.string .empty, .int .i64 0]) 2 24 Tryd.underlying58 hi0 hz0 hs0 hy0 rfl (by decide) ov ps.length _ rfl HCC.out ⟨W1.heap.size, 0, none⟩ 1 1 [.string (mkS rest), .int .i64 lev] rfl rfl HNW.out (by intro u hu; simp at hu; rcases hu with rfl | rfl <;> rfl) (by unfold maxLen; omega) (by omega) (Nat.zero_le _) ?_; intro v3 w3 hown3 hgrow3 hat3; obtain ⟨d1, d2, d3, d4, d5, d6, d7, d8, d9, d10, d11, d12⟩ := HAP.out v3 w3 hown3 hgrow3 hat3; have HD := Lib.hid d12; obtain ⟨a3, cap3, rfl⟩ := own_slice hown3; have S3 := Lib.hid (And.intro d3 (And.intro d7 (And.intro (d10.cell 1) (HCV.out _ d8)))); have S4 := Lib.hid (And.intro d4 (And.intro d5 (And.intro (d11.cell 1) (HCV.out _ d9)))); clear hown3 hgrow3 hat3 d12 d7 d8 d9 d10 d11)
    refine hK.out _ _ S3.out (fun hHeld => ?_)
    clear hK K
    try simp only [Act.put, List.setIfInBounds_toArray, List.set_cons_zero, List.set_cons_succ]
    refine wpAnyH_take (i := 15) (v := ?_) rfl (by kernel_rfl) (by kernel_rfl) (by kernel_rfl) (fun _ _ _ h => h) (Or.inl ⟨by rfl, ?_⟩) (by assumption) ?_
    rotate_left
    · (intro w hSw; go_split_ands; go_simp; try with_reducible rfl)
    try simp only [Act.put, List.setIfInBounds_toArray, List.set_cons_zero, List.set_cons_succ]
    refine wpAnyH_take (i := 16) (v := ?_) rfl (by kernel_rfl) (by kernel_rfl) (by kernel_rfl) (fun _ _ _ h => h) (Or.inl ⟨by rfl, ?_⟩) (by assumption) ?_
    rotate_left
    · (intro w hSw; go_split_ands; go_simp; try with_reducible rfl)
    try simp only [Act.put, List.setIfInBounds_toArray, List.set_cons_zero, List.set_cons_succ]
    refine wpAnyH_ready (rs := [17]) (by kernel_rfl) (by simp) ?_
    refine AllReadyH.cons rfl (fun K hK => ?_) AllReadyH.nil
    go_simp
    refine hK.out _ _ S4.out (fun hHeld => ?_)
    clear hK K
    try simp only [Act.put, List.setIfInBounds_toArray, List.set_cons_zero, List.set_cons_succ]
    refine wpAnyH_done (by kernel_rfl) ?_ _
    go_wp2_with fail
    go_region
    all_goals (
      go_end0
      exact ⟨rfl, HD.out.drew⟩)
end Go.Proofs.YtmnggemifcjflaaDoor
