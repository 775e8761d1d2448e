/-
  Cuts, the walk: the closure of Cut; take.
-/
import Derived.Test.YtmnggemifcjflaaDoorSplitW
import Derived.Deep.QuietTactic
import Derived.BigQuiet
namespace Go.Proofs.YtmnggemifcjflaaDoor
open Go.RowKit PlainP RollP OnesP SplitP

theorem chunk_info : (Tryd.prog.info? 47).map (fun i => (i.zero, i.size, i.bytes)) = some (some (.agg #[.int .i64 0, .int .i64 0]), 2, 16) := by kernel_rfl
theorem news_two (w : World) (cs : Array Value) (e : TypeId) : ∀ j u, cs.toList[j]? = some u → (w.alloc (.cells cs e)).cell? ((⟨w.heap.size, 0, none⟩ : Addr).add j) = some u := by
  intro j u h
  rw [show (⟨w.heap.size, 0, none⟩ : Addr).add j = ⟨w.heap.size, j, none⟩ by unfold Addr.add; split <;> simp_all, cell_of_row _ w.heap.size j cs e (0, 0) (heap_alloc_new w _)]
  rw [Array.getElem?_toList] at h; exact h

theorem news_at (w : World) (cs : Array Value) (e : TypeId) (g : Nat) (hg : w.heap.size = g) : ∀ j u, cs.toList[j]? = some u → (w.alloc (.cells cs e)).cell? ((⟨g, 0, none⟩ : Addr).add j) = some u := by
  subst hg; exact news_two w cs e
theorem own_slice {w : World} {B : Nat} {e : TypeId} {size : Nat} {v : Value} {n : Nat} {xs : List Value} (h : w.ownsRow B e size v n xs) : ∃ a cap, v = .slice a n cap := by
  rcases h.2 with ⟨rfl, rfl⟩ | ⟨g, cap, cur, rfl, -⟩
  · exact ⟨_, _, rfl⟩
  · exact ⟨_, _, rfl⟩
theorem CutIn.alloc {w W : World} {g gr go : Nat} {ec : Array Value} {l : List Nat} {cs : List (Nat × Nat)} (h : CutIn w W g gr go ec l cs) (o : Obj) : CutIn w (W.alloc o) g gr go ec l cs := by
  obtain ⟨v, hv, hc⟩ := h.out
  exact ⟨h.below.alloc h.below.size o, h.each_.alloc o, h.roll.grown (World.grownBy_alloc W o none) (by simp), h.gr_, v, hv.alloc o, World.ownsRow.alloc hc o⟩

set_option maxRecDepth 100000 in
theorem cut1_any (w W : World) (g gr go : Nat) (ec : Array Value) (l : List Nat) (cs : List (Nat × Nat)) (sz lev : Nat) (h : CutIn w W g gr go ec l cs) (hg : w.heap.size ≤ g) (hgo : w.heap.size ≤ go) (hlen : cs.length ≤ 1048576) :
    Calls Tryd.prog 39 #[.agg #[.int .i64 sz, .int .i64 lev], .pointer (some ⟨go, 0, none⟩)] W fun e w' => e = .returned (.tuple #[]) ∧ CutIn w w' g gr go ec l (cs ++ [(sz, lev)]) := by
  obtain ⟨i0, hi0, hz0, hs0, hy0⟩ := info_parts chunk_info
  have h2 := (h.alloc (.cells #[.int .i64 sz, .int .i64 lev] 47)).alloc (.cells #[.int .i64 sz, .int .i64 lev] 47)
  obtain ⟨v, hv, hc⟩ := h2.out
  have c0 : W.cell? ⟨go, 0, none⟩ = some v := by
    obtain ⟨v0, hv0, -⟩ := h.out
    have hlt := hv0.lt
    have e1 : Blk ((W.alloc (.cells #[.int .i64 sz, .int .i64 lev] 47)).alloc (.cells #[.int .i64 sz, .int .i64 lev] 47)) go 38 #[v0] := (hv0.alloc _).alloc _
    unfold Blk at e1 hv
    rw [e1] at hv
    injection hv with hv
    injection hv with hv
    have : v0 = v := by simpa using hv
    rw [hv0.cell, this]; rfl
  have hgl : go < W.heap.size := by obtain ⟨v0, hv0, -⟩ := h.out; exact hv0.lt
  have hbw := h.below.size
  have hfin : ∀ (v' : Value) (w3 : World), w3.ownsRow w.heap.size 47 2 v' (cs.length + 1) (chCells cs ++ [.int .i64 sz, .int .i64 lev]) →
      ((W.alloc (.cells #[.int .i64 sz, .int .i64 lev] 47)).alloc (.cells #[.int .i64 sz, .int .i64 lev] 47)).grownBy w3 v.ownBlock →
      w3.cell? ⟨go, 0, none⟩ = some v ∧ w3.frozen? ⟨go, 0, none⟩ = false ∧ CutIn w (w3.setCell ⟨go, 0, none⟩ v') g gr go ec l (cs ++ [(sz, lev)]) := by
    intro v' w3 ho hgw
    have hv3 : Blk w3 go 38 #[v] := hv.grown hgw (own_ne hc hv (by decide))
    obtain ⟨x, hx⟩ := h2.roll.blk
    have hr3 : RollAt w3 gr l := h2.roll.grown hgw (fun e => own_ne hc hx (by decide) e)
    have he3 : Blk w3 g 97 ec := h2.each_.grown hgw (own_ne hc h2.each_ (by decide))
    have hb3 : Below w.heap.size w w3 := Below.grown h2.below hgw h2.below.size (fun b hb => (World.ownsRow.lt hc b hb).1)
    have hgs : w3.grownBy (w3.setCell ⟨go, 0, none⟩ v') (some go) := only_setCell (only_refl w3 (some go)) (.inl rfl) v'
    refine ⟨by rw [hv3.cell]; rfl, hv3.frozen 0, below_of_only hb3 hgs hb3.size hgo, he3.grown hgs (fun e => h2.ne3 (Option.some.inj e).symm), hr3.grown hgs (fun e => h2.ne2 (Option.some.inj e).symm), h2.gr_, v', ?_, ?_⟩
    · have := hv3.set_ 0 v'
      exact this
    · have h1 : Chunks w.heap.size w3 v' (cs ++ [(sz, lev)]) := by
        unfold Chunks
        rw [chCells_append, List.length_append]
        exact ho
      refine own_kept h1 hgs (fun q hq e => ?_)
      exact own_ne ho hv3 (by decide) (e.trans hq.symm)
  have hc' : ((W.alloc (.cells #[.int .i64 sz, .int .i64 lev] 47)).alloc (.cells #[.int .i64 sz, .int .i64 lev] 47)).ownsRow w.heap.size 47 2 v cs.length (chCells cs) := hc
  have HF := Lib.hid hfin; clear hfin
  have HC := Lib.hid hc'; clear hc' hc hv h2 h
  go_enter Tryd.func39, Tryd.ntmps39
  go_wp2_with (at_builtin; refine wpList_append_own _ rfl _ _ 38 rfl w.heap.size 47 i0 (.agg #[.int .i64 0, .int .i64 0]) 2 16 Tryd.underlying38 hi0 hz0 hs0 hy0 rfl (by decide) v cs.length _ rfl HC.out ⟨W.heap.size + 1, 0, none⟩ 1 1 [.int .i64 sz, .int .i64 lev] rfl rfl (news_at (W.alloc (.cells #[.int .i64 sz, .int .i64 lev] 47)) _ _ _ (by simp)) (by intro u hu; simp at hu; rcases hu with rfl | rfl <;> rfl) (by unfold maxLen; omega) (by omega) (by simp; omega) ?_; intro v3 w3 hown3 hgrow3 _; obtain ⟨d1, d2, d3⟩ := HF.out v3 w3 hown3 hgrow3; have HD := Lib.hid d3; obtain ⟨a3, cap3, rfl⟩ := own_slice hown3; clear hown3 hgrow3 d3)
  go_end0
  exact ⟨rfl, HD.out⟩
end Go.Proofs.YtmnggemifcjflaaDoor
