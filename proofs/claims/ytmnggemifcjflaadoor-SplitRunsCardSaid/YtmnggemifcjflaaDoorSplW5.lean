/-
  A splitter, the walk: Write.
-/
import Derived.Test.YtmnggemifcjflaaDoorSplW4
namespace Go.Proofs.YtmnggemifcjflaaDoor
open Go.RowKit PlainP RollP OnesP SplitP

/-- what a call leaves it: its own blocks and the new ones -/
def OF (O : Nat → Prop) (w w' : World) : Nat → Prop := fun b => (O b ∨ w.heap.size ≤ b) ∧ b < w'.heap.size
/-- the blocks that it may turn -/
def OT (O : Nat → Prop) (w : World) : Nat → Prop := fun b => O b ∨ w.heap.size ≤ b

theorem SplIn.lts {O : Nat → Prop} {w W : World} {g gx gb gr : Nat} {ec : Array Value} {l rest : List Nat} {ps : List (List Nat × Nat)} {all : Int} {cl : Bool} (h : SplIn O w W g gx gb gr ec l rest ps all cl) : g < W.heap.size ∧ gx < W.heap.size ∧ gb < W.heap.size ∧ gr < W.heap.size := by
  obtain ⟨rv, ov, h1, -⟩ := h.spl
  exact ⟨h.each_.lt, h1.lt, h.box.lt, h.roll.lt⟩
theorem byRow_info : (Tryd.prog.info? 5).map (fun i => (i.zero, i.size, i.bytes)) = some (some (.int .u8 0), 1, 1) := by kernel_rfl
/-- from the inside to the outside -/
theorem SplIn.at_ {O : Nat → Prop} {w W : World} {g gx gb gr : Nat} {p : Plan} {seg : List Nat} {ps : List (List Nat × Nat)} {all : Nat} {cl : Bool} (h : SplIn (OT O w) w W g gx gb gr (eachC p gr seg.length (onNew gb)) (win seg) seg ps all cl) (ht : ¬ OT O w 0) :
    SplAt (OF O w W) W gx p seg all cl := by
  obtain ⟨l1, l2, l3, l4⟩ := h.lts
  obtain ⟨rv, ov, h1, h2, h3, h4, h5⟩ := h.spl
  exact ⟨fun b hb => hb.2, fun e => ht e.1, ⟨h.ox, l2⟩, g, gb, gr, rv, ov, h.each_, h.roll, h.box, h1, h2, fun k hk => ⟨h4 k hk, (World.ownsRow.lt h2 k hk).2⟩, ⟨h.og, l1⟩, ⟨h.ob, l3⟩, ⟨h.or_, l4⟩⟩

set_option maxRecDepth 100000 in
set_option maxHeartbeats 1000000 in
theorem swrite_any (O : Nat → Prop) (w : World) (gx : Nat) (p : Plan) (seg : List Nat) (all : Nat) (s : ByteArray) (hp : p.Ok) (h : SplAt O w gx p seg all false) (hT : Tab w) (hseg : seg.length < p.most) (hb : Bytes seg) (hf : all + s.size ≤ 1048576) :
    Calls Tryd.prog 27 #[.pointer (some ⟨gx, 0, none⟩), .string s] w fun e w' => ∃ ov, e = .returned (.tuple #[ov, .int .i64 0]) ∧ Kept (OT O w) w w' ∧ SplAt (OF O w w') w' gx p (pieceF p seg (nats s)).2 (all + s.size) false ∧ PieceRow w' ov (pieceF p seg (nats s)).1 ∧ Owned (OF O w w') ov := by
  obtain ⟨i0, hi0, hz0, hs0, hy0⟩ := info_parts byRow_info
  have hm := hp.m64
  have hn := nats_length s
  obtain ⟨g, gb, gr, rv, ov, e1, e2, e3, e4, e5, e6, e7, e8, e9⟩ := h.at_
  have c4 : w.cell? ⟨gx, 4, none⟩ = some (.bool false) := by rw [e4.cell]; rfl
  have c3 : w.cell? ⟨gx, 3, none⟩ = some (.int .i64 all) := by rw [e4.cell]; rfl
  have f3 := e4.frozen 3
  have f2 := e4.frozen 2
  have c2 : w.cell? ⟨gx, 2, none⟩ = some ov := by rw [e4.cell]; rfl
  have hO : ∀ b, w.heap.size ≤ b → OT O w b := fun b hb => .inr hb
  have hT0 : ¬ OT O w 0 := fun e => by
    rcases e with e | e
    · exact h.tab e
    · exact Nat.lt_irrefl _ (Nat.lt_of_lt_of_le hT.1 e)
  have hd : ¬ ((1048576 : Int) - (all : Int) < (s.size : Int)) := by omega
  have hd2 : decide ((1048576 : Int) - (all : Int) < (s.size : Int)) = false := decide_eq_false hd
  have hsum : ((all + s.size : Nat) : Int) = (all : Int) + (s.size : Int) := by omega
  -- behind the two stores
  have k0 : w.grownBy ((w.setCell ⟨gx, 3, none⟩ (.int .i64 ((all : Int) + (s.size : Int)))).setCell ⟨gx, 2, none⟩ (.slice none 0 0)) (some gx) := only_setCell (only_setCell (only_refl w (some gx)) (.inl rfl) _) (.inl rfl) _
  have hS : SplIn (OT O w) w ((w.setCell ⟨gx, 3, none⟩ (.int .i64 ((all : Int) + (s.size : Int)))).setCell ⟨gx, 2, none⟩ (.slice none 0 0)) g gx gb gr (eachC p gr seg.length (onNew gb)) (win seg) seg [] ((all + s.size : Nat) : Int) false := by
    have a1 := (e4.set_ 3 (.int .i64 ((all : Int) + (s.size : Int)))).set_ 2 (.slice none 0 0)
    obtain ⟨y, hy⟩ := e2.blk
    refine ⟨hO, (Kept.refl _ w).grown hO k0 (fun _ e => by injection e with e; subst e; exact .inl h.ox), e1.grown k0 (fun e => blk_ne e1 e4 (by decide) (Option.some.inj e)), e2.grown k0 (fun e => blk_ne e4 hy (by decide) (Option.some.inj e).symm), e3.grown k0 (fun e => blk_ne e3 e4 (by decide) (Option.some.inj e)),
      ⟨rv, .slice none 0 0, ?_, own_kept e5 k0 (fun q hq e => own_ne e5 e4 (by decide) (e.trans hq.symm)), World.ownsRow_nil _ _ _ _, fun k hk => .inl (e6 k hk), fun k hk => by cases hk⟩, .inl e7, .inl h.ox, .inl e8, .inl e9⟩
    rw [hsum]
    exact a1
  have c3' : (w.setCell ⟨gx, 3, none⟩ (.int .i64 ((all : Int) + (s.size : Int)))).cell? ⟨gx, 2, none⟩ = some ov := by rw [(e4.set_ 3 (.int .i64 ((all : Int) + (s.size : Int)))).cell]; rfl
  have f3' : (w.setCell ⟨gx, 3, none⟩ (.int .i64 ((all : Int) + (s.size : Int)))).frozen? ⟨gx, 2, none⟩ = false := (e4.set_ 3 (.int .i64 ((all : Int) + (s.size : Int)))).frozen 2
  have HS := Lib.hid hS; have HT := Lib.hid hT; have HT0 := Lib.hid hT0; have HN := Lib.hid hn; have HP := Lib.hid hp; have HSEG := Lib.hid hseg; have HB := Lib.hid hb
  clear hS hT hT0 hn hp hseg hb k0 e1 e2 e3 e4 e5 e6 e7 e8 e9 h hsum hO
  go_enter Tryd.func27, Tryd.ntmps27
  go_wp2_with fail
  go_loopw [6, 38] (fun _ i wr => ∃ k : Nat, i = .int .i64 k ∧ k ≤ s.size ∧ Hid (∃ gr, SplIn (OT O w) w wr g gx gb gr (eachC p gr (pieceF p seg ((nats s).take k)).2.length (onNew gb)) (win (pieceF p seg ((nats s).take k)).2) (pieceF p seg ((nats s).take k)).2 (pieceF p seg ((nats s).take k)).1 ((all + s.size : Nat) : Int) false)) (fun _ i _ => s.size - (intOf i).toNat)
  case atStart => exact ⟨0, rfl, Nat.zero_le _, gr, HS.out⟩
  case round =>
    obtain ⟨k, rfl, hk, H⟩ := hrel
    obtain ⟨gr', hI⟩ := H.out
    clear H
    by_cases hlt : k < s.size
    · obtain ⟨x, hx⟩ : ∃ x, (nats s)[k]? = some x := ⟨_, List.getElem?_eq_getElem (by rw [HN.out]; exact hlt)⟩
      have hbx : ((s[k]'hlt).toNat : Int) = (x : Int) := (PlainAid.get_bt s k hlt).trans (bt_nats s k x hx)
      have hbt := (pieceF_bytes p ((nats s).take k) seg ((nats_bytes s).take k) HB.out).2.append (Bytes.one (nats_bytes s x (List.mem_of_getElem? hx)))
      have hsg := pieceF_seg p (by have := HP.out.m64; omega) ((nats s).take k) seg HSEG.out
      have hcl := pieceF_len p ((nats s).take k) seg
      rw [List.length_take] at hcl
      have hst := pieceF_step p seg (nats s) k x hx
      generalize (pieceF p seg ((nats s).take k)).1 = ps at *
      generalize (pieceF p seg ((nats s).take k)).2 = sg at *
      obtain ⟨rv, ov, q1, q2, q3, q4, q5⟩ := hI.spl
      have x1 : wr.cell? ⟨gx, 1, none⟩ = some rv := by rw [q1.cell]; rfl
      have hP := hI.drew.alloc (.cells #[.int .u8 x] 5)
      have hal := World.grownBy_alloc wr.drew (.cells #[.int .u8 x] 5) none
      have q1' : Blk (wr.drew.alloc (.cells #[.int .u8 x] 5)) gx 99 (splC g rv ov ((all + s.size : Nat) : Int) false) := q1.drew.alloc _
      have q2' : ByteRow (wr.drew.alloc (.cells #[.int .u8 x] 5)) rv sg := own_kept (w := wr.drew) q2 hal (fun _ _ e => by cases e)
      have q3' : PieceRow (wr.drew.alloc (.cells #[.int .u8 x] 5)) ov ps := own_kept (w := wr.drew) q3 hal (fun _ _ e => by cases e)
      have x1' : (wr.alloc (.cells #[.int .u8 x] 5)).cell? ⟨gx, 1, none⟩ = some rv := q1'.cell 1
      have hap := fun v' w3 ho hgw hat => SplIn.pushRest hP q1' q2' q3' q4 q5 x v' w3 ho hgw hat
      have hnew := news_at wr.drew #[.int .u8 x] 5 wr.heap.size rfl
      have HAP := Lib.hid hap; have HRO := Lib.hid (show World.ownsRow _ _ _ _ _ _ _ from q2'); have HNW := Lib.hid hnew; have HBT := Lib.hid hbt; have HST := Lib.hid hst
      have hsz : sg.length + 1 ≤ 65536 := by have := HP.out.m65536; omega
      have HSG := Lib.hid hsg; have HCL := Lib.hid hcl
      clear hap q2' hnew hP hal q1' q1 q2 q3 q3' q4 q5 hI hbt hst hx hsg hcl
      go_wp2_with fail
      go_region_law (refine step_append_at rfl _ _ 74 rfl 0 5 i0 (.int .u8 0) 1 1 Tryd.underlying74 hi0 hz0 hs0 hy0 rfl (by decide) rv sg.length _ rfl HRO.out ⟨wr.heap.size, 0, none⟩ 1 1 [.int .u8 x] rfl rfl HNW.out (by intro u hu; simp at hu; subst hu; rfl) (by unfold maxLen; omega) (by omega) (Nat.zero_le _) ?_; intro v3 w3 hown3 hgrow3 hat3; obtain ⟨d1, d2, d3⟩ := HAP.out v3 w3 hown3 hgrow3 hat3; have HD := Lib.hid d3; obtain ⟨a3, cap3, rfl⟩ := own_slice hown3; clear hown3 hgrow3 hat3 d3)
      all_goals (
        have hD := HD.out
        generalize w3.setCell ⟨gx, 1, none⟩ (.slice a3 (sg.length + 1) cap3) = w5 at *
        obtain ⟨rv5, ov5, r1, -⟩ := hD.spl
        have y0 : w5.cell? ⟨gx, 0, none⟩ = some (.pointer (some ⟨g, 0, none⟩)) := by rw [r1.cell]; rfl
        have htk := takeS_any (OT O w) w w5.drew g gx gb gr' p sg x ps _ _ HP.out hD.drew HT.out HT0.out HSG.out (by have := HCL.out; omega) HBT.out
        rw [HST.out] at htk
        have HTK := Lib.hid htk
        clear htk r1 hD HD
        go_wp2_with fail
        go_still_tail 7, (by kernel_rfl)
        change wpList _ _ _ _ _ w5.drew
        go_wp2_with fail
        refine HTK.out.mono ?_
        rintro e w6 ⟨rfl, gr2, h2⟩
        have H2 := Lib.hid h2; clear h2
        go_wp2_with fail
        go_roundw
        case rel => exact ⟨k + 1, by go_num, by omega, gr2, H2.out⟩
        case measure => simp [intOf]; omega)
    · obtain rfl : k = s.size := by omega
      rw [List.take_of_length_le (by rw [HN.out]; omega)] at hI
      have hA := hI.at_ HT0.out
      have hK := hI.kept
      obtain ⟨rv, ov, q1, q2, q3, q4, q5⟩ := hI.spl
      have x2 : wr.cell? ⟨gx, 2, none⟩ = some ov := by rw [q1.cell]; rfl
      have HA := Lib.hid hA; have HK := Lib.hid hK; have HQ := Lib.hid q3; have HQ5 := Lib.hid q5
      clear hA hK q1 q2 q3 q4 q5 hI
      go_wp2_with fail
      go_ret2
      exact ⟨ov, rfl, HK.out, HA.out, HQ.out, fun b hb => ⟨HQ5.out b hb, (World.ownsRow.lt HQ.out b hb).2⟩⟩
end Go.Proofs.YtmnggemifcjflaaDoor
