/-
  Digits, the walk: digits, Hex of the program.
-/
import Derived.Test.YtdoaajjmibkfeaaHexP
import Derived.Test.YtdoaajjmibkfeaaWireX
import Derived.Deep.DeepAppendRoom
import Derived.Deep.RegionLaw
import Derived.RegionTactic
import Derived.Handy
namespace Go.Proofs.Ytdoaajjmibkfeaa
open Go.RowKit PlainP HexP

theorem digs_cs : (#[.int .u8 48, .int .u8 49, .int .u8 50, .int .u8 51, .int .u8 52, .int .u8 53, .int .u8 54, .int .u8 55, .int .u8 56, .int .u8 57, .int .u8 97, .int .u8 98, .int .u8 99, .int .u8 100, .int .u8 101, .int .u8 102] : Array Value) = bcs digs := by rfl
set_option maxRecDepth 100000 in
theorem digits_any (w : World) :
    Calls Try.prog 56 #[] w fun e w' => e = .returned (.agg #[.int .u8 48, .int .u8 49, .int .u8 50, .int .u8 51, .int .u8 52, .int .u8 53, .int .u8 54, .int .u8 55, .int .u8 56, .int .u8 57, .int .u8 97, .int .u8 98, .int .u8 99, .int .u8 100, .int .u8 101, .int .u8 102]) ∧ Below w.heap.size w w' := by
  go_enter Try.func56, Try.ntmps56
  go_wp2_with fail
  go_returns
  exact ⟨rfl, (Below.refl _ _).alloc (Nat.le_refl _) _⟩

/-- append with room to a row of the call's own, as a step of a region that draws -/
theorem step_append_spare {P : Program} {ops : Array Oper} {o : Oper} {a : Act} {w : World} {K : Act → World → Prop} {Q : Exit → Act → World → Prop} {E : Prop}
    (hg : o.guard = none) (s x : Operand) (t : TypeId) (ho : o.op = Op.call { callee := Callee.builtin Builtin.append, args := #[s, x], argTypes := #[t, t] })
    (base : Nat) (e : TypeId) (i : TypeInfo) (size : Nat) (ht : P.underlying t = some (.slice e)) (hi : P.info? e = some i) (hsize : i.size = size)
    (g n cap : Nat) (xs : List Value) (hs : a.eval s = .slice (some ⟨g, 0, none⟩) n cap) (hown : w.ownsRow base e size (.slice (some ⟨g, 0, none⟩) n cap) n xs)
    (ad : Addr) (m c : Nat) (news : List Value) (hx : a.eval x = .slice (some ad) m c) (hl : news.length = m * size) (hnews : ∀ j u, news[j]? = some u → w.cell? (ad.add j) = some u) (h1 : ∀ u ∈ news, u.oneCell' = true)
    (hroom : n + m ≤ cap)
    (h : ∀ w', w'.ownsRow base e size (.slice (some ⟨g, 0, none⟩) (n + m) cap) (n + m) (xs ++ news) → w.grownBy w' (some g) → K (a.put o.dst (.slice (some ⟨g, 0, none⟩) (n + m) cap)) w') :
    if Region.wanted o (yielded ops a.tmps) = true then Oper.wp P o a w K Q else E := by
  have hw : Region.wanted o (yielded ops a.tmps) = true := by simp [Region.wanted, hg]
  rw [if_pos hw]
  exact wp_append_own_spare w s x t ho base e i size ht hi hsize g n cap xs hs hown ad m c news hx hl hnews h1 hroom h
/-- the same where the row may have to grow -/
theorem step_append_any {P : Program} {ops : Array Oper} {o : Oper} {a : Act} {w : World} {K : Act → World → Prop} {Q : Exit → Act → World → Prop} {E : Prop}
    (hg : o.guard = none) {F : Prop} (hF : F) (hF' : F → Oper.wp P o a w K Q) :
    if Region.wanted o (yielded ops a.tmps) = true then Oper.wp P o a w K Q else E := by
  have hw : Region.wanted o (yielded ops a.tmps) = true := by simp [Region.wanted, hg]
  rw [if_pos hw]
  exact hF' hF
/-- make([]byte, 0, c) -/
theorem make_room (W : World) (c : Nat) (h : c ≤ 281474976710656) :
    (Instr.makeSlice 28 (.int .i64 0) (.int .i64 c)).run Try.prog W = .ok (.slice (some ⟨W.heap.size, 0, none⟩) 0 c) (W.alloc (.cells (madeCells #[Value.int .u8 0] c) 5)) := by
  obtain ⟨i, hi, hz, hs, hb⟩ := info_parts byte_info
  have h1 := run_make (P := Try.prog) W 28 5 i (.int .u8 0) Try.underlying28 hi hz .i64 .i64 0 c (by omega) (by omega) (by rw [hb]; omega) (by omega)
  rw [hs, Nat.mul_one, Int.toNat_natCast] at h1
  exact h1
/-- a row of bytes of the call's own, with room -/
def Room (B : Nat) (w : World) (g cap : Nat) (l : List Nat) : Prop := w.ownsRow B 5 1 (.slice (some ⟨g, 0, none⟩) l.length cap) l.length (bcs l).toList
theorem bcs_len (l : List Nat) : (bcs l).toList.length = l.length := by simp [bcs]
theorem bcs_list (l : List Nat) : (bcs l).toList = l.map (fun n : Nat => Value.int .u8 (n : Int)) := by simp [bcs]
theorem room_new (B : Nat) (w : World) (c : Nat) (hb : B ≤ w.heap.size) (hc : c ≤ 281474976710656) : Room B (w.alloc (.cells (madeCells #[Value.int .u8 0] c) 5)) w.heap.size c [] :=
  World.ownsRow_made w _ c hb (by unfold maxLen; omega) (by rw [size_madeCells, Nat.mul_one])
theorem room_at (B : Nat) (w : World) (c g : Nat) (hb : B ≤ w.heap.size) (hc : c ≤ 281474976710656) (hg : w.heap.size = g) : Room B (w.alloc (.cells (madeCells #[Value.int .u8 0] c) 5)) g c [] := by
  subst hg; exact room_new B w c hb hc
theorem laid_at (W : World) (s : ByteArray) (cap : Nat) (e : TypeId) (m : Nat × Nat) (g : Nat) (hg : W.heap.size = g) : HoldsB (W.alloc (.cells (bytesRow s cap) e m)) g (nats s) := by
  subst hg; exact laid_holds W s cap e m
theorem Room.holds {B : Nat} {w : World} {g cap : Nat} {l : List Nat} (h : Room B w g cap l) : HoldsB w g l := by
  intro j x hx
  have := World.ownsRow.cells h (g := g) rfl j (.int .u8 (x : Int)) (by rw [bcs_list, List.getElem?_map, hx]; rfl)
  rwa [show (⟨g, 0, none⟩ : Addr).add j = ⟨g, j, none⟩ by unfold Addr.add; split <;> simp_all] at this
theorem Room.lt {B : Nat} {w : World} {g cap : Nat} {l : List Nat} (h : Room B w g cap l) : B ≤ g ∧ g < w.heap.size := World.ownsRow.lt h g rfl
theorem Room.alloc {B : Nat} {w : World} {g cap : Nat} {l : List Nat} (h : Room B w g cap l) (o : Obj) : Room B (w.alloc o) g cap l := World.ownsRow.alloc h o
theorem Room.drew {B : Nat} {w : World} {g cap : Nat} {l : List Nat} (h : Room B w g cap l) : Room B w.drew g cap l := h
theorem Room.below {B : Nat} {w w' : World} {g cap : Nat} {l : List Nat} (h : Room B w g cap l) (k : Below w.heap.size w w') : Room B w' g cap l :=
  World.ownsRow.kept h (only_of_below k none) (by simp [Value.ownBlock])
/-- append(b, x, y) where there is room: for 'wpList_append_own_spare' -/
theorem news_new (w : World) (cs : Array Value) (e : TypeId) : ∀ j u, cs.toList[j]? = some u → (w.alloc (.cells cs e)).cell? ((⟨w.heap.size, 0, none⟩ : Addr).add j) = some u := by
  intro j u h
  rw [show (⟨w.heap.size, 0, none⟩ : Addr).add j = ⟨w.heap.size, j, none⟩ by unfold Addr.add; split <;> simp_all, cell_of_row _ w.heap.size j cs e (0, 0) (heap_alloc_new w _)]
  rw [Array.getElem?_toList] at h; exact h
theorem Room.more {B : Nat} {w : World} {g cap : Nat} {l m : List Nat} (h : w.ownsRow B 5 1 (.slice (some ⟨g, 0, none⟩) (l.length + m.length) cap) (l.length + m.length) ((bcs l).toList ++ (bcs m).toList)) : Room B w g cap (l ++ m) := by
  unfold Room
  rw [List.length_append, bcs_list, List.map_append, ← bcs_list, ← bcs_list]
  exact h
theorem back_room {B : Nat} {w : World} {g cap : Nat} {l : List Nat} (h : Room B w g cap l) (hb : Bytes l) :
    (convert 28 9 (.slice (some ⟨g, 0, none⟩) l.length cap)).run Try.prog w = .ok (.string (mkS l)) w := back_bytes h.holds hb

theorem and_15 (x : Nat) (hx : x < 256) : bits BinOp.and IntKind.u8 (x : Int) 15 = ((x % 16 : Nat) : Int) := by
  have : ∀ x : Fin 256, bits BinOp.and IntKind.u8 (x.val : Int) 15 = ((x.val % 16 : Nat) : Int) := by decide +kernel
  exact this ⟨x, hx⟩

def HexAt (w : World) (s : ByteArray) (gd gb g k : Nat) (W : World) : Prop :=
  Below w.heap.size w W ∧ Blk W gd 81 (bcs digs) ∧ HoldsB W gb (nats s) ∧ gb < W.heap.size ∧ Room w.heap.size W g (2 * s.size) (hexL ((nats s).take k))

theorem take_snoc (l : List Nat) (k x : Nat) (h : l[k]? = some x) : l.take (k + 1) = l.take k ++ [x] := by
  rw [List.take_add_one, h]; rfl
set_option maxRecDepth 100000 in
set_option maxHeartbeats 1000000 in
theorem hex_any (s : ByteArray) (w : World) (hs : s.size ≤ 140737488355328) :
    Calls Try.prog 38 #[.string s] w fun e w' => e = .returned (.string (mkS (hexL (nats s)))) ∧ Below w.heap.size w w' := by
  have hmk := fun W => make_room W (2 * s.size) (by omega)
  rw [show ((2 * s.size : Nat) : Int) = 2 * (s.size : Int) by omega] at hmk
  have hcv := fun W : World => run_bytes_of_string (P := Try.prog) W 9 28 5 s Try.underlying9 Try.underlying28 Try.underlying5
  have hn := nats_length s
  have HN := Lib.hid hn; clear hn
  obtain ⟨i0, hi0, hz0, hs0, hy0⟩ := info_parts byte_info
  go_enter Try.func38, Try.ntmps38
  go_wp2_with fail
  refine (digits_any _).mono ?_
  rintro e w1 ⟨rfl, hb1⟩
  have hz1 := hb1.size
  have HB1 := Lib.hid hb1; clear hb1
  go_wp2_with fail
  generalize grownCap _ s.size 0 5 = cc
  generalize Value.agg _ = dv
  go_loopw [4, 6, 15] (fun v c i wr => ∃ k : Nat, v = .slice (some ⟨w1.heap.size + 1, 0, none⟩) (2 * k) (2 * s.size) ∧ i = .int .i64 k ∧ k ≤ s.size ∧ Hid (HexAt w s w1.heap.size (w1.heap.size + 2) (w1.heap.size + 1) k wr)) (fun _ _ i _ => s.size - (intOf i).toNat)
  case atStart =>
    refine ⟨0, rfl, rfl, Nat.zero_le _, ?_⟩
    show HexAt _ _ _ _ _ _ _
    refine ⟨?_, ?_, ?_, ?_, ?_⟩
    · have := HB1.out; go_grown
    · rw [← digs_cs]; exact (((Blk.new w1 _ _).alloc _).drew).alloc _
    · exact laid_at _ s _ _ _ _ (by simp)
    · simp
    · rw [List.take_zero]; exact ((room_at w.heap.size _ (2 * s.size) (w1.heap.size + 1) (by simp; omega) (by omega) (by simp)).drew).alloc _
  case round =>
    obtain ⟨k, rfl, rfl, hk, H⟩ := hrel
    by_cases hlt : k < s.size
    · obtain ⟨x, hx⟩ : ∃ x, (nats s)[k]? = some x := ⟨_, List.getElem?_eq_getElem (by rw [HN.out]; exact hlt)⟩
      have hxb : x < 256 := nats_bytes s x (List.mem_of_getElem? hx)
      have hcell : wr.cell? ⟨w1.heap.size + 2, k, none⟩ = some (.int .u8 (x : Int)) := H.out.2.2.1 k x hx
      have c1 : wr.cell? ⟨w1.heap.size, x / 16, none⟩ = some (.int .u8 (dig (x / 16) : Int)) := by rw [H.out.2.1.cell, bcs_get, digs_get _ (by omega)]; rfl
      have c2 : wr.cell? ⟨w1.heap.size, x % 16, none⟩ = some (.int .u8 (dig (x % 16) : Int)) := by rw [H.out.2.1.cell, bcs_get, digs_get _ (by omega)]; rfl
      have ha := and_15 x hxb
      have q1 : ((x / 16 : Nat) : Int) < 16 := by omega
      have q2 : ((x % 16 : Nat) : Int) < 16 := by omega
      have q5 : (x : Int) / 16 = ((x / 16 : Nat) : Int) := by omega
      have HX := Lib.hid hx; clear hx
      obtain ⟨d1, hd1⟩ : ∃ d, x / 16 = d := ⟨_, rfl⟩
      obtain ⟨d2, hd2⟩ : ∃ d, x % 16 = d := ⟨_, rfl⟩
      rw [hd1] at c1 q1 q5
      rw [hd2] at c2 q2 ha
      have HD1 := Lib.hid hd1; clear hd1
      have HD2 := Lib.hid hd2; clear hd2
      have hR := H.out.2.2.2.2
      have hB := H.out.1
      unfold Room at hR
      rw [hexL_length, List.length_take, HN.out, Nat.min_eq_left hk] at hR
      have HR := Lib.hid hR; clear hR
      go_wp2_with fail
      go_region_law (refine step_append_spare rfl _ _ 28 rfl w.heap.size 5 i0 1 Try.underlying28 hi0 hs0 (w1.heap.size + 1) (2 * k) (2 * s.size) _ rfl (World.ownsRow.alloc (w := wr.drew) HR.out _) ⟨wr.heap.size, 0, none⟩ 2 2 [.int .u8 (dig d1 : Int), .int .u8 (dig d2 : Int)] rfl rfl (news_new wr.drew _ _) (by intro u hu; simp at hu; rcases hu with rfl | rfl <;> rfl) (by omega) ?_; intro w3 hown3 hgrow3; have HO := Lib.hid hown3; have HG := Lib.hid hgrow3; clear hown3 hgrow3)
      all_goals (
        go_wp2_with fail
        go_roundw
        case rel =>
          have hsz := HG.out.size
          simp only [World.size_alloc, World.size_drew] at hsz
          have hB := H.out.1
          have hw := hB.size
          refine ⟨k + 1, by rw [Nat.mul_add], by go_num, by omega, ?_⟩
          show HexAt _ _ _ _ _ _ _
          refine ⟨below_of_only (hB.drew.alloc hw _) HG.out (by simp; omega) (by omega), (H.out.2.1.drew.alloc _).grown HG.out (by simp), ?_, ?_, ?_⟩
          · exact HoldsB.grown (w := wr.drew.alloc (.cells #[.int .u8 (dig d1 : Int), .int .u8 (dig d2 : Int)] 5)) (H.out.2.2.1.grown (only_alloc (only_drew (only_refl wr none)) _) H.out.2.2.2.1 (by simp)) HG.out (by have := H.out.2.2.2.1; simp; omega) (by simp)
          · have h1 := H.out.2.2.2.1
            omega
          · have hl : (hexL ((nats s).take k)).length = 2 * k := by rw [hexL_length, List.length_take, HN.out, Nat.min_eq_left hk]
            rw [take_snoc _ _ _ HX.out, hexL_append]
            refine Room.more ?_
            rw [hl]
            simp only [hexL, HD1.out, HD2.out]
            exact HO.out
        case measure => simp [intOf]; omega)
    · obtain rfl : k = s.size := by omega
      have hr := H.out.2.2.2.2
      rw [List.take_of_length_le (by rw [HN.out]; omega)] at hr
      have hbk := back_room hr (hexL_bytes _ (nats_bytes s))
      rw [hexL_length, HN.out] at hbk
      clear hr
      go_wp2_with fail
      go_ret
      exact ⟨rfl, H.out.1⟩
end Go.Proofs.Ytdoaajjmibkfeaa
