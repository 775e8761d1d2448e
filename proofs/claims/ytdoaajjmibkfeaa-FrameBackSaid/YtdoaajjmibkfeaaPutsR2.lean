/-
  The reference's digits, the walk: digit, Hex, Unhex.
-/
import Derived.Test.YtdoaajjmibkfeaaPutsR
import Derived.Laws.BytesArg
namespace Go.Proofs.Ytdoaajjmibkfeaa
open Go.RowKit PlainP WireP HexP

set_option maxRecDepth 100000 in
theorem rdigit_any (c : Nat) (w : World) (hc : c < 256) :
    Calls Try.prog 58 #[.int .u8 c] w fun e w' => e = .returned (.int .u8 (val c)) ∧ w = w' := by
  by_cases h1 : c < 48
  · have hv : val c = 16 := by unfold val; rw [if_neg (by omega), if_neg (by omega)]
    rw [hv]
    go_enter Try.func58, Try.ntmps58
    go_wp2_with fail
    go_ret
    exact ⟨rfl, rfl⟩
  by_cases h2 : c < 58
  · have hv : val c = c - 48 := by unfold val; rw [if_pos (by omega)]
    rw [hv]
    obtain ⟨d, rfl⟩ : ∃ d, c = d + 48 := ⟨c - 48, by omega⟩
    have hd : ((d + 48 : Nat) : Int) - 48 = d := by omega
    go_enter Try.func58, Try.ntmps58
    go_wp2_with fail
    go_ret
    exact ⟨rfl, rfl⟩
  by_cases h3 : c < 97
  · have hv : val c = 16 := by unfold val; rw [if_neg (by omega), if_neg (by omega)]
    rw [hv]
    go_enter Try.func58, Try.ntmps58
    go_wp2_with fail
    go_ret
    exact ⟨rfl, rfl⟩
  by_cases h4 : c < 103
  · have hv : val c = c - 87 := by unfold val; rw [if_neg (by omega), if_pos (by omega)]
    rw [hv]
    obtain ⟨d, rfl⟩ : ∃ d, c = d + 97 := ⟨c - 97, by omega⟩
    go_enter Try.func58, Try.ntmps58
    go_wp2_with fail
    go_ret
    refine ⟨?_, rfl⟩
    show Ending.returned (Value.int .u8 ((d : Int) + 10)) = _
    congr 2
  · have hv : val c = 16 := by unfold val; rw [if_neg (by omega), if_neg (by omega)]
    rw [hv]
    go_enter Try.func58, Try.ntmps58
    go_wp2_with fail
    go_ret
    exact ⟨rfl, rfl⟩

/-- a row of bytes of the call's own, that may grow -/
def Own (B : Nat) (w : World) (v : Value) (l : List Nat) : Prop := w.ownsRow B 5 1 v l.length (bcs l).toList
theorem own_start (B : Nat) (w : World) : Own B w (.slice none 0 0) [] := World.ownsRow_nil w B _ 1
theorem Own.more {B : Nat} {w : World} {v : Value} {l m : List Nat} (h : w.ownsRow B 5 1 v (l.length + m.length) ((bcs l).toList ++ (bcs m).toList)) : Own B w v (l ++ m) := by
  unfold Own
  rw [List.length_append, bcs_list, List.map_append, ← bcs_list, ← bcs_list]
  exact h
theorem Own.back {B : Nat} {w : World} {v : Value} {l : List Nat} (h : Own B w v l) (hb : Bytes l) : (convert 28 9 v).run Try.prog w = .ok (.string (mkS l)) w := by
  rcases h.2 with ⟨rfl, h0⟩ | ⟨g, cap, cur, rfl, hr⟩
  · obtain rfl : l = [] := List.eq_nil_of_length_eq_zero h0
    exact run_convert_bytes_nil w 28 5 Try.underlying28 Try.underlying5 0 0 9 Try.underlying9
  · refine back_bytes (cap := cap) (fun j x hx => ?_) hb
    have := World.ownsRow.cells h (g := g) rfl j (.int .u8 (x : Int)) (by rw [bcs_list, List.getElem?_map, hx]; rfl)
    rwa [show (⟨g, 0, none⟩ : Addr).add j = ⟨g, j, none⟩ by unfold Addr.add; split <;> simp_all] at this
/-- what grows is the call's own: below B all stands -/
theorem below_of_own {B : Nat} {a w w' : World} {v : Value} {l : List Nat} (h : Below B a w) (ho : Own B w v l) (k : w.grownBy w' v.ownBlock) (hB : B ≤ w.heap.size) : Below B a w' :=
  h.grown k hB (fun b hb => (World.ownsRow.lt ho b hb).1)

/-- append to a row of the call's own, as a step of a region that draws -/
theorem step_append_own {P : Program} {ops : Array Oper} {o : Oper} {a : Act} {w : World} {K : Act → World → Prop} {Q : Exit → Act → World → Prop} {E : Prop}
    (hg : o.guard = none) (s x : Operand) (t : TypeId) (ho : o.op = Op.call { callee := Callee.builtin Builtin.append, args := #[s, x], argTypes := #[t, t] })
    (base : Nat) (e : TypeId) (i : TypeInfo) (z : Value) (size bytes : Nat) (ht : P.underlying t = some (.slice e)) (hi : P.info? e = some i) (hz : i.zero = some z)
    (hsize : i.size = size) (hby : i.bytes = bytes) (hzs : z.cells.size = size) (hsz : 0 < size)
    (v : Value) (n : Nat) (xs : List Value) (hs : a.eval s = v) (hown : w.ownsRow base e size v n xs)
    (ad : Addr) (m c : Nat) (news : List Value) (hx : a.eval x = .slice (some ad) m c) (hl : news.length = m * size) (hnews : ∀ j u, news[j]? = some u → w.cell? (ad.add j) = some u) (h1 : ∀ u ∈ news, u.oneCell' = true)
    (h63 : n + m ≤ maxLen) (hbytes : (n + m) * bytes ≤ 140737488355328) (hbase : base ≤ w.heap.size)
    (h : ∀ v' w', w'.ownsRow base e size v' (n + m) (xs ++ news) → w.grownBy w' v.ownBlock → (v' = .slice none 0 0 ↔ v = .slice none 0 0 ∧ m = 0) → K (a.put o.dst v') w') :
    if Region.wanted o (yielded ops a.tmps) = true then Oper.wp P o a w K Q else E := by
  have hw : Region.wanted o (yielded ops a.tmps) = true := by simp [Region.wanted, hg]
  rw [if_pos hw]
  exact wp_append_own w s x t ho base e i z size bytes ht hi hz hsize hby hzs hsz v n xs hs hown ad m c news hx hl hnews h1 h63 hbytes hbase h
theorem digit_at (c : Nat) (h : c < 16) (hlt : c < (⟨#[48, 49, 50, 51, 52, 53, 54, 55, 56, 57, 97, 98, 99, 100, 101, 102]⟩ : ByteArray).size) : (((⟨#[48, 49, 50, 51, 52, 53, 54, 55, 56, 57, 97, 98, 99, 100, 101, 102]⟩ : ByteArray)[c]'hlt).toNat : Int) = (dig c : Int) := by
  have : ∀ c : Fin 16, (((⟨#[48, 49, 50, 51, 52, 53, 54, 55, 56, 57, 97, 98, 99, 100, 101, 102]⟩ : ByteArray)[c.val]'c.isLt).toNat : Int) = (dig c.val : Int) := by decide
  exact this ⟨c, h⟩

set_option maxRecDepth 100000 in
set_option maxHeartbeats 1000000 in
theorem rhex_any (s : ByteArray) (w : World) (hs : s.size ≤ 1048576) :
    Calls Try.prog 39 #[.string s] w fun e w' => e = .returned (.string (mkS (hexL (nats s)))) ∧ Below w.heap.size w w' := by
  have hn := nats_length s
  have HN := Lib.hid hn; clear hn
  obtain ⟨i0, hi0, hz0, hs0, hy0⟩ := info_parts byte_info
  go_enter Try.func39, Try.ntmps39
  go_wp2_with fail
  go_loopw [3, 4] (fun v i wr => ∃ k : Nat, i = .int .i64 k ∧ k ≤ s.size ∧ Hid (Below w.heap.size w wr ∧ Own w.heap.size wr v (hexL ((nats s).take k)))) (fun _ i _ => s.size - (intOf i).toNat)
  case atStart => exact ⟨0, rfl, Nat.zero_le _, Below.refl _ _, own_start _ _⟩
  case round =>
    obtain ⟨k, rfl, hk, H⟩ := hrel
    by_cases hlt : k < s.size
    · obtain ⟨x, hx⟩ : ∃ x, (nats s)[k]? = some x := ⟨_, List.getElem?_eq_getElem (by rw [HN.out]; exact hlt)⟩
      have hxb : x < 256 := nats_bytes s x (List.mem_of_getElem? hx)
      have hbx : ((s[k]'hlt).toNat : Int) = (x : Int) := (PlainAid.get_bt s k hlt).trans (bt_nats s k x hx)
      have HX := Lib.hid hx; clear hx
      obtain ⟨d1, hd1⟩ : ∃ d, x / 16 = d := ⟨_, rfl⟩
      obtain ⟨d2, hd2⟩ : ∃ d, x % 16 = d := ⟨_, rfl⟩
      have q1 : (d1 : Int) < 16 := by omega
      have q2 : (d2 : Int) < 16 := by omega
      have q5 : (x : Int) / 16 = (d1 : Int) := by omega
      have q6 : (x : Int).tmod 16 = (d2 : Int) := by rw [Int.tmod_eq_emod_of_nonneg (by omega)]; omega
      have q9 : IntKind.u8.wrap (d1 : Int) = (d1 : Int) := by rw [IntKind.wrap_u8]; omega
      have q10 : IntKind.u8.wrap (d2 : Int) = (d2 : Int) := by rw [IntKind.wrap_u8]; omega
      have q7 := digit_at d1 (by omega)
      have q8 := digit_at d2 (by omega)
      have HD1 := Lib.hid hd1; clear hd1
      have HD2 := Lib.hid hd2; clear hd2
      have hR := H.out.2
      unfold Own at hR
      have hl : (hexL ((nats s).take k)).length = 2 * k := by rw [hexL_length, List.length_take, HN.out, Nat.min_eq_left hk]
      rw [hl] at hR
      have HR := Lib.hid hR; clear hR
      have hbw := H.out.1.size
      go_wp2_with fail
      go_region_law (refine step_append_own rfl _ _ 28 rfl w.heap.size 5 i0 (.int .u8 0) 1 1 Try.underlying28 hi0 hz0 hs0 hy0 rfl (by decide) u3 (2 * k) _ rfl (World.ownsRow.alloc (w := wr.drew) HR.out _) ⟨wr.heap.size, 0, none⟩ 2 2 [.int .u8 (dig d1 : Int), .int .u8 (dig d2 : Int)] rfl rfl (news_new wr.drew _ _) (by intro u hu; simp at hu; rcases hu with rfl | rfl <;> rfl) (by unfold maxLen; omega) (by omega) (by simp; omega) ?_; intro v3 w3 hown3 hgrow3 _; have HO := Lib.hid hown3; have HG := Lib.hid hgrow3; clear hown3 hgrow3)
      all_goals (
        go_wp2_with fail
        go_roundw
        case rel =>
          refine ⟨k + 1, by go_num, by omega, below_of_own (H.out.1.drew.alloc hbw _) (World.ownsRow.alloc (w := wr.drew) H.out.2 _) HG.out (by simp; omega), ?_⟩
          rw [take_snoc _ _ _ HX.out, hexL_append]
          refine Own.more ?_
          rw [hl]
          simp only [hexL, HD1.out, HD2.out]
          exact HO.out
        case measure => simp [intOf]; omega)
    · obtain rfl : k = s.size := by omega
      have hr := H.out.2
      rw [List.take_of_length_le (by rw [HN.out]; omega)] at hr
      have hbk := hr.back (hexL_bytes _ (nats_bytes s))
      clear hr
      go_wp2_with fail
      go_ret
      exact ⟨rfl, H.out.1⟩

set_option maxRecDepth 100000 in
set_option maxHeartbeats 1000000 in
theorem runhex_any (s : ByteArray) (w : World) (hs : s.size ≤ 1048576) :
    Calls Try.prog 31 #[.string s] w fun e w' => e = .returned (unhexV (unhexL (nats s))) ∧ Below w.heap.size w w' := by
  have hn := nats_length s
  have HN := Lib.hid hn; clear hn
  obtain ⟨i0, hi0, hz0, hs0, hy0⟩ := info_parts byte_info
  by_cases hod : s.size % 2 = 1
  · have hz : unhexL (nats s) = none := unhexL_odd _ _ (Nat.le_refl _) (by rw [HN.out]; exact hod)
    have hm : (s.size : Int).tmod 2 = 1 := by rw [Int.tmod_eq_emod_of_nonneg (by omega)]; omega
    go_enter Try.func31, Try.ntmps31
    go_wp2_with fail
    go_ret2
    rw [hz]
    exact ⟨rfl, Below.refl _ _⟩
  · have hm : (s.size : Int).tmod 2 = 0 := by rw [Int.tmod_eq_emod_of_nonneg (by omega)]; omega
    go_enter Try.func31, Try.ntmps31
    go_wp2_with fail
    go_loopw [4, 5] (fun v i wr => ∃ j : Nat, i = .int .i64 (j : Int) ∧ j ≤ s.size ∧ Hid (Below w.heap.size w wr ∧ ∃ k r, j = 2 * k ∧ Pairs (nats s) k r ∧ Own w.heap.size wr v r)) (fun _ i _ => s.size - (intOf i).toNat)
    case atStart => exact ⟨0, rfl, Nat.zero_le _, Below.refl _ _, 0, [], rfl, Pairs.start _, own_start _ _⟩
    case round =>
      obtain ⟨j, rfl, hk, H⟩ := hrel
      obtain ⟨hB, k, r, hjk, hp, hr⟩ := H.out
      have hbw := hB.size
      have HJK := Lib.hid hjk; clear hjk H
      have HB := Lib.hid hB; clear hB
      by_cases hlt : j < s.size
      · have hlt2 : j + 1 < s.size := by have := HJK.out; omega
        obtain ⟨x, hx⟩ : ∃ x, (nats s)[j]? = some x := ⟨_, List.getElem?_eq_getElem (by rw [HN.out]; exact hlt)⟩
        obtain ⟨y, hy⟩ : ∃ y, (nats s)[j + 1]? = some y := ⟨_, List.getElem?_eq_getElem (by rw [HN.out]; exact hlt2)⟩
        have hbx : ((s[j]'hlt).toNat : Int) = (x : Int) := (PlainAid.get_bt s j hlt).trans (bt_nats s j x hx)
        have hby : ((s[j + 1]'hlt2).toNat : Int) = (y : Int) := (PlainAid.get_bt s (j + 1) hlt2).trans (bt_nats s (j + 1) y hy)
        have hxb : x < 256 := nats_bytes s x (List.mem_of_getElem? hx)
        have hyb : y < 256 := nats_bytes s y (List.mem_of_getElem? hy)
        have HIx := fun W => rdigit_any x W hxb
        have HIy := fun W => rdigit_any y W hyb
        rw [HJK.out] at hx hy
        have HX := Lib.hid hx; clear hx
        have HY := Lib.hid hy; clear hy
        have HPX := Lib.hid HIx; clear HIx
        have HPY := Lib.hid HIy; clear HIy
        have HP := Lib.hid hp; clear hp
        have hrl : r.length ≤ 1048576 := by rw [HP.out.len]; have := HJK.out; omega
        have HR := Lib.hid hr; clear hr
        have hvx16 := val_le x
        have hvy16 := val_le y
        go_wp2_with fail
        refine (HPX.out _).mono ?_
        rintro e w2 ⟨rfl, rfl⟩
        go_wp2_with fail
        refine (HPY.out _).mono ?_
        rintro e w2 ⟨rfl, rfl⟩
        by_cases hvx : val x < 16
        · by_cases hvy : val y < 16
          · have hnx := HP.out.next HX.out HY.out hvx hvy
            have HN2 := Lib.hid hnx; clear hnx
            generalize val x = a at *
            generalize val y = b at *
            go_wp2_with (at_builtin; refine wpList_append_own _ rfl _ _ 28 rfl w.heap.size 5 i0 (.int .u8 0) 1 1 Try.underlying28 hi0 hz0 hs0 hy0 rfl (by decide) u4 r.length _ rfl (World.ownsRow.alloc (w := wr) HR.out _) ⟨wr.heap.size, 0, none⟩ 1 1 [.int .u8 (16 * (a : Int) + (b : Int))] rfl rfl (news_new wr _ _) (by intro u hu; simp at hu; subst hu; rfl) (by unfold maxLen; omega) (by omega) (by simp; omega) ?_; intro v3 w3 hown3 hgrow3 _; have HO := Lib.hid hown3; have HG := Lib.hid hgrow3; clear hown3 hgrow3)
            go_roundw
            case rel =>
              have hjk := HJK.out
              refine ⟨j + 2, by go_num, by omega, below_of_own (HB.out.alloc hbw _) (World.ownsRow.alloc (w := wr) HR.out _) HG.out (by simp; omega), k + 1, r ++ [a * 16 + b], by omega, HN2.out, Own.more ?_⟩
              have e : (bcs [a * 16 + b]).toList = [.int .u8 (16 * (a : Int) + (b : Int))] := by
                rw [bcs_list]; simp; omega
              rw [e]
              exact HO.out
            case measure => simp [intOf]; omega
          · have hz : unhexL (nats s) = none := HP.out.none HX.out HY.out (fun h => hvy h.2)
            have HZ := Lib.hid hz; clear hz
            generalize val x = a at *
            generalize val y = b at *
            go_wp2_with fail
            go_ret2
            rw [HZ.out]
            exact ⟨rfl, HB.out⟩
        · have hz : unhexL (nats s) = none := HP.out.none HX.out HY.out (fun h => hvx h.1)
          have HZ := Lib.hid hz; clear hz
          generalize val x = a at *
          generalize val y = b at *
          go_wp2_with fail
          go_ret2
          rw [HZ.out]
          exact ⟨rfl, HB.out⟩
      · have hz : unhexL (nats s) = some r := hp.done (by rw [HN.out]; have := HJK.out; omega)
        have hbk := hr.back hp.bytes
        have HP := Lib.hid hp; clear hp hr
        have HZ := Lib.hid hz; clear hz
        go_wp2_with fail
        go_ret2
        rw [HZ.out]
        exact ⟨rfl, HB.out⟩
end Go.Proofs.Ytdoaajjmibkfeaa
