/-
  Digits, the walk: Unhex of the program.
-/
import Derived.Test.YtdoaajjmibkfeaaHexW
import Derived.Test.YtdoaajjmibkfeaaShelf
import Derived.Deep.QuietTactic
import Derived.BigQuiet
import Derived.Deep.RegionWith
namespace Go.Proofs.Ytdoaajjmibkfeaa
open Go.RowKit PlainP HexP

/-- what strings.IndexByte says of a digit -/
def ixV (c : Nat) : Int := if val c < 16 then (val c : Int) else -1
theorem ix_eq (c : Nat) (hc : c < 256) : Lib.indexByte (mkS digs).data.toList ((c : Int).toNat.toUInt8) = ixV c := by
  have : ∀ c : Fin 256, Lib.indexByte (mkS digs).data.toList ((c.val : Int).toNat.toUInt8) = ixV c.val := by decide +kernel
  exact this ⟨c, hc⟩
theorem ix_any (c : Nat) (hc : c < 256) (w : World) :
    Calls Try.prog 57 #[.string (mkS digs), .int .u8 (c : Int)] w fun e w' => e = .returned (.int .i64 (ixV c)) ∧ w' = w := by
  rw [← ix_eq c hc]; exact indexByte_any _ _ _
theorem or_nib (a b : Nat) (ha : a < 16) (hb : b < 16) : bits BinOp.or IntKind.i64 ((a : Int) * 16) (b : Int) = ((a * 16 + b : Nat) : Int) := by
  have : ∀ a b : Fin 16, bits BinOp.or IntKind.i64 ((a.val : Int) * 16) (b.val : Int) = ((a.val * 16 + b.val : Nat) : Int) := by decide +kernel
  exact this ⟨a, ha⟩ ⟨b, hb⟩

theorem arr16 : Try.prog.arrayLen 81 = 16 := by kernel_rfl
theorem size16 (W : World) : (sizeOf (Try.prog.elem 81)).run Try.prog W = .ok 1 W := by kernel_rfl
theorem under16 : Try.prog.underlying 81 = some (.array (Try.prog.arrayLen 81) (Try.prog.elem 81)) := by kernel_rfl
theorem and_1 (n : Nat) (h : n < 9223372036854775808) : bits BinOp.and IntKind.i64 (n : Int) 1 = ((n % 2 : Nat) : Int) := by
  have h1 : (BitVec.ofInt 64 (n : Int)).toNat = n := by rw [BitVec.ofInt_natCast, BitVec.toNat_ofNat]; exact Nat.mod_eq_of_lt (by omega)
  have h2 : (BitVec.ofInt 64 1).toNat = 1 := by decide
  have h3 : n &&& 1 = n % 2 := Nat.and_two_pow_sub_one_eq_mod n 1
  show IntKind.i64.wrap ((BitVec.ofInt 64 (n : Int) &&& BitVec.ofInt 64 1).toNat : Int) = _
  rw [BitVec.toNat_and, h1, h2, h3]
  have : n % 2 = 0 ∨ n % 2 = 1 := by omega
  rcases this with h | h <;> rw [h] <;> decide
theorem digs_bytes : Bytes digs := by
  have h : ∀ y ∈ digs, y < 256 := by decide
  exact h
theorem digs_back (w : World) : (convert 28 9 (.slice (some ⟨w.heap.size, 0, none⟩) 16 16)).run Try.prog (w.alloc (.cells #[.int .u8 48, .int .u8 49, .int .u8 50, .int .u8 51, .int .u8 52, .int .u8 53, .int .u8 54, .int .u8 55, .int .u8 56, .int .u8 57, .int .u8 97, .int .u8 98, .int .u8 99, .int .u8 100, .int .u8 101, .int .u8 102] 81)) = .ok (.string (mkS digs)) (w.alloc (.cells #[.int .u8 48, .int .u8 49, .int .u8 50, .int .u8 51, .int .u8 52, .int .u8 53, .int .u8 54, .int .u8 55, .int .u8 56, .int .u8 57, .int .u8 97, .int .u8 98, .int .u8 99, .int .u8 100, .int .u8 101, .int .u8 102] 81)) := by
  rw [digs_cs]
  exact back_bytes (cap := 16) (bcs_holds (Blk.new w 81 (bcs digs))) digs_bytes
theorem below_drewN {B : Nat} {a w : World} (h : Below B a w) (n : Nat) : Below B a (w.drewN n) := ⟨h.os, h.tape, h.output, h.size, h.block⟩
def UnAt (w : World) (s : ByteArray) (g k : Nat) (W : World) : Prop :=
  Below w.heap.size w W ∧ ∃ r, Pairs (nats s) k r ∧ Room w.heap.size W g (s.size / 2) r
/-- what Unhex answers -/
def unhexV (o : Option (List Nat)) : Value :=
  match o with
  | some r => .tuple #[.string (mkS r), .int .i64 0]
  | none => .tuple #[.string ⟨#[]⟩, .int .i64 4]

set_option maxRecDepth 100000 in
set_option maxHeartbeats 1000000 in
theorem unhex_any (s : ByteArray) (w : World) (hs : s.size ≤ 281474976710656) :
    Calls Try.prog 30 #[.string s] w fun e w' => e = .returned (unhexV (unhexL (nats s))) ∧ Below w.heap.size w w' := by
  have hmk := fun W => make_room W (s.size / 2) (by omega)
  rw [show ((s.size / 2 : Nat) : Int) = (s.size : Int) / 2 by omega] at hmk
  have hn := nats_length s
  have HN := Lib.hid hn; clear hn
  obtain ⟨i0, hi0, hz0, hs0, hy0⟩ := info_parts byte_info
  go_enter Try.func30, Try.ntmps30
  go_wp2_with fail
  refine (digits_any _).mono ?_
  rintro e w1 ⟨rfl, hb1⟩
  have hz1 := hb1.size
  have HB1 := Lib.hid hb1; clear hb1
  have hbk := digs_back w1
  have ha := and_1 s.size (by omega)
  have hix := fun c hc W => ix_any c hc W
  obtain ⟨D, hD⟩ : ∃ D, mkS digs = D := ⟨_, rfl⟩
  rw [hD] at hbk hix
  clear hD
  have HIX := Lib.hid hix; clear hix
  by_cases hod : s.size % 2 = 1
  · have hz : unhexL (nats s) = none := unhexL_odd _ _ (Nat.le_refl _) (by rw [HN.out]; exact hod)
    rw [hod] at ha
    go_wp2_with fail
    go_ret2
    rw [hz]
    exact ⟨rfl, by have := HB1.out; go_grown⟩
  · rw [show s.size % 2 = 0 by omega] at ha
    go_wp2_with fail
    generalize Value.agg _ = dv
    go_loopw [6, 7] (fun v i wr => ∃ k j : Nat, v = .slice (some ⟨w1.heap.size + 1, 0, none⟩) k (s.size / 2) ∧ i = .int .i64 (j : Int) ∧ j ≤ s.size ∧ Hid (UnAt w s (w1.heap.size + 1) k wr ∧ j = 2 * k)) (fun _ i _ => s.size - (intOf i).toNat)
    case atStart =>
      refine ⟨0, 0, rfl, rfl, Nat.zero_le _, ?_⟩
      show UnAt _ _ _ _ _ ∧ _
      refine ⟨⟨by have := HB1.out; go_grown, [], Pairs.start _, ?_⟩, rfl⟩
      exact room_at w.heap.size _ (s.size / 2) (w1.heap.size + 1) (by simp; omega) (by omega) (by simp)
    case round =>
      obtain ⟨k, j, rfl, rfl, hk, HJ⟩ := hrel
      have HJK := Lib.hid HJ.out.2
      have H := Lib.hid HJ.out.1; clear HJ
      by_cases hlt : j < s.size
      · have hlt2 : j + 1 < s.size := by have := HJK.out; omega
        obtain ⟨x, hx⟩ : ∃ x, (nats s)[j]? = some x := ⟨_, List.getElem?_eq_getElem (by rw [HN.out]; exact hlt)⟩
        obtain ⟨y, hy⟩ : ∃ y, (nats s)[j + 1]? = some y := ⟨_, List.getElem?_eq_getElem (by rw [HN.out]; exact hlt2)⟩
        have hbx : ((s[j]'hlt).toNat : Int) = (x : Int) := (PlainAid.get_bt s j hlt).trans (bt_nats s j x hx)
        have hby : ((s[j + 1]'hlt2).toNat : Int) = (y : Int) := (PlainAid.get_bt s (j + 1) hlt2).trans (bt_nats s (j + 1) y hy)
        have hxb : x < 256 := nats_bytes s x (List.mem_of_getElem? hx)
        have hyb : y < 256 := nats_bytes s y (List.mem_of_getElem? hy)
        have HIx := fun W => HIX.out x hxb W
        have HIy := fun W => HIX.out y hyb W
        rw [HJK.out] at hx hy
        have HX := Lib.hid hx; clear hx
        have HY := Lib.hid hy; clear hy
        have HPX := Lib.hid HIx; clear HIx
        have HPY := Lib.hid HIy; clear HIy
        go_wp2_with fail
        go_quiet (first
          | (go_at_call 57; exact Calls.quiet_of_same (HPX.out _))
          | (go_at_call 57; exact Calls.quiet_of_same (HPY.out _)))
        by_cases hvx : val x < 16
        · have e1 : ixV x = (val x : Int) := if_pos hvx
          by_cases hvy : val y < 16
          · have e2 : ixV y = (val y : Int) := if_pos hvy
            have hor := or_nib _ _ hvx hvy
            rw [e1, e2]
            obtain ⟨hB, r, hp, hr⟩ := H.out
            have hl := hp.len
            have HR := Lib.hid (show (wr.drewN nq).ownsRow w.heap.size 5 1 (.slice (some ⟨w1.heap.size + 1, 0, none⟩) k (s.size / 2)) k (bcs r).toList by
              have := hr; unfold Room at this; rw [hl] at this; exact this)
            have hnx := hp.next HX.out HY.out hvx hvy
            have HP := Lib.hid hp; clear hp hr hl
            have HN2 := Lib.hid hnx; clear hnx
            have HB := Lib.hid hB; clear hB
            have hkj : k + 1 ≤ s.size / 2 := by have := HJK.out; omega
            clear e1 e2
            generalize val x = a at *
            generalize val y = b at *
            go_wp2_with (at_builtin; refine wpList_append_own_spare _ rfl _ _ 28 rfl w.heap.size 5 i0 1 Try.underlying28 hi0 hs0 (w1.heap.size + 1) k (s.size / 2) _ rfl (World.ownsRow.alloc (w := wr.drewN nq) HR.out _) ⟨(wr.drewN nq).heap.size, 0, none⟩ 1 1 [.int .u8 ((a : Int) * 16 + (b : Int))] rfl rfl (news_new (wr.drewN nq) _ _) (by intro u hu; simp at hu; subst hu; rfl) (by omega) ?_; intro w3 hown3 hgrow3; have HO := Lib.hid hown3; have HG := Lib.hid hgrow3; clear hown3 hgrow3)
            go_roundw
            case rel =>
              have hsz := HG.out.size
              simp only [World.size_alloc] at hsz
              have hw := HB.out.size
              have hjk := HJK.out
              refine ⟨k + 1, j + 2, by go_num, by go_num, by omega, ?_⟩
              show UnAt _ _ _ _ _ ∧ _
              refine ⟨⟨below_of_only ((below_drewN HB.out nq).alloc hw _) HG.out (by simp; omega) (by omega), r ++ [a * 16 + b], HN2.out, ?_⟩, by omega⟩
              refine Room.more ?_
              rw [HP.out.len]
              exact HO.out
            case measure => simp [intOf]; omega
          · have e2 : ixV y = -1 := if_neg hvy
            obtain ⟨hB, r, hp, hr⟩ := H.out
            have hz : unhexL (nats s) = none := hp.none HX.out HY.out (fun h => hvy h.2)
            rw [e1, e2]
            have HP := Lib.hid hp; clear hp hr
            have HB := Lib.hid hB; clear hB
            have HZ := Lib.hid hz; clear hz
            go_wp2_with fail
            go_ret2
            rw [HZ.out]
            exact ⟨rfl, below_drewN HB.out _⟩
        · have e1 : ixV x = -1 := if_neg hvx
          obtain ⟨hB, r, hp, hr⟩ := H.out
          have hz : unhexL (nats s) = none := hp.none HX.out HY.out (fun h => hvx h.1)
          rw [e1]
          have HP := Lib.hid hp; clear hp hr
          have HB := Lib.hid hB; clear hB
          have HZ := Lib.hid hz; clear hz
          go_wp2_with fail
          go_ret2
          rw [HZ.out]
          exact ⟨rfl, below_drewN HB.out _⟩
      · obtain ⟨hB, r, hp, hr⟩ := H.out
        have hz : unhexL (nats s) = some r := hp.done (by rw [HN.out]; have := HJK.out; omega)
        have hbk := back_room hr hp.bytes
        rw [hp.len] at hbk
        have HP := Lib.hid hp; clear hp hr
        have HB := Lib.hid hB; clear hB
        have HZ := Lib.hid hz; clear hz
        go_wp2_with fail
        go_ret2
        rw [HZ.out]
        exact ⟨rfl, HB.out⟩
end Go.Proofs.Ytdoaajjmibkfeaa
