/-
  WireBack in plain words: what was laid is what is read.
-/
import Derived.Test.YtdoaajjmibkfeaaThings
namespace Go.Proofs.Ytdoaajjmibkfeaa
open Go.RowKit PlainP WireP

/-- what a thing lays -/
def laid (x : Thing) : List Nat :=
  if x.kind.tmod 3 = 1 then be (wdt x.width) (cutN x.n (wdt x.width)) else if x.kind.tmod 3 = 2 then put x.t.size ++ nats x.t else put x.n
def laidAll (L : List Thing) : List Nat := L.flatMap laid

theorem drop_pre (a b : List Nat) : (a ++ b).drop a.length = b := by simp
theorem take_pre (a b : List Nat) : (a ++ b).take a.length = a := by simp
theorem rest_of {u : ByteArray} {a b : List Nat} (h : nats u = a ++ b) {k : Nat} (hk : k = a.length) : nats (u.extract k u.size) = b := by
  have hl := nats_length u
  rw [nats_extract, h, hk, drop_pre]
  rw [h, List.length_append] at hl
  exact List.take_of_length_le (by omega)
theorem front_of {u : ByteArray} {a b : List Nat} (h : nats u = a ++ b) {k : Nat} (hk : k = a.length) : nats (u.extract 0 k) = a := by
  rw [nats_extract, h, hk, List.drop_zero, Nat.sub_zero, take_pre]
theorem size_of {u : ByteArray} {a b : List Nat} (h : nats u = a ++ b) : u.size = a.length + b.length := by
  rw [← nats_length, h, List.length_append]

theorem fix_back (u : ByteArray) (m wd : Nat) (r : List Nat) (h : nats u = be wd m ++ r) (h1 : 1 ≤ wd) (h8 : wd ≤ 8) (hm : fits m wd = true) (hlt : m < 18446744073709551616) :
    fixV u (wd : Int) = .tuple #[.int .u64 m, .int .i64 0] ∧ nats (fixRest u (wd : Int)) = r := by
  have hs := size_of h
  rw [be_length] at hs
  have hv : m % 256 ^ wd = m := by
    rcases of_decide_eq_true hm with h2 | h2
    · subst h2
      have e : (256 : Nat) ^ 8 = 18446744073709551616 := by decide
      rw [e]; exact Nat.mod_eq_of_lt hlt
    · exact Nat.mod_eq_of_lt h2
  have e : beVal 0 ((nats u).take wd) = m := by
    have := take_pre (be wd m) r
    rw [be_length] at this
    rw [h, this, beVal_be, hv]; omega
  constructor
  · rw [fixV, if_neg (by omega), if_pos (by omega), Int.toNat_natCast, e]
  · rw [fixRest, if_pos (by omega), Int.toNat_natCast]
    exact rest_of h (be_length _ _).symm
theorem text_back (u t : ByteArray) (r : List Nat) (h : nats u = put t.size ++ nats t ++ r) (ht : t.size < 18446744073709551616) :
    textV u (t.size : Int) = .tuple #[.string t, .int .i64 0] ∧ nats (textRest u (t.size : Int)) = r := by
  have hs := size_of h
  rw [List.length_append, nats_length] at hs
  have e : txt u t.size = some (t.size, (put t.size).length) := by
    unfold txt
    rw [h, List.append_assoc, short_put _ _ ht]
    dsimp only
    rw [if_pos ⟨Nat.le_refl _, by omega⟩]
  have e2 : u.extract (put t.size).length ((put t.size).length + t.size) = t := by
    apply nats_inj
    rw [nats_extract, h, List.append_assoc, drop_pre, show (put t.size).length + t.size - (put t.size).length = (nats t).length by rw [nats_length]; omega, take_pre]
  constructor
  · rw [textV, if_neg (by omega), Int.toNat_natCast, e]
    simp only [txtS, e2]; rfl
  · rw [textRest, if_neg (by omega), Int.toNat_natCast, e]
    exact rest_of h (by rw [List.length_append, nats_length])
theorem uint_back (u : ByteArray) (m : Nat) (r : List Nat) (h : nats u = put m ++ r) (hlt : m < 18446744073709551616) :
    short (nats u) = some (m, (put m).length) ∧ nats (restU u (short (nats u))) = r ∧ u.size = (put m).length + (restU u (short (nats u))).size := by
  have e : short (nats u) = some (m, (put m).length) := by rw [h]; exact short_put _ _ hlt
  have e2 : nats (restU u (short (nats u))) = r := by rw [e]; exact rest_of h rfl
  refine ⟨e, e2, ?_⟩
  rw [size_of h, ← e2, nats_length]

theorem laid_put (x : Thing) (s : ByteArray) (l : List Nat) (h : nats s = l) (hn : x.n < 18446744073709551616) (h1 : x.kind.tmod 3 ≠ 1) (h2 : x.kind.tmod 3 ≠ 2) : nats (s ++ mkS (put x.n)) = l ++ laid x := by
  rw [nats_append, h, nats_mkS (put_byte hn), laid, if_neg h1, if_neg h2]
theorem laid_text (x : Thing) (s : ByteArray) (l : List Nat) (h : nats s = l) (ht : x.t.size ≤ 140737488351232) (h2 : x.kind.tmod 3 = 2) : nats (s ++ mkS (put x.t.size) ++ x.t) = l ++ laid x := by
  rw [nats_append, nats_append, h, nats_mkS (put_byte (Nat.lt_of_le_of_lt ht (by decide))), laid, if_neg (by omega), if_pos h2, List.append_assoc]
theorem laid_fix (x : Thing) (s : ByteArray) (l : List Nat) (h : nats s = l) (h1 : x.kind.tmod 3 = 1) : fixedV s (cutN x.n (wdt x.width)) (wdt x.width : Nat) = .tuple #[.string (s ++ mkS (be (wdt x.width) (cutN x.n (wdt x.width)))), .int .i64 0] ∧ nats (s ++ mkS (be (wdt x.width) (cutN x.n (wdt x.width)))) = l ++ laid x := by
  obtain ⟨a1, a8⟩ := wdt_bd x.width
  constructor
  · rw [fixedV, if_pos ⟨by omega, by omega, by rw [Int.toNat_natCast]; exact cutN_fits _ _⟩, Int.toNat_natCast]
  · rw [nats_append, h, nats_mkS (be_bytes _ _), laid, if_pos h1]
theorem laidAll_take (L : List Thing) (k : Nat) (x : Thing) (h : L[k]? = some x) : laidAll (L.take (k + 1)) = laidAll (L.take k) ++ laid x := by
  unfold laidAll
  rw [List.take_add_one, h, List.flatMap_append]
  simp
theorem laidAll_drop (L : List Thing) (k : Nat) (x : Thing) (h : L[k]? = some x) : laidAll (L.drop k) = laid x ++ laidAll (L.drop (k + 1)) := by
  have : L.drop k = x :: L.drop (k + 1) := by rw [List.drop_eq_getElem?_toList_append, h]; rfl
  rw [this]; rfl
def CC : Nat := 140737488351300
theorem laid_size (x : Thing) (ht : x.t.size ≤ 140737488351232) : (laid x).length ≤ CC := by
  unfold laid CC
  have h1 := (put_length x.n).2
  have h2 := (put_length x.t.size).2
  have h3 := wdt_bd x.width
  split
  · rw [be_length]; omega
  · split
    · rw [List.length_append, nats_length]; omega
    · omega
theorem laidAll_size : ∀ (L : List Thing) (_ : ∀ x ∈ L, x.t.size ≤ 140737488351232), (laidAll L).length ≤ L.length * CC
  | [], _ => by simp [laidAll]
  | x :: t, h => by
    have h1 := laid_size x (h x List.mem_cons_self)
    have h2 := laidAll_size t (fun y hy => h y (List.mem_cons_of_mem _ hy))
    have e : laidAll (x :: t) = laid x ++ laidAll t := rfl
    rw [e, List.length_append, List.length_cons, Nat.add_mul, Nat.one_mul]; omega
theorem laid_small (L : List Thing) (h : ∀ x ∈ L, x.t.size ≤ 140737488351232) (hl : L.length ≤ 300) : (laidAll L).length ≤ 50000000000000000 :=
  Nat.le_trans (laidAll_size L h) (Nat.le_trans (Nat.mul_le_mul_right _ hl) (by decide))
theorem laid_small_take (L : List Thing) (h : ∀ x ∈ L, x.t.size ≤ 140737488351232) (hl : L.length ≤ 300) (k : Nat) : (laidAll (L.take k)).length ≤ 50000000000000000 :=
  laid_small _ (fun x hx => h x (List.mem_of_mem_take hx)) (Nat.le_trans (List.length_take_le' _ _) hl)
theorem laid_small_drop (L : List Thing) (h : ∀ x ∈ L, x.t.size ≤ 140737488351232) (hl : L.length ≤ 300) (k : Nat) : (laidAll (L.drop k)).length ≤ 50000000000000000 :=
  laid_small _ (fun x hx => h x (List.mem_of_mem_drop hx)) (by rw [List.length_drop]; omega)
end Go.Proofs.Ytdoaajjmibkfeaa
