/-
  Frames in plain words.
-/
import Derived.Test.YtdoaajjmibkfeaaCrcW
import Derived.Test.YtdoaajjmibkfeaaWireOnceP
import Derived.Test.YtdoaajjmibkfeaaPutsR
namespace Go.Proofs.Ytdoaajjmibkfeaa
open Go.RowKit PlainP WireP CrcP

theorem empty_app (x : ByteArray) : (⟨#[]⟩ : ByteArray) ++ x = x := nats_inj (by rw [nats_append]; rfl)
/-- what stands ahead of a payload -/
def sizeB (n : Nat) : List Nat := be 4 n
def sumB (l : List Nat) : Nat := crcC (be 4 l.length ++ l)
def fr (s : ByteArray) : ByteArray := mkS (be 4 s.size) ++ mkS (be 4 (sumB (nats s))) ++ s
def frameV (s : ByteArray) : Value := if 67108864 < s.size then .tuple #[.string ⟨#[]⟩, .int .i64 1] else .tuple #[.string (fr s), .int .i64 0]
theorem nats_fr (s : ByteArray) : nats (fr s) = be 4 s.size ++ (be 4 (sumB (nats s)) ++ nats s) := by
  unfold fr
  rw [nats_append, nats_append, nats_mkS (be_bytes _ _), nats_mkS (be_bytes _ _), List.append_assoc]
theorem fr_size (s : ByteArray) : (fr s).size = 8 + s.size := by
  rw [← nats_length, nats_fr, List.length_append, List.length_append, be_length, be_length, nats_length]; omega
theorem sumB_lt (l : List Nat) (h : Bytes l) : sumB l < 4294967296 := onC_lt _ _ (by omega) ((be_bytes _ _).append h)

/-- a frame's payload at the front, and what stands behind it -/
def unfS (s : ByteArray) : Option (ByteArray × ByteArray) :=
  if 8 ≤ s.size ∧ beVal 0 ((nats s).take 4) ≤ 67108864 ∧ 8 + beVal 0 ((nats s).take 4) ≤ s.size ∧
      crcC ((nats s).take 4 ++ ((nats s).drop 8).take (beVal 0 ((nats s).take 4))) = beVal 0 (((nats s).drop 4).take 4)
  then some (s.extract 8 (8 + beVal 0 ((nats s).take 4)), s.extract (8 + beVal 0 ((nats s).take 4)) s.size) else none
def unfV : Option (ByteArray × ByteArray) → Value
  | none => .tuple #[.string ⟨#[]⟩, .string ⟨#[]⟩, .int .i64 4]
  | some (p, r) => .tuple #[.string p, .string r, .int .i64 0]
theorem unf_size {s p r : ByteArray} (h : unfS s = some (p, r)) : p.size + 8 + r.size = s.size := by
  unfold unfS at h
  split at h
  · rename_i hc
    simp only [Option.some.injEq, Prod.mk.injEq] at h
    rw [← h.1, ← h.2, ByteArray.size_extract, ByteArray.size_extract]; omega
  · cases h
theorem unf_fr (s tail : ByteArray) (hs : s.size ≤ 67108864) : unfS (fr s ++ tail) = some (s, tail) := by
  have hn : nats (fr s ++ tail) = be 4 s.size ++ (be 4 (sumB (nats s)) ++ (nats s ++ nats tail)) := by
    rw [nats_append, nats_fr]; simp only [List.append_assoc]
  have hl := nats_length (fr s ++ tail)
  rw [hn] at hl
  simp only [List.length_append, be_length, nats_length] at hl
  have ht4 : (nats (fr s ++ tail)).take 4 = be 4 s.size := by rw [hn]; exact List.take_left' (be_length _ _)
  have hd4 : (nats (fr s ++ tail)).drop 4 = be 4 (sumB (nats s)) ++ (nats s ++ nats tail) := by rw [hn]; exact List.drop_left' (be_length _ _)
  have hd8 : (nats (fr s ++ tail)).drop 8 = nats s ++ nats tail := by
    rw [show 8 = 4 + 4 from rfl, ← List.drop_drop, hd4]; exact List.drop_left' (be_length _ _)
  have hv : beVal 0 (be 4 s.size) = s.size := by
    rw [beVal_be, Nat.mod_eq_of_lt (by have : (256 : Nat) ^ 4 = 4294967296 := by decide
                                       omega)]; omega
  have hsum := sumB_lt (nats s) (nats_bytes s)
  have hv2 : beVal 0 (be 4 (sumB (nats s))) = sumB (nats s) := by
    rw [beVal_be, Nat.mod_eq_of_lt (by have : (256 : Nat) ^ 4 = 4294967296 := by decide
                                       omega)]; omega
  unfold unfS
  rw [ht4, hd4, hd8, hv, List.take_left' (be_length _ _), hv2, List.take_left' (nats_length s)]
  rw [if_pos ⟨by omega, hs, by omega, by unfold sumB; rw [nats_length]⟩]
  congr 2
  · apply nats_inj
    rw [nats_extract, hd8, Nat.add_sub_cancel_left, List.take_left' (nats_length s)]
  · apply nats_inj
    rw [nats_extract, ← List.drop_drop, hd8, List.drop_left' (nats_length s)]
    exact List.take_of_length_le (by rw [nats_length]; omega)

/-- all frames from the front on -/
def allF : Nat → ByteArray → List ByteArray × ByteArray
  | 0, s => ([], s)
  | f + 1, s => match unfS s with
    | none => ([], s)
    | some (p, r) => (p :: (allF f r).1, (allF f r).2)
def allA (s : ByteArray) : List ByteArray × ByteArray := allF (s.size + 1) s
theorem allF_more : ∀ (f g : Nat) (s : ByteArray), s.size < f → s.size < g → allF f s = allF g s
  | 0, _, _, h, _ => by omega
  | _, 0, _, _, h => by omega
  | f + 1, g + 1, s, hf, hg => by
    unfold allF
    cases hu : unfS s with
    | none => rfl
    | some p =>
      have hz := unf_size (p := p.1) (r := p.2) hu
      have := allF_more f g p.2 (by omega) (by omega)
      simp only [this]
theorem allA_none {s : ByteArray} (h : unfS s = none) : allA s = ([], s) := by unfold allA allF; rw [h]
theorem allA_some {s p r : ByteArray} (h : unfS s = some (p, r)) : allA s = (p :: (allA r).1, (allA r).2) := by
  have hz := unf_size h
  have : allA s = (p :: (allF s.size r).1, (allF s.size r).2) := by unfold allA; rw [allF]; simp only [h]
  rw [this]
  unfold allA
  rw [allF_more s.size (r.size + 1) r (by omega) (by omega)]
theorem allF_len : ∀ (f : Nat) (s : ByteArray), (allF f s).1.length + (allF f s).2.size ≤ s.size
  | 0, s => by simp [allF]
  | f + 1, s => by
    unfold allF
    cases hu : unfS s with
    | none => simp
    | some p =>
      have hz := unf_size (p := p.1) (r := p.2) hu
      have := allF_len f p.2
      simp only [List.length_cons]; omega
theorem allA_len (s : ByteArray) : (allA s).1.length + (allA s).2.size ≤ s.size := allF_len _ s
end Go.Proofs.Ytdoaajjmibkfeaa
