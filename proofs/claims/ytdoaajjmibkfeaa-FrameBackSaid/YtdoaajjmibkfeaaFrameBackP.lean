/-
  FrameBack in plain words.
-/
import Derived.Test.YtdoaajjmibkfeaaFrameP
namespace Go.Proofs.Ytdoaajjmibkfeaa
open Go.RowKit PlainP WireP CrcP

def frs : List ByteArray → ByteArray
  | [] => ⟨#[]⟩
  | p :: t => fr p ++ frs t
theorem frs_snoc : ∀ (l : List ByteArray) (p : ByteArray), frs (l ++ [p]) = frs l ++ fr p
  | [], p => by
    show fr p ++ (⟨#[]⟩ : ByteArray) = (⟨#[]⟩ : ByteArray) ++ fr p
    rw [empty_app]
    exact nats_inj (by rw [nats_append]; exact List.append_nil _)
  | q :: t, p => by
    show fr q ++ frs (t ++ [p]) = fr q ++ frs t ++ fr p
    rw [frs_snoc t p, ByteArray.append_assoc]
theorem all_frs : ∀ (l : List ByteArray) (tail : ByteArray), (∀ p ∈ l, p.size ≤ 67108864) → unfS tail = none → allA (frs l ++ tail) = (l, tail)
  | [], tail, _, h => by
    show allA ((⟨#[]⟩ : ByteArray) ++ tail) = _
    rw [empty_app, allA_none h]
  | p :: t, tail, hl, h => by
    have h1 : unfS (frs (p :: t) ++ tail) = some (p, frs t ++ tail) := by
      show unfS (fr p ++ frs t ++ tail) = _
      rw [ByteArray.append_assoc]
      exact unf_fr p _ (hl p List.mem_cons_self)
    rw [allA_some h1, all_frs t tail (fun q hq => hl q (List.mem_cons_of_mem _ hq)) h]
theorem frs_size : ∀ (l : List ByteArray), (∀ p ∈ l, p.size ≤ 67108864) → (frs l).size ≤ l.length * 67108872
  | [], _ => by show 0 ≤ _; omega
  | p :: t, h => by
    have h1 := frs_size t (fun q hq => h q (List.mem_cons_of_mem _ hq))
    have h2 := h p List.mem_cons_self
    show (fr p ++ frs t).size ≤ _
    rw [ByteArray.size_append, fr_size, List.length_cons]; omega
end Go.Proofs.Ytdoaajjmibkfeaa
