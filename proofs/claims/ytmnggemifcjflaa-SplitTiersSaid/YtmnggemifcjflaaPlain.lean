/-
  Plain words on lists of numbers and on bytes: no program in sight.
-/
namespace PlainP

/-- all are bytes -/
def Bytes (l : List Nat) : Prop := ∀ x ∈ l, x < 256

theorem Bytes.nil : Bytes [] := fun x hx => by cases hx
theorem Bytes.append {a b : List Nat} (h : Bytes a) (k : Bytes b) : Bytes (a ++ b) := fun x hx => by
  rcases List.mem_append.1 hx with h1 | h1
  · exact h x h1
  · exact k x h1
theorem Bytes.take {a : List Nat} (h : Bytes a) (n : Nat) : Bytes (a.take n) := fun x hx => h x (List.mem_of_mem_take hx)
theorem Bytes.drop {a : List Nat} (h : Bytes a) (n : Nat) : Bytes (a.drop n) := fun x hx => h x (List.mem_of_mem_drop hx)
theorem Bytes.set {a : List Nat} (h : Bytes a) (i : Nat) {y : Nat} (hy : y < 256) : Bytes (a.set i y) := fun x hx => by
  rcases List.mem_or_eq_of_mem_set hx with h1 | h1
  · exact h x h1
  · rw [h1]; exact hy
theorem Bytes.replicate (n : Nat) {y : Nat} (hy : y < 256) : Bytes (List.replicate n y) := fun x hx => by
  rw [(List.mem_replicate.1 hx).2]; exact hy
theorem Bytes.one {y : Nat} (hy : y < 256) : Bytes [y] := fun x hx => by
  rw [List.mem_singleton.1 hx]; exact hy
theorem Bytes.get {a : List Nat} (h : Bytes a) {i x : Nat} (hx : a[i]? = some x) : x < 256 := h x (List.mem_of_getElem? hx)

/-- a string's bytes as numbers -/
def nats (s : ByteArray) : List Nat := s.data.toList.map UInt8.toNat
theorem nats_length (s : ByteArray) : (nats s).length = s.size := by
  rw [nats, List.length_map, Array.length_toList]; rfl
theorem nats_bytes (s : ByteArray) : Bytes (nats s) := by
  intro x hx
  rw [nats, List.mem_map] at hx
  obtain ⟨u, -, rfl⟩ := hx
  exact u.toNat_lt
theorem nats_extract (s : ByteArray) (a b : Nat) : nats (s.extract a b) = ((nats s).drop a).take (b - a) := by
  unfold nats
  rw [ByteArray.data_extract, Array.toList_extract, List.extract_eq_take_drop, List.map_take, List.map_drop]
theorem nats_append (s t : ByteArray) : nats (s ++ t) = nats s ++ nats t := by
  unfold nats
  rw [ByteArray.data_append, Array.toList_append, List.map_append]
theorem nats_inj {s t : ByteArray} (h : nats s = nats t) : s = t := by
  unfold nats at h
  have h1 := (List.map_inj_right (f := UInt8.toNat) (fun x y => UInt8.toNat_inj.1)).1 h
  have h2 : s.data = t.data := Array.toList_inj.1 h1
  cases s; cases t; simp_all

/-- the string of some bytes -/
def mkS (l : List Nat) : ByteArray := ⟨(l.map UInt8.ofNat).toArray⟩
theorem nats_mkS {l : List Nat} (h : Bytes l) : nats (mkS l) = l := by
  unfold nats mkS
  rw [List.map_map]
  conv => rhs; rw [← List.map_id l]
  apply List.map_congr_left
  intro x hx
  have := h x hx
  simp only [Function.comp, UInt8.toNat_ofNat', id]
  omega
theorem mkS_nats (s : ByteArray) : mkS (nats s) = s := nats_inj (nats_mkS (nats_bytes s))
theorem mkS_size (l : List Nat) : (mkS l).size = l.length := by
  show (l.map UInt8.ofNat).toArray.size = _
  rw [List.size_toArray, List.length_map]

theorem tmod_bd (n k : Int) (hk : 0 < k) : -k < n.tmod k ∧ n.tmod k < k := ⟨Int.lt_tmod_of_pos n hk, Int.tmod_lt_of_pos n hk⟩
end PlainP
