/- Plain law: the pieces of a block, put into a box in any order. -/
import Derived.Test.YtgnbnkoanoalhaaWhole
import Derived.Test.YtgnbnkoanoalhaaCut
namespace Go.Proofs.Ytgnbnkoanoalhaa
set_option linter.unusedVariables false
set_option linter.unusedSimpArgs false
open Go.RowKit

/-- the box after the pieces of H were put. -/
def lenH (k m : Nat) (H : Nat → Bool) : Nat := if (List.range (k - 1)).any H then m else 0
def psH (m : Nat) (l : List UInt8) (k : Nat) (H : Nat → Bool) : List (List UInt8) := (List.range 64).map fun i => if i < k ∧ H i = true then piece m l i else []
def addH (H : Nat → Bool) (i : Nat) : Nat → Bool := fun j => H j || j == i

/-- n bytes are cut into k pieces of m bytes. -/
structure Cuts (n m k : Nat) : Prop where
  k0 : 1 ≤ k
  k1 : k ≤ 64
  m0 : 1 ≤ m
  m1 : m ≤ 1024
  n1 : n ≤ 1024
  lo : (k - 1) * m < n
  hi : n ≤ k * m
theorem cuts_of {n m : Nat} (h1 : 1 ≤ m) (h2 : m ≤ 1024) (h3 : 1 ≤ n) (h4 : n ≤ 1024) (h5 : (n + m - 1) / m ≤ 64) : Cuts n m ((n + m - 1) / m) := by
  have a : m * ((n + m - 1) / m) + (n + m - 1) % m = n + m - 1 := Nat.div_add_mod _ _
  have b : (n + m - 1) % m < m := Nat.mod_lt _ (by omega)
  obtain ⟨k, hk⟩ : ∃ k, k = (n + m - 1) / m := ⟨_, rfl⟩
  rw [← hk] at a h5 ⊢
  rw [Nat.mul_comm] at a
  have k0 : 1 ≤ k := by
    rcases Nat.eq_zero_or_pos k with h | h
    · subst h; simp at a; omega
    · exact h
  obtain ⟨j, rfl⟩ : ∃ j, k = j + 1 := ⟨k - 1, by omega⟩
  rw [Nat.add_mul] at a
  refine ⟨k0, h5, h1, h2, h4, ?_, ?_⟩
  · simp only [Nat.add_sub_cancel]; omega
  · rw [Nat.add_mul]; omega
section
variable {l : List UInt8} {m k : Nat} {H : Nat → Bool}
theorem piece_len (h : Cuts l.length m k) {i : Nat} (hi : i + 1 < k) : (piece m l i).length = m := by
  have h1 : (i + 1) * m ≤ (k - 1) * m := Nat.mul_le_mul_right m (by omega)
  have := h.lo
  rw [Nat.add_mul] at h1
  simp [piece]; omega
theorem piece_last (h : Cuts l.length m k) : (piece m l (k - 1)).length = l.length - (k - 1) * m := by
  have h1 := h.hi
  have h2 : k * m = (k - 1) * m + m := by
    obtain ⟨j, hj⟩ : ∃ j, k = j + 1 := ⟨k - 1, by have := h.k0; omega⟩
    subst hj
    rw [Nat.add_mul]; simp
  simp [piece]; omega
theorem piece_pos (h : Cuts l.length m k) {i : Nat} (hi : i < k) : 1 ≤ (piece m l i).length ∧ (piece m l i).length ≤ m := by
  by_cases h1 : i + 1 < k
  · have := piece_len h h1
    have := h.m0
    omega
  · obtain rfl : i = k - 1 := by omega
    have h2 := piece_last h
    have h3 := h.lo
    have h4 : (piece m l (k - 1)).length ≤ m := by simp [piece]; omega
    omega
theorem psH_length : (psH m l k H).length = 64 := by simp [psH]
theorem psH_at (hk : k ≤ 64) {i : Nat} (hi : i < k) : (psH m l k H).getD i [] = if H i = true then piece m l i else [] := by
  have h64 : i < 64 := by omega
  simp [psH, h64, hi]
theorem psH_beyond {i : Nat} (hi : k ≤ i) : (psH m l k H).getD i [] = [] := by
  by_cases h64 : i < 64
  · simp [psH, h64, show ¬ i < k by omega]
  · simp [psH, h64]
theorem psH_set (hk : k ≤ 64) {i : Nat} (hi : i < k) : (psH m l k H).set i (piece m l i) = psH m l k (addH H i) := by
  apply List.ext_getElem
  · simp [psH]
  · intro j h1 h2
    rw [List.getElem_set]
    split
    · next e => subst e; simp [psH, addH, hi]
    · next e =>
      have hji : ¬ j = i := fun h => e h.symm
      simp [psH, addH, hji]
theorem fineH (h : Cuts l.length m k) : Fine k (lenH k m H) (psH m l k H) := by
  refine ⟨h.k0, h.k1, ?_, fun p hp => ?_⟩
  · have := h.m1; unfold lenH; split <;> omega
  · simp only [psH, List.mem_map, List.mem_range] at hp
    obtain ⟨i, _, rfl⟩ := hp
    split
    · next e => have := (piece_pos h e.1).2; have := h.m1; omega
    · simp
theorem put_again (h : Cuts l.length m k) {i : Nat} (hi : i < k) (hH : H i = true) : putIn k (lenH k m H) (psH m l k H) i (piece m l i) = 3 := by
  rw [putIn, psH_at h.k1 hi, if_pos hH, if_pos rfl]
theorem lenH_add_last : lenH k m (addH H (k - 1)) = lenH k m H := by
  have : (List.range (k - 1)).any (addH H (k - 1)) = (List.range (k - 1)).any H := by
    rw [Bool.eq_iff_iff]
    simp only [List.any_eq_true, List.mem_range, addH, Bool.or_eq_true, beq_iff_eq]
    constructor
    · rintro ⟨x, hx, h | h⟩
      · exact ⟨x, hx, h⟩
      · omega
    · rintro ⟨x, hx, h⟩
      exact ⟨x, hx, .inl h⟩
  unfold lenH
  rw [this]
theorem lenH_add {i : Nat} (hi : i + 1 < k) : lenH k m (addH H i) = m := by
  have : (List.range (k - 1)).any (addH H i) = true := by
    simp only [List.any_eq_true, List.mem_range]
    exact ⟨i, by omega, by simp [addH]⟩
  unfold lenH
  rw [if_pos this]
theorem lenH_cases : lenH k m H = 0 ∨ lenH k m H = m := by unfold lenH; split <;> simp
theorem put_fresh (h : Cuts l.length m k) {i : Nat} (hi : i < k) (hH : H i = false) :
    putIn k (lenH k m H) (psH m l k H) i (piece m l i) = 0 ∧ putLen k (lenH k m H) i (piece m l i).length = lenH k m (addH H i) := by
  have hp := piece_pos h hi
  have hne : ([] : List UInt8) ≠ piece m l i := by intro e; rw [← e] at hp; simp at hp
  have hlo := h.lo
  have hm0 := h.m0
  have hn1 := h.n1
  have hlast := piece_last h
  have hlp := piece_pos h (i := k - 1) (by omega)
  have hkm : k * m = (k - 1) * m + m := by
    obtain ⟨j, hj⟩ : ∃ j, k = j + 1 := ⟨k - 1, by have := h.k0; omega⟩
    subst hj
    rw [Nat.add_mul]; simp
  have hL : putLen k (lenH k m H) i (piece m l i).length = lenH k m (addH H i) := by
    by_cases h1 : i + 1 = k
    · rw [putLen, if_pos h1, show i = k - 1 by omega, lenH_add_last]
    · rw [putLen, if_neg h1, lenH_add (by omega), piece_len h (by omega)]
      rcases lenH_cases (k := k) (m := m) (H := H) with e | e
      · rw [if_pos e]
      · rw [e, if_neg (by omega)]
  have hA : putLast k (psH m l k H) i (piece m l i).length ≤ (piece m l (k - 1)).length := by
    by_cases h1 : i + 1 = k
    · rw [putLast, if_pos h1, show i = k - 1 by omega]; exact Nat.le_refl _
    · rw [putLast, if_neg h1, psH_at h.k1 (by omega)]
      split <;> simp
  refine ⟨?_, hL⟩
  rw [putIn, psH_at h.k1 hi, if_neg (by rw [hH]; simpa using hne), if_neg (by rw [hH]; simp), if_neg, hL, if_neg]
  · intro hh
    generalize hal : putLast k (psH m l k H) i (piece m l i).length = al at hA hh
    by_cases h0 : lenH k m (addH H i) = 0
    · rw [h0] at hh
      have : leastOf k 0 al ≤ 1024 := by
        rw [leastOf, if_neg (by omega)]
        have e1 : k * al ≤ k * (piece m l (k - 1)).length := Nat.mul_le_mul_left k hA
        have e2 : (k - 1) * (piece m l (k - 1)).length ≤ (k - 1) * m := Nat.mul_le_mul_left _ hlp.2
        have e3 : k * (piece m l (k - 1)).length = (k - 1) * (piece m l (k - 1)).length + (piece m l (k - 1)).length := by
          obtain ⟨j, hj⟩ : ∃ j, k = j + 1 := ⟨k - 1, by have := h.k0; omega⟩
          subst hj
          rw [Nat.add_mul]; simp
        omega
      omega
    · have e := (lenH_cases (k := k) (m := m) (H := addH H i)).resolve_left h0
      rw [e] at hh
      have : leastOf k m al ≤ 1024 := by
        rw [leastOf, if_pos (by omega)]
        have : max al 1 ≤ (piece m l (k - 1)).length := by omega
        omega
      omega
  · rintro ⟨h1, h2, h3⟩
    rw [piece_len h (by omega)] at h3
    rcases lenH_cases (k := k) (m := m) (H := H) with e | e <;> omega
/-- the pieces together are the block. -/
theorem pieces_flat (h : Cuts l.length m k) : ∀ j, j ≤ k → ((List.range j).map (piece m l)).flatten = l.take (j * m) := by
  intro j
  induction j with
  | zero => intro _; simp
  | succ j ih =>
    intro hj
    rw [List.range_succ, List.map_append, List.flatten_append, ih (by omega)]
    simp only [List.map_cons, List.map_nil, List.flatten_cons, List.flatten_nil, List.append_nil]
    rw [piece, Nat.add_mul, Nat.one_mul, List.take_add]
theorem psH_all (h : Cuts l.length m k) (hH : ∀ i, i < k → H i = true) : ((psH m l k H).take k).flatten = l := by
  have e : (psH m l k H).take k = (List.range k).map (piece m l) := by
    apply List.ext_getElem
    · have := h.k1; simp [psH]; omega
    · intro i h1 h2
      have hi : i < k := by simpa using h2
      simp [psH, hi, hH i hi]
  rw [e, pieces_flat h k (Nat.le_refl _), List.take_of_length_le h.hi]
theorem psH_none : psH m l k (fun _ => false) = List.replicate 64 [] := by
  simp [psH]
  rfl
theorem lenH_none : lenH k m (fun _ => false) = 0 := by simp [lenH]
end
end Go.Proofs.Ytgnbnkoanoalhaa
