/- Numbers as layer 1 writes and reads them. Nothing of the program in it. -/
import Derived.Test.YtghjffgaebnhiaaDoorBase
namespace Go.Proofs.YtghjffgaebnhiaaDoor
set_option linter.unusedVariables false
set_option linter.unusedSimpArgs false
/-- digits of n, 128 added to each, k at most. -/
def digF : Nat → Nat → List UInt8
  | 0, _ => []
  | k + 1, n => if n = 0 then [] else digF k (n / 128) ++ [UInt8.ofNat (n % 128 + 128)]
def dig (n : Nat) : List UInt8 := digF 10 (n / 128) ++ [UInt8.ofNat (n % 128)]
theorem digF_zero (k : Nat) : digF k 0 = [] := by cases k <;> rfl
theorem digF_succ {k n : Nat} (h : n < 128 ^ k) : digF (k + 1) n = digF k n := by
  induction k generalizing n with
  | zero =>
    have : n = 0 := by simpa using h
    subst this
    rfl
  | succ k ih =>
    show (if n = 0 then [] else digF (k + 1) (n / 128) ++ _) = (if n = 0 then [] else digF k (n / 128) ++ _)
    rw [ih (by rw [Nat.pow_succ] at h; omega)]
theorem digF_len (k n : Nat) : (digF k n).length ≤ k := by
  induction k generalizing n with
  | zero => exact Nat.le_refl _
  | succ k ih =>
    unfold digF
    split
    · exact Nat.zero_le _
    · rw [List.length_append, List.length_singleton]
      exact Nat.succ_le_succ (ih _)
theorem digF_step {k n : Nat} (h : n < 128 ^ (k + 1)) (h0 : n ≠ 0) : digF (k + 1) n = digF (k + 1) (n / 128) ++ [UInt8.ofNat (n % 128 + 128)] := by
  show (if n = 0 then [] else digF k (n / 128) ++ _) = _
  rw [if_neg h0, digF_succ (n := n / 128) (by rw [Nat.pow_succ] at h; omega)]
theorem dig_len_pos (n : Nat) : 1 ≤ (dig n).length := by rw [dig, List.length_append, List.length_singleton]; omega
theorem digF_le {k n j : Nat} (h : n < 128 ^ j) : (digF k n).length ≤ j := by
  induction k generalizing n j with
  | zero => exact Nat.zero_le _
  | succ k ih =>
    unfold digF
    split
    · exact Nat.zero_le _
    · next h0 =>
      cases j with
      | zero => omega
      | succ j =>
        rw [List.length_append, List.length_singleton]
        exact Nat.succ_le_succ (ih (by rw [Nat.pow_succ] at h; omega))
theorem dig_len {n : Nat} (h : n < 2 ^ 64) : (dig n).length ≤ 10 := by
  rw [dig, List.length_append, List.length_singleton]
  have := digF_le (k := 10) (n := n / 128) (j := 9) (by omega)
  omega
/-- a number that is read: its value, how many bytes, the fault. -/
def numR : Nat → Nat → List UInt8 → Nat × Nat × Nat
  | i, n, [] => (0, 0, if i < 10 then 10 else 12)
  | i, n, x :: l => if i = 10 ∨ 2 ^ 57 ≤ n then (0, 0, 12) else if x.toNat < 128 then (n * 128 + x.toNat, i + 1, 0) else numR (i + 1) (n * 128 + (x.toNat - 128)) l
def numP (l : List UInt8) : Nat × Nat × Nat := if (numR 0 0 l).2.2 = 0 ∧ l.head? = some 128 then (0, 0, 12) else numR 0 0 l
theorem ofNat_hi {m : Nat} : (UInt8.ofNat (m % 128 + 128)).toNat = m % 128 + 128 := by
  rw [UInt8.toNat_ofNat']
  omega
theorem ofNat_lo {m : Nat} : (UInt8.ofNat (m % 128)).toNat = m % 128 := by
  rw [UInt8.toNat_ofNat']
  omega
theorem numR_hi {i n : Nat} {x : UInt8} {l : List UInt8} (h1 : i ≠ 10) (h2 : n < 2 ^ 57) (h3 : 128 ≤ x.toNat) : numR i n (x :: l) = numR (i + 1) (n * 128 + (x.toNat - 128)) l := by
  rw [numR, if_neg (by omega), if_neg (by omega)]
theorem numR_lo {i n : Nat} {x : UInt8} {l : List UInt8} (h1 : i ≠ 10) (h2 : n < 2 ^ 57) (h3 : x.toNat < 128) : numR i n (x :: l) = (n * 128 + x.toNat, i + 1, 0) := by
  rw [numR, if_neg (by omega), if_pos h3]
/-- reading on over digits. -/
theorem numR_dig {k n : Nat} (hn : n < 128 ^ k) (hn2 : n < 2 ^ 57) (t : List UInt8) : numR 0 0 (digF k n ++ t) = numR (digF k n).length n t ∧ (digF k n).length ≤ 9 := by
  induction k generalizing n t with
  | zero =>
    have : n = 0 := by simpa using hn
    subst this
    exact ⟨rfl, by decide⟩
  | succ k ih =>
    by_cases h0 : n = 0
    · subst h0
      rw [digF_zero]
      exact ⟨rfl, by decide⟩
    · have hlen : (digF (k + 1) n).length ≤ 9 := digF_le (j := 9) (by omega)
      refine ⟨?_, hlen⟩
      have e : digF (k + 1) n = digF k (n / 128) ++ [UInt8.ofNat (n % 128 + 128)] := by
        show (if n = 0 then [] else _) = _
        rw [if_neg h0]
      rw [e] at hlen ⊢
      rw [List.length_append, List.length_singleton] at hlen ⊢
      rw [List.append_assoc, (ih (n := n / 128) (by rw [Nat.pow_succ] at hn; omega) (by omega) _).1]
      refine (numR_hi (by omega) (by omega) (by rw [ofNat_hi]; omega)).trans ?_
      have e2 : n / 128 * 128 + ((UInt8.ofNat (n % 128 + 128)).toNat - 128) = n := by rw [ofNat_hi]; omega
      rw [e2]
      rfl
theorem digF_head {k n : Nat} (h : n ≠ 0) (hk : n < 128 ^ k) : ∃ x l, digF k n = x :: l ∧ x ≠ 128 := by
  induction k generalizing n with
  | zero => simp at hk; omega
  | succ k ih =>
    have e : digF (k + 1) n = digF k (n / 128) ++ [UInt8.ofNat (n % 128 + 128)] := by
      show (if n = 0 then [] else _) = _
      rw [if_neg h]
    rw [e]
    by_cases h1 : n / 128 = 0
    · rw [h1, digF_zero]
      refine ⟨_, _, rfl, fun he => ?_⟩
      have := congrArg UInt8.toNat he
      rw [ofNat_hi] at this
      simp at this
      omega
    · obtain ⟨x, l, hx, hne⟩ := ih h1 (by rw [Nat.pow_succ] at hk; omega)
      exact ⟨x, _, by rw [hx]; rfl, hne⟩
/-- what is written is read. -/
theorem num_dig {n : Nat} (h : n < 2 ^ 64) (t : List UInt8) : numP (dig n ++ t) = (n, (dig n).length, 0) := by
  have h1 : numR 0 0 (dig n ++ t) = (n, (dig n).length, 0) := by
    rw [dig, List.append_assoc, (numR_dig (k := 10) (n := n / 128) (by omega) (by omega) _).1]
    have hl := (numR_dig (k := 10) (n := n / 128) (by omega) (by omega) []).2
    show numR _ _ (_ :: t) = _
    rw [numR, if_neg (by omega), if_pos (by rw [ofNat_lo]; omega), ofNat_lo, List.length_append, List.length_singleton]
    congr 1
    omega
  rw [numP, h1, if_neg]
  rintro ⟨-, h2⟩
  rw [dig] at h2
  by_cases h0 : n / 128 = 0
  · rw [h0, digF_zero] at h2
    simp at h2
    have := congrArg UInt8.toNat h2
    rw [ofNat_lo] at this
    simp at this
    omega
  · obtain ⟨x, l, hx, hne⟩ := digF_head (k := 10) h0 (by omega)
    rw [hx] at h2
    simp at h2
    exact hne h2
/-- what is read was written so. -/
theorem numR_back (l : List UInt8) (i m : Nat) (hi : i ≤ 9) (hm : m < 2 ^ 57) (hz : i = 0 → m = 0) (hp : 0 < i → m ≠ 0) {n k : Nat} (h : numR i m l = (n, k, 0)) (hh : i = 0 → l.head? ≠ some 128) :
    i < k ∧ k ≤ i + l.length ∧ n < 2 ^ 64 ∧ digF 10 m ++ l.take (k - i) = dig n := by
  induction l generalizing i m with
  | nil =>
    rw [numR] at h
    injection h with h1 h2
    injection h2 with h2 h3
    split at h3 <;> simp at h3
  | cons x l ih =>
    rw [numR, if_neg (by omega)] at h
    by_cases hx : x.toNat < 128
    · rw [if_pos hx] at h
      injection h with h1 h2
      injection h2 with h2 h3
      subst h1; subst h2
      refine ⟨by omega, by rw [List.length_cons]; omega, by omega, ?_⟩
      rw [show i + 1 - i = 1 by omega, dig]
      show _ ++ [x] = _
      rw [show (m * 128 + x.toNat) / 128 = m by omega, show (m * 128 + x.toNat) % 128 = x.toNat by omega, UInt8.ofNat_toNat]
    · rw [if_neg hx] at h
      have hb : ¬ (i + 1 = 10 ∨ 2 ^ 57 ≤ m * 128 + (x.toNat - 128)) := by
        intro hc
        cases l with
        | nil =>
          rw [numR] at h
          injection h with h1 h2
          injection h2 with h2 h3
          split at h3 <;> simp at h3
        | cons y l =>
          rw [numR, if_pos hc] at h
          injection h with h1 h2
          injection h2 with h2 h3
          simp at h3
      have hlt := x.toNat_lt
      have hne : m * 128 + (x.toNat - 128) ≠ 0 := by
        rcases Nat.eq_zero_or_pos i with h0 | h0
        · have h1 := hh h0
          intro he
          apply h1
          have : x.toNat = 128 := by omega
          have : x = 128 := UInt8.toNat_inj.1 this
          rw [this]
          rfl
        · have := hp h0
          omega
      obtain ⟨g1, g2, g3, g4⟩ := ih (i + 1) (m * 128 + (x.toNat - 128)) (by omega) (by omega) (fun h => by omega) (fun _ => hne) h (fun h => by omega)
      refine ⟨by omega, by rw [List.length_cons]; omega, g3, ?_⟩
      rw [← g4, show k - i = (k - (i + 1)) + 1 by omega, List.take_succ_cons]
      have e : digF 10 (m * 128 + (x.toNat - 128)) = digF 10 m ++ [x] := by
        rw [digF_step (k := 9) (by omega) hne]
        rw [show (m * 128 + (x.toNat - 128)) / 128 = m by omega, show (m * 128 + (x.toNat - 128)) % 128 + 128 = x.toNat by omega, UInt8.ofNat_toNat]
      rw [e, List.append_assoc]
      rfl
theorem num_back {l : List UInt8} {n k : Nat} (h : numP l = (n, k, 0)) : 0 < k ∧ k ≤ l.length ∧ n < 2 ^ 64 ∧ l.take k = dig n := by
  unfold numP at h
  split at h
  · injection h with h1 h2
    injection h2 with h2 h3
    simp at h3
  · next hc =>
    have h0 : (numR 0 0 l).2.2 = 0 := by rw [h]
    have := numR_back l 0 0 (by omega) (by omega) (fun _ => rfl) (fun h => by omega) h (fun _ hh => hc ⟨h0, hh⟩)
    rw [digF_zero] at this
    simpa using this
end Go.Proofs.YtghjffgaebnhiaaDoor
