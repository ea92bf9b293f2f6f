/- Plain law: a box that is whole holds the pieces of its block. -/
import Derived.Test.YtgnbnkoanoalhaaPutAll
namespace Go.Proofs.Ytgnbnkoanoalhaa
set_option linter.unusedVariables false
set_option linter.unusedSimpArgs false
open Go.RowKit

structure Good (b : BoxS) : Prop where
  fine : b.fine
  n : b.ps.length = 64
  eqs : ∀ i, i + 1 < b.cnt → b.ps.getD i [] = [] ∨ (b.ps.getD i []).length = b.len
  last : 0 < b.len → (b.ps.getD (b.cnt - 1) []).length ≤ b.len
  fit : leastOf b.cnt b.len (b.ps.getD (b.cnt - 1) []).length ≤ 1024
theorem good_new (n : Nat) (h1 : 1 ≤ n) (h2 : n ≤ 64) : Good ⟨n, 0, List.replicate 64 []⟩ := by
  have h : ∀ i, (List.replicate 64 ([] : List UInt8)).getD i [] = [] := fun i => by
    rw [List.getD_eq_getElem?_getD, List.getElem?_replicate]; split <;> rfl
  refine ⟨⟨h1, h2, Nat.zero_le _, fun p hp => by have := List.eq_of_mem_replicate hp; subst this; simp⟩, by simp, fun i _ => .inl (h i), fun h => by simp at h, ?_⟩
  simp only [h]
  simp [leastOf]
theorem getD_set {α : Type} (l : List α) (i j : Nat) (a d : α) (hi : i < l.length) : (l.set i a).getD j d = if j = i then a else l.getD j d := by
  rw [List.getD_eq_getElem?_getD, List.getElem?_set]
  by_cases h : i = j
  · subst h; simp [hi]
  · rw [if_neg h, if_neg (fun e => h e.symm), List.getD_eq_getElem?_getD]
theorem good_put (b : BoxS) (h : Good b) (index : Int) (seg : List UInt8) : Good (b.put index seg) := by
  have hfp := BoxS.fine_put b h.fine index seg
  unfold BoxS.put at hfp ⊢
  split at hfp
  · next h0 =>
    rw [if_pos h0]
    by_cases hc : index < 0 ∨ (b.cnt : Int) ≤ index ∨ seg.length = 0 ∨ 1024 < seg.length
    · rw [putErr_arg hc] at h0; omega
    rw [putErr_in hc] at h0
    obtain ⟨i, hi⟩ : ∃ i, index.toNat = i := ⟨_, rfl⟩
    rw [hi] at h0 hfp ⊢
    have hic : i < b.cnt := by omega
    have h64 := h.fine.hi
    have hil : i < b.ps.length := by rw [h.n]; omega
    unfold putIn at h0
    split at h0
    · omega
    split at h0
    · omega
    split at h0
    · omega
    next h3 =>
    split at h0
    · omega
    next h4 =>
    rw [not_or] at h4
    have hl : putLast b.cnt b.ps i seg.length = ((b.ps.set i seg).getD (b.cnt - 1) []).length := by
      rw [getD_set _ _ _ _ _ hil, putLast]
      by_cases hc1 : i + 1 = b.cnt
      · rw [if_pos hc1, if_pos (by omega)]
      · rw [if_neg hc1, if_neg (by omega)]
    rw [hl] at h4
    refine ⟨hfp, by simp [h.n], fun j hj => ?_, fun hp => by have := h4.1; simp only at hp ⊢; omega, by have := h4.2; simp only; omega⟩
    simp only at hj ⊢
    rw [getD_set _ _ _ _ _ hil]
    by_cases hji : j = i
    · rw [if_pos hji]
      right
      rw [putLen, if_neg (by omega)]
      split
      · rfl
      · omega
    · rw [if_neg hji]
      rcases h.eqs j hj with e | e
      · exact .inl e
      · by_cases h0' : b.ps.getD j [] = []
        · exact .inl h0'
        · right
          rw [e]
          have : 0 < b.len := by
            rw [← e]
            exact List.length_pos_iff.2 h0'
          rw [putLen]
          split
          · rfl
          · rw [if_neg (by omega)]
  · next h0 => rw [if_neg h0]; exact h
theorem flatten_len {m : Nat} : ∀ (L : List (List UInt8)), (∀ (i : Nat) (x : List UInt8), i + 1 < L.length → L[i]? = some x → x.length = m) → ∀ y, L.getLast? = some y → L.flatten.length = (L.length - 1) * m + y.length := by
  intro L
  induction L with
  | nil => intro _ y hy; simp at hy
  | cons x xs ih =>
    intro h y hy
    cases xs with
    | nil => simp at hy; subst hy; simp
    | cons z zs =>
      have hx := h 0 x (by simp) rfl
      have := ih (fun i x hi hx => h (i + 1) x (by simpa using hi) (by simpa using hx)) y (by simpa using hy)
      rw [List.flatten_cons, List.length_append, this, hx]
      simp only [List.length_cons, Nat.add_sub_cancel]
      rw [Nat.add_mul]
      omega
theorem piece_flatten {m : Nat} : ∀ (L : List (List UInt8)), (∀ (i : Nat) (x : List UInt8), i + 1 < L.length → L[i]? = some x → x.length = m) → (∀ y, L.getLast? = some y → y.length ≤ m) → ∀ i, i < L.length → piece m L.flatten i = L.getD i [] := by
  intro L
  induction L with
  | nil => intro _ _ i hi; simp at hi
  | cons x xs ih =>
    intro h hl i hi
    cases xs with
    | nil =>
      have := hl x (by simp)
      obtain rfl : i = 0 := by simp at hi; omega
      simp [piece, List.take_of_length_le this]
    | cons z zs =>
      have hx := h 0 x (by simp) rfl
      cases i with
      | zero =>
        rw [List.flatten_cons, piece, Nat.zero_mul, List.drop_zero, ← hx, List.take_left]
        rfl
      | succ i =>
        have := ih (fun i x hi hx => h (i + 1) x (by simpa using hi) (by simpa using hx)) (fun y hy => hl y (by simpa using hy)) i (by simpa using hi)
        have e : piece m (x ++ (z :: zs).flatten) (i + 1) = piece m (z :: zs).flatten i := by
          rw [piece, piece, Nat.add_mul, Nat.one_mul, Nat.add_comm (i * m) m, ← List.drop_drop, ← hx, List.drop_left]
        rw [List.flatten_cons, e, this]
        rfl
/-- THE LAW: what is whole is cut into its segments again. -/
theorem good_whole (b : BoxS) (h : Good b) (hall : ∀ i, i < b.cnt → b.ps.getD i [] ≠ []) (mtu : Nat)
    (hm : mtu = if 1 < b.cnt then (b.ps.getD 0 []).length else (b.ps.take b.cnt).flatten.length) :
    cutErr (b.ps.take b.cnt).flatten.length mtu = 0 ∧ cutOf (b.ps.take b.cnt).flatten mtu = b.ps.take b.cnt ∧ (b.ps.take b.cnt).flatten.length ≤ 1024 := by
  have hlo := h.fine.lo
  have hhi := h.fine.hi
  obtain ⟨c, hc⟩ : ∃ c, b.cnt = c + 1 := ⟨b.cnt - 1, by omega⟩
  have hLl : (b.ps.take b.cnt).length = b.cnt := by rw [List.length_take, h.n]; omega
  have hLg : ∀ i, i < b.cnt → (b.ps.take b.cnt).getD i [] = b.ps.getD i [] := fun i hi => by
    rw [List.getD_eq_getElem?_getD, List.getD_eq_getElem?_getD, List.getElem?_take_of_lt hi]
  have hLx : ∀ i, i < b.cnt → (b.ps.take b.cnt)[i]? = some (b.ps.getD i []) := fun i hi => by
    rw [List.getElem?_take_of_lt hi, List.getD_eq_getElem?_getD, List.getElem?_eq_getElem (by rw [h.n]; omega)]; rfl
  have hlast : (b.ps.take b.cnt).getLast? = some (b.ps.getD c []) := by
    rw [List.getLast?_eq_getElem?, hLl, hc]
    have := hLx c (by omega)
    rwa [hc] at this
  have hl1 : 1 ≤ (b.ps.getD c []).length := by
    have := List.length_pos_iff.2 (hall c (by omega))
    omega
  have hfit := h.fit
  have hla := h.last
  rw [show b.cnt - 1 = c by omega] at hfit hla
  -- the common length
  obtain ⟨m, hm1, hmm, hml, hmt⟩ : ∃ m, mtu = m ∧ (∀ (i : Nat) (x : List UInt8), i + 1 < (b.ps.take b.cnt).length → (b.ps.take b.cnt)[i]? = some x → x.length = m) ∧ (b.ps.getD c []).length ≤ m ∧ c * m + (b.ps.getD c []).length ≤ 1024 := by
    by_cases h1 : 1 < b.cnt
    · rw [if_pos h1] at hm
      have e0 : (b.ps.getD 0 []).length = b.len := (h.eqs 0 (by omega)).resolve_left (hall 0 (by omega))
      have hp : 0 < b.len := by rw [← e0]; exact List.length_pos_iff.2 (hall 0 (by omega))
      refine ⟨b.len, by omega, fun i x hi hx => ?_, hla hp, ?_⟩
      · rw [hLl] at hi
        rw [hLx i (by omega)] at hx
        injection hx with hx
        rw [← hx]
        exact (h.eqs i hi).resolve_left (hall i (by omega))
      · rw [leastOf, if_pos hp, show b.cnt - 1 = c by omega] at hfit
        omega
    · rw [if_neg h1] at hm
      have hc0 : c = 0 := by omega
      subst hc0
      have hfl := flatten_len (m := 0) (b.ps.take b.cnt) (fun i x hi _ => by rw [hLl] at hi; omega) _ hlast
      rw [Nat.mul_zero, Nat.zero_add] at hfl
      refine ⟨(b.ps.getD 0 []).length, by omega, fun i x hi _ => by rw [hLl] at hi; omega, Nat.le_refl _, ?_⟩
      have : (b.ps.getD 0 []).length ≤ 1024 := h.fine.at 0
      omega
  subst hm1
  have hflen := flatten_len (b.ps.take b.cnt) hmm _ hlast
  rw [hLl, show b.cnt - 1 = c by omega] at hflen
  have hk : ((b.ps.take b.cnt).flatten.length + mtu - 1) / mtu = b.cnt := by
    rw [hflen, hc]
    exact Nat.div_eq_of_lt_le (by rw [Nat.add_mul]; omega) (by rw [Nat.add_mul, Nat.add_mul]; omega)
  have hcm : c * 1 ≤ c * mtu := Nat.mul_le_mul_left c (by omega)
  have hmtu : mtu ≤ 1024 := by
    by_cases h1 : c = 0
    · rw [hm] at *
      rw [if_neg (by omega)] at *
      subst h1
      omega
    · have : 1 * mtu ≤ c * mtu := Nat.mul_le_mul_right mtu (by omega)
      omega
  have he : cutErr (b.ps.take b.cnt).flatten.length mtu = 0 := by
    refine cutErr_0 (by omega) (by omega) ?_
    have : ((((b.ps.take b.cnt).flatten.length + mtu - 1) / mtu : Nat) : Int) = b.cnt := by rw [hk]
    rw [Int.natCast_ediv, Int.ofNat_sub (by omega)] at this
    simp only [Int.natCast_add] at this
    rw [show ((1 : Nat) : Int) = 1 from rfl] at this
    rw [this]
    omega
  refine ⟨he, ?_, by omega⟩
  rw [cutOf, if_pos he, Int.toNat_natCast, hk]
  apply List.ext_getElem?
  intro i
  by_cases hi : i < b.cnt
  · rw [hLx i hi, pieces, List.getElem?_map, List.getElem?_range hi, Option.map_some, piece_flatten _ hmm (fun y hy => by rw [hlast] at hy; injection hy with hy; subst hy; exact hml) i (by rw [hLl]; exact hi), hLg i hi]
  · rw [List.getElem?_eq_none (by simp [pieces]; omega), List.getElem?_eq_none (by rw [hLl]; omega)]
end Go.Proofs.Ytgnbnkoanoalhaa
