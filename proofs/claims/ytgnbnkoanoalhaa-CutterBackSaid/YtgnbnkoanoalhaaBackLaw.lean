/- CutterBack returns true. -/
import Derived.Test.YtgnbnkoanoalhaaSmall
import Derived.Test.YtgnbnkoanoalhaaCodecs
namespace Go.Proofs.Ytgnbnkoanoalhaa
set_option linter.unusedVariables false
set_option linter.unusedSimpArgs false
open Go.RowKit

def NoCuts (e : Ending) : Prop := ∃ a, e = .returned (.tuple #[.int .i64 a, .bool false])
theorem El.bool_ : El Try.prog 50 4 (.bool false) 1 1 := ⟨Try.underlying50, by kernel_rfl, rfl, by decide, by decide⟩

set_option maxHeartbeats 1000000 in
set_option maxRecDepth 100000 in
theorem cuts_yes (v : Value) (l : List UInt8) (m k : Nat) (w : World) (hr : Bs w v l) (h : Cuts l.length m k) (hk : k = (l.length + m - 1) / m) :
    Calls Try.prog 23 #[v, .int .i64 m] w fun e w' => e = .returned (.tuple #[.int .i64 k, .bool true]) ∧ w = w' := by
  obtain ⟨ao, cap, rfl, hn, hm, hc⟩ := hr
  have h1 := h.m0; have h2 := h.m1; have h3 := h.n1; have h4 := h.lo; have h5 := h.k1
  have h0 : 1 ≤ l.length := by omega
  have e1 : ((l.length : Int) + m - 1) / m = (k : Int) := by rw [hk, Int.natCast_ediv]; congr 1; omega
  have h6 : decide ((k : Int) ≤ 64) = true := by simp; omega
  have h7 : decide (k ≤ 64) = true := by simp; omega
  have h8 : decide (((l.length : Int) + m - 1) / m ≤ 64) = true := by rw [e1]; exact h6
  have HE := Lib.hid e1
  clear h h4 hk e1 h6 h7
  go_enter Try.func23, Try.ntmps23
  go_wp2
  go_ret2
  exact ⟨ret_congr (by rw [← HE.out]; rfl), rfl⟩
set_option maxHeartbeats 1000000 in
set_option maxRecDepth 100000 in
theorem cuts_no (v : Value) (l : List UInt8) (mtu : Int) (w : World) (hr : Bs w v l) (he : cutErr l.length mtu ≠ 0) (hl : l.length ≤ 140737488355328) :
    Calls Try.prog 23 #[v, .int .i64 mtu] w fun e w' => NoCuts e ∧ w = w' := by
  obtain ⟨ao, cap, rfl, hn, hm, hc⟩ := id hr
  have HE := Lib.hid he; clear he
  by_cases h3 : l.length < 1
  · go_enter Try.func23, Try.ntmps23
    go_wp2
    go_ret2
    exact ⟨⟨_, rfl⟩, rfl⟩
  by_cases h4 : 1024 < l.length
  · go_enter Try.func23, Try.ntmps23
    go_wp2
    go_ret2
    exact ⟨⟨_, rfl⟩, rfl⟩
  by_cases h1 : mtu < 1
  · go_enter Try.func23, Try.ntmps23
    go_wp2
    go_ret2
    exact ⟨⟨_, rfl⟩, rfl⟩
  by_cases h2 : 1024 < mtu
  · go_enter Try.func23, Try.ntmps23
    go_wp2
    go_ret2
    exact ⟨⟨_, rfl⟩, rfl⟩
  by_cases h5 : 64 < ((l.length : Int) + mtu - 1) / mtu
  · have h6 : decide (((l.length : Int) + mtu - 1) / mtu ≤ 64) = false := by simp; omega
    go_enter Try.func23, Try.ntmps23
    go_wp2
    go_ret2
    exact ⟨⟨_, rfl⟩, rfl⟩
  · exact absurd (cutErr_0 (by omega) h4 h5) HE.out

theorem backRem (x : Int) (k : Nat) (hk : 1 ≤ k) : ∃ a : Nat, a < k ∧ (x.tmod k + k) % (k : Int) = a ∧ -(k : Int) < x.tmod k ∧ x.tmod k < k := by
  have h1 := Int.tmod_lt_of_pos x (show (0 : Int) < k by omega)
  have h2 : -(k : Int) < x.tmod k := by
    have := Int.lt_tmod_of_pos x (show (0 : Int) < k by omega)
    exact this
  have h3 := Int.emod_nonneg (x.tmod k + k) (show (k : Int) ≠ 0 by omega)
  have h4 := Int.emod_lt_of_pos (x.tmod k + k) (show (0 : Int) < k by omega)
  exact ⟨((x.tmod k + k) % (k : Int)).toNat, by omega, by omega, h2, h1⟩
def left (k : Nat) (H : Nat → Bool) : Nat := ((List.range k).filter fun j => !H j).length
theorem left_zero {k : Nat} {H : Nat → Bool} (h : ∀ i, i < k → H i = true) : left k H = 0 := by
  unfold left
  rw [List.length_eq_zero_iff, List.filter_eq_nil_iff]
  intro a ha
  simp [h a (List.mem_range.1 ha)]
theorem left_pos {k : Nat} {H : Nat → Bool} (h : ∃ i, i < k ∧ H i = false) : 0 < left k H := by
  obtain ⟨i, hi, hH⟩ := h
  exact List.length_pos_of_mem (a := i) (List.mem_filter.2 ⟨List.mem_range.2 hi, by simp [hH]⟩)
theorem left_none {k : Nat} : left k (fun _ => false) = k := by
  have h : ∀ l : List Nat, (l.filter fun _ => true).length = l.length := fun l => by rw [List.filter_eq_self.2 (fun _ _ => rfl)]
  have := h (List.range k)
  rw [List.length_range] at this
  exact this
theorem left_le {k : Nat} {H : Nat → Bool} : left k H ≤ k := by
  have := List.length_filter_le (fun j => !H j) (List.range k)
  simpa [left] using this
theorem left_add {k i : Nat} {H : Nat → Bool} (hi : i < k) (hH : H i = false) : left k (addH H i) + 1 = left k H := by
  induction k with
  | zero => omega
  | succ k ih =>
    unfold left at ih ⊢
    rw [List.range_succ, List.filter_append, List.filter_append, List.length_append, List.length_append]
    by_cases hk : i = k
    · subst hk
      have e : (List.range i).filter (fun j => !addH H i j) = (List.range i).filter (fun j => !H j) := by
        apply List.filter_congr
        intro j hj
        have : j < i := List.mem_range.1 hj
        have : (j == i) = false := by simp; omega
        simp [addH, this]
      rw [e]
      simp [addH, hH]
    · have := ih (by omega)
      have hk' : (k == i) = false := by simp; omega
      have e : (([k].filter fun j => !addH H i j)) = ([k].filter fun j => !H j) := by
        simp only [addH, List.filter_cons, hk', Bool.or_false, List.filter_nil]
      rw [e]
      omega
theorem all_or {k : Nat} (H : Nat → Bool) : (∀ i, i < k → H i = true) ∨ ∃ i, i < k ∧ H i = false := by
  by_cases h : ∃ i, i < k ∧ H i = false
  · exact .inr h
  · refine .inl fun i hi => ?_
    cases hH : H i with
    | true => rfl
    | false => exact absurd ⟨i, hi, hH⟩ h
def haveC (k : Nat) (H : Nat → Bool) : List Value := (List.range k).map fun j => .bool (H j)
theorem haveC_none (k : Nat) : haveC k (fun _ => false) = List.replicate k (.bool false) := by
  apply List.ext_getElem <;> simp [haveC]
theorem haveC_at {k i : Nat} {H : Nat → Bool} (h : i < k) : (haveC k H)[i]? = some (.bool (H i)) := by simp [haveC, h]
theorem haveC_set {k i : Nat} {H : Nat → Bool} : (haveC k H).set i (.bool true) = haveC k (addH H i) := by
  apply List.ext_getElem
  · simp [haveC]
  · intro j h1 h2
    rw [List.getElem_set]
    split
    · next e => subst e; simp [haveC, addH]
    · next e =>
      have hji : ¬ j = i := fun h => e h.symm
      have : (j == i) = false := by simpa using hji
      simp [haveC, addH, this]
theorem done_next {k os t a : Nat} {H : Nat → Bool} (hd : ∀ j, j < k → j + os < t → H j = true) (hta : os ≤ t → t = os + a) : ∀ j, j < k → j + os < t + 1 → addH H a j = true := by
  intro j hj hjt
  by_cases hja : j = a
  · subst hja; simp [addH]
  · have : j + os < t := by
      rcases Nat.lt_or_ge t os with h | h
      · omega
      · have := hta h; omega
    simp [addH, hd j hj this]
end Go.Proofs.Ytgnbnkoanoalhaa
