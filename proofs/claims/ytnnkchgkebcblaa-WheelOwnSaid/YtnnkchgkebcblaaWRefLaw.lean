/- Plain laws of the reference's Advance. -/
import Derived.Test.YtnnkchgkebcblaaWRef3
import Derived.Test.YtnnkchgkebcblaaWT3
namespace Go.Proofs.Ytnnkchgkebcblaa
set_option linter.unusedVariables false
set_option linter.unusedSimpArgs false
def on (a : Nat) (t : Tm) : Bool := t.at_ == a && !t.nev
theorem least_spec : ∀ (T : List Tm) (q : Option Nat), match T.foldl nxt q with
    | none => q = none ∧ ∀ t ∈ T, t.nev = true
    | some a => (q = some a ∨ ∃ t ∈ T, on a t = true) ∧ (∀ b, q = some b → a ≤ b) ∧ ∀ t ∈ T, t.nev = false → a ≤ t.at_
  | [], none => ⟨rfl, fun t h => by cases h⟩
  | [], some a => ⟨.inl rfl, fun b h => by injection h with h; omega, fun t h => by cases h⟩
  | t :: T, q => by
    have ih := least_spec T (nxt q t)
    rw [List.foldl_cons]
    cases hf : T.foldl nxt (nxt q t) with
    | none =>
      rw [hf] at ih
      obtain ⟨h1, h2⟩ := ih
      unfold nxt at h1
      cases hv : t.nev with
      | true =>
        rw [hv] at h1
        exact ⟨h1, fun u hu => by rcases List.mem_cons.1 hu with rfl | hu; exact hv; exact h2 u hu⟩
      | false =>
        rw [hv] at h1
        exfalso
        cases q with
        | none => simp at h1
        | some b => simp at h1; split at h1 <;> cases h1
    | some a =>
      rw [hf] at ih
      obtain ⟨h1, h2, h3⟩ := ih
      unfold nxt at h1 h2
      cases hv : t.nev with
      | true =>
        rw [hv] at h1 h2
        refine ⟨?_, h2, fun u hu hn => ?_⟩
        · rcases h1 with h1 | ⟨u, hu, h1⟩
          · exact .inl h1
          · exact .inr ⟨u, List.mem_cons_of_mem _ hu, h1⟩
        · rcases List.mem_cons.1 hu with rfl | hu
          · rw [hv] at hn; cases hn
          · exact h3 u hu hn
      | false =>
        rw [hv] at h1 h2
        simp only [Bool.false_eq_true, if_false] at h1 h2
        cases q with
        | none =>
          simp only at h1 h2
          refine ⟨.inr ?_, fun b hb => (by cases hb), fun u hu hn => ?_⟩
          · rcases h1 with h1 | ⟨u, hu, h1⟩
            · exact ⟨t, List.mem_cons_self .., by injection h1 with h1; simp [on, hv, h1]⟩
            · exact ⟨u, List.mem_cons_of_mem _ hu, h1⟩
          · rcases List.mem_cons.1 hu with rfl | hu
            · exact h2 _ rfl
            · exact h3 u hu hn
        | some b =>
          simp only at h1 h2
          by_cases hb : t.at_ < b
          · rw [if_pos hb] at h1 h2
            have := h2 _ rfl
            refine ⟨.inr ?_, fun c hc => by injection hc with hc; omega, fun u hu hn => ?_⟩
            · rcases h1 with h1 | ⟨u, hu, h1⟩
              · exact ⟨t, List.mem_cons_self .., by injection h1 with h1; simp [on, hv, h1]⟩
              · exact ⟨u, List.mem_cons_of_mem _ hu, h1⟩
            · rcases List.mem_cons.1 hu with rfl | hu
              · exact this
              · exact h3 u hu hn
          · rw [if_neg hb] at h1 h2
            have := h2 _ rfl
            refine ⟨?_, h2, fun u hu hn => ?_⟩
            · rcases h1 with h1 | ⟨u, hu, h1⟩
              · exact .inl h1
              · exact .inr ⟨u, List.mem_cons_of_mem _ hu, h1⟩
            · rcases List.mem_cons.1 hu with rfl | hu
              · omega
              · exact h3 u hu hn
theorem least_none {T : List Tm} (h : least T = none) : ∀ t ∈ T, t.nev = true := by
  have := least_spec T none
  unfold least at h
  rw [h] at this
  exact this.2
theorem least_some {T : List Tm} {a : Nat} (h : least T = some a) : (∃ t ∈ T, on a t = true) ∧ ∀ t ∈ T, t.nev = false → a ≤ t.at_ := by
  have := least_spec T none
  unfold least at h
  rw [h] at this
  obtain ⟨h1, h2, h3⟩ := this
  rcases h1 with h1 | h1
  · cases h1
  · exact ⟨h1, h3⟩
theorem least_eq {T : List Tm} {a : Nat} (h1 : ∃ t ∈ T, on a t = true) (h2 : ∀ t ∈ T, t.nev = false → a ≤ t.at_) : least T = some a := by
  cases h : least T with
  | none =>
    obtain ⟨t, ht, h1⟩ := h1
    have := least_none h t ht
    simp [on, this] at h1
  | some b =>
    obtain ⟨⟨t, ht, hb⟩, hb2⟩ := least_some h
    obtain ⟨u, hu, hu2⟩ := h1
    simp only [on, Bool.and_eq_true, beq_iff_eq, Bool.not_eq_true'] at hb hu2
    have e1 := h2 t ht hb.2
    have e2 := hb2 u hu hu2.2
    congr 1
    omega
theorem least_nil {T : List Tm} (h : ∀ t ∈ T, t.nev = true) : least T = none := by
  cases hl : least T with
  | none => rfl
  | some a =>
    obtain ⟨⟨t, ht, h1⟩, _⟩ := least_some hl
    rw [on, h t ht] at h1
    simp at h1
theorem due_on (T : List Tm) (a : Nat) : due T a = T.filter (on a) := by
  unfold due
  exact List.filter_congr fun t _ => Bool.and_comm _ _
/-- the first that rings at a. -/
theorem due_first : ∀ {U : List Tm} {a k : Nat} {t : Tm}, U[k]? = some t → on a t = true → (∀ j u, j < k → U[j]? = some u → on a u = false) → ∃ ds, due U a = t :: ds
  | [], _, _, _, h, _, _ => by simp at h
  | x :: U, a, 0, t, h, ht, _ => by
    simp at h
    subst h
    exact ⟨U.filter (on a), by rw [due_on, List.filter_cons_of_pos ht]⟩
  | x :: U, a, k + 1, t, h, ht, hn => by
    obtain ⟨ds, hd⟩ := due_first (U := U) (by simpa using h) ht fun j u hj hu => hn (j + 1) u (by omega) (by simpa using hu)
    refine ⟨ds, ?_⟩
    rw [due_on, List.filter_cons_of_neg (by rw [hn 0 x (by omega) rfl]; decide), ← due_on]
    exact hd
theorem ring_one {U : List Tm} {a n k : Nat} {t : Tm} (hids : U.Pairwise fun a b => a.id ≠ b.id) (hl : least U = some a) (ha : a ≤ n) (hk : U[k]? = some t) (ht : on a t = true) (hn : ∀ j u, j < k → U[j]? = some u → on a u = false) :
    rings U n = t.id :: rings (without U t.id) n ∧ stay (without U t.id) n = stay U n ∧ (without U t.id).length + 1 = U.length := by
  obtain ⟨ds, hd⟩ := due_first hk ht hn
  have hm := List.mem_of_getElem? hk
  refine ⟨rings_first ha (least_some hl).2 hd hids, ?_, without_len hids hm⟩
  unfold stay
  rw [filter_without, without_none]
  intro u hu e
  obtain ⟨h1, h2⟩ := List.mem_filter.1 hu
  rw [id_inj hids h1 hm e] at h2
  simp [on] at ht
  simp [ht.2] at h2
  omega
theorem ring_end {U : List Tm} {n : Nat} (h : ∀ a, least U = some a → n < a) : rings U n = [] ∧ stay U n = U := by
  have key : ∀ t ∈ U, t.nev = false → n < t.at_ := fun t ht hn => by
    cases hl : least U with
    | none => rw [least_none hl t ht] at hn; cases hn
    | some a => exact Nat.lt_of_lt_of_le (h a hl) ((least_some hl).2 t ht hn)
  refine ⟨rings_none key, ?_⟩
  unfold stay
  rw [List.filter_eq_self]
  intro t ht
  cases hn : t.nev with
  | true => rfl
  | false => simpa using key t ht hn
end Go.Proofs.Ytnnkchgkebcblaa
