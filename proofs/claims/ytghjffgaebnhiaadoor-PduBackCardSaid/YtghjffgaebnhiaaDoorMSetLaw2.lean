/- Plain law: the reference's next and end, step by step. -/
import Derived.Test.YtghjffgaebnhiaaDoorMSetLaw
namespace Go.Proofs.YtghjffgaebnhiaaDoor
set_option linter.unusedVariables false
set_option linter.unusedSimpArgs false
section
variable {p : List (Int × Int)} {a y : Int} {r : Option Int} {x : Int × Int}
theorem mem_snoc_no {z : Int} (h : ¬ Mem z p) (hx : ¬ (x.1 ≤ z ∧ z < x.2)) : ¬ Mem z (p ++ [x]) := fun hh => by
  rcases Mem.app.1 hh with h1 | h1
  · exact h h1
  · exact hx (Mem.one.1 h1)
theorem next_nil : NextIs [] a none := fun x _ => mem_nil x
theorem next_skip (h : NextIs p a r) (hx : x.2 ≤ x.1 ∨ x.2 ≤ a) : NextIs (p ++ [x]) a r := by
  cases r with
  | none => exact fun z hz => mem_snoc_no (h z hz) (by omega)
  | some y => exact ⟨h.1, Mem.app.2 (.inl h.2.1), fun z hz hy => mem_snoc_no (h.2.2 z hz hy) (by have := h.1; omega)⟩
theorem next_first (h : NextIs p a none) (h1 : x.1 < x.2) (h2 : a < x.2) : NextIs (p ++ [x]) a (some (max x.1 a)) :=
  ⟨by omega, Mem.app.2 (.inr (Mem.one.2 (by omega))), fun z hz hy => mem_snoc_no (h z hz) (by omega)⟩
theorem next_less (h : NextIs p a (some y)) (h1 : x.1 < x.2) (h2 : a < x.2) (hf : max x.1 a < y) : NextIs (p ++ [x]) a (some (max x.1 a)) :=
  ⟨by omega, Mem.app.2 (.inr (Mem.one.2 (by omega))), fun z hz hy => mem_snoc_no (h.2.2 z hz (by omega)) (by omega)⟩
theorem next_keep (h : NextIs p a (some y)) (hf : ¬ max x.1 a < y) : NextIs (p ++ [x]) a (some y) :=
  ⟨h.1, Mem.app.2 (.inl h.2.1), fun z hz hy => mem_snoc_no (h.2.2 z hz hy) (by omega)⟩
end
def cntR (l : List (Int × Int)) (b : Int) : Nat := l.countP fun g => decide (g.2 ≤ b)
theorem cntR_le (l : List (Int × Int)) (b : Int) : cntR l b ≤ l.length := List.countP_le_length
theorem cntR_mono (l : List (Int × Int)) {b e : Int} (h : b ≤ e) : cntR l b ≤ cntR l e :=
  List.countP_mono_left fun g _ hg => by simp at hg ⊢; omega
theorem cntR_step : ∀ {l : List (Int × Int)} {b e : Int}, b < e → (∃ g ∈ l, g.2 = e) → cntR l b + 1 ≤ cntR l e := by
  intro l
  induction l with
  | nil => rintro b e _ ⟨g, hg, _⟩; simp at hg
  | cons x l ih =>
    rintro b e h ⟨g, hg, he⟩
    unfold cntR at ih ⊢
    rw [List.countP_cons, List.countP_cons]
    rcases List.mem_cons.1 hg with h1 | h1
    · subst h1
      have := cntR_mono l (Int.le_of_lt h)
      unfold cntR at this
      rw [if_neg (by simp; omega), if_pos (by simp; omega)]
      omega
    · have := ih h ⟨g, h1, he⟩
      have hx : (if decide (x.2 ≤ b) = true then 1 else 0) ≤ (if decide (x.2 ≤ e) = true then 1 else 0) := by
        by_cases hb : x.2 ≤ b
        · rw [if_pos (by simpa using hb), if_pos (by simp; omega)]; exact Nat.le_refl _
        · rw [if_neg (by simpa using hb)]; omega
      omega
theorem EndIs.at {l : List (Int × Int)} {a e : Int} (h : EndIs l a e) : ∃ g ∈ l, g.2 = e := by
  obtain ⟨h1, h2, h3⟩ := h
  obtain ⟨g, hg, g1, g2⟩ := h2 (e - 1) (by omega) (by omega)
  refine ⟨g, hg, ?_⟩
  have : ¬ (g.1 ≤ e ∧ e < g.2) := fun hh => h3 ⟨g, hg, hh⟩
  omega
theorem mem_take {l : List (Int × Int)} {k : Nat} {x : Int} (h : Mem x (l.take k)) : Mem x l := by
  obtain ⟨g, hg, h1⟩ := h
  exact ⟨g, List.mem_of_mem_take hg, h1⟩
theorem not_mem_of {l : List (Int × Int)} {b : Int} (h : ∀ (i : Nat) (g : Int × Int), l[i]? = some g → ¬ (g.1 ≤ b ∧ b < g.2)) : ¬ Mem b l := by
  rintro ⟨g, hg, h1⟩
  obtain ⟨i, hi, rfl⟩ := List.mem_iff_getElem.1 hg
  exact h i _ (List.getElem?_eq_getElem hi) h1
end Go.Proofs.YtghjffgaebnhiaaDoor
