/- The reference's Fits. -/
import Derived.Test.YtgnbnkoanoalhaaRefLen
namespace Go.Proofs.Ytgnbnkoanoalhaa
set_option linter.unusedVariables false
set_option linter.unusedSimpArgs false
open Go.RowKit
def evenOf (ls : List (List UInt8)) : Bool := (ls.take (ls.length - 1)).all fun p => !(decide (0 < p.length)) || decide (p.length = lenOf ls)
def lastOf (ls : List (List UInt8)) : Nat := (ls.getD (ls.length - 1) []).length
def roomOf (ls : List (List UInt8)) : Bool := if lenOf ls = 0 then decide (ls.length * lastOf ls ≤ 1024) else decide (lastOf ls ≤ lenOf ls) && decide ((ls.length - 1) * lenOf ls + max 1 (lastOf ls) ≤ 1024)
theorem evenOf_no {ls : List (List UInt8)} {k : Nat} (hk : k + 1 < ls.length) (h1 : 0 < (ls.getD k []).length) (h2 : (ls.getD k []).length ≠ lenOf ls) : evenOf ls = false := by
  unfold evenOf
  rw [List.all_eq_false]
  refine ⟨ls.getD k [], ?_, by rw [decide_eq_true h1, decide_eq_false h2]; decide⟩
  rw [List.mem_take_iff_getElem]
  refine ⟨k, by omega, ?_⟩
  rw [List.getD_eq_getElem?_getD, List.getElem?_eq_getElem (by omega)]; rfl
theorem evenOf_yes {ls : List (List UInt8)} (h : ∀ j, j + 1 < ls.length → (ls.getD j []).length = 0 ∨ (ls.getD j []).length = lenOf ls) : evenOf ls = true := by
  unfold evenOf
  rw [List.all_eq_true]
  intro p hp
  obtain ⟨j, hj, rfl⟩ := List.mem_iff_getElem.1 hp
  rw [List.length_take] at hj
  have := h j (by omega)
  rw [List.getD_eq_getElem?_getD, List.getElem?_eq_getElem (by omega)] at this
  rw [List.getElem_take]
  simp at this ⊢
  rcases this with h | h
  · exact .inl h
  · exact .inr h
theorem lenOf_le {ls : List (List UInt8)} (hm : ∀ p ∈ ls, p.length ≤ 1024) : lenOf ls ≤ 1024 := by
  unfold lenOf
  cases h : (ls.take (ls.length - 1)).find? fun p => decide (0 < p.length) with
  | none => simp
  | some p => exact hm p (List.mem_of_mem_take (List.mem_of_find?_eq_some h))
end Go.Proofs.Ytgnbnkoanoalhaa
