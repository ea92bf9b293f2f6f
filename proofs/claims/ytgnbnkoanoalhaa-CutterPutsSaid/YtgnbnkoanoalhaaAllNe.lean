/- Whole of any box: whether all segments are there, and the block. -/
import Derived.Test.YtgnbnkoanoalhaaPutAll
import Derived.Test.YtgnbnkoanoalhaaWhole
namespace Go.Proofs.Ytgnbnkoanoalhaa
set_option linter.unusedVariables false
set_option linter.unusedSimpArgs false
open Go.RowKit
def allNe (ps : List (List UInt8)) (k : Nat) : Bool := (ps.take k).all fun p => decide (0 < p.length)
theorem allNe_succ (ps : List (List UInt8)) (k : Nat) (h : k < ps.length) : allNe ps (k + 1) = (allNe ps k && decide (0 < (ps.getD k []).length)) := by
  unfold allNe
  rw [List.take_succ_eq_append_getElem h, List.all_append, List.getD_eq_getElem?_getD, List.getElem?_eq_getElem h]
  simp
theorem allNe_yes {ps : List (List UInt8)} {k : Nat} (h : allNe ps k = true) : ∀ i, i < k → i < ps.length → ps.getD i [] ≠ [] := by
  intro i hi hl he
  unfold allNe at h
  rw [List.all_eq_true] at h
  have := h ps[i] (by rw [List.mem_take_iff_getElem]; exact ⟨i, by omega, rfl⟩)
  rw [List.getD_eq_getElem?_getD, List.getElem?_eq_getElem hl] at he
  simp at he
  simp [he] at this
theorem allNe_no {ps : List (List UInt8)} : ∀ {k : Nat}, k ≤ ps.length → allNe ps k = false → ∃ j, j < k ∧ ps.getD j [] = [] ∧ ∀ i, i < j → ps.getD i [] ≠ [] := by
  intro k
  induction k with
  | zero => intro _ h; simp [allNe] at h
  | succ k ih =>
    intro hl h
    cases hk : allNe ps k with
    | false =>
      obtain ⟨j, h1, h2, h3⟩ := ih (by omega) hk
      exact ⟨j, by omega, h2, h3⟩
    | true =>
      rw [allNe_succ ps k (by omega), hk] at h
      refine ⟨k, by omega, ?_, fun i hi => allNe_yes hk i hi (by omega)⟩
      simp at h
      simpa [List.getD_eq_getElem?_getD] using h

/-- the block of a box: nothing, if one is lacking. -/
def blockOf (b : BoxS) : List UInt8 := if allNe b.ps b.cnt = true then (b.ps.take b.cnt).flatten else []
theorem whole_any (g : Nat) (b : BoxS) (w : World) (h : b.at w g) (hf : b.fine) (hn : b.ps.length = 64) :
    Calls Try.prog 22 #[.pointer (some ⟨g, 0, none⟩)] w fun e w' => ∃ v, e = .returned (.tuple #[v, .bool (allNe b.ps b.cnt)]) ∧ w'.ownsRow w.heap.size 5 1 v (blockOf b).length ((blockOf b).map ub) ∧ Below w.heap.size w w' := by
  have hhi := hf.hi
  cases hc : allNe b.ps b.cnt
  · obtain ⟨j, hj, hjn, hja⟩ := allNe_no (by omega) hc
    refine (whole_no g b.cnt b.len j b.ps w h hf hj hjn hja).mono ?_
    rintro e w' ⟨rfl, hB⟩
    refine ⟨_, rfl, ?_, hB⟩
    have : blockOf b = [] := by unfold blockOf; rw [if_neg (by rw [hc]; decide)]
    rw [this]
    exact World.ownsRow_nil _ _ _ _
  · refine (whole_yes g b.cnt b.len b.ps w h hf (fun i hi => allNe_yes hc i hi (by omega))).mono ?_
    rintro e w' ⟨v, rfl, hown, hB⟩
    refine ⟨v, rfl, ?_, hB⟩
    have : blockOf b = (b.ps.take b.cnt).flatten := by unfold blockOf; rw [if_pos hc]
    rw [this]
    exact hown
end Go.Proofs.Ytgnbnkoanoalhaa
