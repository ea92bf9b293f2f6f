/- The least form of a list of ranges. Plain Lean. -/
import Derived.Test.YtghjffgaebnhiaaDoorRangeLaw
namespace Go.Proofs.YtghjffgaebnhiaaDoor
set_option linter.unusedVariables false
set_option linter.unusedSimpArgs false
def full (l : List (Int × Int)) : List (Int × Int) := l.filter fun g => decide (g.1 < g.2)
def leastR (l : List (Int × Int)) : List (Int × Int) := mergeR ((full l).mergeSort fun a b => decide (a.1 ≤ b.1))
theorem mem_full {x : Int} {l : List (Int × Int)} : Mem x (full l) ↔ Mem x l := by
  constructor
  · rintro ⟨g, hg, h⟩
    exact ⟨g, (List.mem_filter.1 hg).1, h⟩
  · rintro ⟨g, hg, h⟩
    exact ⟨g, List.mem_filter.2 ⟨hg, by simp; omega⟩, h⟩
theorem full_lt {l : List (Int × Int)} : ∀ g ∈ full l, g.1 < g.2 := fun g hg => by simpa using (List.mem_filter.1 hg).2
theorem mem_perm {x : Int} {l m : List (Int × Int)} (h : l.Perm m) : Mem x l ↔ Mem x m := by
  constructor
  · rintro ⟨g, hg, h1⟩
    exact ⟨g, h.mem_iff.1 hg, h1⟩
  · rintro ⟨g, hg, h1⟩
    exact ⟨g, h.mem_iff.2 hg, h1⟩
theorem mergeSort_sorted (l : List (Int × Int)) : (l.mergeSort fun a b => decide (a.1 ≤ b.1)).Pairwise fun a b => a.1 ≤ b.1 := by
  have := List.pairwise_mergeSort (le := fun (a b : Int × Int) => decide (a.1 ≤ b.1)) (fun a b c h1 h2 => by simp at *; omega) (fun a b => by simp; omega) l
  exact this.imp fun h => by simpa using h
theorem leastR_canon (l : List (Int × Int)) : Canon (leastR l) ∧ ∀ x, Mem x (leastR l) ↔ Mem x l := by
  obtain ⟨h1, h2, _⟩ := merge_inv _ ((full l).mergeSort fun a b => decide (a.1 ≤ b.1)) rfl (fun g hg => full_lt g ((List.mergeSort_perm _ _).mem_iff.1 hg)) (mergeSort_sorted _)
  refine ⟨h1, fun x => ?_⟩
  unfold leastR
  rw [h2 x, mem_perm (List.mergeSort_perm _ _), mem_full]
theorem least_uniq {l m : List (Int × Int)} (hc : Canon m) (hm : ∀ x, Mem x m ↔ Mem x l) : leastR l = m :=
  canon_uniq _ _ (leastR_canon l).1 hc fun x => ((leastR_canon l).2 x).trans (hm x).symm
/-- whichever sorted permutation is merged. -/
theorem merge_least {l d : List (Int × Int)} (hp : d.Perm (full l)) (hs : d.Pairwise fun a b => a.1 ≤ b.1) : mergeR d = leastR l := by
  obtain ⟨h1, h2, _⟩ := merge_inv _ d rfl (fun g hg => full_lt g (hp.mem_iff.1 hg)) hs
  exact (least_uniq h1 fun x => by rw [h2 x, mem_perm hp, mem_full]).symm
theorem leastR_len (l : List (Int × Int)) : (leastR l).length ≤ l.length := by
  have h1 := mergeR_len ((full l).mergeSort fun a b => decide (a.1 ≤ b.1))
  rw [List.length_mergeSort] at h1
  exact Nat.le_trans h1 (List.length_filter_le _ _)
theorem full_take_succ (l : List (Int × Int)) (k : Nat) (h : k < l.length) : full (l.take (k + 1)) = full (l.take k) ++ if l[k].1 < l[k].2 then [l[k]] else [] := by
  unfold full
  rw [List.take_succ_eq_append_getElem h, List.filter_append]
  congr 1
  by_cases hc : l[k].1 < l[k].2 <;> simp [hc]
theorem merge_take_succ (l : List (Int × Int)) (k : Nat) (h : k < l.length) : mergeR (l.take (k + 1)) = pushR (mergeR (l.take k)) l[k] := by
  rw [List.take_succ_eq_append_getElem h, mergeR_snoc]
end Go.Proofs.YtghjffgaebnhiaaDoor
