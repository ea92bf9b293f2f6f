/- A list of ranges that is the call's own, before and behind a sort of its row. -/
import Derived.Test.YtghjffgaebnhiaaDoorMElR
import Derived.Shelf.GgSortFunc.InsertionK
namespace Go.Proofs.YtghjffgaebnhiaaDoor
set_option linter.unusedVariables false
set_option linter.unusedSimpArgs false
open Go.RowKit Go.Sort Go.Proofs
theorem flat_rv (d : Array (Int × Int)) : flatK rv 2 d = (rvs d.toList).toArray := by
  apply Array.ext
  · simp [rvs_len]
  · intro t h1 h2
    have ht : t < d.size * 2 := by simpa using h1
    have hk : t / 2 < d.size := by omega
    obtain ⟨e1, e2⟩ := rvs_at d.toList (t / 2) d[t / 2] (by simp [hk])
    have hg := get_flatK rv 2 d t ht
    rw [getElem!_pos _ t h1] at hg
    rw [hg]
    have hd : d[t / 2]! = d[t / 2] := getElem!_pos d (t / 2) hk
    rw [hd]
    rcases Nat.mod_two_eq_zero_or_one t with hm | hm
    · rw [hm]
      rw [show t / 2 * 2 = t by omega] at e1
      have := (List.getElem?_eq_some_iff.1 e1).2
      rw [show (rvs d.toList).toArray[t]'h2 = (rvs d.toList)[t]'(by simpa using h2) from rfl, this]; rfl
    · rw [hm]
      rw [show t / 2 * 2 + 1 = t by omega] at e2
      have := (List.getElem?_eq_some_iff.1 e2).2
      rw [show (rvs d.toList).toArray[t]'h2 = (rvs d.toList)[t]'(by simpa using h2) from rfl, this]; rfl
theorem holds_rv {w : World} {g : Nat} {cur : Array Value} {e : TypeId} {l : List (Int × Int)} (hb : w.heap[g]? = some (.cells cur e (0, 0))) (ht : cur.toList.take (l.length * 2) = rvs l) : HoldsK rv 2 w g 0 l.toArray := by
  intro j hj
  rw [flat_rv] at hj ⊢
  have hj' : j < l.length * 2 := by simpa [rvs_len] using hj
  refine ⟨?_, by simp [World.frozen?, hb]⟩
  have h1 : (cur.toList.take (l.length * 2))[j]? = (rvs l)[j]? := by rw [ht]
  rw [List.getElem?_take_of_lt hj'] at h1
  have hlt : j < (rvs l).length := by rw [rvs_len]; exact hj'
  simp only [World.cell?, hb, Nat.zero_add]
  simp only [Option.isSome_none, Bool.false_eq_true, if_false]
  rw [← Array.getElem?_toList, h1, List.getElem?_eq_getElem hlt]
  simp [hlt]
theorem take_put (cur : Array Value) (xs : List Value) (h : xs.length ≤ cur.size) : (putCells id 0 xs.toArray cur).toList.take xs.length = xs := by
  apply List.ext_getElem?
  intro j
  by_cases hj : j < xs.length
  · rw [List.getElem?_take_of_lt hj, Array.getElem?_toList]
    simp [putCells, hj, show j < cur.size by omega]
  · rw [List.getElem?_take_eq_none (by omega), List.getElem?_eq_none (by omega)]
theorem sorted_rv {w : World} {base g cap n m : Nat} {e : TypeId} {os : Array Obj} {cur : Array Value} (d : Array (Int × Int)) (hd : d.size = m) (hbase : base ≤ g) (hb : w.heap[g]? = some (.cells cur e (0, 0)))
    (h1 : m ≤ cap) (h2 : cap ≤ maxLen) (h3 : cur.size = cap * 2) :
    (sortWorldK rv 2 w g 0 n d os).ownsRow base e 2 (.slice (some ⟨g, 0, none⟩) m cap) m (rvs d.toList) ∧ w.grownBy (sortWorldK rv 2 w g 0 n d os) (some g) := by
  have hg : g < w.heap.size := (Array.getElem?_eq_some_iff.1 hb).1
  have hheap : (sortWorldK rv 2 w g 0 n d os).heap[g]? = some (.cells (putCells id 0 (rvs d.toList).toArray cur) e (0, 0)) := by
    unfold sortWorldK putRowK
    rw [flat_rv, heap_grow_old _ _ (by simpa [Sort.ahead, putRow, mapBlock] using hg)]
    simp [putRow, mapBlock, Sort.ahead, Array.getElem?_modify, hb, onCells]
  have hl : (rvs d.toList).length = m * 2 := by rw [rvs_len]; simp [hd]
  refine ⟨⟨hl, .inr ⟨g, cap, _, rfl, hbase, hheap, h1, h2, by simp [putCells, h3], ?_⟩⟩, rfl, rfl, rfl, by simp [sortWorldK, putRowK, putRow, mapBlock, Sort.ahead, grow], fun k hk hne => ?_⟩
  · rw [← hl]
    exact take_put cur _ (by rw [hl, h3]; exact Nat.mul_le_mul_right 2 h1)
  · unfold sortWorldK putRowK
    rw [heap_grow_old _ _ (by simpa [Sort.ahead, putRow, mapBlock] using hk)]
    have : g ≠ k := fun e => hne (by rw [e])
    simp [putRow, mapBlock, Sort.ahead, Array.getElem?_modify, this]
end Go.Proofs.YtghjffgaebnhiaaDoor
