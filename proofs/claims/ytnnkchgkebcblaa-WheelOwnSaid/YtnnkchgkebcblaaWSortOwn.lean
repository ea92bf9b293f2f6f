/- A list of timers that is the call's own, before and behind a sort of its row; the order of the sort. -/
import Derived.Test.YtnnkchgkebcblaaWSet
import Derived.Shelf.GgSortFunc.InsertionK
import Derived.Sort.Grow
namespace Go.Proofs.Ytnnkchgkebcblaa
set_option linter.unusedVariables false
set_option linter.unusedSimpArgs false
open Go.RowKit Go.Sort Go.Proofs
/-- timers whose orders are small. -/
abbrev Tb := { t : Tm // t.ord < 4611686018427387904 }
instance : Inhabited Tb := ⟨⟨⟨0, 0, 0, false⟩, by decide⟩⟩
def tb (t : Tb) : List Value := tv t.1
def vals (l : List Tb) : List Tm := l.map Subtype.val
theorem flat_tv (d : Array Tb) : flatK tb 3 d = (tvs (vals d.toList)).toArray := by
  apply Array.ext
  · simp [tvs_len, vals]
  · intro t h1 h2
    have ht : t < d.size * 3 := by simpa using h1
    have hk : t / 3 < d.size := by omega
    have e := tvs_at (vals d.toList) (t / 3) d[t / 3].1 (by simp [vals, hk]) (t % 3) (Nat.mod_lt _ (by decide))
    rw [show t / 3 * 3 + t % 3 = t by omega] at e
    have hg := get_flatK tb 3 d t ht
    rw [getElem!_pos _ t h1] at hg
    rw [hg]
    have hd : d[t / 3]! = d[t / 3] := getElem!_pos d (t / 3) hk
    rw [hd]
    have h3 : t < (tvs (vals d.toList)).length := by simpa using h2
    rw [List.getElem?_eq_getElem h3] at e
    rw [show (tvs (vals d.toList)).toArray[t]'h2 = (tvs (vals d.toList))[t]'h3 from rfl]
    have hl : t % 3 < (tb d[t / 3]).length := by simp [tb, tv]; exact Nat.mod_lt _ (by decide)
    rw [show tv d[t / 3].1 = tb d[t / 3] from rfl, List.getElem?_eq_getElem hl] at e
    injection e with e
    rw [e, getElem!_pos (tb d[t / 3]) (t % 3) hl]
theorem holds_tv {w : World} {g : Nat} {cur : Array Value} {e : TypeId} {l : List Tb} (hb : w.heap[g]? = some (.cells cur e (0, 0))) (ht : cur.toList.take (l.length * 3) = tvs (vals l)) : HoldsK tb 3 w g 0 l.toArray := by
  intro j hj
  rw [flat_tv] at hj ⊢
  have hj' : j < l.length * 3 := by simpa [tvs_len, vals] using hj
  refine ⟨?_, by simp [World.frozen?, hb]⟩
  have h1 : (cur.toList.take (l.length * 3))[j]? = (tvs (vals l))[j]? := by rw [ht]
  rw [List.getElem?_take_of_lt hj'] at h1
  have hlt : j < (tvs (vals l)).length := by rw [tvs_len]; simpa [vals] using hj'
  simp only [World.cell?, hb, Nat.zero_add]
  simp only [Option.isSome_none, Bool.false_eq_true, if_false]
  rw [← Array.getElem?_toList, h1, List.getElem?_eq_getElem hlt]
  simp [hlt]
theorem take_put (cur : Array Value) (xs : List Value) (h : xs.length ≤ cur.size) : (putCells id 0 xs.toArray cur).toList.take xs.length = xs := by
  apply List.ext_getElem?
  intro j
  by_cases hj : j < xs.length
  · rw [List.getElem?_take_of_lt hj, Array.getElem?_toList]
    simp [putCells, hj, show j < cur.size by omega]
  · rw [List.getElem?_take_eq_none (by omega), List.getElem?_eq_none (by omega)]
theorem sorted_tv {w : World} {base g cap n m : Nat} {e : TypeId} {os : Array Obj} {cur : Array Value} (d : Array Tb) (hd : d.size = m) (hbase : base ≤ g) (hb : w.heap[g]? = some (.cells cur e (0, 0)))
    (h1 : m ≤ cap) (h2 : cap ≤ maxLen) (h3 : cur.size = cap * 3) :
    (sortWorldK tb 3 w g 0 n d os).ownsRow base e 3 (.slice (some ⟨g, 0, none⟩) m cap) m (tvs (vals d.toList)) ∧ w.grownBy (sortWorldK tb 3 w g 0 n d os) (some g) := by
  have hg : g < w.heap.size := (Array.getElem?_eq_some_iff.1 hb).1
  have hheap : (sortWorldK tb 3 w g 0 n d os).heap[g]? = some (.cells (putCells id 0 (tvs (vals d.toList)).toArray cur) e (0, 0)) := by
    unfold sortWorldK putRowK
    rw [flat_tv, heap_grow_old _ _ (by simpa [Sort.ahead, putRow, mapBlock] using hg)]
    simp [putRow, mapBlock, Sort.ahead, Array.getElem?_modify, hb, onCells]
  have hl : (tvs (vals d.toList)).length = m * 3 := by rw [tvs_len]; simp [vals, hd]
  refine ⟨⟨hl, .inr ⟨g, cap, _, rfl, hbase, hheap, h1, h2, by simp [putCells, h3], ?_⟩⟩, rfl, rfl, rfl, by simp [sortWorldK, putRowK, putRow, mapBlock, Sort.ahead, grow], fun k hk hne => ?_⟩
  · rw [← hl]
    exact take_put cur _ (by rw [hl, h3]; exact Nat.mul_le_mul_right 3 h1)
  · unfold sortWorldK putRowK
    rw [heap_grow_old _ _ (by simpa [Sort.ahead, putRow, mapBlock] using hk)]
    have : g ≠ k := fun e => hne (by rw [e])
    simp [putRow, mapBlock, Sort.ahead, Array.getElem?_modify, this]

theorem less_any (x y : Tm) (hx : x.ord < 4611686018427387904) (hy : y.ord < 4611686018427387904) (W : World) : Calls Try.prog 41 #[.agg #[.int .i64 x.id, .int .u64 (x.at_ : Int), .int .u64 (x.ord : Int)], .agg #[.int .i64 y.id, .int .u64 (y.at_ : Int), .int .u64 (y.ord : Int)]] W fun e w' => e = .returned (.int .i64 ((x.ord : Int) - (y.ord : Int))) ∧ ∃ q os', w' = grow (W.drewN q) os' := by
  obtain ⟨x1, x2, x3, x4⟩ := x
  obtain ⟨y1, y2, y3, y4⟩ := y
  simp only at *
  go_enter Try.func41, Try.ntmps41
  go_wp2_with fail
  go_ret
  exact ⟨rfl, 0, _, by rw [alloc_eq_grow, alloc_eq_grow, grow_grow]; rfl⟩
end Go.Proofs.Ytnnkchgkebcblaa
