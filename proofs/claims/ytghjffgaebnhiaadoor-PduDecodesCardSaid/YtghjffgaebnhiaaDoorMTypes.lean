/- The element types of this seat's slices, as the program's tables tell them. -/
import Derived.Test.YtghjffgaebnhiaaDoorProg
import Derived.Test.YtghjffgaebnhiaaDoorMBase
import Derived.Lib.AppendStr
namespace Go.Proofs.YtghjffgaebnhiaaDoor
set_option linter.unusedVariables false
set_option linter.unusedSimpArgs false
theorem El.u8 : El Tryd.prog 23 5 (.int .u8 0) 1 1 := ⟨Tryd.underlying23, by kernel_rfl, rfl, by decide, by decide⟩
theorem El.bytes : El Tryd.prog 49 23 (.slice none 0 0) 1 24 := ⟨Tryd.underlying49, by kernel_rfl, rfl, by decide, by decide⟩
theorem El.ranges : El Tryd.prog 50 24 (.slice none 0 0) 1 24 := ⟨Tryd.underlying50, by kernel_rfl, rfl, by decide, by decide⟩
theorem run_str8 {w W : World} {v : Value} {l : List UInt8} (h : Bs w v l) (hW : W.heap = w.heap) : (convert 23 9 v).run Tryd.prog W = .ok (.string (str l)) W :=
  run_str Tryd.underlying23 Tryd.underlying5 Tryd.underlying9 h hW
theorem strCells_str (l : List UInt8) : Lib.strCells (str l) = l.map ub := by
  simp [Lib.strCells, str, ub]
/-- append of a string's bytes. -/
theorem wpList_appStr {ops : Array Oper} {rest : List Oper} {o : Oper} {a : Act} {Q : Exit → Act → World → Prop} {w : World} (hgd : o.guard = none) (s x : Operand)
    (ho : o.op = .call { callee := .builtin .append, args := #[s, x], argTypes := #[23, 9] }) {base : Nat} {v : Value} {n : Nat} {xs : List Value} (hown : w.ownsRow base 5 1 v n xs) (hs : a.eval s = v)
    {l : List UInt8} (hx : a.eval x = .string (str l)) (hb : n + l.length ≤ 140737488355328) (hbase : base ≤ w.heap.size)
    (h : ∀ v' w', w'.ownsRow base 5 1 v' (n + l.length) (xs ++ l.map ub) → w.grownBy w' v.ownBlock → wpList Tryd.prog ops Q rest (a.put o.dst v') w') : wpList Tryd.prog ops Q (o :: rest) a w := by
  obtain ⟨i, hi, hz, hs1, hby⟩ := info_parts El.u8.inf
  have hsz := str_size l
  refine Lib.wpList_append_own_string w hgd s x _ _ ho base _ i El.u8.und Tryd.underlying9 hi hz hs1 hby v n xs hs hown (str l) hx (by rw [hsz]; simp only [maxLen]; omega) (by rw [hsz]; exact hb) hbase fun v' w' h2 h3 _ => ?_
  rw [hsz, strCells_str] at h2
  exact h v' w' h2 h3
end Go.Proofs.YtghjffgaebnhiaaDoor
