/- ElR, Rgs: joined. -/
import Derived.Test.YtghjffgaebnhiaaDoorProg
import Derived.Test.YtghjffgaebnhiaaDoorMBase
import Derived.BigQuiet
import Derived.Deep.QuietTactic
section
/- The element type of lists of ranges, as the program's tables tell it. -/
namespace Go.Proofs.YtghjffgaebnhiaaDoor
set_option linter.unusedVariables false
set_option linter.unusedSimpArgs false
theorem El.range : El Tryd.prog 24 57 (.agg #[.int .i64 0, .int .i64 0]) 2 16 := ⟨Tryd.underlying24, by kernel_rfl, rfl, by decide, by decide⟩
end Go.Proofs.YtghjffgaebnhiaaDoor
end
section
/- How lists of ranges lie, as words. -/
namespace Go.Proofs.YtghjffgaebnhiaaDoor
set_option linter.unusedVariables false
set_option linter.unusedSimpArgs false
open Go.RowKit
/-- a range's two cells. -/
def rv (x : Int × Int) : List Value := [.int .i64 x.1, .int .i64 x.2]
def rvs (l : List (Int × Int)) : List Value := l.flatMap rv
theorem rvs_len (l : List (Int × Int)) : (rvs l).length = l.length * 2 := by
  induction l with
  | nil => rfl
  | cons x l ih => simp [rvs, rv] at ih ⊢; omega
theorem rvs_app (l m : List (Int × Int)) : rvs (l ++ m) = rvs l ++ rvs m := by simp [rvs]
theorem rvs_one (l : List (Int × Int)) : ∀ x ∈ rvs l, x.oneCell' = true := by
  intro x hx
  simp only [rvs, List.mem_flatMap, rv] at hx
  obtain ⟨a, _, h⟩ := hx
  simp at h
  rcases h with rfl | rfl <;> rfl
theorem rvs_at : ∀ (l : List (Int × Int)) (i : Nat) (x : Int × Int), l[i]? = some x → (rvs l)[i * 2]? = some (.int .i64 x.1) ∧ (rvs l)[i * 2 + 1]? = some (.int .i64 x.2) := by
  intro l
  induction l with
  | nil => intro i x h; simp at h
  | cons y l ih =>
    intro i x h
    cases i with
    | zero =>
      simp at h
      subst h
      exact ⟨rfl, rfl⟩
    | succ i =>
      rw [List.getElem?_cons_succ] at h
      obtain ⟨h1, h2⟩ := ih i x h
      rw [show (i + 1) * 2 = i * 2 + 2 by omega]
      exact ⟨h1, h2⟩
/-- a slice value that reads as these ranges. -/
def Rgs (w : World) (v : Value) (l : List (Int × Int)) : Prop := Rd w v l.length (rvs l)
theorem Rgs.later {w w' : World} {v : Value} {l : List (Int × Int)} (h : Rgs w v l) (hb : Below w.heap.size w w') : Rgs w' v l := Rd.later h hb
theorem Rgs.same {S : Nat → Prop} {w w' : World} {v : Value} {l : List (Int × Int)} (h : Rgs w v l) (hb : Same S w w') (hS : ∀ b, v.ownBlock = some b → ¬ S b) : Rgs w' v l := Rd.same h hb hS
theorem Rgs.of_own {w : World} {base : Nat} {v : Value} {l : List (Int × Int)} (h : w.ownsRow base 57 2 v l.length (rvs l)) : Rgs w v l := Rd.of_own h
theorem Rgs.cells {w : World} {v : Value} {l : List (Int × Int)} (h : Rgs w v l) : ∃ ao cap, v = .slice ao l.length cap ∧ l.length ≤ maxLen ∧
    (0 < l.length → ∃ b off, ao = some ⟨b, off, none⟩ ∧ ∀ i x, l[i]? = some x → w.cell? ⟨b, off + i * 2, none⟩ = some (.int .i64 x.1) ∧ w.cell? ⟨b, off + i * 2 + 1, none⟩ = some (.int .i64 x.2)) := by
  obtain ⟨ao, cap, rfl, h1, h2, h3⟩ := h
  refine ⟨ao, cap, rfl, Nat.le_trans h1 h2, fun hn => ?_⟩
  obtain ⟨b, off, rfl, h4⟩ := h3 (fun e => by have := rvs_len l; rw [e] at this; simp at this; omega)
  refine ⟨b, off, rfl, fun i x hx => ?_⟩
  obtain ⟨h5, h6⟩ := rvs_at l i x hx
  exact ⟨h4 _ _ h5, by rw [Nat.add_assoc]; exact h4 _ _ h6⟩

/-- the last range's end, written anew. -/
theorem rvs_set (init : List (Int × Int)) (k : Int × Int) (z : Int) : (rvs (init ++ [k])).set (init.length * 2 + 1) (.int .i64 z) = rvs (init ++ [(k.1, z)]) := by
  rw [rvs_app, rvs_app, List.set_append_right _ _ (by rw [rvs_len]; omega), rvs_len, show init.length * 2 + 1 - init.length * 2 = 1 by omega]
  rfl
theorem own_setLast {w : World} {base g cap N : Nat} {init : List (Int × Int)} {k : Int × Int} (h : w.ownsRow base 57 2 (.slice (some ⟨g, 0, none⟩) N cap) N (rvs (init ++ [k]))) (hN : N = init.length + 1) (z : Int) :
    (w.setCell ⟨g, init.length * 2 + 1, none⟩ (.int .i64 z)).ownsRow base 57 2 (.slice (some ⟨g, 0, none⟩) N cap) N (rvs (init ++ [(k.1, z)])) := by
  obtain ⟨g', cap', rest, he, h1, h2, h3, h4, h5⟩ := own_blk h (by omega)
  injection he with e1 e2 e3
  injection e1 with e1
  injection e1 with e1
  subst e1; subst e3
  have := h4.set (init.length * 2 + 1) (.int .i64 z)
  rw [List.set_append_left _ _ (by rw [rvs_len]; simp; omega), rvs_set] at this
  exact own_of_blk this h1 (by rw [rvs_len]; simp; omega) h2 h3 (by rw [rvs_len] at h5 ⊢; simpa using h5)
end Go.Proofs.YtghjffgaebnhiaaDoor
end
