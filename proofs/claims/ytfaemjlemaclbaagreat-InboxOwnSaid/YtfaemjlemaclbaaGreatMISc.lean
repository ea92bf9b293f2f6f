/- the cells of a list of sessions. -/
import Derived.Test.YtfaemjlemaclbaaGreatMIOps
namespace Go.Proofs.YtfaemjlemaclbaaGreat
set_option linter.unusedVariables false
set_option linter.unusedSimpArgs false
open Go.RowKit Go.Maps
theorem sc_at : ∀ (l : List Sess) (i : Nat) (s : Sess), l[i]? = some s → (l.flatMap sc)[i * 2]? = some (.int .u64 (s.1.toNat : Int)) ∧ (l.flatMap sc)[i * 2 + 1]? = some (.int .u64 (s.2.toNat : Int)) := by
  intro l
  induction l with
  | nil => intro i x h; simp at h
  | cons y l ih =>
    intro i s h
    cases i with
    | zero =>
      simp at h
      subst h
      exact ⟨rfl, rfl⟩
    | succ i =>
      rw [List.getElem?_cons_succ] at h
      obtain ⟨h1, h2⟩ := ih i s h
      rw [show (i + 1) * 2 = i * 2 + 2 by omega]
      exact ⟨h1, h2⟩
theorem sc_cell {w : World} {base n : Nat} {E : TypeId} {g c : Nat} {l : List Sess} (h : w.ownsRow base E 2 (.slice (some ⟨g, 0, none⟩) n c) n (l.flatMap sc)) {k : Nat} {s : Sess} (hp : l[k]? = some s) :
    w.cell? ⟨g, k * 2, none⟩ = some (.int .u64 (s.1.toNat : Int)) ∧ w.cell? ⟨g, k * 2 + 1, none⟩ = some (.int .u64 (s.2.toNat : Int)) := by
  have q0 := h.cells (g := g) rfl (k * 2) _ (sc_at l k s hp).1
  have q1 := h.cells (g := g) rfl (k * 2 + 1) _ (sc_at l k s hp).2
  rw [Addr.add_lit, Nat.zero_add] at q0 q1
  exact ⟨q0, q1⟩
end Go.Proofs.YtfaemjlemaclbaaGreat
