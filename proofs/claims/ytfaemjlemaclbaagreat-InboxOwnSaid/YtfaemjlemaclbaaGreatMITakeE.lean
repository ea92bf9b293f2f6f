/- Take, where an empty segment may lie anywhere. -/
import Derived.Test.YtfaemjlemaclbaaGreatMIOps
namespace Go.Proofs.YtfaemjlemaclbaaGreat
set_option linter.unusedVariables false
set_option linter.unusedSimpArgs false
open Go.RowKit Go.Maps
theorem in_take' {w : World} {x n : Nat} {S : Nat → Prop} {m : IM} (h : In w x S n m) (u : UD) (dp gp : Option Addr) (dc gc : Nat) (hd : Bs w (.slice dp u.data.length dc) u.data) (hdn : u.data ≠ [] → ∀ b, (Value.slice dp u.data.length dc).ownBlock = some b → ¬ S b) (hn : n < 4611686018427387904) :
    Calls Tryz.prog 14 #[.pointer (some ⟨x, 0, none⟩), uv u (.slice dp u.data.length dc) (.slice gp u.got.length gc)] w fun e w' => Answers w w' x (n + 1) S (m.take u).1 (m.take u).2 e := by
  by_cases he : u.data = []
  · have hdat : ¬ u.isData := fun h => by
      have := h.2.2.2.2.2.2.2.2.1
      rw [he] at this
      simp at this
    have hI := h
    obtain ⟨⟨bo, bd, t, O, C, hA, ht, hf⟩, hr⟩ := h
    have e1 : m.take u = (m, ⟨2, 0, [], []⟩) := by rw [IM.take, if_pos hdat]
    rw [e1]
    by_cases hk : u.kind = 1
    · refine (take_bad hA u dp gp dc gc hk hdat).mono ?_
      rintro e w' ⟨rfl, hB⟩
      exact answers_none ⟨S, (hI.later hB).mono (Nat.le_succ n), Turn.of_below hB S⟩
    · refine (take_kind hA u dp gp dc gc hk).mono ?_
      rintro e w' ⟨rfl, hB⟩
      exact answers_none ⟨S, (hI.later hB).mono (Nat.le_succ n), Turn.of_below hB S⟩
  · exact in_take h u dp gp dc gc hd (hdn he) hn
end Go.Proofs.YtfaemjlemaclbaaGreat
