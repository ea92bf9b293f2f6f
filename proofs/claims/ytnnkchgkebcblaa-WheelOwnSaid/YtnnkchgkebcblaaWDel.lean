/- slices.DeleteFunc at timers, by their numbers. -/
import Derived.Test.YtnnkchgkebcblaaWIdx
import Derived.Laws.IdiomCopy
namespace Go.Proofs.Ytnnkchgkebcblaa
set_option linter.unusedVariables false
set_option linter.unusedSimpArgs false
open Go.RowKit
theorem own_setCells {base g n cap sz : Nat} {e : TypeId} : ∀ (vs : List Value) (o : Nat) (w : World) (xs : List Value), w.ownsRow base e sz (.slice (some ⟨g, 0, none⟩) n cap) n xs →
    ∃ ys, (w.setCells g o vs).ownsRow base e sz (.slice (some ⟨g, 0, none⟩) n cap) n ys ∧ ys.take o = xs.take o ∧ w.grownBy (w.setCells g o vs) (some g)
  | [], o, w, xs, h => ⟨xs, h, rfl, World.grownBy.refl _ _⟩
  | v :: vs, o, w, xs, h => by
    obtain ⟨h1, h2⟩ := h.stored o v
    obtain ⟨ys, h3, h4, h5⟩ := own_setCells vs (o + 1) _ _ h1
    refine ⟨ys, h3, ?_, ⟨h5.os.trans h2.os, h5.tape.trans h2.tape, h5.output.trans h2.output, Nat.le_trans h2.size h5.size, fun k hk hn => (h5.block k (Nat.lt_of_lt_of_le hk h2.size) hn).trans (h2.block k hk hn)⟩⟩
    have := congrArg (List.take o) h4
    rw [List.take_take, List.take_take, Nat.min_eq_left (by omega), List.take_set_of_le (by omega)] at this
    exact this
theorem clear_run {w : World} {P : Program} {t e : TypeId} {z : Value} {n : Nat} {zs : List Value} (ty : TypeId) (ht : P.underlying t = some (.slice e)) (hv : (zeroValue e).run P w = .ok z w) (b o c : Nat) (hzs : (Builtin.zeroCells z.cells n).toList = zs)
    (hc : ∀ j, j < zs.length → (w.cell? ⟨b, o + j, none⟩).isSome = true) (hf : ∀ j, j < zs.length → w.frozen? ⟨b, o + j, none⟩ = false) (h1 : ∀ v ∈ zs, v.oneCell' = true) (h0 : n = 0 → zs = []) :
    (Builtin.clear_ #[t] ty #[.slice (some ⟨b, o, none⟩) n c]).run P w = .ok (.tuple #[]) (w.setCells b o zs) := by
  rcases Nat.eq_zero_or_pos n with rfl | hn
  · rw [h0 rfl]
    simp [Builtin.clear_, run_underlying ht, World.setCells]
  · have hst := run_storeCells_cells (P := P) b o zs 0 w (by simpa using hc) (by simpa using hf) h1
    simp only [Nat.add_zero] at hst
    obtain ⟨m, rfl⟩ : ∃ m, n = m + 1 := ⟨n - 1, by omega⟩
    subst hzs
    simp [Builtin.clear_, run_underlying ht, hv, hst]
def without (L : List Tm) (i : Int) : List Tm := L.filter fun t => t.id != i
/-- J is the row while the loop goes: its front is what is kept of the first j, from j on it is as it was. -/
structure Kept (L J : List Tm) (i : Int) (k j : Nat) : Prop where
  len : J.length = L.length
  le : k < j
  front : J.take k = without (L.take j) i
  back : J.drop j = L.drop j
theorem Kept.start {L : List Tm} {i : Int} {k : Nat} {t : Tm} (ht : L[k]? = some t) (he : t.id = i) (hn : ∀ j u, j < k → L[j]? = some u → u.id ≠ i) : Kept L L i k (k + 1) := by
  refine ⟨rfl, Nat.lt_succ_self _, ?_, rfl⟩
  unfold without
  rw [List.take_add_one, ht, List.filter_append]
  have h1 : (L.take k).filter (fun t => t.id != i) = L.take k := by
    rw [List.filter_eq_self]
    intro u hu
    obtain ⟨j, hj⟩ := List.getElem?_of_mem hu
    rw [List.getElem?_take] at hj
    split at hj
    · rename_i h; simpa using hn j u h hj
    · cases hj
  rw [h1]
  simp [he]
theorem Kept.at {L J : List Tm} {i : Int} {k j : Nat} (h : Kept L J i k j) : J[j]? = L[j]? := by
  have := congrArg (fun l => l[0]?) h.back
  simpa using this
theorem Kept.skip {L J : List Tm} {i : Int} {k j : Nat} {t : Tm} (h : Kept L J i k j) (ht : L[j]? = some t) (he : t.id = i) : Kept L J i k (j + 1) := by
  refine ⟨h.len, Nat.lt_succ_of_lt h.le, ?_, ?_⟩
  · rw [h.front]
    unfold without
    rw [List.take_add_one, ht, List.filter_append]
    simp [he]
  · rw [← List.drop_drop, ← List.drop_drop, h.back]
theorem Kept.keep {L J : List Tm} {i : Int} {k j : Nat} {t : Tm} (h : Kept L J i k j) (ht : L[j]? = some t) (he : t.id ≠ i) : Kept L (J.set k t) i (k + 1) (j + 1) := by
  have hj := (List.getElem?_eq_some_iff.1 ht).1
  have hkl : k < J.length := by rw [h.len]; have := h.le; omega
  refine ⟨by simp [h.len], by have := h.le; omega, ?_, ?_⟩
  · unfold without
    rw [List.take_add_one (l := L), ht, List.filter_append]
    have := h.front
    unfold without at this
    rw [← this, List.take_add_one, List.getElem?_set_self hkl, List.take_set_of_le (Nat.le_refl _)]
    simp [he]
  · rw [List.drop_set_of_lt (by have := h.le; omega), ← List.drop_drop, ← List.drop_drop, h.back]
theorem tvs_set (J : List Tm) (k : Nat) (t : Tm) (hk : k < J.length) : (((tvs J).set (k * 3) (.int .i64 t.id)).set (k * 3 + 1) (.int .u64 (t.at_ : Int))).set (k * 3 + 2) (.int .u64 (t.ord : Int)) = tvs (J.set k t) := by
  induction J generalizing k with
  | nil => simp at hk
  | cons x J ih =>
    cases k with
    | zero => rfl
    | succ k =>
      have := ih k (by simpa using hk)
      rw [List.set_cons_succ, tvs_cons, tvs_cons, ← this, show (k + 1) * 3 = (tv x).length + k * 3 by simp [tv]; omega]
      rw [List.set_append_right _ _ (by omega), List.set_append_right _ _ (by omega), List.set_append_right _ _ (by omega)]
      simp only [Nat.add_assoc, Nat.add_sub_cancel_left]
end Go.Proofs.Ytnnkchgkebcblaa
