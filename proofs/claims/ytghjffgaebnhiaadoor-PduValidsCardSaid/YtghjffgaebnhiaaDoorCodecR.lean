/- The codec of lists of ranges. -/
import Derived.Test.YtghjffgaebnhiaaDoorCodecs
import Derived.Test.YtghjffgaebnhiaaDoorRgs
namespace Go.Proofs.YtghjffgaebnhiaaDoor
set_option linter.unusedVariables false
set_option linter.unusedSimpArgs false
open Go.RowKit
abbrev cRange : Codec Tryd.prog 57 (Int × Int) :=
  (Codec.struct Tryd.underlying57 (FCodec.cons rfl cInt (FCodec.cons rfl cInt (FCodec.nil _ _))) (by kernel_rfl)).map fun x => (x.1, x.2.1)
abbrev cRanges : Codec Tryd.prog 24 (List (Int × Int)) := Codec.slice Tryd.underlying24 (by kernel_rfl) cRange (by decide)
theorem bytesRange : Tryd.prog.bytesOf 57 = 16 := by kernel_rfl
/-- both ends are ints. -/
def In64 (l : List (Int × Int)) : Prop := ∀ g ∈ l, -9223372036854775808 ≤ g.1 ∧ g.1 ≤ 9223372036854775807 ∧ -9223372036854775808 ≤ g.2 ∧ g.2 ≤ 9223372036854775807
theorem wf_int {n : Int} (h : (Lit.int .i64 n).wf = true) : -9223372036854775808 ≤ n ∧ n ≤ 9223372036854775807 := by
  have h1 : IntKind.i64.min = -9223372036854775808 := by decide
  have h2 : IntKind.i64.max = 9223372036854775807 := by decide
  simp only [Lit.wf, Bool.and_eq_true, decide_eq_true_eq, h1, h2] at h
  exact h
theorem cRange_rd {w : World} {cs : List Value} {g : Int × Int} (h : cRange.rep w cs g) : cs = rv g ∧ In64 [g] := by
  obtain ⟨⟨a, b, u⟩, rfl, c1, c2, rfl, ⟨rfl, ha⟩, c3, c4, rfl, ⟨rfl, hb⟩, h4⟩ := h
  obtain rfl : c4 = [] := h4
  have ha' := wf_int ha
  have hb' := wf_int hb
  simp only at ha' hb'
  exact ⟨rfl, fun g hg => by simp at hg; subst hg; simp only; omega⟩
set_option maxRecDepth 100000 in
theorem cRanges_rd {w : World} {v : Value} {l : List (Int × Int)} (h : cRanges.rep w [v] l) : Rgs w v l ∧ l.length * 16 ≤ 140737488351232 ∧ In64 l := by
  obtain ⟨ao, cap, rfl, h1, h2, h3, h4⟩ := rd_elem h
  rw [bytesRange] at h3
  simp only [reachBytes] at h3
  have hl : l.length * 16 ≤ 140737488351232 := by omega
  by_cases hn : 0 < l.length
  · obtain ⟨b, off, rfl, h5⟩ := h4 hn
    have key : ∀ i x, l[i]? = some x → In64 [x] ∧ ∀ j u, (rv x)[j]? = some u → w.cell? ⟨b, off + (i * 2 + j), none⟩ = some u := fun i x hx => by
      obtain ⟨cs, hc, hcell⟩ := h5 i x hx
      obtain ⟨rfl, h64⟩ := cRange_rd hc
      exact ⟨h64, fun j u hu => hcell j u hu⟩
    refine ⟨⟨_, cap, rfl, h1, h2, fun _ => ⟨b, off, rfl, fun j u hu => ?_⟩⟩, hl, fun g hg => ?_⟩
    · have hj : j < l.length * 2 := by
        have := (List.getElem?_eq_some_iff.1 hu).1
        rwa [rvs_len] at this
      have hi : j / 2 < l.length := by omega
      obtain ⟨e0, e1⟩ := rvs_at l (j / 2) _ (List.getElem?_eq_getElem hi)
      obtain ⟨_, hc⟩ := key (j / 2) _ (List.getElem?_eq_getElem hi)
      rcases Nat.mod_two_eq_zero_or_one j with hm | hm
      · have hj2 : j / 2 * 2 = j := by omega
        rw [hj2] at e0
        rw [e0] at hu
        have := hc 0 u hu
        rwa [Nat.add_zero, hj2] at this
      · have hj2 : j / 2 * 2 + 1 = j := by omega
        rw [hj2] at e1
        rw [e1] at hu
        have := hc 1 u hu
        rwa [hj2] at this
    · obtain ⟨i, hi, rfl⟩ := List.mem_iff_getElem.1 hg
      exact (key i _ (List.getElem?_eq_getElem hi)).1 _ (by simp)
  · obtain rfl : l = [] := List.length_eq_zero_iff.1 (by omega)
    exact ⟨Rd.empty h2, hl, fun g hg => by simp at hg⟩
end Go.Proofs.YtghjffgaebnhiaaDoor
