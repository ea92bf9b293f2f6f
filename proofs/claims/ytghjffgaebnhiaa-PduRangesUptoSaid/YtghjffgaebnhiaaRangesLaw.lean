/- PduRanges returns true. -/
import Derived.Test.YtghjffgaebnhiaaRest03
import Derived.Test.YtghjffgaebnhiaaMissing
import Derived.Test.YtghjffgaebnhiaaHas
import Derived.Test.YtghjffgaebnhiaaUnion
import Derived.Test.YtghjffgaebnhiaaTotal
import Derived.Test.YtghjffgaebnhiaaCodecR
namespace Go.Proofs.Ytghjffgaebnhiaa
set_option linter.unusedVariables false
set_option linter.unusedSimpArgs false
open Go.RowKit
theorem In64.lo {l : List (Int × Int)} (h : In64 l) : ∀ g ∈ l, -9223372036854775808 ≤ g.1 := fun g hg => (h g hg).1
theorem In64.hi {l : List (Int × Int)} (h : In64 l) : ∀ g ∈ l, g.2 ≤ 9223372036854775807 := fun g hg => (h g hg).2.2.2
theorem In64.app {l m : List (Int × Int)} (h : In64 l) (h' : In64 m) : In64 (l ++ m) := fun g hg => by
  rcases List.mem_append.1 hg with h1 | h1
  · exact h g h1
  · exact h' g h1
theorem missR_len (L : List (Int × Int)) (n : Int) : (missR L n).length ≤ L.length + 1 := by
  have := missIn_len n L
  unfold missR
  split <;> simp <;> omega
set_option maxHeartbeats 8000000 in
set_option maxRecDepth 100000 in
theorem rangesLaw (v u : Value) (l m : List (Int × Int)) (i : Int) (w : World) (h : Rgs w v l) (h' : Rgs w u m) (hl : l.length ≤ 1048576) (hm : m.length ≤ 1048576) (hi : In64 l) (hi' : In64 m) (hi0 : -9223372036854775808 ≤ i) (hi1 : i ≤ 9223372036854775807) :
    Calls Try.prog 3 #[v, u, .int .i64 i] w fun e w' => e = .returned (.bool true) ∧ Below w.heap.size w w' := by
  have HV := Lib.hid h; have HU := Lib.hid h'; have H1 := Lib.hid hi; have H2 := Lib.hid hi'
  have HLM := Lib.hid (hi.app hi')
  have q1 := leastR_len l
  have q2 := leastR_len (l ++ m)
  have q3 := leastR_len (addR l i)
  have q4 : (addR l i).length ≤ l.length + 1 := by unfold addR; split <;> simp
  have q5 := missR_len (leastR l) i
  rw [List.length_append] at q2
  obtain ⟨p, c, rfl, -⟩ := id h
  obtain ⟨q, d, rfl, -⟩ := id h'
  obtain ⟨B, hB⟩ : ∃ B : Bool, (B = true ↔ Mem i l) := by
    by_cases hmi : Mem i l
    · exact ⟨true, fun _ => hmi, fun _ => rfl⟩
    · exact ⟨false, (fun h => by cases h), fun h => absurd h hmi⟩
  have HB := Lib.hid hB
  clear h h' hi hi' hB
  go_enter Try.func3, Try.ntmps3
  go_wp2_with fail
  refine (ranges_any _ l _ HV.out (by omega)).mono ?_
  rintro e w1 ⟨x, rfl, hx, hB1⟩
  go_wp2_with fail
  refine (ranges_any _ m _ (HU.out.later hB1) (by omega)).mono ?_
  rintro e w2 ⟨y, rfl, hy, hB2⟩
  have HX := Lib.hid (hx.later hB2)
  have HY := Lib.hid hy
  have hB02 := below_trans hB1 hB2
  have hB : Below w2.heap.size w2 w2 := Below.refl _ _
  obtain ⟨gx, rfl, -⟩ := id hx
  obtain ⟨gy, rfl, -⟩ := id hy
  have RX := fun (w' : World) (h : Below w2.heap.size w2 w') => (HX.out.later h).rgs (by omega : l.length ≤ 4398046511104)
  have RY := fun (w' : World) (h : Below w2.heap.size w2 w') => (HY.out.later h).rgs (by omega : m.length ≤ 4398046511104)
  have RL := fun (w' : World) (h : Below w2.heap.size w2 w') => HV.out.later (below_trans hB02 h)
  have RM := fun (w' : World) (h : Below w2.heap.size w2 w') => HU.out.later (below_trans hB02 h)
  have HRX := Lib.hid RX; have HRY := Lib.hid RY; have HRL := Lib.hid RL; have HRM := Lib.hid RM
  clear RX RY RL RM hx hy
  go_wp2_with fail
  refine (least_rd _ l _ (HRX.out _ hB) (by omega)).mono ?_
  rintro e wp ⟨vp, rfl, op, hBp⟩
  have hBp := below_trans hB hBp
  go_wp2_with fail
  refine (refLeast_any _ l _ (HRL.out _ hBp) (by omega) H1.out.lo H1.out.hi).mono ?_
  rintro e wq ⟨vq, rfl, oq, hBq⟩
  have op := own_later op hBq
  have hBq := below_trans hBp hBq
  go_wp2_with fail
  refine (same03_yes _ _ (leastR l) _ (Rgs.of_own op) (Rgs.of_own oq) (by omega)).mono ?_
  rintro e _ ⟨rfl, n, rfl⟩
  have hB := below_drewN hBq n
  clear op oq hBp hBq
  go_wp2_with fail
  refine (union_any _ _ l m _ (HRX.out _ hB) (HRY.out _ hB) (by omega)).mono ?_
  rintro e wp ⟨vp, rfl, op, hBp⟩
  have hBp := below_trans hB hBp
  go_wp2_with fail
  refine (refUnion_any _ _ l m _ (HRL.out _ hBp) (HRM.out _ hBp) (by omega) HLM.out.lo HLM.out.hi).mono ?_
  rintro e wq ⟨vq, rfl, oq, hBq⟩
  have op := own_later op hBq
  have hBq := below_trans hBp hBq
  go_wp2_with fail
  refine (same03_yes _ _ (leastR (l ++ m)) _ (Rgs.of_own op) (Rgs.of_own oq) (by omega)).mono ?_
  rintro e _ ⟨rfl, n, rfl⟩
  have hB := below_drewN hBq n
  clear op oq hBp hBq
  go_wp2_with fail
  refine (add_any _ l i _ (HRX.out _ hB) (by omega) hi0 hi1).mono ?_
  rintro e wp ⟨vp, rfl, op, hBp⟩
  have hBp := below_trans hB hBp
  go_wp2_with fail
  refine (refAdd_any _ l i _ (HRL.out _ hBp) (by omega) H1.out.lo H1.out.hi hi0 hi1).mono ?_
  rintro e wq ⟨vq, rfl, oq, hBq⟩
  have op := own_later op hBq
  have hBq := below_trans hBp hBq
  go_wp2_with fail
  refine (same03_yes _ _ (leastR (addR l i)) _ (Rgs.of_own op) (Rgs.of_own oq) (by omega)).mono ?_
  rintro e _ ⟨rfl, n, rfl⟩
  have hB := below_drewN hBq n
  clear op oq hBp hBq
  go_wp2_with fail
  refine (has_any _ l i B _ (HRX.out _ hB) (by omega) HB).mono ?_
  rintro e wp ⟨rfl, hBp⟩
  have hB := below_trans hB hBp
  clear hBp
  go_wp2_with fail
  refine (refHas_any _ l i B _ (HRL.out _ hB) (by omega) HB).mono ?_
  rintro e _ ⟨rfl, rfl⟩
  have tB : (B != B) = false := by cases B <;> rfl
  go_wp2_with fail
  refine (total_any _ l _ (HRX.out _ hB) (by omega) H1.out.lo H1.out.hi).mono ?_
  rintro e wq ⟨rfl, hBq⟩
  have hB := below_trans hB hBq
  clear hBq
  obtain ⟨T, hT⟩ : ∃ T, T = totalR (leastR l) := ⟨_, rfl⟩
  rw [← hT]
  have HT := Lib.hid hT
  clear hT
  go_wp2_with fail
  refine (refTotal_any _ l _ (HRL.out _ hB) (by omega) H1.out.lo H1.out.hi).mono ?_
  rintro e wr ⟨rfl, hBr⟩
  have hB := below_trans hB hBr
  clear hBr
  rw [← HT.out]
  go_wp2_with fail
  refine (missing_any _ l i _ (HRX.out _ hB) (by omega)).mono ?_
  rintro e wp ⟨vp, rfl, op, hBp⟩
  have hBp := below_trans hB hBp
  go_wp2_with fail
  refine (refMissing_any _ l i _ (HRL.out _ hBp) (by omega) H1.out.hi hi1).mono ?_
  rintro e wq ⟨vq, rfl, oq, hBq⟩
  have op := own_later op hBq
  have hBq := below_trans hBp hBq
  go_wp2_with fail
  refine (same03_yes _ _ (missR (leastR l) i) _ (Rgs.of_own op) (Rgs.of_own oq) (by omega)).mono ?_
  rintro e _ ⟨rfl, n, rfl⟩
  have hB := below_drewN hBq n
  clear op oq hBp hBq
  go_wp2_with fail
  refine (rest_any _ _ _ l _ (HX.out.later hB) (HRL.out _ hB) (by omega)).mono ?_
  rintro e ws ⟨rfl, hBs⟩
  have hB := below_trans hB hBs
  clear hBs
  go_wp2_with fail
  refine (rest_any _ _ _ m _ (HY.out.later hB) (HRM.out _ hB) (by omega)).mono ?_
  rintro e wt ⟨rfl, hBt⟩
  go_wp2_with fail
  go_ret
  exact ⟨rfl, below_trans hB02 (below_trans hB hBt)⟩
theorem rangesLaw_walk (W : World) (v0 : Value) (l : List (Int × Int)) (h0 : cRanges.rep W [v0] l) (n0 : Nat) (hn0 : ∃ a c, v0 = .slice a n0 c) (b0 : n0 ≤ 1048576) (v1 : Value) (m : List (Int × Int)) (h1 : cRanges.rep W [v1] m) (n1 : Nat) (hn1 : ∃ a c, v1 = .slice a n1 c) (b1 : n1 ≤ 1048576)
    (v2 : Value) (i : Int) (h2 : cInt.rep W [v2] i) :
    Calls Try.prog 3 #[v0, v1, v2] W fun e w' => e = .returned (.bool true) ∧ Below W.heap.size W w' := by
  obtain ⟨r0, _, i0⟩ := cRanges_rd h0
  obtain ⟨r1, _, i1⟩ := cRanges_rd h1
  obtain ⟨h2, hw⟩ := h2
  have hw := wf_int hw
  simp only [List.cons.injEq, and_true] at h2
  subst h2
  have e0 : l.length ≤ 1048576 := by
    obtain ⟨a, c, rfl⟩ := hn0
    obtain ⟨a', c', he, _⟩ := r0
    injection he with _ he _
    omega
  have e1 : m.length ≤ 1048576 := by
    obtain ⟨a, c, rfl⟩ := hn1
    obtain ⟨a', c', he, _⟩ := r1
    injection he with _ he _
    omega
  exact rangesLaw v0 v1 l m i W r0 r1 e0 e1 i0 i1 hw.1 hw.2
end Go.Proofs.Ytghjffgaebnhiaa
