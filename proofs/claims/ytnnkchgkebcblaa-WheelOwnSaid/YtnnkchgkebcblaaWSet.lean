/- Set. -/
import Derived.Test.YtnnkchgkebcblaaWSmall
namespace Go.Proofs.Ytnnkchgkebcblaa
set_option linter.unusedVariables false
set_option linter.unusedSimpArgs false
open Go.RowKit Go.Maps
/-- what Stop leaves of rows, map and count. -/
def rowsStop (R : Nat → List Tm) (m : Int → Option Pl) (i : Int) : Nat → List Tm := match m i with | none => R | some p => rowsDel R p i
def mapStop (m : Int → Option Pl) (i : Int) : Int → Option Pl := match m i with | none => m | some p => mdel m i
theorem stop_any (g mb : Nat) (sl : List Value) (now sets : Nat) (R : Nat → List Tm) (m : Int → Option Pl) (N : Nat) (w : World) (h : WAt w g mb sl now sets R m N) (i : Int) (hid : (key i).wf = true) (hp : ∀ p, m i = some p → PlOk p)
    (hR : ∀ k, (R k).length < 4611686018427) :
    Calls Try.prog 31 #[.pointer (some ⟨g, 0, none⟩), .int .i64 i] w fun e w' => e = .returned (.bool (m i).isSome) ∧
      ∃ sl', WAt w' g mb sl' now sets (rowsStop R m i) (mapStop m i) (cntd m i N) ∧ Same (WF g mb sl) w w' ∧ ∀ b, WF g mb sl' b → WF g mb sl b ∨ w.heap.size ≤ b := by
  cases hm : m i with
  | none =>
    refine (stop_no g mb sl now sets R m N w h i hid hm).mono ?_
    rintro e w' ⟨rfl, hB⟩
    refine ⟨rfl, sl, ?_, Same.of_below hB _, fun b hb => .inl hb⟩
    unfold rowsStop mapStop cntd
    rw [hm]
    exact h.later hB
  | some p =>
    refine (stop_yes g mb sl now sets R m N w h i hid p hm (hp p hm) (hR _)).mono ?_
    rintro e w' ⟨rfl, sl', h1, h2, h3⟩
    refine ⟨rfl, sl', ?_, h2, h3⟩
    unfold rowsStop mapStop
    rw [hm]
    exact h1
def maxT : Nat := 281474976710655
/-- when it rings. -/
def atOf (x now : Nat) : Nat := max (min x 281474976710655) (now + 1)
set_option maxHeartbeats 4000000 in
set_option maxRecDepth 100000 in
theorem set_max (g mb : Nat) (sl : List Value) (sets : Nat) (R : Nat → List Tm) (m : Int → Option Pl) (N : Nat) (w : World) (h : WAt w g mb sl 281474976710655 sets R m N) (i : Int) (x : Nat) (hid : (key i).wf = true) (hp : ∀ p, m i = some p → PlOk p)
    (hR : ∀ k, (R k).length < 4611686018427) (hR2 : ∀ k, (rowsStop R m i k).length < 4611686018427) (hN : cntd m i N < 4611686018427) (hs : sets < 4611686018427387904) :
    Calls Try.prog 28 #[.pointer (some ⟨g, 0, none⟩), .int .i64 i, .int .u64 (x : Int)] w fun e w' => e = .returned (.int .i64 0) ∧
      ∃ sl', WAt w' g mb sl' 281474976710655 (sets + 1) (rowsStop R m i) (mput (mapStop m i) i ⟨0, 0, true⟩) (cnt (mapStop m i) i (cntd m i N)) ∧ Same (WF g mb sl) w w' ∧ ∀ b, WF g mb sl' b → WF g mb sl b ∨ w.heap.size ≤ b := by
  have c0 := h.c0
  have hcon := stop_any g mb sl 281474976710655 sets R m N w h i hid hp hR
  have HW := Lib.hid h
  clear h
  go_enter Try.func28, Try.ntmps28
  go_wp2_with fail
  refine hcon.mono ?_
  clear hcon
  rintro e w1 ⟨rfl, sl1, h1, hS1, hF1⟩
  have c1 := h1.c1
  have c2 := h1.c2
  have f2 := h1.fz 2
  have H1 := Lib.hid h1
  have HS1 := Lib.hid hS1
  have HF1 := Lib.hid hF1
  clear h1 hS1 hF1 c0
  have hs1 : (sets : Int) + 1 < 18446744073709551616 := by omega
  have H2 : WAt (w1.setCell ⟨g, 2, none⟩ (.int .u64 ((sets : Int) + 1))) g mb sl1 281474976710655 (sets + 1) (rowsStop R m i) (mapStop m i) (cntd m i N) := H1.out.setSets (sets + 1)
  have c515 := H2.c515
  obtain ⟨D, q1, q2, q3, q4⟩ := H2.map.ex
  obtain ⟨W3, hrun0, q5, hturn⟩ := q1.store keyed Try.underlying67 (by simp only [maxLen]; omega) (keyOf_int_mk Try.underlying3 hid) (plR_mk ⟨0, 0, true⟩)
  have hrun : (Instr.mapUpdate 67 (.map (some mb)) (.int .i64 i) (.agg #[.int .i64 0, .int .i64 0, .bool true])).run Try.prog (w1.setCell ⟨g, 2, none⟩ (.int .u64 ((sets : Int) + 1))) = .ok () W3 := hrun0
  have hs2 : Same (at1 mb) (w1.setCell ⟨g, 2, none⟩ (.int .u64 ((sets : Int) + 1))) W3 := mapTurned_same hturn
  have H3 := Lib.hid (H2.mapped hs2 (MapIs.put (w := (w1.setCell ⟨g, 2, none⟩ (.int .u64 ((sets : Int) + 1)))) hid q1 q2 q3 q4 q5))
  have HS2 := Lib.hid ((H1.out.cell 2 (.int .u64 ((sets : Int) + 1))).2.2)
  have HS3 := Lib.hid hs2
  have hs1' : IntKind.u64.wrap ((sets : Int) + 1) = (sets : Int) + 1 := by rw [IntKind.wrap_u64]; omega
  clear H2 q1 q2 q3 q4 q5 hturn hs2 hrun0 hs hN hs1
  go_wp2_with fail
  go_ret
  refine ⟨rfl, sl1, H3.out, ?_, HF1.out⟩
  exact (HS1.out.trans HS2.out (fun b hb e => .inl e)).trans HS3.out (fun b hb e => .inr (.inl e))
set_option maxHeartbeats 4000000 in
set_option maxRecDepth 100000 in
theorem set_lt (g mb : Nat) (sl : List Value) (now : Nat) (sets : Nat) (R : Nat → List Tm) (m : Int → Option Pl) (N : Nat) (w : World) (h : WAt w g mb sl now sets R m N) (i : Int) (x : Nat) (hid : (key i).wf = true) (hp : ∀ p, m i = some p → PlOk p)
    (hR : ∀ k, (R k).length < 4611686018427) (hR2 : ∀ k, (rowsStop R m i k).length < 4611686018427) (hN : cntd m i N < 4611686018427) (hs : sets < 4611686018427387904) (hnow : now < 281474976710655) :
    Calls Try.prog 28 #[.pointer (some ⟨g, 0, none⟩), .int .i64 i, .int .u64 (x : Int)] w fun e w' => e = .returned (.int .i64 0) ∧
      ∃ sl', WAt w' g mb sl' now (sets + 1) (upd (rowsStop R m i) (ix (atOf x now) now) (rowsStop R m i (ix (atOf x now) now) ++ [⟨i, atOf x now, sets + 1, false⟩])) (mput (mapStop m i) i (plOf (atOf x now) now)) (cnt (mapStop m i) i (cntd m i N)) ∧ Same (WF g mb sl) w w' ∧ ∀ b, WF g mb sl' b → WF g mb sl b ∨ w.heap.size ≤ b := by
  have c0 := h.c0
  have hcon := stop_any g mb sl now sets R m N w h i hid hp hR
  have HW := Lib.hid h
  clear h
  go_enter Try.func28, Try.ntmps28
  go_wp2_with fail
  refine hcon.mono ?_
  clear hcon
  rintro e w1 ⟨rfl, sl1, h1, hS1, hF1⟩
  have c1 := h1.c1
  have c2 := h1.c2
  have f2 := h1.fz 2
  have H1 := Lib.hid h1
  have HS1 := Lib.hid hS1
  have HF1 := Lib.hid hF1
  clear h1 hS1 hF1 c0
  have hs1 : (sets : Int) + 1 < 18446744073709551616 := by omega
  have hb : ((now : Int) == 281474976710655) = false := by simp; omega
  have H2 : WAt (w1.setCell ⟨g, 2, none⟩ (.int .u64 ((sets : Int) + 1))) g mb sl1 now (sets + 1) (rowsStop R m i) (mapStop m i) (cntd m i N) := H1.out.setSets (sets + 1)
  have HS2 := Lib.hid ((H1.out.cell 2 (.int .u64 ((sets : Int) + 1))).2.2)
  go_wp2_with fail
  obtain ⟨W2, hW2⟩ : ∃ W2, W2 = w1.setCell ⟨g, 2, none⟩ (.int .u64 ((sets : Int) + 1)) := ⟨_, rfl⟩
  rw [← hW2] at H2 ⊢
  have HW2 := Lib.hid hW2
  have c1 := H2.c1
  have c2 := H2.c2
  have H2d := Lib.hid (H2.later (w' := W2.drew) ((Below.refl _ _).drew))
  clear H2 hW2
  have hmaxv : (if ((min x 281474976710655 : Nat) : Int) < IntKind.u64.wrap ((now : Int) + 1) then IntKind.u64.wrap ((now : Int) + 1) else ((min x 281474976710655 : Nat) : Int)) = ((atOf x now : Nat) : Int) := by
    rw [IntKind.wrap_u64, show ((now : Int) + 1) % 18446744073709551616 = (now : Int) + 1 by omega]
    unfold atOf
    split <;> omega
  have hat : atOf x now < 64 ^ 8 := by unfold atOf; omega
  have hnow8 : now < 64 ^ 8 := by omega
  go_region_law (first
    | (go_simp; go_at_call 33; refine (time_any x _).mono ?_; rintro e w5 ⟨rfl, rfl⟩)
    | (go_simp; go_at_call 42; (try rw [hmaxv]); refine (lay_any g mb sl1 now (sets + 1) (rowsStop R m i) (mapStop m i) (cntd m i N) W2.drew H2d.out hnow8 ⟨i, atOf x now, sets + 1, false⟩ hat hid (hR2 _) hN).mono ?_; rintro e w5 ⟨rfl, hlay⟩))
  all_goals
    obtain ⟨sl2, l1, l2, l3⟩ := hlay
    go_wp2_with fail
    go_ret
    have e2 : Same (WF g mb sl) w W2 := by
      rw [HW2.out]
      exact HS1.out.trans HS2.out (fun b hb e => .inl e)
    refine ⟨rfl, sl2, l1, ?_, fun b hb => ?_⟩
    · refine e2.trans (show Same (WF g mb sl1) W2 _ from ⟨l2.os, l2.tape, l2.output, l2.size, l2.block⟩) (fun b hb e => ?_)
      rcases HF1.out b e with h | h
      · exact h
      · omega
    · rcases l3 b hb with h | h
      · exact HF1.out b h
      · exact .inr (Nat.le_trans e2.size h)
end Go.Proofs.Ytnnkchgkebcblaa
