/- WheelSets, WheelStops, WheelRings, WheelNames return true. -/
import Derived.Test.YtnnkchgkebcblaaWHolds2
namespace Go.Proofs.Ytnnkchgkebcblaa
set_option linter.unusedVariables false
set_option linter.unusedSimpArgs false
open Go.RowKit
set_option maxRecDepth 100000 in
theorem cU64_nat {w : World} {a : Int} {x : Int} (h : cU64.rep w [.int .u64 a] x) : ∃ n : Nat, a = (n : Int) := by
  obtain ⟨h1, h2⟩ := h
  simp only [List.cons.injEq, Value.int.injEq, true_and, and_true] at h1
  subst h1
  exact ⟨_, (u64_nat h2).symm⟩
set_option maxRecDepth 100000 in
theorem cInt_wf {w : World} {a : Int} {x : Int} (h : cInt.rep w [.int .i64 a] x) : (key a).wf = true := by
  obtain ⟨h1, h2⟩ := h
  simp only [List.cons.injEq, Value.int.injEq, true_and, and_true] at h1
  subst h1
  exact h2
set_option maxHeartbeats 1000000 in
set_option maxRecDepth 100000 in
theorem sets_in (a b : Nat) (v : Value) (ops : List Opd) (w : World) (hv : OpsRd w v ops) :
    Calls Try.prog 4 #[.int .u64 (a : Int), .int .u64 (b : Int), v] w fun e w' => e = .returned (.bool true) ∧ Below w.heap.size w w' := by
  obtain ⟨ao, cap, rfl, -⟩ := id hv
  obtain ⟨wa, hwa⟩ : ∃ wa, wa = w.alloc (.cells #[.int .i64 1] 3) := ⟨_, rfl⟩
  have hB : Below w.heap.size w wa := hwa ▸ (Below.refl _ _).alloc (Nat.le_refl _) _
  have hK : Blk wa w.heap.size 3 [.int .i64 1] := hwa ▸ Blk.new w _ _
  have hcon := holds_any a b _ ops w.heap.size 1 wa (hv.later hB) hK
  have HB := Lib.hid hB
  clear hv hB hK
  go_enter Try.func4, Try.ntmps4
  go_wp2_with fail
  rw [← hwa]
  clear hwa
  refine hcon.mono ?_
  rintro e w1 ⟨rfl, hB1⟩
  have HB1 := Lib.hid (below_trans HB.out hB1)
  clear hB1 hcon
  go_wp2_with fail
  go_ret
  exact ⟨rfl, HB1.out⟩
theorem setsLaw_walk (W : World) (v0 : Int) (x0 : Int) (h0 : cU64.rep W [.int .u64 v0] x0) (v1 : Int) (x1 : Int) (h1 : cU64.rep W [.int .u64 v1] x1) (v2 : Value) (x2) (h2 : cOps.rep W [v2] x2) :
    Calls Try.prog 4 #[.int .u64 v0, .int .u64 v1, v2] W fun e w' => e = .returned (.bool true) ∧ Below W.heap.size W w' := by
  obtain ⟨a, rfl⟩ := cU64_nat h0
  obtain ⟨b, rfl⟩ := cU64_nat h1
  exact sets_in a b v2 _ W (cOps_rd h2)
set_option maxHeartbeats 1000000 in
set_option maxRecDepth 100000 in
theorem stops_in (a b : Nat) (v : Value) (ops : List Opd) (w : World) (hv : OpsRd w v ops) :
    Calls Try.prog 5 #[.int .u64 (a : Int), .int .u64 (b : Int), v] w fun e w' => e = .returned (.bool true) ∧ Below w.heap.size w w' := by
  obtain ⟨ao, cap, rfl, -⟩ := id hv
  obtain ⟨wa, hwa⟩ : ∃ wa, wa = w.alloc (.cells #[.int .i64 2] 3) := ⟨_, rfl⟩
  have hB : Below w.heap.size w wa := hwa ▸ (Below.refl _ _).alloc (Nat.le_refl _) _
  have hK : Blk wa w.heap.size 3 [.int .i64 2] := hwa ▸ Blk.new w _ _
  have hcon := holds_any a b _ ops w.heap.size 2 wa (hv.later hB) hK
  have HB := Lib.hid hB
  clear hv hB hK
  go_enter Try.func5, Try.ntmps5
  go_wp2_with fail
  rw [← hwa]
  clear hwa
  refine hcon.mono ?_
  rintro e w1 ⟨rfl, hB1⟩
  have HB1 := Lib.hid (below_trans HB.out hB1)
  clear hB1 hcon
  go_wp2_with fail
  go_ret
  exact ⟨rfl, HB1.out⟩
theorem stopsLaw_walk (W : World) (v0 : Int) (x0 : Int) (h0 : cU64.rep W [.int .u64 v0] x0) (v1 : Int) (x1 : Int) (h1 : cU64.rep W [.int .u64 v1] x1) (v2 : Value) (x2) (h2 : cOps.rep W [v2] x2) :
    Calls Try.prog 5 #[.int .u64 v0, .int .u64 v1, v2] W fun e w' => e = .returned (.bool true) ∧ Below W.heap.size W w' := by
  obtain ⟨a, rfl⟩ := cU64_nat h0
  obtain ⟨b, rfl⟩ := cU64_nat h1
  exact stops_in a b v2 _ W (cOps_rd h2)
set_option maxHeartbeats 1000000 in
set_option maxRecDepth 100000 in
theorem rings_in (a b : Nat) (v : Value) (ops : List Opd) (w : World) (hv : OpsRd w v ops) :
    Calls Try.prog 6 #[.int .u64 (a : Int), .int .u64 (b : Int), v] w fun e w' => e = .returned (.bool true) ∧ Below w.heap.size w w' := by
  obtain ⟨ao, cap, rfl, -⟩ := id hv
  obtain ⟨wa, hwa⟩ : ∃ wa, wa = w.alloc (.cells #[.int .i64 3] 3) := ⟨_, rfl⟩
  have hB : Below w.heap.size w wa := hwa ▸ (Below.refl _ _).alloc (Nat.le_refl _) _
  have hK : Blk wa w.heap.size 3 [.int .i64 3] := hwa ▸ Blk.new w _ _
  have hcon := holds_any a b _ ops w.heap.size 3 wa (hv.later hB) hK
  have HB := Lib.hid hB
  clear hv hB hK
  go_enter Try.func6, Try.ntmps6
  go_wp2_with fail
  rw [← hwa]
  clear hwa
  refine hcon.mono ?_
  rintro e w1 ⟨rfl, hB1⟩
  have HB1 := Lib.hid (below_trans HB.out hB1)
  clear hB1 hcon
  go_wp2_with fail
  go_ret
  exact ⟨rfl, HB1.out⟩
theorem ringsLaw_walk (W : World) (v0 : Int) (x0 : Int) (h0 : cU64.rep W [.int .u64 v0] x0) (v1 : Int) (x1 : Int) (h1 : cU64.rep W [.int .u64 v1] x1) (v2 : Value) (x2) (h2 : cOps.rep W [v2] x2) :
    Calls Try.prog 6 #[.int .u64 v0, .int .u64 v1, v2] W fun e w' => e = .returned (.bool true) ∧ Below W.heap.size W w' := by
  obtain ⟨a, rfl⟩ := cU64_nat h0
  obtain ⟨b, rfl⟩ := cU64_nat h1
  exact rings_in a b v2 _ W (cOps_rd h2)
set_option maxHeartbeats 1000000 in
set_option maxRecDepth 100000 in
theorem names_in (a : Nat) (w : World) :
    Calls Try.prog 3 #[.int .u64 (a : Int)] w fun e w' => e = .returned (.bool true) ∧ Below w.heap.size w w' := by
  go_enter Try.func3, Try.ntmps3
  go_wp2_with fail
  refine (wh_new a w).mono ?_
  rintro e w1 ⟨g, S, rfl, h1, hS, hB1⟩
  have H1 := Lib.hid h1; have HB1 := Lib.hid hB1
  clear h1 hS hB1
  go_wp2_with fail
  refine (knows_any w1).mono ?_
  rintro e w2 ⟨rfl, hB2⟩
  have H2 := Lib.hid (H1.out.later hB2); have HB2 := Lib.hid (below_trans HB1.out hB2)
  clear hB2
  go_wp2_with fail
  refine (rf_new a w2).mono ?_
  rintro e w3 ⟨r, R, rfl, h3, hR, hB3⟩
  have hd : Duo w3 g r (fun b => S b ∨ R b) (min a 281474976710655) 0 [] := ⟨S, R, H2.out.later hB3, h3, fun b hb hb' => by
    have := H2.out.lt hb
    have := hR b hb'
    omega, fun b => Iff.rfl⟩
  have HD := Lib.hid hd; have HB3 := Lib.hid (below_trans HB2.out hB3)
  clear hd h3 hR hB3
  go_wp2_with fail
  refine (shows_any HD.out (by decide)).mono ?_
  rintro e w4 ⟨rfl, hB4⟩
  have HB4 := Lib.hid (below_trans HB3.out hB4)
  clear hB4
  go_wp2_with fail
  go_ret
  exact ⟨rfl, HB4.out⟩
theorem namesLaw_walk (W : World) (v0 : Int) (x0 : Int) (h0 : cU64.rep W [.int .u64 v0] x0) :
    Calls Try.prog 3 #[.int .u64 v0] W fun e w' => e = .returned (.bool true) ∧ Below W.heap.size W w' := by
  obtain ⟨a, rfl⟩ := cU64_nat h0
  exact names_in a W
end Go.Proofs.Ytnnkchgkebcblaa
