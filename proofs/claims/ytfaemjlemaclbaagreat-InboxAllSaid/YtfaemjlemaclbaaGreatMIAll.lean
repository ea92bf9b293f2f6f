/- InboxTakes, InboxDecides, InboxDrops, InboxAll return true. Printed by wip/gen_iholds.py. -/
import Derived.Test.YtfaemjlemaclbaaGreatMIHolds
namespace Go.Proofs.YtfaemjlemaclbaaGreat
set_option linter.unusedVariables false
set_option linter.unusedSimpArgs false
open Go.RowKit
set_option maxHeartbeats 8000000 in
set_option maxRecDepth 100000 in
theorem itakes_in (a b : Int) (v : Value) (ops : List OpI) (w : World) (hv : OpsRdI w v ops) :
    Calls Tryz.prog 3 #[.int .i64 a, .int .i64 b, v] w fun e w' => e = .returned (.bool true) ∧ Below w.heap.size w w' := by
  have hcon := iholds_any a b v ops 1 w hv
  obtain ⟨ao, cap, rfl, -⟩ := id hv
  have HC := Lib.hid hcon
  clear hv hcon
  go_enter Tryz.func3, Tryz.ntmps3
  go_wp2_with fail
  refine HC.out.mono ?_
  rintro e w1 ⟨rfl, hB1⟩
  have HB1 := Lib.hid hB1
  clear hB1 HC
  go_wp2_with fail
  go_ret
  exact ⟨rfl, HB1.out⟩
theorem itakes_walk (W : World) (v0 : Int) (x0 : Int) (h0 : cInt.rep W [.int .i64 v0] x0) (v1 : Int) (x1 : Int) (h1 : cInt.rep W [.int .i64 v1] x1) (v2 : Value) (x2) (h2 : cOpsI.rep W [v2] x2) :
    Calls Tryz.prog 3 #[.int .i64 v0, .int .i64 v1, v2] W fun e w' => e = .returned (.bool true) ∧ Below W.heap.size W w' := itakes_in v0 v1 v2 _ W (cOpsI_rd h2)
set_option maxHeartbeats 8000000 in
set_option maxRecDepth 100000 in
theorem idecides_in (a b : Int) (v : Value) (ops : List OpI) (w : World) (hv : OpsRdI w v ops) :
    Calls Tryz.prog 4 #[.int .i64 a, .int .i64 b, v] w fun e w' => e = .returned (.bool true) ∧ Below w.heap.size w w' := by
  have hcon := iholds_any a b v ops 2 w hv
  obtain ⟨ao, cap, rfl, -⟩ := id hv
  have HC := Lib.hid hcon
  clear hv hcon
  go_enter Tryz.func4, Tryz.ntmps4
  go_wp2_with fail
  refine HC.out.mono ?_
  rintro e w1 ⟨rfl, hB1⟩
  have HB1 := Lib.hid hB1
  clear hB1 HC
  go_wp2_with fail
  go_ret
  exact ⟨rfl, HB1.out⟩
theorem idecides_walk (W : World) (v0 : Int) (x0 : Int) (h0 : cInt.rep W [.int .i64 v0] x0) (v1 : Int) (x1 : Int) (h1 : cInt.rep W [.int .i64 v1] x1) (v2 : Value) (x2) (h2 : cOpsI.rep W [v2] x2) :
    Calls Tryz.prog 4 #[.int .i64 v0, .int .i64 v1, v2] W fun e w' => e = .returned (.bool true) ∧ Below W.heap.size W w' := idecides_in v0 v1 v2 _ W (cOpsI_rd h2)
set_option maxHeartbeats 8000000 in
set_option maxRecDepth 100000 in
theorem idrops_in (a b : Int) (v : Value) (ops : List OpI) (w : World) (hv : OpsRdI w v ops) :
    Calls Tryz.prog 5 #[.int .i64 a, .int .i64 b, v] w fun e w' => e = .returned (.bool true) ∧ Below w.heap.size w w' := by
  have hcon := iholds_any a b v ops 3 w hv
  obtain ⟨ao, cap, rfl, -⟩ := id hv
  have HC := Lib.hid hcon
  clear hv hcon
  go_enter Tryz.func5, Tryz.ntmps5
  go_wp2_with fail
  refine HC.out.mono ?_
  rintro e w1 ⟨rfl, hB1⟩
  have HB1 := Lib.hid hB1
  clear hB1 HC
  go_wp2_with fail
  go_ret
  exact ⟨rfl, HB1.out⟩
theorem idrops_walk (W : World) (v0 : Int) (x0 : Int) (h0 : cInt.rep W [.int .i64 v0] x0) (v1 : Int) (x1 : Int) (h1 : cInt.rep W [.int .i64 v1] x1) (v2 : Value) (x2) (h2 : cOpsI.rep W [v2] x2) :
    Calls Tryz.prog 5 #[.int .i64 v0, .int .i64 v1, v2] W fun e w' => e = .returned (.bool true) ∧ Below W.heap.size W w' := idrops_in v0 v1 v2 _ W (cOpsI_rd h2)
set_option maxHeartbeats 8000000 in
set_option maxRecDepth 100000 in
theorem iall_in (a b : Int) (v : Value) (ops : List OpI) (w : World) (hv : OpsRdI w v ops) :
    Calls Tryz.prog 6 #[.int .i64 a, .int .i64 b, v] w fun e w' => e = .returned (.bool true) ∧ Below w.heap.size w w' := by
  obtain ⟨ao, cap, rfl, hl, -⟩ := id hv
  have HV := Lib.hid hv
  clear hv
  obtain ⟨n, hn⟩ : ∃ n, n = ops.length := ⟨_, rfl⟩
  rw [← hn] at hl
  have HN := Lib.hid hn
  rw [← hn]
  clear hn
  by_cases hok : newOk a b
  · obtain ⟨a, rfl⟩ := Int.eq_ofNat_of_zero_le (show 0 ≤ a by have := hok.1; omega)
    obtain ⟨b, rfl⟩ := Int.eq_ofNat_of_zero_le (show 0 ≤ b by have := hok.2.2.1; omega)
    go_enter Tryz.func6, Tryz.ntmps6
    go_wp2_with fail
    refine (both_yes a b w hok).mono ?_
    intro e w1 hpost
    obtain ⟨x, d, S, rfl, hD, hS, hB1⟩ := hpost
    have HG := Lib.hid (⟨hD, hB1, hS⟩ : GoesI w w1 0 x d S ⟨a, b, 0, [], []⟩)
    obtain ⟨m, hm⟩ : ∃ m : IM, m = ⟨a, b, 0, [], []⟩ := ⟨_, rfl⟩
    rw [← hm] at HG
    clear hD hS hB1 hm
    go_wp2_with fail
    go_loopw [10] (fun i wr => ∃ (t : Nat) (S : Nat → Prop) (m : IM), t ≤ n ∧ i = .int .i64 (t : Int) ∧ Hid (GoesI w wr t x d S m)) (fun i _ => n - (intOf i).toNat)
    case atStart => exact ⟨0, S, m, Nat.zero_le _, rfl, HG⟩
    case round =>
      clear HG
      obtain ⟨t, S, m, ht, rfl, HG⟩ := hrel
      by_cases hlt : t < n
      · obtain ⟨o, ho⟩ : ∃ o, ops[t]? = some o := ⟨_, List.getElem?_eq_getElem (by rw [← HN.out]; exact hlt)⟩
        obtain ⟨bb, off, dv, gv, rfl, hu, f1, f2, hcell⟩ := HV.out.at HG.out.below ho rfl
        have c := HG.out.plays o hu f1 f2 (by omega)
        obtain ⟨okind, ⟨ukind, uep, uses, path, idx, cnt, data, ucode, got⟩, oep, onum, ocode⟩ := o
        simp only [opv] at c
        have e0 := hcell 0 _ rfl
        rw [← Nat.add_assoc] at e0
        have e1 := hcell 1 _ rfl
        rw [← Nat.add_assoc] at e1
        have e2 := hcell 2 _ rfl
        rw [← Nat.add_assoc] at e2
        have e3 := hcell 3 _ rfl
        rw [← Nat.add_assoc] at e3
        have e4 := hcell 4 _ rfl
        rw [← Nat.add_assoc] at e4
        have e5 := hcell 5 _ rfl
        rw [← Nat.add_assoc] at e5
        have e6 := hcell 6 _ rfl
        rw [← Nat.add_assoc] at e6
        have e7 := hcell 7 _ rfl
        rw [← Nat.add_assoc] at e7
        have e8 := hcell 8 _ rfl
        rw [← Nat.add_assoc] at e8
        have e9 := hcell 9 _ rfl
        rw [← Nat.add_assoc] at e9
        have e10 := hcell 10 _ rfl
        rw [← Nat.add_assoc] at e10
        have e11 := hcell 11 _ rfl
        rw [← Nat.add_assoc] at e11
        have e12 := hcell 12 _ rfl
        rw [← Nat.add_assoc] at e12
        simp only [Nat.add_zero] at e0
        simp only at e1 e2 e3 e4 e5 e6 e8 e10 e11 e12
        have hdv := hu.dat
        have hgv := hu.got
        simp only at hdv hgv
        obtain ⟨dp, dc, rfl, -⟩ := id hdv
        obtain ⟨gp, gc, rfl, -⟩ := id hgv
        have HC := Lib.hid c
        have HGB := Lib.hid HG.out.below
        have ix : (t : Int) < (n : Int) := by omega
        have HOP := Lib.hid ho
        clear c hu f1 f2 hcell hdv hgv ho
        go_wp2_with fail
        refine HC.out.mono ?_
        rintro e w2 ⟨rfl, S2, h2⟩
        have hsh := h2.shows
        have HSH := Lib.hid hsh
        clear h2 hsh e0 e1 e2 e3 e4 e5 e6 e7 e8 e9 e10 e11 e12
        go_wp2_with fail
        refine HSH.out.mono ?_
        rintro e w3 ⟨rfl, h3, -⟩
        have HG3 := Lib.hid h3
        clear h3
        go_wp2_with fail
        go_roundw
        case rel => exact ⟨t + 1, _, _, by omega, by go_num, HG3⟩
        case measure => simp [intOf]; omega
      · obtain rfl : t = n := by omega
        have HSH := Lib.hid HG.out.shows
        go_wp2_with fail
        refine HSH.out.mono ?_
        rintro e w3 ⟨rfl, h3, -⟩
        have HG3 := Lib.hid h3
        clear h3
        go_wp2_with fail
        go_ret
        exact ⟨rfl, HG3.out.below⟩
  · go_enter Tryz.func6, Tryz.ntmps6
    go_wp2_with fail
    refine (both_no a b w hok).mono ?_
    rintro e w1 ⟨rfl, hw⟩
    rw [hw]
    clear hw w1
    go_wp2_with fail
    refine (knows_any _).mono ?_
    rintro e w9 ⟨rfl, hB9⟩
    have HB := Lib.hid hB9
    clear hB9
    go_wp2_with fail
    go_ret
    exact ⟨rfl, HB.out⟩
theorem iall_walk (W : World) (v0 : Int) (x0 : Int) (h0 : cInt.rep W [.int .i64 v0] x0) (v1 : Int) (x1 : Int) (h1 : cInt.rep W [.int .i64 v1] x1) (v2 : Value) (x2) (h2 : cOpsI.rep W [v2] x2) :
    Calls Tryz.prog 6 #[.int .i64 v0, .int .i64 v1, v2] W fun e w' => e = .returned (.bool true) ∧ Below W.heap.size W w' := iall_in v0 v1 v2 _ W (cOpsI_rd h2)
end Go.Proofs.YtfaemjlemaclbaaGreat
