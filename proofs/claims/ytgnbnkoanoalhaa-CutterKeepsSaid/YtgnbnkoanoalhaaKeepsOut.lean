/- CutterKeeps where no box can be made; and the law for every script. -/
import Derived.Test.YtgnbnkoanoalhaaKeepsWalk
namespace Go.Proofs.Ytgnbnkoanoalhaa
set_option linter.unusedVariables false
set_option linter.unusedSimpArgs false
open Go.RowKit
set_option maxHeartbeats 2000000 in
set_option maxRecDepth 100000 in
theorem keeps_out (x : Value) (cnt : Int) (ops : List OpD) (w : World) (hx : OpsRd w x ops) (hc : cnt < 1 ∨ 64 < cnt) :
    Calls Try.prog 10 #[.agg #[.int .i64 cnt, x]] w fun e w' => e = .returned (.bool true) ∧ Below w.heap.size w w' := by
  obtain ⟨oap, ocap, rfl, hol, ho⟩ := id hx
  obtain ⟨wa, hwa⟩ : ∃ wa, wa = w.alloc (.cells #[.int .i64 cnt, .slice oap ops.length ocap] 37) := ⟨_, rfl⟩
  have hB0 : Below w.heap.size w wa := hwa ▸ (Below.refl _ _).alloc (Nat.le_refl _) _
  have hN0 : Blk wa w.heap.size 37 [.int .i64 cnt, .slice oap ops.length ocap] := hwa ▸ Blk.new w _ _
  have HC := Lib.hid hc; clear hc
  go_enter Try.func10, Try.ntmps10
  go_wp2_with fail
  rw [← hwa]
  clear hwa
  refine (new_no cnt _ HC.out).mono ?_
  rintro e w1 ⟨rfl, rfl⟩
  have n0 := hN0.cell_some (i := 0) rfl
  go_wp2_with fail
  refine (new_no cnt _ HC.out).mono ?_
  rintro e w1 ⟨rfl, rfl⟩
  go_wp2_with fail
  refine (num_any _ _).mono ?_
  rintro e _ ⟨rfl, rfl⟩
  go_wp2_with fail
  refine (num_any _ _).mono ?_
  rintro e _ ⟨rfl, rfl⟩
  go_wp2_with fail
  refine (small_any _).mono ?_
  rintro e w3 ⟨rfl, hB3⟩
  have hN3 := hN0.later hB3
  have m1 := hN3.cell_some (i := 1) rfl
  have hBw3 : Below w.heap.size w w3 := hB0.trans (hB3.mono hB0.size)
  have hlow := hBw3.size
  go_wp2_with fail
  go_loopw [7] (fun i wr => ∃ t : Nat, t ≤ ops.length ∧ i = .int .i64 t ∧ Below w3.heap.size w3 wr) (fun i _ => ops.length - (intOf i).toNat)
  case atStart => exact ⟨0, Nat.zero_le _, rfl, Below.refl _ _⟩
  case round =>
    obtain ⟨t, ht, rfl, hB⟩ := hrel
    have hz := hB.size
    have hBw : Below w.heap.size w wr := hBw3.trans (hB.mono hlow)
    have hNr := hN3.later hB
    have r1 := hNr.cell_some (i := 1) rfl
    by_cases hlt : t < ops.length
    · obtain ⟨ob, oo, rfl, hoc⟩ := ho (by omega)
      obtain ⟨xs, hxs, hsl, e0, e1, e2⟩ := hoc t ops[t] (List.getElem?_eq_getElem hlt)
      have e0 := below_cell hBw e0 (World.block_lt_of_cell? _ _ e0)
      have e1 := below_cell hBw e1 (World.block_lt_of_cell? _ _ e1)
      have e2 := below_cell hBw e2 (World.block_lt_of_cell? _ _ e2)
      obtain ⟨xp, xn, xc, rfl⟩ : ∃ xp xn xc, xs = .slice xp xn xc := by obtain ⟨a, c, h, _⟩ := hxs; exact ⟨_, _, _, h⟩
      obtain ⟨kd, ix, sg, ho'⟩ : ∃ kd ix sg, ops[t] = OpD.mk kd ix sg := ⟨_, _, _, rfl⟩
      rw [ho'] at hsl e0 e1
      simp only at hsl e0 e1
      clear ho' hoc hxs
      obtain ⟨wo, hwo⟩ : ∃ wo, wo = wr.alloc (.cells #[.int .i64 kd, .int .i64 ix, .slice xp xn xc] 42) := ⟨_, rfl⟩
      have hBo : Below wr.heap.size wr wo := hwo ▸ (Below.refl _ _).alloc (Nat.le_refl _) _
      go_wp2_with fail
      rw [← hwo]
      clear hwo
      refine (put_nil ix _ _).mono ?_
      rintro e w5 ⟨rfl, hB5⟩
      have hB6 := hB.trans ((hBo.trans (hB5.mono hBo.size)).mono hz)
      go_wp2_with fail
      refine (num_any _ _).mono ?_
      rintro e _ ⟨rfl, rfl⟩
      go_wp2_with fail
      go_roundw
      case rel => exact ⟨t + 1, by omega, by go_num, hB6⟩
      case measure => simp [intOf]; omega
    · obtain rfl : t = ops.length := by omega
      clear ho hx
      go_wp2_with fail
      refine (whole_nil _).mono ?_
      rintro e _ ⟨rfl, rfl⟩
      go_wp2_with fail
      refine (whole_nil _).mono ?_
      rintro e _ ⟨rfl, rfl⟩
      go_wp2_with fail
      refine (length_nil _).mono ?_
      rintro e _ ⟨rfl, rfl⟩
      go_wp2_with fail
      refine (length_nil _).mono ?_
      rintro e _ ⟨rfl, rfl⟩
      have k5 := run_str8 (show Bs wr (.slice none 0 0) [] from Rd.nil wr) (W := wr) rfl
      have hq := str_beq_yes (a := []) (b := []) rfl
      go_wp2_with fail
      refine (got_nil _).mono ?_
      rintro e _ ⟨rfl, rfl⟩
      go_wp2_with fail
      refine (got_nil _).mono ?_
      rintro e _ ⟨rfl, rfl⟩
      go_wp2_with fail
      refine (sameRanges_yes _ _ [] _ (Rd.nil _) (Rd.nil _) (by simp)).mono ?_
      rintro e _ ⟨rfl, n11, rfl⟩
      go_wp2_with fail
      go_ret
      exact ⟨rfl, below_drewN hBw _⟩
theorem keepsLaw_walk (W : World) (cs0 : Array Value) (s : ScriptD) (h0 : cScript.rep W cs0.toList s) :
    Calls Try.prog 10 #[.agg cs0] W fun e w' => e = .returned (.bool true) ∧ Below W.heap.size W w' := by
  obtain ⟨x, hcs, hx⟩ := cScript_rd h0
  obtain rfl : cs0 = #[.int .i64 s.count, x] := by
    apply Array.ext'
    rw [hcs]
  by_cases hc : s.count < 1 ∨ 64 < s.count
  · exact keeps_out x s.count s.ops W hx hc
  · obtain ⟨n, hn⟩ := Int.eq_ofNat_of_zero_le (show 0 ≤ s.count by omega)
    have := keeps_in x n s.ops W hx (by omega) (by omega)
    rw [← hn] at this
    exact this
end Go.Proofs.Ytgnbnkoanoalhaa
