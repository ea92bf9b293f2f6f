/- CutterPlays returns true. -/
import Derived.Test.YtgnbnkoanoalhaaLive
namespace Go.Proofs.Ytgnbnkoanoalhaa
set_option linter.unusedVariables false
set_option linter.unusedSimpArgs false
open Go.RowKit
set_option maxHeartbeats 4000000 in
set_option maxRecDepth 100000 in
theorem plays_in (x : Value) (n : Int) (ops : List OpD) (w : World) (hx : OpsRd w x ops) :
    Calls Try.prog 8 #[.agg #[.int .i64 n, x]] w fun e w' => e = .returned (.bool true) ∧ Below w.heap.size w w' := by
  obtain ⟨oap, ocap, rfl, hol, -⟩ := id hx
  obtain ⟨wa, hwa⟩ : ∃ wa, wa = w.alloc (.cells #[.int .i64 n, .slice oap ops.length ocap] 37) := ⟨_, rfl⟩
  have hB0 : Below w.heap.size w wa := hwa ▸ (Below.refl _ _).alloc (Nat.le_refl _) _
  have hN0 : Blk wa w.heap.size 37 [.int .i64 n, .slice oap ops.length ocap] := hwa ▸ Blk.new w _ _
  have hxa := hx.later hB0
  have n0 := hN0.cell_some (i := 0) rfl
  have n1 := hN0.cell_some (i := 1) rfl
  have hlt0 := hN0.lt
  have HX := Lib.hid hxa
  clear hx hxa
  go_enter Try.func8, Try.ntmps8
  go_wp2_with fail
  rw [← hwa]
  clear hwa
  go_wp2_with fail
  refine (begin_live n wa wa (Below.refl _ _)).mono ?_
  rintro e w1 ⟨g, r, base, pb, pr, s, rfl, hL, hB1, -⟩
  go_wp2_with fail
  go_loopw [6] (fun i wr => ∃ (t : Nat) (s : PS), t ≤ ops.length ∧ i = .int .i64 t ∧ Live wa wr g r base pb pr s) (fun i _ => ops.length - (intOf i).toNat)
  case atStart => exact ⟨0, s, Nat.zero_le _, rfl, hL⟩
  case round =>
    obtain ⟨t, s, ht, rfl, hL⟩ := hrel
    have m1 := below_cell hL.below n1 hlt0
    by_cases hlt : t < ops.length
    · obtain ⟨b, off, cap, xp, xn, xc, hv, hxs, hsl, e0, e1, e2⟩ := HX.out.at rfl hL.below hlt
      injection hv with hv1 hv2 hv3
      subst hv1; subst hv3
      obtain ⟨kd, ix, sg, ho⟩ : ∃ kd ix sg, ops[t] = OpD.mk kd ix sg := ⟨_, _, _, rfl⟩
      rw [ho] at hxs hsl e0 e1
      simp only at hxs hsl e0 e1
      clear ho hv2
      go_wp2_with fail
      refine (ask_live hL hxs hsl).mono ?_
      rintro e w5 ⟨rfl, hL5, -⟩
      go_wp2_with fail
      go_roundw
      case rel => exact ⟨t + 1, _, by omega, by go_num, hL5⟩
      case measure => simp [intOf]; omega
    · go_wp2_with fail
      go_ret
      exact ⟨rfl, hB0.trans (hL.below.mono hB0.size)⟩
theorem playsLaw_walk (W : World) (cs0 : Array Value) (s : ScriptD) (h0 : cScript.rep W cs0.toList s) :
    Calls Try.prog 8 #[.agg cs0] W fun e w' => e = .returned (.bool true) ∧ Below W.heap.size W w' := by
  obtain ⟨x, hcs, hx⟩ := cScript_rd h0
  obtain rfl : cs0 = #[.int .i64 s.count, x] := by
    apply Array.ext'
    rw [hcs]
  exact plays_in x s.count s.ops W hx
end Go.Proofs.Ytgnbnkoanoalhaa
