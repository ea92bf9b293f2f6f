/- CutterNil returns true. -/
import Derived.Test.YtgnbnkoanoalhaaLive
namespace Go.Proofs.Ytgnbnkoanoalhaa
set_option linter.unusedVariables false
set_option linter.unusedSimpArgs false
open Go.RowKit
theorem zeroBox : Try.zeroCells66 = ([Value.int .i64 ((0 : Nat) : Int), Value.int .i64 ((0 : Nat) : Int)] ++ (List.replicate 64 ([] : List UInt8)).map strv).toArray := by kernel_rfl
set_option maxHeartbeats 4000000 in
set_option maxRecDepth 100000 in
theorem nil_in (x : Value) (ops : List OpD) (w : World) (hx : OpsRd w x ops) :
    Calls Try.prog 11 #[x] w fun e w' => e = .returned (.bool true) ∧ Below w.heap.size w w' := by
  obtain ⟨oap, ocap, rfl, hol, -⟩ := id hx
  have HX := Lib.hid hx
  clear hx
  go_enter Try.func11, Try.ntmps11
  go_wp2_with fail
  refine (small_any _).mono ?_
  rintro e w1 ⟨rfl, hB1⟩
  have hL : Live w w1 0 0 0 (.pointer none) (.pointer none) .nil := ⟨trivial, rfl, rfl, hB1, fun k h => by rcases h with h | h <;> exact h.elim⟩
  go_wp2_with fail
  go_loopw [5] (fun i wr => ∃ (t : Nat), t ≤ ops.length ∧ i = .int .i64 t ∧ Live w wr 0 0 0 (.pointer none) (.pointer none) .nil) (fun i _ => ops.length - (intOf i).toNat)
  case atStart => exact ⟨0, Nat.zero_le _, rfl, hL⟩
  case round =>
    obtain ⟨t, ht, rfl, hL⟩ := hrel
    by_cases hlt : t < ops.length
    · obtain ⟨b, off, cap, xp, xn, xc, hv, hxs, hsl, e0, e1, e2⟩ := HX.out.at rfl hL.below hlt
      injection hv with hv1 hv2 hv3
      subst hv1; subst hv3
      obtain ⟨kd, ix, sg, ho⟩ : ∃ kd ix sg, ops[t] = OpD.mk kd ix sg := ⟨_, _, _, rfl⟩
      rw [ho] at hxs hsl e0 e1
      simp only at hxs hsl e0 e1
      clear ho hv2
      go_wp2_with fail
      refine (ask_live hL hxs hsl).mono ?_
      rintro e w5 ⟨rfl, hL5, hS5⟩
      have hn : PS.nil.ask kd ix sg = .nil := by unfold PS.ask; split <;> rfl
      rw [hn] at hL5
      have hB5 : Below wr.heap.size wr w5 := hS5.belowB fun i hi => ⟨hi, fun h => by rcases h with h | h <;> exact h.elim⟩
      have f0 := below_cell hB5 e0 (World.block_lt_of_cell? _ _ e0)
      have f1 := below_cell hB5 e1 (World.block_lt_of_cell? _ _ e1)
      have f2 := below_cell hB5 e2 (World.block_lt_of_cell? _ _ e2)
      have hz5 := hL5.below.size
      obtain ⟨wz, hwz⟩ : ∃ wz, wz = w5.alloc (.cells Try.zeroCells66 66) := ⟨_, rfl⟩
      have hBz : Below w5.heap.size w5 wz := hwz ▸ (Below.refl _ _).alloc (Nat.le_refl _) _
      have hbox : BoxAt wz w5.heap.size 0 0 (List.replicate 64 []) := ⟨by simp, by rw [hwz, zeroBox]; exact Blk.new w5 _ _⟩
      have hLz : Live w wz w5.heap.size 0 0 (.pointer (some ⟨w5.heap.size, 0, none⟩)) (.pointer none) .zero := ⟨trivial, ⟨rfl, hbox⟩, rfl, below_trans hL5.below hBz, fun k h => by
        rcases h with h | h
        · have e : k = w5.heap.size := h; omega
        · exact h.elim⟩
      have hb5 : b < w5.heap.size := World.block_lt_of_cell? _ _ f0
      clear e0 e1 e2 hS5 hbox hn
      go_wp2_with fail
      rw [← hwz]
      clear hwz
      refine (ask_live hLz hxs hsl).mono ?_
      rintro e w6 ⟨rfl, hL6, hS6⟩
      have hL6' : Live w w6 0 0 0 (.pointer none) (.pointer none) .nil := ⟨trivial, rfl, rfl, hL6.below, fun k h => by rcases h with h | h <;> exact h.elim⟩
      go_wp2_with fail
      go_roundw
      case rel => exact ⟨t + 1, by omega, by go_num, hL6'⟩
      case measure => simp [intOf]; omega
    · go_wp2_with fail
      go_ret
      exact ⟨rfl, hL.below⟩
theorem nilLaw_walk (W : World) (v0 : Value) (ops : List OpD) (h0 : cOps.rep W [v0] ops) :
    Calls Try.prog 11 #[v0] W fun e w' => e = .returned (.bool true) ∧ Below W.heap.size W w' :=
  nil_in v0 ops W (cOps_rd h0)
end Go.Proofs.Ytgnbnkoanoalhaa
