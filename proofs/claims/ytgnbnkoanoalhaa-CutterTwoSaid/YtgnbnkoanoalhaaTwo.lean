/- CutterTwo returns true. -/
import Derived.Test.YtgnbnkoanoalhaaLive
namespace Go.Proofs.Ytgnbnkoanoalhaa
set_option linter.unusedVariables false
set_option linter.unusedSimpArgs false
open Go.RowKit
set_option maxHeartbeats 4000000 in
set_option maxRecDepth 100000 in
theorem two_in (x y : Value) (n m : Int) (ops oqs : List OpD) (w : World) (hx : OpsRd w x ops) (hy : OpsRd w y oqs) :
    Calls Try.prog 9 #[.agg #[.int .i64 n, x], .agg #[.int .i64 m, y]] w fun e w' => e = .returned (.bool true) ∧ Below w.heap.size w w' := by
  obtain ⟨oap, ocap, rfl, hol, -⟩ := id hx
  obtain ⟨pap, pcap, rfl, hpl, -⟩ := id hy
  obtain ⟨wb, hwb⟩ : ∃ wb, wb = w.alloc (.cells #[.int .i64 n, .slice oap ops.length ocap] 37) := ⟨_, rfl⟩
  have hBb : Below w.heap.size w wb := hwb ▸ (Below.refl _ _).alloc (Nat.le_refl _) _
  have hNb : Blk wb w.heap.size 37 [.int .i64 n, .slice oap ops.length ocap] := hwb ▸ Blk.new w _ _
  have hsb : wb.heap.size = w.heap.size + 1 := by rw [hwb]; simp
  obtain ⟨wa, hwa⟩ : ∃ wa, wa = wb.alloc (.cells #[.int .i64 m, .slice pap oqs.length pcap] 37) := ⟨_, rfl⟩
  have hBa : Below wb.heap.size wb wa := hwa ▸ (Below.refl _ _).alloc (Nat.le_refl _) _
  have hMa : Blk wa wb.heap.size 37 [.int .i64 m, .slice pap oqs.length pcap] := hwa ▸ Blk.new wb _ _
  have hB0 := below_trans hBb hBa
  have hNa := hNb.later hBa
  have hxa := hx.later hB0
  have hya := hy.later hB0
  rw [hsb] at hMa
  have n0 := hNa.cell_some (i := 0) rfl
  have n1 := hNa.cell_some (i := 1) rfl
  have p0 := hMa.cell_some (i := 0) rfl
  have p1 := hMa.cell_some (i := 1) rfl
  have hlt0 := hNa.lt
  have hlt1 := hMa.lt
  have HX := Lib.hid hxa; have HY := Lib.hid hya
  clear hx hxa hy hya hsb hNb hMa hNa hBa
  go_enter Try.func9, Try.ntmps9
  go_wp2_with fail
  rw [← hwb, ← hwa]
  clear hwa hwb
  go_wp2_with fail
  refine (begin_live n wa wa (Below.refl _ _)).mono ?_
  rintro e w1 ⟨g, r, base, pb, pr, s, rfl, hL, hB1, -⟩
  have q0 := below_cell hB1 p0 hlt1
  go_wp2_with fail
  refine (begin_live m wa w1 hB1).mono ?_
  rintro e w2 ⟨g', r', base', pb', pr', s', rfl, hL', hB2, hf2⟩
  have hd : ∀ k, s.foot g r k → ¬ s'.foot g' r' k := fun k h1 h2 => by
    have := hL.lt h1
    have := hf2 k h2
    omega
  have hL := hL.later hB2
  have HD := Lib.hid hd
  clear hf2 hd
  go_wp2_with fail
  go_loopw [11] (fun i wr => ∃ (t : Nat) (s s' : PS), (t ≤ ops.length ∨ t ≤ oqs.length) ∧ i = .int .i64 t ∧ Live wa wr g r base pb pr s ∧ Live wa wr g' r' base' pb' pr' s' ∧ Hid (∀ k, s.foot g r k → ¬ s'.foot g' r' k)) (fun i _ => ops.length + oqs.length - (intOf i).toNat)
  case atStart => exact ⟨0, s, s', .inl (Nat.zero_le _), rfl, hL, hL', HD⟩
  case round =>
    obtain ⟨t, s, s', ht, rfl, hL, hL', HD⟩ := hrel
    have m1 := below_cell hL.below n1 hlt0
    have k1 := below_cell hL.below p1 hlt1
    by_cases hlt : t < ops.length
    · obtain ⟨b, off, cap, xp, xn, xc, hv, hxs, hsl, e0, e1, e2⟩ := HX.out.at rfl hL.below hlt
      injection hv with hv1 hv2 hv3
      subst hv1; subst hv3
      obtain ⟨kd, ix, sg, ho⟩ : ∃ kd ix sg, ops[t] = OpD.mk kd ix sg := ⟨_, _, _, rfl⟩
      rw [ho] at hxs hsl e0 e1
      simp only at hxs hsl e0 e1
      clear ho hv2
      go_wp2_with fail
      refine (ask_live hL hxs hsl).mono ?_
      rintro e w5 ⟨rfl, hL5, hS5⟩
      have hL5' := hL'.other hL (fun k a b => HD.out k b a) hS5
      have HD5 := Lib.hid (fun k (h : (s.ask kd ix sg).foot g r k) => HD.out k (by rw [PS.foot_ask] at h; exact h))
      have m5 := below_cell hL5.below n1 hlt0
      have k5 := below_cell hL5.below p1 hlt1
      clear e0 e1 e2 hS5 hL hL'
      by_cases hlt2 : t < oqs.length
      · obtain ⟨b, off, cap, xp, xn, xc, hv, hxs, hsl, e0, e1, e2⟩ := HY.out.at rfl hL5.below hlt2
        injection hv with hv1 hv2 hv3
        subst hv1; subst hv3
        obtain ⟨kd2, ix2, sg2, ho⟩ : ∃ kd ix sg, oqs[t] = OpD.mk kd ix sg := ⟨_, _, _, rfl⟩
        rw [ho] at hxs hsl e0 e1
        simp only at hxs hsl e0 e1
        clear ho hv2
        go_wp2_with fail
        refine (ask_live hL5' hxs hsl).mono ?_
        rintro e w6 ⟨rfl, hL6, hS6⟩
        have hL6' := hL5.other hL5' HD5.out hS6
        have HD6 : Hid (∀ k, (s.ask kd ix sg).foot g r k → ¬ (s'.ask kd2 ix2 sg2).foot g' r' k) := Lib.hid fun k h h' => HD5.out k h (by rw [PS.foot_ask] at h'; exact h')
        go_wp2_with fail
        go_roundw
        case rel => exact ⟨t + 1, _, _, by omega, by go_num, hL6', hL6, HD6⟩
        case measure => simp [intOf]; omega
      · go_wp2_with fail
        go_roundw
        case rel => exact ⟨t + 1, _, _, by omega, by go_num, hL5, hL5', HD5⟩
        case measure => simp [intOf]; omega
    · by_cases hlt2 : t < oqs.length
      · obtain ⟨b, off, cap, xp, xn, xc, hv, hxs, hsl, e0, e1, e2⟩ := HY.out.at rfl hL.below hlt2
        injection hv with hv1 hv2 hv3
        subst hv1; subst hv3
        obtain ⟨kd2, ix2, sg2, ho⟩ : ∃ kd ix sg, oqs[t] = OpD.mk kd ix sg := ⟨_, _, _, rfl⟩
        rw [ho] at hxs hsl e0 e1
        simp only at hxs hsl e0 e1
        clear ho hv2
        go_wp2_with fail
        refine (ask_live hL' hxs hsl).mono ?_
        rintro e w6 ⟨rfl, hL6, hS6⟩
        have hL6' := hL.other hL' HD.out hS6
        have HD6 : Hid (∀ k, s.foot g r k → ¬ (s'.ask kd2 ix2 sg2).foot g' r' k) := Lib.hid fun k h h' => HD.out k h (by rw [PS.foot_ask] at h'; exact h')
        go_wp2_with fail
        go_roundw
        case rel => exact ⟨t + 1, _, _, by omega, by go_num, hL6', hL6, HD6⟩
        case measure => simp [intOf]; omega
      · go_wp2_with fail
        go_ret
        exact ⟨rfl, hB0.trans (hL.below.mono hB0.size)⟩
theorem twoLaw_walk (W : World) (cs0 : Array Value) (s : ScriptD) (h0 : cScript.rep W cs0.toList s) (cs1 : Array Value) (t : ScriptD) (h1 : cScript.rep W cs1.toList t) :
    Calls Try.prog 9 #[.agg cs0, .agg cs1] W fun e w' => e = .returned (.bool true) ∧ Below W.heap.size W w' := by
  obtain ⟨x, hcs, hx⟩ := cScript_rd h0
  obtain ⟨y, hcs', hy⟩ := cScript_rd h1
  obtain rfl : cs0 = #[.int .i64 s.count, x] := by
    apply Array.ext'
    rw [hcs]
  obtain rfl : cs1 = #[.int .i64 t.count, y] := by
    apply Array.ext'
    rw [hcs']
  exact two_in x y s.count t.count s.ops t.ops W hx hy
end Go.Proofs.Ytgnbnkoanoalhaa
