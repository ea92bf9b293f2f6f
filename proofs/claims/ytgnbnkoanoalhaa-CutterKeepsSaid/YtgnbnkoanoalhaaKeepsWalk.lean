/- CutterKeeps returns true. -/
import Derived.Test.YtgnbnkoanoalhaaSmall
import Derived.Test.YtgnbnkoanoalhaaGood
import Derived.Test.YtgnbnkoanoalhaaScript
import Derived.Test.YtgnbnkoanoalhaaAllNe
import Derived.Test.YtgnbnkoanoalhaaGot
import Derived.Test.YtgnbnkoanoalhaaNil
import Derived.Deep.RegionLaw
namespace Go.Proofs.Ytgnbnkoanoalhaa
set_option linter.unusedVariables false
set_option linter.unusedSimpArgs false
open Go.RowKit
/-- what was taken is there already. -/
theorem put_twice (b : BoxS) (ix : Int) (sg : List UInt8) (h : putErr b.cnt b.len b.ps ix sg = 0) (hn : b.ps.length = 64) (hc : b.cnt ≤ 64) :
    putErr (b.put ix sg).cnt (b.put ix sg).len (b.put ix sg).ps ix sg = 3 := by
  by_cases hc2 : ix < 0 ∨ (b.cnt : Int) ≤ ix ∨ sg.length = 0 ∨ 1024 < sg.length
  · rw [putErr_arg hc2] at h; omega
  · rw [BoxS.put, if_pos h]
    rw [putErr_in hc2]
    unfold putIn
    rw [getD_set _ _ _ _ _ (by omega), if_pos rfl, if_pos rfl]
def at2 (g1 g2 : Nat) : Nat → Prop := fun k => k = g1 ∨ k = g2

set_option maxHeartbeats 4000000 in
set_option maxRecDepth 100000 in
theorem keeps_in (x : Value) (n : Nat) (ops : List OpD) (w : World) (hx : OpsRd w x ops) (h1 : 1 ≤ n) (h2 : n ≤ 64) :
    Calls Try.prog 10 #[.agg #[.int .i64 n, x]] w fun e w' => e = .returned (.bool true) ∧ Below w.heap.size w w' := by
  obtain ⟨oap, ocap, rfl, hol, ho⟩ := id hx
  obtain ⟨wa, hwa⟩ : ∃ wa, wa = w.alloc (.cells #[.int .i64 n, .slice oap ops.length ocap] 37) := ⟨_, rfl⟩
  have hB0 : Below w.heap.size w wa := hwa ▸ (Below.refl _ _).alloc (Nat.le_refl _) _
  have hN0 : Blk wa w.heap.size 37 [.int .i64 n, .slice oap ops.length ocap] := hwa ▸ Blk.new w _ _
  go_enter Try.func10, Try.ntmps10
  go_wp2_with fail
  rw [← hwa]
  clear hwa
  refine (new_yes n _ h1 h2).mono ?_
  rintro e w1 ⟨rfl, hb1, hB1⟩
  have hN1 := hN0.later hB1
  obtain ⟨g1, hg1⟩ : ∃ g, g = wa.heap.size := ⟨_, rfl⟩
  rw [← hg1] at hb1 ⊢
  have hg1l : wa.heap.size ≤ g1 := Nat.le_of_eq hg1.symm
  clear hg1
  have n0 := hN1.cell_some (i := 0) rfl
  go_wp2_with fail
  refine (new_yes n _ h1 h2).mono ?_
  rintro e w2 ⟨rfl, hb2, hB2⟩
  have hN2 := hN1.later hB2
  obtain ⟨g2, hg2⟩ : ∃ g, g = w1.heap.size := ⟨_, rfl⟩
  rw [← hg2] at hb2 ⊢
  have hg2l : w1.heap.size ≤ g2 := Nat.le_of_eq hg2.symm
  clear hg2
  have hg12 : g1 < g2 := Nat.lt_of_lt_of_le (at_lt (b := ⟨n, 0, List.replicate 64 []⟩) hb1) hg2l
  go_wp2_with fail
  refine (num_any _ _).mono ?_
  rintro e _ ⟨rfl, rfl⟩
  go_wp2_with fail
  refine (num_any _ _).mono ?_
  rintro e _ ⟨rfl, rfl⟩
  go_wp2_with fail
  refine (small_any _).mono ?_
  rintro e w3 ⟨rfl, hB3⟩
  have hN3 := hN2.later hB3
  have m1 := hN3.cell_some (i := 1) rfl
  go_wp2_with fail
  go_loopw [7] (fun i wr => ∃ (t : Nat) (b : BoxS), t ≤ ops.length ∧ i = .int .i64 t ∧ Good b ∧ b.at wr g1 ∧ b.at wr g2 ∧ Same (at2 g1 g2) w3 wr) (fun i _ => ops.length - (intOf i).toNat)
  case atStart =>
    exact ⟨0, ⟨n, 0, List.replicate 64 []⟩, Nat.zero_le _, rfl, good_new n h1 h2, at_later (at_later hb1 hB2) hB3, at_later hb2 hB3, Same.refl _ _⟩
  case round =>
    obtain ⟨t, b, ht, rfl, hgood, hb, hb', hS⟩ := hrel
    have hlow0 := hB0.size
    have hNl : w.heap.size < wa.heap.size := hN0.lt
    have hB12 : Below w.heap.size w w2 := (hB0.trans (hB1.mono hlow0)).trans (hB2.mono (Nat.le_trans hlow0 hB1.size))
    have hBw3 : Below w.heap.size w w3 := hB12.trans (hB3.mono hB12.size)
    have hBw : Below w.heap.size w wr := hBw3.trans (hS.belowB fun i hi => ⟨by have := hBw3.size; omega, fun h => by simp only [at2] at h; omega⟩)
    have hNr := hN3.same hS (fun h => by simp only [at2] at h; omega)
    have r1 := hNr.cell_some (i := 1) rfl
    by_cases hlt : t < ops.length
    · obtain ⟨ob, oo, rfl, hoc⟩ := ho (by omega)
      obtain ⟨xs, hxs, hsl, e0, e1, e2⟩ := hoc t ops[t] (List.getElem?_eq_getElem hlt)
      have hxr := hxs.later hBw
      have e0 := below_cell hBw e0 (World.block_lt_of_cell? _ _ e0)
      have e1 := below_cell hBw e1 (World.block_lt_of_cell? _ _ e1)
      have e2 := below_cell hBw e2 (World.block_lt_of_cell? _ _ e2)
      obtain ⟨xp, xn, xc, rfl⟩ : ∃ xp xn xc, xs = .slice xp xn xc := by obtain ⟨a, c, h, _⟩ := hxs; exact ⟨_, _, _, h⟩
      obtain ⟨kd, ix, sg, ho'⟩ : ∃ kd ix sg, ops[t] = OpD.mk kd ix sg := ⟨_, _, _, rfl⟩
      rw [ho'] at hxr hsl e0 e1
      simp only at hxr hsl e0 e1
      clear ho' hoc hxs
      have HGd := Lib.hid hgood; clear hgood
      obtain ⟨wo, hwo⟩ : ∃ wo, wo = wr.alloc (.cells #[.int .i64 kd, .int .i64 ix, .slice xp xn xc] 42) := ⟨_, rfl⟩
      have hBo : Below wr.heap.size wr wo := hwo ▸ (Below.refl _ _).alloc (Nat.le_refl _) _
      have hOo : Blk wo wr.heap.size 42 [.int .i64 kd, .int .i64 ix, .slice xp xn xc] := hwo ▸ Blk.new wr _ _
      go_wp2_with fail
      rw [← hwo]
      clear hwo
      refine (put_any g1 b ix _ sg _ (at_later hb hBo) (hxr.later hBo) HGd.out.fine).mono ?_
      rintro e w5 ⟨rfl, hb5, hS5⟩
      obtain ⟨pe, hpe⟩ : ∃ pe, pe = putErr b.cnt b.len b.ps ix sg := ⟨_, rfl⟩
      rw [← hpe]
      have HPE := Lib.hid hpe; clear hpe
      have hgr := at_lt hb
      have hgr' := at_lt hb'
      have hb5' := at_same (at_later hb' hBo) hS5 (fun h => by simp only [at1] at h; omega)
      have hO5 := hOo.same hS5 (fun h => by simp only [at1] at h; omega)
      have o1 := hO5.cell_some (i := 1) rfl
      have o2 := hO5.cell_some (i := 2) rfl
      have hS5r : Same (at2 g1 g2) wr w5 := (Same.of_below hBo _).trans hS5 (fun _ _ h => by simp only [at1] at h; exact .inl h)
      have hS6 := hS.trans hS5r (fun _ _ h => h)
      go_wp2_with fail
      refine (num_any _ _).mono ?_
      rintro e _ ⟨rfl, rfl⟩
      by_cases hp : pe = 0
      · have hpb : (pe == 0) = true := by simpa using hp
        have hp0 : putErr b.cnt b.len b.ps ix sg = 0 := by rw [← HPE.out]; exact hp
        have htw := put_twice b ix sg hp0 HGd.out.n HGd.out.fine.hi
        have hgp := good_put b HGd.out ix sg
        have hs1 : 1 ≤ sg.length := by
          by_cases hc : ix < 0 ∨ (b.cnt : Int) ≤ ix ∨ sg.length = 0 ∨ 1024 < sg.length
          · rw [putErr_arg hc] at hp0; omega
          · omega
        have hx5 : Bs w5 (.slice xp xn xc) sg := (hxr.later hBo).same hS5 (fun b' e he => bs_ne_box (at_later hb hBo) (hxr.later hBo) hs1 (by rw [e, he]))
        have HTW := Lib.hid htw; have HP0 := Lib.hid hp0; clear htw hp0
        have HGP := Lib.hid hgp; clear hgp
        clear hb hb' e0 e1 e2
        go_wp2_with fail
        refine (put_any g2 b ix _ sg _ hb5' hx5 HGd.out.fine).mono ?_
        rintro e w6 ⟨rfl, hb6, hS6'⟩
        rw [HP0.out]
        have hb56 := at_same hb5 hS6' (fun h => by simp only [at1] at h; omega)
        have hO6 := hO5.same hS6' (fun h => by simp only [at1] at h; omega)
        have p1 := hO6.cell_some (i := 1) rfl
        have p2 := hO6.cell_some (i := 2) rfl
        have hx6 : Bs w6 (.slice xp xn xc) sg := hx5.same hS6' (fun b' e he => bs_ne_box hb5' hx5 hs1 (by rw [e, he]))
        go_wp2_with fail
        refine (num_any _ _).mono ?_
        rintro e _ ⟨rfl, rfl⟩
        go_wp2_with fail
        refine (put_any g2 (b.put ix sg) ix _ sg _ hb6 hx6 HGP.out.fine).mono ?_
        rintro e w7 ⟨rfl, hb7, hS7⟩
        rw [HTW.out]
        have hb57 := at_same hb56 hS7 (fun h => by simp only [at1] at h; omega)
        have hsame : (b.put ix sg).put ix sg = b.put ix sg := by rw [BoxS.put, if_neg (by rw [HTW.out]; decide)]
        rw [hsame] at hb7
        have hSz : Same (at2 g1 g2) w3 w7 := (hS6.trans hS6' (fun _ _ h => by simp only [at1] at h; exact .inr h)).trans hS7 (fun _ _ h => by simp only [at1] at h; exact .inr h)
        go_wp2_with fail
        refine (num_any _ _).mono ?_
        rintro e _ ⟨rfl, rfl⟩
        go_wp2_with fail
        go_roundw
        case rel => exact ⟨t + 1, b.put ix sg, by omega, by go_num, HGP.out, hb57, hb7, hSz⟩
        case measure => simp [intOf]; omega
      · have hpb : (pe == 0) = false := by simpa using hp
        have hsame : b.put ix sg = b := by rw [BoxS.put, if_neg (by rw [← HPE.out]; exact hp)]
        rw [hsame] at hb5
        clear hp hb hb' hxr e0 e1 e2
        go_wp2_with fail
        go_roundw
        case rel => exact ⟨t + 1, b, by omega, by go_num, HGd.out, hb5, hb5', hS6⟩
        case measure => simp [intOf]; omega
    · obtain rfl : t = ops.length := by omega
      obtain ⟨wl, hwl⟩ : ∃ wl, wl = wr := ⟨_, rfl⟩
      subst hwl
      have hlowl := hBw.size
      have hcl : (gotL b.ps b.cnt).length ≤ 64 := Nat.le_trans (gotL_len _ _) hgood.fine.hi
      have hll := leastR_len (gotL b.ps b.cnt)
      have HF := Lib.hid hgood.fine; have HN := Lib.hid hgood.n; have HCL := Lib.hid hcl; have HLL := Lib.hid hll
      have HB1 := Lib.hid hb; have HB2 := Lib.hid hb'
      clear hgood hb hb' hcl hll hx ho hN0 hN1 hN2 hN3 hb1 hb2 hNr n0 m1
      go_wp2_with fail
      refine (whole_any g1 b _ HB1.out HF.out HN.out).mono ?_
      rintro e w5 ⟨v5, rfl, own5, hB5⟩
      go_wp2_with fail
      refine (whole_any g2 b _ (at_later HB2.out hB5) HF.out HN.out).mono ?_
      rintro e w6 ⟨v6, rfl, own6, hB6⟩
      have own56 := own_later own5 hB6
      have hB56 : Below wl.heap.size wl w6 := hB5.trans (hB6.mono hB5.size)
      have q1 := at_later HB1.out hB56
      have q2 := at_later HB2.out hB56
      obtain ⟨fl, hfl⟩ : ∃ fl, fl = allNe b.ps b.cnt := ⟨_, rfl⟩
      rw [← hfl]
      obtain ⟨L, hL⟩ : ∃ L, L = blockOf b := ⟨_, rfl⟩
      rw [← hL] at own56 own6
      clear hfl hL own5
      have s5 : Bs w6 v5 L := Bs.of_own own56
      have s6 : Bs w6 v6 L := Bs.of_own own6
      obtain ⟨a5, c5, rfl, -⟩ := id s5
      obtain ⟨a6, c6, rfl, -⟩ := id s6
      have Q1 := Lib.hid q1; have Q2 := Lib.hid q2; have S5 := Lib.hid s5; have S6 := Lib.hid s6
      have hq := str_beq_yes (a := L) (b := L) rfl
      clear q1 q2 s5 s6 own56 own6
      go_wp2_with fail
      refine (length_any g1 b.cnt b.len b.ps _ Q1.out).mono ?_
      rintro e _ ⟨rfl, n7, rfl⟩
      go_wp2_with fail
      refine (length_any g2 b.cnt b.len b.ps _ (at_later Q2.out (below_drewN (Below.refl _ _) _))).mono ?_
      rintro e _ ⟨rfl, n8, rfl⟩
      obtain ⟨w8, hw8⟩ : ∃ w8, w8 = (w6.drewN n7).drewN n8 := ⟨_, rfl⟩
      have hB8 : Below w6.heap.size w6 w8 := hw8 ▸ below_drewN (below_drewN (Below.refl _ _) _) _
      rw [← hw8]
      clear hw8
      have k5 := run_str8 (S5.out.later hB8) (W := w8) rfl
      have k6 := run_str8 (S6.out.later hB8) (W := w8) rfl
      obtain ⟨dl, hdl⟩ : ∃ dl, dl = decide (0 < b.len) := ⟨_, rfl⟩
      rw [← hdl]
      clear hdl
      cases fl <;> cases dl
      all_goals
        go_wp2_with fail
        refine (got_any g1 b.cnt b.len b.ps _ (at_later Q1.out hB8) HF.out.hi).mono ?_
        rintro e w9 ⟨v9, rfl, own9, hB9⟩
        go_wp2_with fail
        refine (got_any g2 b.cnt b.len b.ps _ (at_later (at_later Q2.out hB8) hB9) HF.out.hi).mono ?_
        rintro e w10 ⟨v10, rfl, own10, hB10⟩
        go_wp2_with fail
        refine (sameRanges_yes _ _ _ _ (Rgs.of_own (own_later own9 hB10)) (Rgs.of_own own10) (by have := HCL.out; have := HLL.out; omega)).mono ?_
        rintro e _ ⟨rfl, n11, rfl⟩
        go_wp2_with fail
        go_ret
        refine ⟨rfl, below_drewN ((((hBw.trans (hB56.mono hlowl)).trans (hB8.mono ?_)).trans (hB9.mono ?_)).trans (hB10.mono ?_)) _⟩
        all_goals
          have := hB56.size
          have := hB8.size
          have := hB9.size
          omega
end Go.Proofs.Ytgnbnkoanoalhaa
