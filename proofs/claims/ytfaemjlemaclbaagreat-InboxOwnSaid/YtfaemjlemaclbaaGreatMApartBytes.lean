/- ApartBytes, ApartRanges: joined. -/
import Derived.Test.YtfaemjlemaclbaaGreatMAppAt
import Derived.Test.YtfaemjlemaclbaaGreatMBase
import Derived.BigQuiet
import Derived.Deep.QuietTactic
import Derived.Deep.RegionLaw
import Derived.Deep.RegionHeld3
section
/- ApartBytes: slices of bytes, each owned and in a block of its own, are apart. -/
namespace Go.Proofs.YtfaemjlemaclbaaGreat
set_option linter.unusedVariables false
set_option linter.unusedSimpArgs false
open Go.RowKit
def bmark (i : Nat) : Value := .int .u8 ((i : Int) % 251 + 1)
set_option maxHeartbeats 1000000 in
set_option maxRecDepth 100000 in
theorem byteMark_any (i : Nat) (w : World) (hi : i ≤ 4398046511104) : Calls Tryz.prog 49 #[.int .i64 i] w fun e w' => e = .returned (.int .u8 ((i : Int) % 251 + 1)) ∧ w = w' := by
  go_enter Tryz.func49, Tryz.ntmps49
  go_wp2
  go_ret
  refine ⟨ret_congr ?_, rfl⟩
  rfl

theorem byteMark_q (i : Nat) (w : World) (d n : Nat) (hi : i ≤ 4398046511104) : Calls Tryz.prog 49 #[.int .i64 i] (w.drewN (d + n)) fun e w'' => e = .returned (.int .u8 ((i : Int) % 251 + 1)) ∧ ∃ m, w'' = w.drewN (d + m) :=
  (byteMark_any i _ hi).mono fun _ _ h => ⟨h.1, n, h.2.symm⟩
set_option maxHeartbeats 8000000 in
set_option maxRecDepth 100000 in
theorem apartBytes_any (v0 : Value) (base b0 n : Nat) (vs : List Value) (ns : Nat → Nat) (f : Nat → List Value) (w : World) (hv : w.ownsRow b0 32 1 v0 n vs) (hR : Rows w base 5 1 vs ns f)
    (hbase : base ≤ w.heap.size) (hns : ∀ i, ns i ≤ 140737488351232) (hn : n ≤ 4398046511104) :
    Calls Tryz.prog 19 #[v0] w fun e w' => e = .returned (.bool true) ∧ Same (Foot vs) w w' := by
  obtain ⟨ao, cap, rfl, -⟩ := Rd.of_own hv
  have hvl : vs.length = n := by simpa using hv.1
  have HV := Lib.hid hv; have HVL := Lib.hid hvl
  have hnf : ∀ b, (Value.slice ao n cap).ownBlock = some b → ¬ Foot vs b := fun b hb ⟨x, hx, he⟩ => by
    obtain ⟨i, hi, rfl⟩ := List.mem_iff_getElem.1 hx
    rcases own_ne (hR.own i _ (List.getElem?_eq_getElem hi)) hv (by decide) with h | h
    · rw [h] at he; cases he
    · exact h (he.trans hb.symm)
  have HNF := Lib.hid hnf; have HNS := Lib.hid hns
  clear hv hvl hnf hns
  go_enter Tryz.func19, Tryz.ntmps19
  go_wp2
  go_loopw [4] (fun i wr => ∃ (k : Nat) (f : Nat → List Value), k ≤ n ∧ i = .int .i64 k ∧ Hid (Rows wr base 5 1 vs ns f) ∧ Hid (∀ i, i < k → f i = fill [bmark i] (ns i)) ∧ Hid (Same (Foot vs) w wr)) (fun i _ => n - (intOf i).toNat)
  case atStart => exact ⟨0, f, Nat.zero_le _, rfl, Lib.hid hR, Lib.hid fun i hi => absurd hi (Nat.not_lt_zero _), Lib.hid (Same.refl _ _)⟩
  case round =>
    obtain ⟨k, f, hk, rfl, HR, HF, HS⟩ := hrel
    by_cases hlt : k < n
    · obtain ⟨b, off, cap', hve, hnc, hcm, hbs, hcells⟩ := (Rd.of_own HV.out).form (by intro h; have := HVL.out; rw [h] at this; simp at this; omega)
      injection hve with q1 q2 q3
      subst q1; subst q3
      obtain ⟨x, hx⟩ : ∃ x, vs[k]? = some x := ⟨vs[k]'(by rw [HVL.out]; exact hlt), List.getElem?_eq_getElem _⟩
      have hc0 := hcells k x hx
      have hc := HS.out.cell_some hc0 (HNF.out b rfl)
      have hxo := HR.out.own k x hx
      obtain ⟨xp, xc, rfl, -⟩ := Rd.of_own hxo
      have ix : (k : Int) < n := by omega
      have hnk := HNS.out k
      obtain ⟨N, hN⟩ : ∃ N, N = ns k := ⟨_, rfl⟩
      rw [← hN] at hc hnk
      have HN := Lib.hid hN
      have HC0 := Lib.hid hc0; have HX := Lib.hid hx
      obtain ⟨wo, hwo⟩ : ∃ wo, wo = wr := ⟨_, rfl⟩
      subst hwo
      clear hN hc0 hx hxo hcells q2
      go_wp2
      go_loopw [5] (fun i wr => ∃ (j : Nat) (f : Nat → List Value), j ≤ N ∧ i = .int .i64 j ∧ Hid (Rows wr base 5 1 vs ns f) ∧ Hid (∀ i, i < k → f i = fill [bmark i] (ns i)) ∧ Hid ((f k).take j = fill [bmark k] j) ∧ Hid (Same (Foot vs) w wr)) (fun i _ => N - (intOf i).toNat)
      case atStart => exact ⟨0, f, Nat.zero_le _, rfl, HR, HF, Lib.hid (by simp [fill]), HS⟩
      case round =>
        obtain ⟨j, f', hj, rfl, HR', HF', HK', HS'⟩ := hrel
        have hc := HS'.out.cell_some HC0.out (HNF.out b rfl)
        rw [← HN.out] at hc
        by_cases hjl : j < N
        · have hxo := HR'.out.own k _ HX.out
          obtain ⟨g, xc', hxe, _, hgl⟩ := hxo.form (by rw [← HN.out]; omega)
          injection hxe with q1 q2 q3
          subst q1; subst q3
          have hfl : (f' k).length = N := by have := hxo.1; rw [HN.out]; simpa using this
          obtain ⟨y, hd1⟩ : ∃ y, wr.cell? ⟨g, j, none⟩ = some y := ⟨_, (hxo.cellAt j (by rw [← HN.out]; omega)).trans (List.getElem?_eq_getElem (by rw [hfl]; exact hjl))⟩
          have hd2 := hxo.frozenAt j
          have ix2 : (j : Int) < N := by omega
          have HXO := Lib.hid hxo
          clear hfl hxo q2
          go_wp2_with fail
          go_region_law ((go_simp; go_at_call 49; refine (byteMark_any k _ (by omega)).mono ?_; rintro e w' ⟨rfl, rfl⟩))
          all_goals
            go_wp2_with fail
            go_roundw
            case rel =>
              obtain ⟨hR2, hS2⟩ := HR'.out.cell HX.out rfl j (bmark k)
              have hfl : (f' k).length = N := by have := (HR'.out.own k _ HX.out).1; rw [HN.out]; simpa using this
              refine ⟨j + 1, fun i => if i = k then (f' k).set j (bmark k) else f' i, by omega, by go_num, Lib.hid (hR2.later (below_drewN (Below.refl _ _) 1)), Lib.hid fun i hi => ?_, Lib.hid ?_, Lib.hid (((HS'.out.trans hS2 (fun _ _ h => h))).drewN 1)⟩
              · exact (if_neg (by omega)).trans (HF'.out i hi)
              · show List.take (j + 1) (if k = k then (f' k).set j (bmark k) else f' k) = _
                rw [if_pos rfl, fill_succ, ← HK'.out]
                exact take_store (m := [bmark k]) (fun p hp => by
                  rw [List.getElem?_set]
                  simp only [List.length_singleton] at hp
                  by_cases e : j = p
                  · subst e; rw [if_pos rfl, if_pos (by omega), if_neg (by omega), Nat.sub_self]; rfl
                  · rw [if_neg e, if_pos (by omega)]) (by omega)
            case measure => simp [intOf]; omega
        · obtain rfl : j = N := by omega
          have hfl : (f' k).length = j := by have := (HR'.out.own k _ HX.out).1; rw [HN.out]; simpa using this
          go_wp2_with fail
          go_roundw
          case rel => exact ⟨k + 1, f', by omega, by go_num, HR', Lib.hid fun i hi => by
            by_cases e : i = k
            · subst e; rw [← HN.out, ← HK'.out, List.take_of_length_le (by omega)]
            · exact HF'.out i (by omega), HS'⟩
          case measure => simp [intOf]; omega
    · obtain rfl : k = n := by omega
      obtain ⟨w1, hw1⟩ : ∃ w1, w1 = wr := ⟨_, rfl⟩
      subst hw1
      have hR1 : Rows w1 base 5 1 vs ns (fun i => fill [bmark i] (ns i)) := ⟨fun i x hx => by
        have hi := (List.getElem?_eq_some_iff.1 hx).1
        rw [HVL.out] at hi
        have := HR.out.own i x hx
        rwa [HF.out i hi] at this, HR.out.ne⟩
      have HR1 := Lib.hid hR1
      have hvH : ∀ b, Foot vs b → b < w1.heap.size := fun b ⟨x, hx, he⟩ => by
        obtain ⟨i, hi, rfl⟩ := List.mem_iff_getElem.1 hx
        exact ((hR1.own i _ (List.getElem?_eq_getElem hi)).lt b he).2
      have HVH := Lib.hid hvH
      have hb1 : base ≤ w1.heap.size := Nat.le_trans hbase HS.out.size
      clear hR1 hvH HR HF
      go_wp2
      go_loopw [3, 6] (fun G i wr => ∃ (q : Nat) (ys : List Value), q ≤ k ∧ i = .int .i64 q ∧ Hid (ys.length = q) ∧ wr.ownsRow w1.heap.size 32 1 G q ys ∧ Hid (Rows wr base 5 1 vs ns (fun i => fill [bmark i] (ns i))) ∧
        Hid (Grown wr base w1.heap.size 5 1 vs ys ns (fun i => [bmark i])) ∧ Hid (Same (Foot vs) w1 wr)) (fun _ i _ => k - (intOf i).toNat)
      case atStart => exact ⟨0, [], Nat.zero_le _, rfl, Lib.hid rfl, World.ownsRow_nil _ _ _ _, HR1, Lib.hid fun i y h => by simp at h, Lib.hid (Same.refl _ _)⟩
      case round =>
        obtain ⟨q, ys, hq, rfl, HYL, hG, HRr, HGr, HSr⟩ := hrel
        have hzr := HSr.out.size
        by_cases hlt2 : q < k
        · obtain ⟨b, off, cap', hve, hnc, hcm, hbs, hcells⟩ := (Rd.of_own HV.out).form (by intro h; have := HVL.out; rw [h] at this; simp at this; omega)
          injection hve with q1 q2 q3
          subst q1; subst q3
          obtain ⟨x, hx⟩ : ∃ x, vs[q]? = some x := ⟨vs[q]'(by rw [HVL.out]; exact hlt2), List.getElem?_eq_getElem _⟩
          have hc := HSr.out.cell_some (HS.out.cell_some (hcells q x hx) (HNF.out b rfl)) (HNF.out b rfl)
          have hxo := HRr.out.own q x hx
          obtain ⟨xp, xc, rfl, -⟩ := Rd.of_own hxo
          have ix : (q : Int) < k := by omega
          have hnk := HNS.out q
          obtain ⟨N, hN⟩ : ∃ N, N = ns q := ⟨_, rfl⟩
          rw [← hN] at hc hnk
          have HN := Lib.hid hN
          have HX := Lib.hid hx; have HXO := Lib.hid hxo
          obtain ⟨wi, hwi⟩ : ∃ wi, wi = wr := ⟨_, rfl⟩
          subst hwi
          clear hN hx hxo hcells q2
          go_wp2
          go_loopw [7, 8] (fun G c wx => ∃ j : Nat, j ≤ 64 ∧ c = .int .i64 j ∧ Grow wi wx base 5 1 (.slice xp (ns q) xc) G (ns q) (ns q + j) [bmark q]) (fun _ c _ => 64 - (intOf c).toNat)
          case atStart => exact ⟨0, by omega, rfl, by rw [← HN.out]; exact HN.out ▸ Grow.start HXO.out⟩
          case round =>
            obtain ⟨j, hj, rfl, HGW⟩ := hrel
            have hzx := HGW.same.size
            by_cases hj64 : j < 64
            · have hix : (j : Int) < 64 := by omega
              have hnq := HNS.out q
              go_wp2_with fail
              refine (byteMark_any q _ (by omega)).mono ?_
              rintro e _ ⟨rfl, rfl⟩
              go_wp2_with (at_builtin; go_loud (refine wpList_app1_at El.u8 rfl (.tmp 48) (.tmp 51) rfl HGW.own rfl (cs := #[.int .u8 ((q : Int) % 251 + 1)]) rfl rfl (by intro x hx; simp at hx; subst hx; rfl) (by omega) (by omega) ?_); intro v2 w2 hown2 hgr2 hL2)
              go_roundw
              case rel => exact ⟨j + 1, by omega, by go_num, HGW.step (by omega) rfl hown2 hgr2 hL2⟩
              case measure => simp [intOf]; omega
            · obtain rfl : j = 64 := by omega
              have hGx := own_same hG HGW.same fun b hb e => by
                rcases own_ne HXO.out hG (by decide) with h | h
                · exact absurd (h.symm.trans e) (by simp)
                · exact h (e.trans hb.symm)
              have hRx := Rows.of_grow HRr.out HX.out rfl HGW
              have hGrx := Grown.snoc HGr.out HYL.out HRr.out HX.out hzr HVH.out HGW
              have hSx : Same (Foot vs) w1 wr := HSr.out.trans HGW.same fun i _ e => ⟨_, List.mem_of_getElem? HX.out, e⟩
              have hzx1 := hSx.size
              obtain ⟨gb, gc, rfl, _, _⟩ := HGW.own.form (by omega)
              have HRx := Lib.hid hRx; have HGrx := Lib.hid hGrx; have HSx := Lib.hid hSx
              clear hRx hGrx hSx HGW hG
              go_wp2_with (at_builtin; go_loud (refine wpList_app1_at El.bytes rfl (.tmp 53) (.tmp 55) rfl hGx rfl (cs := #[.slice (some ⟨gb, 0, none⟩) (ns q + 64) gc]) rfl rfl (by intro x hx; simp at hx; subst hx; rfl) (by omega) (by omega) ?_); intro v2 w2 hown2 hgr2 hL2)
              go_roundw
              case rel => exact ⟨q + 1, ys ++ [.slice (some ⟨gb, 0, none⟩) (ns q + 64) gc], by omega, by go_num, Lib.hid (by rw [List.length_append, HYL.out]; rfl), hown2, Lib.hid (HRx.out.kept hGx (by decide) hgr2), Lib.hid (HGrx.out.kept hGx (by decide) hgr2),
                Lib.hid (HSx.out.grown hgr2 fun b hb hlt => by have := (hGx.lt b hb).1; omega)⟩
              case measure => simp [intOf]; omega
        · obtain rfl : q = k := by omega
          obtain ⟨w2, hw2⟩ : ∃ w2, w2 = wr := ⟨_, rfl⟩
          subst hw2
          obtain ⟨Go', hGo'⟩ : ∃ G', G' = u3 := ⟨_, rfl⟩
          obtain ⟨ga, gcap, rfl, -⟩ := Rd.of_own hG
          clear hGo'
          go_wp2
          go_loopw [9] (fun i wr => ∃ (t d : Nat), t ≤ q ∧ i = .int .i64 t ∧ wr = w2.drewN d) (fun i _ => q - (intOf i).toNat)
          case atStart => exact ⟨0, 0, Nat.zero_le _, rfl, rfl⟩
          case round =>
            obtain ⟨t, d, ht, rfl, rfl⟩ := hrel
            by_cases hlt3 : t < q
            · obtain ⟨b, off, cap', hve, hnc, hcm, hbs, hcells⟩ := (Rd.of_own HV.out).form (by intro h; have := HVL.out; rw [h] at this; simp at this; omega)
              injection hve with q1 q2 q3
              subst q1; subst q3
              obtain ⟨x, hx⟩ : ∃ x, vs[t]? = some x := ⟨vs[t]'(by rw [HVL.out]; exact hlt3), List.getElem?_eq_getElem _⟩
              have hc := HSr.out.cell_some (HS.out.cell_some (hcells t x hx) (HNF.out b rfl)) (HNF.out b rfl)
              obtain ⟨gb, gc, hge, _, hgs⟩ := hG.form (by omega)
              injection hge with r1 r2 r3
              subst r1; subst r3
              obtain ⟨y, hy⟩ : ∃ y, ys[t]? = some y := ⟨ys[t]'(by rw [HYL.out]; exact hlt3), List.getElem?_eq_getElem _⟩
              have hd := (hG.cellAt t (by omega)).trans hy
              have hyo := (HGr.out t y hy).1
              obtain ⟨yb, yc, rfl, _, hys⟩ := hyo.form (by omega)
              have hxo := HRr.out.own t x hx
              obtain ⟨xp, xc, rfl, -⟩ := Rd.of_own hxo
              have ix : (t : Int) < q := by omega
              have hnk := HNS.out t
              obtain ⟨N, hN⟩ : ∃ N, N = ns t := ⟨_, rfl⟩
              have HYC := Lib.hid (fun j (hj : j < N + 64) => (hyo.cellAt j (by omega)).trans (show (fill [bmark t] (ns t + 64))[j]? = some (bmark t) by
                have := fill_at [bmark t] (ns t + 64) j 0 (by omega) (by simp); simpa using this))
              have HXC := Lib.hid (fun (j : Nat) (hj : j < N) => show ∃ g, xp = some ⟨g, 0, none⟩ ∧ w2.cell? ⟨g, j, none⟩ = some (.int .u8 ((t : Int) % 251 + 1)) by
                obtain ⟨g, c, he, _, _⟩ := hxo.form (by omega)
                injection he with e1 e2 e3
                subst e1; subst e3
                refine ⟨g, rfl, (hxo.cellAt j (by omega)).trans ?_⟩
                have := fill_at [bmark t] (ns t) j 0 (by omega) (by simp)
                simpa [bmark] using this)
              rw [← hN] at hc hnk hd
              clear hN hx hxo hcells q2 r2 hy hyo hG
              go_wp2
              go_loopw [10] (fun i wx => ∃ (j d : Nat), j ≤ N + 64 ∧ i = .int .i64 j ∧ wx = w2.drewN d) (fun i _ => N + 64 - (intOf i).toNat)
              case atStart => exact ⟨0, d, by omega, rfl, rfl⟩
              case round =>
                obtain ⟨j, d, hj, rfl, rfl⟩ := hrel
                by_cases hj2 : j < N + 64
                · have c1 : w2.cell? ⟨yb, j, none⟩ = some (.int .u8 ((t : Int) % 251 + 1)) := HYC.out j hj2
                  have ix2 : (j : Int) < (N : Int) + 64 := by omega
                  by_cases hjN : j < N
                  · obtain ⟨g, rfl, c2⟩ := HXC.out j hjN
                    have ix3 : (j : Int) < N := by omega
                    have t1 : decide (j < N) = true := by simpa using hjN
                    go_wp2_with fail
                    go_quiet ((go_at_call 49; exact byteMark_q t _ _ _ (by omega)))
                    go_wp2_with fail
                    go_roundw
                    case rel => exact ⟨j + 1, _, by omega, by go_num, rfl⟩
                    case measure => simp [intOf]; omega
                  · have t1 : decide (j < N) = false := by simpa using hjN
                    go_wp2_with fail
                    go_quiet ((go_at_call 49; exact byteMark_q t _ _ _ (by omega)))
                    go_wp2_with fail
                    go_roundw
                    case rel => exact ⟨j + 1, _, by omega, by go_num, rfl⟩
                    case measure => simp [intOf]; omega
                · go_wp2_with fail
                  go_roundw
                  case rel => exact ⟨t + 1, d, by omega, by go_num, rfl⟩
                  case measure => simp [intOf]; omega
            · go_wp2_with fail
              go_ret
              exact ⟨rfl, (HS.out.trans HSr.out fun _ _ h => h).drewN _⟩
end Go.Proofs.YtfaemjlemaclbaaGreat
end
section
/- ApartRanges: slices of ranges, each owned and in a block of its own, are apart. -/
namespace Go.Proofs.YtfaemjlemaclbaaGreat
set_option linter.unusedVariables false
set_option linter.unusedSimpArgs false
open Go.RowKit
def rmark (i : Nat) : List Value := [.int .i64 (-1 - (i : Int)), .int .i64 (-9)]
set_option maxHeartbeats 1000000 in
set_option maxRecDepth 100000 in
theorem rangeMark_any (i : Nat) (w : World) (hi : i ≤ 4398046511104) : Calls Tryz.prog 50 #[.int .i64 i] w fun e w' => e = .returned (.agg #[.int .i64 (-1 - (i : Int)), .int .i64 (-9)]) ∧ Below w.heap.size w w' := by
  go_enter Tryz.func50, Tryz.ntmps50
  go_wp2
  exact bodyPost_ret (v := .agg #[.int .i64 (-1 - (i : Int)), .int .i64 (-9)]) (by simp [results, Tryz.results50, go_sem]) rfl ⟨rfl, (Below.refl _ _).alloc (Nat.le_refl _) _⟩
set_option maxHeartbeats 8000000 in
set_option maxRecDepth 100000 in
theorem apartRanges_any (v0 : Value) (base b0 n : Nat) (vs : List Value) (ns : Nat → Nat) (f : Nat → List Value) (w : World) (hv : w.ownsRow b0 33 1 v0 n vs) (hR : Rows w base 63 2 vs ns f)
    (hbase : base ≤ w.heap.size) (hns : ∀ i, ns i ≤ 1099511627776) (hn : n ≤ 4398046511104) :
    Calls Tryz.prog 20 #[v0] w fun e w' => e = .returned (.bool true) ∧ Same (Foot vs) w w' := by
  obtain ⟨ao, cap, rfl, -⟩ := Rd.of_own hv
  have hvl : vs.length = n := by simpa using hv.1
  have HV := Lib.hid hv; have HVL := Lib.hid hvl
  have hnf : ∀ b, (Value.slice ao n cap).ownBlock = some b → ¬ Foot vs b := fun b hb ⟨x, hx, he⟩ => by
    obtain ⟨i, hi, rfl⟩ := List.mem_iff_getElem.1 hx
    rcases own_ne (hR.own i _ (List.getElem?_eq_getElem hi)) hv (by decide) with h | h
    · rw [h] at he; cases he
    · exact h (he.trans hb.symm)
  have HNF := Lib.hid hnf; have HNS := Lib.hid hns
  clear hv hvl hnf hns
  go_enter Tryz.func20, Tryz.ntmps20
  go_wp2
  go_loopw [4] (fun i wr => ∃ (k : Nat) (f : Nat → List Value), k ≤ n ∧ i = .int .i64 k ∧ Hid (Rows wr base 63 2 vs ns f) ∧ Hid (∀ i, i < k → f i = fill (rmark i) (ns i)) ∧ Hid (Same (Foot vs) w wr)) (fun i _ => n - (intOf i).toNat)
  case atStart => exact ⟨0, f, Nat.zero_le _, rfl, Lib.hid hR, Lib.hid fun i hi => absurd hi (Nat.not_lt_zero _), Lib.hid (Same.refl _ _)⟩
  case round =>
    obtain ⟨k, f, hk, rfl, HR, HF, HS⟩ := hrel
    by_cases hlt : k < n
    · obtain ⟨b, off, cap', hve, hnc, hcm, hbs, hcells⟩ := (Rd.of_own HV.out).form (by intro h; have := HVL.out; rw [h] at this; simp at this; omega)
      injection hve with q1 q2 q3
      subst q1; subst q3
      obtain ⟨x, hx⟩ : ∃ x, vs[k]? = some x := ⟨vs[k]'(by rw [HVL.out]; exact hlt), List.getElem?_eq_getElem _⟩
      have hc0 := hcells k x hx
      have hc := HS.out.cell_some hc0 (HNF.out b rfl)
      have hxo := HR.out.own k x hx
      obtain ⟨xp, xc, rfl, -⟩ := Rd.of_own hxo
      have ix : (k : Int) < n := by omega
      have hnk := HNS.out k
      obtain ⟨N, hN⟩ : ∃ N, N = ns k := ⟨_, rfl⟩
      rw [← hN] at hc hnk
      have HN := Lib.hid hN
      have HC0 := Lib.hid hc0; have HX := Lib.hid hx
      obtain ⟨wo, hwo⟩ : ∃ wo, wo = wr := ⟨_, rfl⟩
      subst hwo
      clear hN hc0 hx hxo hcells q2
      go_wp2
      go_loopw [5] (fun i wr => ∃ (j : Nat) (f : Nat → List Value), j ≤ N ∧ i = .int .i64 j ∧ Hid (Rows wr base 63 2 vs ns f) ∧ Hid (∀ i, i < k → f i = fill (rmark i) (ns i)) ∧ Hid ((f k).take (j * 2) = fill (rmark k) j) ∧ Hid (Same (Foot vs) w wr)) (fun i _ => N - (intOf i).toNat)
      case atStart => exact ⟨0, f, Nat.zero_le _, rfl, HR, HF, Lib.hid (by simp [fill]), HS⟩
      case round =>
        obtain ⟨j, f', hj, rfl, HR', HF', HK', HS'⟩ := hrel
        have hc := HS'.out.cell_some HC0.out (HNF.out b rfl)
        rw [← HN.out] at hc
        by_cases hjl : j < N
        · have hxo := HR'.out.own k _ HX.out
          obtain ⟨g, xc', hxe, _, hgl⟩ := hxo.form (by rw [← HN.out]; omega)
          injection hxe with q1 q2 q3
          subst q1; subst q3
          have hfl : (f' k).length = N * 2 := by have := hxo.1; rw [HN.out]; exact this
          obtain ⟨y, hd1⟩ : ∃ y, wr.cell? ⟨g, j * 2, none⟩ = some y := ⟨_, (hxo.cellAt (j * 2) (by rw [← HN.out]; omega)).trans (List.getElem?_eq_getElem (by rw [hfl]; omega))⟩
          obtain ⟨z, hd3⟩ : ∃ y, wr.cell? ⟨g, j * 2 + 1, none⟩ = some y := ⟨_, (hxo.cellAt (j * 2 + 1) (by rw [← HN.out]; omega)).trans (List.getElem?_eq_getElem (by rw [hfl]; omega))⟩
          have hd2 := hxo.frozenAt (j * 2)
          have hd4 := hxo.frozenAt (j * 2 + 1)
          have ix2 : (j : Int) < N := by omega
          have hbl := World.block_lt_of_cell? _ _ hc
          have HXO := Lib.hid hxo
          clear hfl hxo q2
          go_wp2_with fail
          go_region_law ((go_simp; go_at_call 50; refine (rangeMark_any k _ (by omega)).mono ?_; rintro e w5 ⟨rfl, hb5⟩; have hc5 := below_cell hb5 hc hbl; have hd15 := below_cell hb5 hd1 hgl; have hd35 := below_cell hb5 hd3 hgl; have hd25 := (hb5.frozen (p := ⟨g, j * 2, none⟩) hgl).trans hd2; have hd45 := (hb5.frozen (p := ⟨g, j * 2 + 1, none⟩) hgl).trans hd4))
          all_goals
            go_wp2_with fail
            go_roundw
            case rel =>
              have hB5 : Below wr.heap.size wr w5 := below_undrew hb5
              have hfl : (f' k).length = N * 2 := by have := (HR'.out.own k _ HX.out).1; rw [HN.out]; exact this
              obtain ⟨hR2, hS2⟩ := (HR'.out.later hB5).cell HX.out rfl (j * 2) (.int .i64 (-1 - (k : Int)))
              obtain ⟨hR3, hS3⟩ := hR2.cell HX.out rfl (j * 2 + 1) (.int .i64 (-9))
              refine ⟨j + 1, _, by omega, by go_num, Lib.hid hR3, Lib.hid fun i hi => ?_, Lib.hid ?_, Lib.hid (((HS'.out.trans (Same.of_below hB5 no) (fun _ _ h => h.elim)).trans hS2 (fun _ _ h => h)).trans hS3 (fun _ _ h => h))⟩
              · exact (if_neg (by omega)).trans ((if_neg (by omega)).trans (HF'.out i hi))
              · show List.take ((j + 1) * 2) (if k = k then (if k = k then (f' k).set (j * 2) (.int .i64 (-1 - (k : Int))) else f' k).set (j * 2 + 1) (.int .i64 (-9)) else _) = _
                rw [if_pos rfl, if_pos rfl, fill_succ, ← HK'.out, show (j + 1) * 2 = j * 2 + (rmark k).length by simp [rmark]; omega]
                exact take_store (fun p hp => by
                  have hp : p < j * 2 + 2 := hp
                  rw [List.getElem?_set, List.getElem?_set, List.length_set]
                  by_cases e : j * 2 + 1 = p
                  · subst e; rw [if_pos rfl, if_pos (by omega), if_neg (by omega), show j * 2 + 1 - j * 2 = 1 by omega]; rfl
                  · rw [if_neg e]
                    by_cases e2 : j * 2 = p
                    · subst e2; rw [if_pos rfl, if_pos (by omega), if_neg (by omega), Nat.sub_self]; rfl
                    · rw [if_neg e2, if_pos (by omega)]) (by omega)
            case measure => simp [intOf]; omega
        · obtain rfl : j = N := by omega
          have hfl : (f' k).length = j * 2 := by have := (HR'.out.own k _ HX.out).1; rw [HN.out]; exact this
          go_wp2_with fail
          go_roundw
          case rel => exact ⟨k + 1, f', by omega, by go_num, HR', Lib.hid fun i hi => by
            by_cases e : i = k
            · subst e; rw [← HN.out, ← HK'.out, List.take_of_length_le (by omega)]
            · exact HF'.out i (by omega), HS'⟩
          case measure => simp [intOf]; omega
    · obtain rfl : k = n := by omega
      obtain ⟨w1, hw1⟩ : ∃ w1, w1 = wr := ⟨_, rfl⟩
      subst hw1
      have hR1 : Rows w1 base 63 2 vs ns (fun i => fill (rmark i) (ns i)) := ⟨fun i x hx => by
        have hi := (List.getElem?_eq_some_iff.1 hx).1
        rw [HVL.out] at hi
        have := HR.out.own i x hx
        rwa [HF.out i hi] at this, HR.out.ne⟩
      have HR1 := Lib.hid hR1
      have hvH : ∀ b, Foot vs b → b < w1.heap.size := fun b ⟨x, hx, he⟩ => by
        obtain ⟨i, hi, rfl⟩ := List.mem_iff_getElem.1 hx
        exact ((hR1.own i _ (List.getElem?_eq_getElem hi)).lt b he).2
      have HVH := Lib.hid hvH
      have hb1 : base ≤ w1.heap.size := Nat.le_trans hbase HS.out.size
      clear hR1 hvH HR HF
      go_wp2
      go_loopw [3, 6] (fun G i wr => ∃ (q : Nat) (ys : List Value), q ≤ k ∧ i = .int .i64 q ∧ Hid (ys.length = q) ∧ wr.ownsRow w1.heap.size 33 1 G q ys ∧ Hid (Rows wr base 63 2 vs ns (fun i => fill (rmark i) (ns i))) ∧
        Hid (Grown wr base w1.heap.size 63 2 vs ys ns (rmark)) ∧ Hid (Same (Foot vs) w1 wr)) (fun _ i _ => k - (intOf i).toNat)
      case atStart => exact ⟨0, [], Nat.zero_le _, rfl, Lib.hid rfl, World.ownsRow_nil _ _ _ _, HR1, Lib.hid fun i y h => by simp at h, Lib.hid (Same.refl _ _)⟩
      case round =>
        obtain ⟨q, ys, hq, rfl, HYL, hG, HRr, HGr, HSr⟩ := hrel
        have hzr := HSr.out.size
        by_cases hlt2 : q < k
        · obtain ⟨b, off, cap', hve, hnc, hcm, hbs, hcells⟩ := (Rd.of_own HV.out).form (by intro h; have := HVL.out; rw [h] at this; simp at this; omega)
          injection hve with q1 q2 q3
          subst q1; subst q3
          obtain ⟨x, hx⟩ : ∃ x, vs[q]? = some x := ⟨vs[q]'(by rw [HVL.out]; exact hlt2), List.getElem?_eq_getElem _⟩
          have hc := HSr.out.cell_some (HS.out.cell_some (hcells q x hx) (HNF.out b rfl)) (HNF.out b rfl)
          have hxo := HRr.out.own q x hx
          obtain ⟨xp, xc, rfl, -⟩ := Rd.of_own hxo
          have ix : (q : Int) < k := by omega
          have hnk := HNS.out q
          obtain ⟨N, hN⟩ : ∃ N, N = ns q := ⟨_, rfl⟩
          rw [← hN] at hc hnk
          have HN := Lib.hid hN
          have HX := Lib.hid hx; have HXO := Lib.hid hxo
          obtain ⟨wi, hwi⟩ : ∃ wi, wi = wr := ⟨_, rfl⟩
          subst hwi
          clear hN hx hxo hcells q2
          go_wp2
          go_loopw [7, 8] (fun G c wx => ∃ j : Nat, j ≤ 64 ∧ c = .int .i64 j ∧ Grow wi wx base 63 2 (.slice xp (ns q) xc) G (ns q) (ns q + j) (rmark q)) (fun _ c _ => 64 - (intOf c).toNat)
          case atStart => exact ⟨0, by omega, rfl, by rw [← HN.out]; exact HN.out ▸ Grow.start HXO.out⟩
          case round =>
            obtain ⟨j, hj, rfl, HGW⟩ := hrel
            have hzx := HGW.same.size
            by_cases hj64 : j < 64
            · have hix : (j : Int) < 64 := by omega
              have hnq := HNS.out q
              go_wp2_with fail
              refine (rangeMark_any q _ (by omega)).mono ?_
              rintro e w5 ⟨rfl, hb5⟩
              have HGW := HGW.later hb5
              have hzx5 := HGW.same.size
              go_wp2_with (at_builtin; go_loud (refine wpList_app1_at El.range rfl (.tmp 48) (.tmp 51) rfl HGW.own rfl (cs := #[.int .i64 (-1 - (q : Int)), .int .i64 (-9)]) rfl rfl (by simp [Value.oneCell']) (by omega) (by omega) ?_); intro v2 w2 hown2 hgr2 hL2)
              go_roundw
              case rel => exact ⟨j + 1, by omega, by go_num, HGW.step (by omega) rfl hown2 hgr2 hL2⟩
              case measure => simp [intOf]; omega
            · obtain rfl : j = 64 := by omega
              have hGx := own_same hG HGW.same fun b hb e => by
                rcases own_ne HXO.out hG (by decide) with h | h
                · exact absurd (h.symm.trans e) (by simp)
                · exact h (e.trans hb.symm)
              have hRx := Rows.of_grow HRr.out HX.out rfl HGW
              have hGrx := Grown.snoc HGr.out HYL.out HRr.out HX.out hzr HVH.out HGW
              have hSx : Same (Foot vs) w1 wr := HSr.out.trans HGW.same fun i _ e => ⟨_, List.mem_of_getElem? HX.out, e⟩
              have hzx1 := hSx.size
              obtain ⟨gb, gc, rfl, _, _⟩ := HGW.own.form (by omega)
              have HRx := Lib.hid hRx; have HGrx := Lib.hid hGrx; have HSx := Lib.hid hSx
              clear hRx hGrx hSx HGW hG
              go_wp2_with (at_builtin; go_loud (refine wpList_app1_at El.ranges rfl (.tmp 53) (.tmp 55) rfl hGx rfl (cs := #[.slice (some ⟨gb, 0, none⟩) (ns q + 64) gc]) rfl rfl (by intro x hx; simp at hx; subst hx; rfl) (by omega) (by omega) ?_); intro v2 w2 hown2 hgr2 hL2)
              go_roundw
              case rel => exact ⟨q + 1, ys ++ [.slice (some ⟨gb, 0, none⟩) (ns q + 64) gc], by omega, by go_num, Lib.hid (by rw [List.length_append, HYL.out]; rfl), hown2, Lib.hid (HRx.out.kept hGx (by decide) hgr2), Lib.hid (HGrx.out.kept hGx (by decide) hgr2),
                Lib.hid (HSx.out.grown hgr2 fun b hb hlt => by have := (hGx.lt b hb).1; omega)⟩
              case measure => simp [intOf]; omega
        · obtain rfl : q = k := by omega
          obtain ⟨w2, hw2⟩ : ∃ w2, w2 = wr := ⟨_, rfl⟩
          subst hw2
          obtain ⟨Go', hGo'⟩ : ∃ G', G' = u3 := ⟨_, rfl⟩
          obtain ⟨ga, gcap, rfl, -⟩ := Rd.of_own hG
          clear hGo'
          go_wp2
          go_loopw [9] (fun i wr => ∃ (t : Nat), t ≤ q ∧ i = .int .i64 t ∧ Below w2.heap.size w2 wr) (fun i _ => q - (intOf i).toNat)
          case atStart => exact ⟨0, Nat.zero_le _, rfl, Below.refl _ _⟩
          case round =>
            obtain ⟨t, ht, rfl, hB⟩ := hrel
            by_cases hlt3 : t < q
            · obtain ⟨b, off, cap', hve, hnc, hcm, hbs, hcells⟩ := (Rd.of_own HV.out).form (by intro h; have := HVL.out; rw [h] at this; simp at this; omega)
              injection hve with q1 q2 q3
              subst q1; subst q3
              obtain ⟨x, hx⟩ : ∃ x, vs[t]? = some x := ⟨vs[t]'(by rw [HVL.out]; exact hlt3), List.getElem?_eq_getElem _⟩
              have hc := HSr.out.cell_some (HS.out.cell_some (hcells t x hx) (HNF.out b rfl)) (HNF.out b rfl)
              obtain ⟨gb, gc, hge, _, hgs⟩ := hG.form (by omega)
              injection hge with r1 r2 r3
              subst r1; subst r3
              obtain ⟨y, hy⟩ : ∃ y, ys[t]? = some y := ⟨ys[t]'(by rw [HYL.out]; exact hlt3), List.getElem?_eq_getElem _⟩
              have hd := (hG.cellAt t (by omega)).trans hy
              have hyo := (HGr.out t y hy).1
              obtain ⟨yb, yc, rfl, _, hys⟩ := hyo.form (by omega)
              have hxo := HRr.out.own t x hx
              obtain ⟨xp, xc, rfl, -⟩ := Rd.of_own hxo
              have ix : (t : Int) < q := by omega
              have hnk := HNS.out t
              obtain ⟨N, hN⟩ : ∃ N, N = ns t := ⟨_, rfl⟩
              have HYC := Lib.hid (fun j (hj : j < N + 64) => show w2.cell? ⟨yb, j * 2, none⟩ = some (.int .i64 (-1 - (t : Int))) ∧ w2.cell? ⟨yb, j * 2 + 1, none⟩ = some (.int .i64 (-9)) from
                ⟨(hyo.cellAt (j * 2) (by omega)).trans (fill_at (rmark t) (ns t + 64) j 0 (by omega) (by simp [rmark])), (hyo.cellAt (j * 2 + 1) (by omega)).trans (fill_at (rmark t) (ns t + 64) j 1 (by omega) (by simp [rmark]))⟩)
              have HXC := Lib.hid (fun (j : Nat) (hj : j < N) => show ∃ g, xp = some ⟨g, 0, none⟩ ∧ g < w2.heap.size ∧ w2.cell? ⟨g, j * 2, none⟩ = some (.int .i64 (-1 - (t : Int))) ∧ w2.cell? ⟨g, j * 2 + 1, none⟩ = some (.int .i64 (-9)) by
                obtain ⟨g, c, he, _, hgl⟩ := hxo.form (by omega)
                injection he with e1 e2 e3
                subst e1; subst e3
                exact ⟨g, rfl, hgl, (hxo.cellAt (j * 2) (by omega)).trans (fill_at (rmark t) (ns t) j 0 (by omega) (by simp [rmark])), (hxo.cellAt (j * 2 + 1) (by omega)).trans (fill_at (rmark t) (ns t) j 1 (by omega) (by simp [rmark]))⟩)
              rw [← hN] at hc hnk hd
              have hbl := World.block_lt_of_cell? _ _ hc
              have hcq := below_cell hB hc hbl
              have hdq := below_cell hB hd hgs
              clear hN hx hxo hcells q2 r2 hy hyo hG
              go_wp2
              go_loopw [10] (fun i wx => ∃ (j : Nat), j ≤ N + 64 ∧ i = .int .i64 j ∧ Below w2.heap.size w2 wx) (fun i _ => N + 64 - (intOf i).toNat)
              case atStart => exact ⟨0, by omega, rfl, hB⟩
              case round =>
                obtain ⟨j, hj, rfl, hB⟩ := hrel
                have hcr := below_cell hB hc hbl
                have hdr := below_cell hB hd hgs
                by_cases hj2 : j < N + 64
                · obtain ⟨c1, c2⟩ := HYC.out j hj2
                  have ix2 : (j : Int) < (N : Int) + 64 := by omega
                  by_cases hjN : j < N
                  · obtain ⟨g, rfl, hgl, c3, c4⟩ := HXC.out j hjN
                    have ix3 : (j : Int) < N := by omega
                    have t1 : decide (j < N) = true := by simpa using hjN
                    have HK := Lib.hid (fun (w' : World) (h : Below w2.heap.size w2 w') => show w'.cell? ⟨b, off + t, none⟩ = some (.slice (some ⟨g, 0, none⟩) N xc) ∧ w'.cell? ⟨gb, t, none⟩ = some (.slice (some ⟨yb, 0, none⟩) (N + 64) yc) ∧
                      w'.cell? ⟨yb, j * 2, none⟩ = some (.int .i64 (-1 - (t : Int))) ∧ w'.cell? ⟨yb, j * 2 + 1, none⟩ = some (.int .i64 (-9)) ∧ w'.cell? ⟨g, j * 2, none⟩ = some (.int .i64 (-1 - (t : Int))) ∧ w'.cell? ⟨g, j * 2 + 1, none⟩ = some (.int .i64 (-9)) ∧ Below w2.heap.size w2 w' from
                      ⟨below_cell h hc hbl, below_cell h hd hgs, below_cell h c1 hys, below_cell h c2 hys, below_cell h c3 hgl, below_cell h c4 hgl, h⟩)
                    obtain ⟨r1, r2, r3, r4, r5, r6, r7⟩ := HK.out _ hB
                    clear hcr hdr
                    go_wp2_with fail
                    refine region_class (C := (fun w' => w'.cell? ⟨b, off + t, none⟩ = some (.slice (some ⟨g, 0, none⟩) N xc) ∧ w'.cell? ⟨gb, t, none⟩ = some (.slice (some ⟨yb, 0, none⟩) (N + 64) yc) ∧ w'.cell? ⟨yb, j * 2, none⟩ = some (.int .i64 (-1 - (t : Int))) ∧ w'.cell? ⟨yb, j * 2 + 1, none⟩ = some (.int .i64 (-9)) ∧ w'.cell? ⟨g, j * 2, none⟩ = some (.int .i64 (-1 - (t : Int))) ∧ w'.cell? ⟨g, j * 2 + 1, none⟩ = some (.int .i64 (-9)) ∧ Below w2.heap.size w2 w')) (by kernel_rfl) (by kernel_rfl) (HK.out _ (below_drew hB)) ?_
                    clear r1 r2 r3 r4 r5 r6
                    repeat (first
                      | go_big_quiet_skip
                      | (go_big_quiet_want
                         rename_i K hK
                         apply Exists.intro
                         refine ⟨fun w' hw' => ?_, hK _ ?_⟩
                         obtain ⟨r1, r2, r3, r4, r5, r6, r7⟩ := hw'
                         go_simp
                         first
                           | (go_at_call 50
                              refine (rangeMark_any t _ (by omega)).mono ?_
                              rintro e w5 ⟨rfl, hb5⟩
                              exact ⟨rfl, HK.out _ (below_trans r7 hb5)⟩)
                           | with_reducible rfl
                         clear hK K
                         simp only [Act.put, List.setIfInBounds_toArray, List.set_cons_zero, List.set_cons_succ]))
                    refine wpQuiet_nil ?_
                    rintro w5 ⟨-, -, -, -, -, -, HB5⟩
                    go_wp2_with fail
                    go_roundw
                    case rel => exact ⟨j + 1, by omega, by go_num, HB5⟩
                    case measure => simp [intOf]; omega
                  · have t1 : decide (j < N) = false := by simpa using hjN
                    have t2 : decide ((j : Int) < (N : Int)) = false := by simpa using hjN
                    have ix4 : (N : Int) ≤ j := by omega
                    have HK := Lib.hid (fun (w' : World) (h : Below w2.heap.size w2 w') => show w'.cell? ⟨b, off + t, none⟩ = some (.slice xp N xc) ∧ w'.cell? ⟨gb, t, none⟩ = some (.slice (some ⟨yb, 0, none⟩) (N + 64) yc) ∧
                      w'.cell? ⟨yb, j * 2, none⟩ = some (.int .i64 (-1 - (t : Int))) ∧ w'.cell? ⟨yb, j * 2 + 1, none⟩ = some (.int .i64 (-9)) ∧ Below w2.heap.size w2 w' from
                      ⟨below_cell h hc hbl, below_cell h hd hgs, below_cell h c1 hys, below_cell h c2 hys, h⟩)
                    obtain ⟨r1, r2, r3, r4, r7⟩ := HK.out _ hB
                    clear hcr hdr
                    go_wp2_with fail
                    refine region_class (C := (fun w' => w'.cell? ⟨b, off + t, none⟩ = some (.slice xp N xc) ∧ w'.cell? ⟨gb, t, none⟩ = some (.slice (some ⟨yb, 0, none⟩) (N + 64) yc) ∧ w'.cell? ⟨yb, j * 2, none⟩ = some (.int .i64 (-1 - (t : Int))) ∧ w'.cell? ⟨yb, j * 2 + 1, none⟩ = some (.int .i64 (-9)) ∧ Below w2.heap.size w2 w')) (by kernel_rfl) (by kernel_rfl) (HK.out _ (below_drew hB)) ?_
                    clear r1 r2 r3 r4
                    repeat (first
                      | go_big_quiet_skip
                      | (go_big_quiet_want
                         rename_i K hK
                         apply Exists.intro
                         refine ⟨fun w' hw' => ?_, hK _ ?_⟩
                         obtain ⟨r1, r2, r3, r4, r7⟩ := hw'
                         go_simp
                         first
                           | (go_at_call 50
                              refine (rangeMark_any t _ (by omega)).mono ?_
                              rintro e w5 ⟨rfl, hb5⟩
                              exact ⟨rfl, HK.out _ (below_trans r7 hb5)⟩)
                           | with_reducible rfl
                         clear hK K
                         simp only [Act.put, List.setIfInBounds_toArray, List.set_cons_zero, List.set_cons_succ]))
                    refine wpQuiet_nil ?_
                    rintro w5 ⟨-, -, -, -, HB5⟩
                    go_wp2_with fail
                    go_roundw
                    case rel => exact ⟨j + 1, by omega, by go_num, HB5⟩
                    case measure => simp [intOf]; omega
                · go_wp2_with fail
                  go_roundw
                  case rel => exact ⟨t + 1, by omega, by go_num, hB⟩
                  case measure => simp [intOf]; omega
            · go_wp2_with fail
              go_ret
              exact ⟨rfl, (HS.out.trans HSr.out fun _ _ h => h).trans (Same.of_below hB no) (fun _ _ h => h.elim)⟩
end Go.Proofs.YtfaemjlemaclbaaGreat
end
