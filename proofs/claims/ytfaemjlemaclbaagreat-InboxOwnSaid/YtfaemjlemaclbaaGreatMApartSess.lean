/- apart: lists of sessions, each owned and in a block of its own, are apart. -/
import Derived.Test.YtfaemjlemaclbaaGreatMAppAt
import Derived.Test.YtfaemjlemaclbaaGreatMSortK
import Derived.BigQuiet
import Derived.Deep.QuietTactic
import Derived.Deep.RegionLaw
import Derived.Deep.RegionHeld3
namespace Go.Proofs.YtfaemjlemaclbaaGreat
set_option linter.unusedVariables false
set_option linter.unusedSimpArgs false
open Go.RowKit
def smark (i : Nat) : List Value := [.int .u64 1125899906842624, .int .u64 (i : Int)]
theorem El.sesss : El Tryz.prog 43 50 (.slice none 0 0) 1 24 := ⟨Tryz.underlying43, by kernel_rfl, rfl, by decide, by decide⟩
set_option maxHeartbeats 8000000 in
set_option maxRecDepth 100000 in
theorem apartSess_any (v0 : Value) (base b0 n : Nat) (vs : List Value) (ns : Nat → Nat) (f : Nat → List Value) (w : World) (hv : w.ownsRow b0 50 1 v0 n vs) (hR : Rows w base 66 2 vs ns f)
    (hbase : base ≤ w.heap.size) (hns : ∀ i, ns i ≤ 1099511627776) (hn : n ≤ 4398046511104) :
    Calls Tryz.prog 21 #[v0] w fun e w' => e = .returned (.bool true) ∧ Same (Foot vs) w w' := by
  obtain ⟨ao, cap, rfl, -⟩ := Rd.of_own hv
  have hvl : vs.length = n := by simpa using hv.1
  have HV := Lib.hid hv; have HVL := Lib.hid hvl
  have hnf : ∀ b, (Value.slice ao n cap).ownBlock = some b → ¬ Foot vs b := fun b hb ⟨x, hx, he⟩ => by
    obtain ⟨i, hi, rfl⟩ := List.mem_iff_getElem.1 hx
    rcases own_ne (hR.own i _ (List.getElem?_eq_getElem hi)) hv (by decide) with h | h
    · rw [h] at he; cases he
    · exact h (he.trans hb.symm)
  have HNF := Lib.hid hnf; have HNS := Lib.hid hns
  clear hv hvl hnf hns
  go_enter Tryz.func21, Tryz.ntmps21
  go_wp2
  go_loopw [4] (fun i wr => ∃ (k : Nat) (f : Nat → List Value), k ≤ n ∧ i = .int .i64 k ∧ Hid (Rows wr base 66 2 vs ns f) ∧ Hid (∀ i, i < k → f i = fill (smark i) (ns i)) ∧ Hid (Same (Foot vs) w wr)) (fun i _ => n - (intOf i).toNat)
  case atStart => exact ⟨0, f, Nat.zero_le _, rfl, Lib.hid hR, Lib.hid fun i hi => absurd hi (Nat.not_lt_zero _), Lib.hid (Same.refl _ _)⟩
  case round =>
    obtain ⟨k, f, hk, rfl, HR, HF, HS⟩ := hrel
    by_cases hlt : k < n
    · obtain ⟨b, off, cap', hve, hnc, hcm, hbs, hcells⟩ := (Rd.of_own HV.out).form (by intro h; have := HVL.out; rw [h] at this; simp at this; omega)
      injection hve with q1 q2 q3
      subst q1; subst q3
      obtain ⟨x, hx⟩ : ∃ x, vs[k]? = some x := ⟨vs[k]'(by rw [HVL.out]; exact hlt), List.getElem?_eq_getElem _⟩
      have hc0 := hcells k x hx
      have hc := HS.out.cell_some hc0 (HNF.out b rfl)
      have hxo := HR.out.own k x hx
      obtain ⟨xp, xc, rfl, -⟩ := Rd.of_own hxo
      have ix : (k : Int) < n := by omega
      have hnk := HNS.out k
      obtain ⟨N, hN⟩ : ∃ N, N = ns k := ⟨_, rfl⟩
      rw [← hN] at hc hnk
      have HN := Lib.hid hN
      have HC0 := Lib.hid hc0; have HX := Lib.hid hx
      obtain ⟨wo, hwo⟩ : ∃ wo, wo = wr := ⟨_, rfl⟩
      subst hwo
      clear hN hc0 hx hxo hcells q2
      go_wp2
      go_loopw [5] (fun i wr => ∃ (j : Nat) (f : Nat → List Value), j ≤ N ∧ i = .int .i64 j ∧ Hid (Rows wr base 66 2 vs ns f) ∧ Hid (∀ i, i < k → f i = fill (smark i) (ns i)) ∧ Hid ((f k).take (j * 2) = fill (smark k) j) ∧ Hid (Same (Foot vs) w wr)) (fun i _ => N - (intOf i).toNat)
      case atStart => exact ⟨0, f, Nat.zero_le _, rfl, HR, HF, Lib.hid (by simp [fill]), HS⟩
      case round =>
        obtain ⟨j, f', hj, rfl, HR', HF', HK', HS'⟩ := hrel
        have hc := HS'.out.cell_some HC0.out (HNF.out b rfl)
        rw [← HN.out] at hc
        by_cases hjl : j < N
        · have hxo := HR'.out.own k _ HX.out
          obtain ⟨g, xc', hxe, _, hgl⟩ := hxo.form (by rw [← HN.out]; omega)
          injection hxe with q1 q2 q3
          subst q1; subst q3
          have hfl : (f' k).length = N * 2 := by have := hxo.1; rw [HN.out]; exact this
          obtain ⟨y, hd1⟩ : ∃ y, wr.cell? ⟨g, j * 2, none⟩ = some y := ⟨_, (hxo.cellAt (j * 2) (by rw [← HN.out]; omega)).trans (List.getElem?_eq_getElem (by rw [hfl]; omega))⟩
          obtain ⟨z, hd3⟩ : ∃ y, wr.cell? ⟨g, j * 2 + 1, none⟩ = some y := ⟨_, (hxo.cellAt (j * 2 + 1) (by rw [← HN.out]; omega)).trans (List.getElem?_eq_getElem (by rw [hfl]; omega))⟩
          have hd2 := hxo.frozenAt (j * 2)
          have hd4 := hxo.frozenAt (j * 2 + 1)
          have ix2 : (j : Int) < N := by omega
          have hbl := World.block_lt_of_cell? _ _ hc
          have HXO := Lib.hid hxo
          clear hfl hxo q2
          go_wp2_with fail
          go_roundw
          case rel =>
            have hfl : (f' k).length = N * 2 := by have := (HR'.out.own k _ HX.out).1; rw [HN.out]; exact this
            obtain ⟨hR2, hS2⟩ := HR'.out.cell HX.out rfl (j * 2) (.int .u64 1125899906842624)
            obtain ⟨hR3, hS3⟩ := hR2.cell HX.out rfl (j * 2 + 1) (.int .u64 (k : Int))
            refine ⟨j + 1, _, by omega, by go_num, Lib.hid hR3, Lib.hid fun i hi => ?_, Lib.hid ?_, Lib.hid ((HS'.out.trans hS2 (fun _ _ h => h)).trans hS3 (fun _ _ h => h))⟩
            · exact (if_neg (by omega)).trans ((if_neg (by omega)).trans (HF'.out i hi))
            · show List.take ((j + 1) * 2) (if k = k then (if k = k then (f' k).set (j * 2) (.int .u64 1125899906842624) else f' k).set (j * 2 + 1) (.int .u64 (k : Int)) else _) = _
              rw [if_pos rfl, if_pos rfl, fill_succ, ← HK'.out, show (j + 1) * 2 = j * 2 + (smark k).length by simp [smark]; omega]
              exact take_store (fun p hp => by
                have hp : p < j * 2 + 2 := hp
                rw [List.getElem?_set, List.getElem?_set, List.length_set]
                by_cases e : j * 2 + 1 = p
                · subst e; rw [if_pos rfl, if_pos (by omega), if_neg (by omega), show j * 2 + 1 - j * 2 = 1 by omega]; rfl
                · rw [if_neg e]
                  by_cases e2 : j * 2 = p
                  · subst e2; rw [if_pos rfl, if_pos (by omega), if_neg (by omega), Nat.sub_self]; rfl
                  · rw [if_neg e2, if_pos (by omega)]) (by omega)
          case measure => simp [intOf]; omega
        · obtain rfl : j = N := by omega
          have hfl : (f' k).length = j * 2 := by have := (HR'.out.own k _ HX.out).1; rw [HN.out]; exact this
          go_wp2_with fail
          go_roundw
          case rel => exact ⟨k + 1, f', by omega, by go_num, HR', Lib.hid fun i hi => by
            by_cases e : i = k
            · subst e; rw [← HN.out, ← HK'.out, List.take_of_length_le (by omega)]
            · exact HF'.out i (by omega), HS'⟩
          case measure => simp [intOf]; omega
    · obtain rfl : k = n := by omega
      obtain ⟨w1, hw1⟩ : ∃ w1, w1 = wr := ⟨_, rfl⟩
      subst hw1
      have hR1 : Rows w1 base 66 2 vs ns (fun i => fill (smark i) (ns i)) := ⟨fun i x hx => by
        have hi := (List.getElem?_eq_some_iff.1 hx).1
        rw [HVL.out] at hi
        have := HR.out.own i x hx
        rwa [HF.out i hi] at this, HR.out.ne⟩
      have HR1 := Lib.hid hR1
      have hvH : ∀ b, Foot vs b → b < w1.heap.size := fun b ⟨x, hx, he⟩ => by
        obtain ⟨i, hi, rfl⟩ := List.mem_iff_getElem.1 hx
        exact ((hR1.own i _ (List.getElem?_eq_getElem hi)).lt b he).2
      have HVH := Lib.hid hvH
      have hb1 : base ≤ w1.heap.size := Nat.le_trans hbase HS.out.size
      clear hR1 hvH HR HF
      go_wp2
      go_loopw [3, 6] (fun G i wr => ∃ (q : Nat) (ys : List Value), q ≤ k ∧ i = .int .i64 q ∧ Hid (ys.length = q) ∧ wr.ownsRow w1.heap.size 50 1 G q ys ∧ Hid (Rows wr base 66 2 vs ns (fun i => fill (smark i) (ns i))) ∧
        Hid (Grown wr base w1.heap.size 66 2 vs ys ns (smark)) ∧ Hid (Same (Foot vs) w1 wr)) (fun _ i _ => k - (intOf i).toNat)
      case atStart => exact ⟨0, [], Nat.zero_le _, rfl, Lib.hid rfl, World.ownsRow_nil _ _ _ _, HR1, Lib.hid fun i y h => by simp at h, Lib.hid (Same.refl _ _)⟩
      case round =>
        obtain ⟨q, ys, hq, rfl, HYL, hG, HRr, HGr, HSr⟩ := hrel
        have hzr := HSr.out.size
        by_cases hlt2 : q < k
        · obtain ⟨b, off, cap', hve, hnc, hcm, hbs, hcells⟩ := (Rd.of_own HV.out).form (by intro h; have := HVL.out; rw [h] at this; simp at this; omega)
          injection hve with q1 q2 q3
          subst q1; subst q3
          obtain ⟨x, hx⟩ : ∃ x, vs[q]? = some x := ⟨vs[q]'(by rw [HVL.out]; exact hlt2), List.getElem?_eq_getElem _⟩
          have hc := HSr.out.cell_some (HS.out.cell_some (hcells q x hx) (HNF.out b rfl)) (HNF.out b rfl)
          have hxo := HRr.out.own q x hx
          obtain ⟨xp, xc, rfl, -⟩ := Rd.of_own hxo
          have ix : (q : Int) < k := by omega
          have hnk := HNS.out q
          obtain ⟨N, hN⟩ : ∃ N, N = ns q := ⟨_, rfl⟩
          rw [← hN] at hc hnk
          have HN := Lib.hid hN
          have HX := Lib.hid hx; have HXO := Lib.hid hxo
          obtain ⟨wi, hwi⟩ : ∃ wi, wi = wr := ⟨_, rfl⟩
          subst hwi
          clear hN hx hxo hcells q2
          go_wp2
          go_loopw [7, 8] (fun G c wx => ∃ j : Nat, j ≤ 64 ∧ c = .int .i64 j ∧ Grow wi wx base 66 2 (.slice xp (ns q) xc) G (ns q) (ns q + j) (smark q)) (fun _ c _ => 64 - (intOf c).toNat)
          case atStart => exact ⟨0, by omega, rfl, by rw [← HN.out]; exact HN.out ▸ Grow.start HXO.out⟩
          case round =>
            obtain ⟨j, hj, rfl, HGW⟩ := hrel
            have hzx := HGW.same.size
            by_cases hj64 : j < 64
            · have hix : (j : Int) < 64 := by omega
              have hnq := HNS.out q
              go_wp2_with (at_builtin; go_loud (refine wpList_app1_at El.sess rfl (.tmp 49) (.tmp 53) rfl HGW.own rfl (cs := #[.int .u64 1125899906842624, .int .u64 (q : Int)]) rfl rfl (by simp [Value.oneCell']) (by omega) (by omega) ?_); intro v2 w2 hown2 hgr2 hL2)
              go_roundw
              case rel => exact ⟨j + 1, by omega, by go_num, HGW.step (by omega) rfl hown2 hgr2 hL2⟩
              case measure => simp [intOf]; omega
            · obtain rfl : j = 64 := by omega
              have hGx := own_same hG HGW.same fun b hb e => by
                rcases own_ne HXO.out hG (by decide) with h | h
                · exact absurd (h.symm.trans e) (by simp)
                · exact h (e.trans hb.symm)
              have hRx := Rows.of_grow HRr.out HX.out rfl HGW
              have hGrx := Grown.snoc HGr.out HYL.out HRr.out HX.out hzr HVH.out HGW
              have hSx : Same (Foot vs) w1 wr := HSr.out.trans HGW.same fun i _ e => ⟨_, List.mem_of_getElem? HX.out, e⟩
              have hzx1 := hSx.size
              obtain ⟨gb, gc, rfl, _, _⟩ := HGW.own.form (by omega)
              have HRx := Lib.hid hRx; have HGrx := Lib.hid hGrx; have HSx := Lib.hid hSx
              clear hRx hGrx hSx HGW hG
              go_wp2_with (at_builtin; go_loud (refine wpList_app1_at El.sesss rfl (.tmp 55) (.tmp 57) rfl hGx rfl (cs := #[.slice (some ⟨gb, 0, none⟩) (ns q + 64) gc]) rfl rfl (by intro x hx; simp at hx; subst hx; rfl) (by omega) (by omega) ?_); intro v2 w2 hown2 hgr2 hL2)
              go_roundw
              case rel => exact ⟨q + 1, ys ++ [.slice (some ⟨gb, 0, none⟩) (ns q + 64) gc], by omega, by go_num, Lib.hid (by rw [List.length_append, HYL.out]; rfl), hown2, Lib.hid (HRx.out.kept hGx (by decide) hgr2), Lib.hid (HGrx.out.kept hGx (by decide) hgr2),
                Lib.hid (HSx.out.grown hgr2 fun b hb hlt => by have := (hGx.lt b hb).1; omega)⟩
              case measure => simp [intOf]; omega
        · obtain rfl : q = k := by omega
          obtain ⟨w2, hw2⟩ : ∃ w2, w2 = wr := ⟨_, rfl⟩
          subst hw2
          obtain ⟨Go', hGo'⟩ : ∃ G', G' = u3 := ⟨_, rfl⟩
          obtain ⟨ga, gcap, rfl, -⟩ := Rd.of_own hG
          clear hGo'
          go_wp2
          go_loopw [9] (fun i wr => ∃ (t : Nat), t ≤ q ∧ i = .int .i64 t ∧ Below w2.heap.size w2 wr) (fun i _ => q - (intOf i).toNat)
          case atStart => exact ⟨0, Nat.zero_le _, rfl, Below.refl _ _⟩
          case round =>
            obtain ⟨t, ht, rfl, hB⟩ := hrel
            by_cases hlt3 : t < q
            · obtain ⟨b, off, cap', hve, hnc, hcm, hbs, hcells⟩ := (Rd.of_own HV.out).form (by intro h; have := HVL.out; rw [h] at this; simp at this; omega)
              injection hve with q1 q2 q3
              subst q1; subst q3
              obtain ⟨x, hx⟩ : ∃ x, vs[t]? = some x := ⟨vs[t]'(by rw [HVL.out]; exact hlt3), List.getElem?_eq_getElem _⟩
              have hc := HSr.out.cell_some (HS.out.cell_some (hcells t x hx) (HNF.out b rfl)) (HNF.out b rfl)
              obtain ⟨gb, gc, hge, _, hgs⟩ := hG.form (by omega)
              injection hge with r1 r2 r3
              subst r1; subst r3
              obtain ⟨y, hy⟩ : ∃ y, ys[t]? = some y := ⟨ys[t]'(by rw [HYL.out]; exact hlt3), List.getElem?_eq_getElem _⟩
              have hd := (hG.cellAt t (by omega)).trans hy
              have hyo := (HGr.out t y hy).1
              obtain ⟨yb, yc, rfl, _, hys⟩ := hyo.form (by omega)
              have hxo := HRr.out.own t x hx
              obtain ⟨xp, xc, rfl, -⟩ := Rd.of_own hxo
              have ix : (t : Int) < q := by omega
              have hnk := HNS.out t
              obtain ⟨N, hN⟩ : ∃ N, N = ns t := ⟨_, rfl⟩
              have HYC := Lib.hid (fun j (hj : j < N + 64) => show w2.cell? ⟨yb, j * 2, none⟩ = some (.int .u64 1125899906842624) ∧ w2.cell? ⟨yb, j * 2 + 1, none⟩ = some (.int .u64 (t : Int)) from
                ⟨(hyo.cellAt (j * 2) (by omega)).trans (fill_at (smark t) (ns t + 64) j 0 (by omega) (by simp [smark])), (hyo.cellAt (j * 2 + 1) (by omega)).trans (fill_at (smark t) (ns t + 64) j 1 (by omega) (by simp [smark]))⟩)
              have HXC := Lib.hid (fun (j : Nat) (hj : j < N) => show ∃ g, xp = some ⟨g, 0, none⟩ ∧ g < w2.heap.size ∧ w2.cell? ⟨g, j * 2, none⟩ = some (.int .u64 1125899906842624) ∧ w2.cell? ⟨g, j * 2 + 1, none⟩ = some (.int .u64 (t : Int)) by
                obtain ⟨g, c, he, _, hgl⟩ := hxo.form (by omega)
                injection he with e1 e2 e3
                subst e1; subst e3
                exact ⟨g, rfl, hgl, (hxo.cellAt (j * 2) (by omega)).trans (fill_at (smark t) (ns t) j 0 (by omega) (by simp [smark])), (hxo.cellAt (j * 2 + 1) (by omega)).trans (fill_at (smark t) (ns t) j 1 (by omega) (by simp [smark]))⟩)
              rw [← hN] at hc hnk hd
              have hbl := World.block_lt_of_cell? _ _ hc
              have hcq := below_cell hB hc hbl
              have hdq := below_cell hB hd hgs
              clear hN hx hxo hcells q2 r2 hy hyo hG
              go_wp2
              go_loopw [10] (fun i wx => ∃ (j : Nat), j ≤ N + 64 ∧ i = .int .i64 j ∧ Below w2.heap.size w2 wx) (fun i _ => N + 64 - (intOf i).toNat)
              case atStart => exact ⟨0, by omega, rfl, hB⟩
              case round =>
                obtain ⟨j, hj, rfl, hB⟩ := hrel
                have hcr := below_cell hB hc hbl
                have hdr := below_cell hB hd hgs
                by_cases hj2 : j < N + 64
                · obtain ⟨c1, c2⟩ := HYC.out j hj2
                  have ix2 : (j : Int) < (N : Int) + 64 := by omega
                  by_cases hjN : j < N
                  · obtain ⟨g, rfl, hgl, c3, c4⟩ := HXC.out j hjN
                    have ix3 : (j : Int) < N := by omega
                    have t1 : decide (j < N) = true := by simpa using hjN
                    have HK := Lib.hid (fun (w' : World) (h : Below w2.heap.size w2 w') => show w'.cell? ⟨b, off + t, none⟩ = some (.slice (some ⟨g, 0, none⟩) N xc) ∧ w'.cell? ⟨gb, t, none⟩ = some (.slice (some ⟨yb, 0, none⟩) (N + 64) yc) ∧
                      w'.cell? ⟨yb, j * 2, none⟩ = some (.int .u64 1125899906842624) ∧ w'.cell? ⟨yb, j * 2 + 1, none⟩ = some (.int .u64 (t : Int)) ∧ w'.cell? ⟨g, j * 2, none⟩ = some (.int .u64 1125899906842624) ∧ w'.cell? ⟨g, j * 2 + 1, none⟩ = some (.int .u64 (t : Int)) ∧ Below w2.heap.size w2 w' from
                      ⟨below_cell h hc hbl, below_cell h hd hgs, below_cell h c1 hys, below_cell h c2 hys, below_cell h c3 hgl, below_cell h c4 hgl, h⟩)
                    obtain ⟨r1, r2, r3, r4, r5, r6, r7⟩ := HK.out _ hB
                    clear hcr hdr
                    go_wp2_with fail
                    go_roundw
                    case rel => exact ⟨j + 1, by omega, by go_num, hB⟩
                    case measure => simp [intOf]; omega
                  · have t1 : decide (j < N) = false := by simpa using hjN
                    have t2 : decide ((j : Int) < (N : Int)) = false := by simpa using hjN
                    have ix4 : (N : Int) ≤ j := by omega
                    have HK := Lib.hid (fun (w' : World) (h : Below w2.heap.size w2 w') => show w'.cell? ⟨b, off + t, none⟩ = some (.slice xp N xc) ∧ w'.cell? ⟨gb, t, none⟩ = some (.slice (some ⟨yb, 0, none⟩) (N + 64) yc) ∧
                      w'.cell? ⟨yb, j * 2, none⟩ = some (.int .u64 1125899906842624) ∧ w'.cell? ⟨yb, j * 2 + 1, none⟩ = some (.int .u64 (t : Int)) ∧ Below w2.heap.size w2 w' from
                      ⟨below_cell h hc hbl, below_cell h hd hgs, below_cell h c1 hys, below_cell h c2 hys, h⟩)
                    obtain ⟨r1, r2, r3, r4, r7⟩ := HK.out _ hB
                    clear hcr hdr
                    go_wp2_with fail
                    go_roundw
                    case rel => exact ⟨j + 1, by omega, by go_num, hB⟩
                    case measure => simp [intOf]; omega
                · go_wp2_with fail
                  go_roundw
                  case rel => exact ⟨t + 1, by omega, by go_num, hB⟩
                  case measure => simp [intOf]; omega
            · go_wp2_with fail
              go_ret
              exact ⟨rfl, (HS.out.trans HSr.out fun _ _ h => h).trans (Same.of_below hB no) (fun _ _ h => h.elim)⟩
end Go.Proofs.YtfaemjlemaclbaaGreat
