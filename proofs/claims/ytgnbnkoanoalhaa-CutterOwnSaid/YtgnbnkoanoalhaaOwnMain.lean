/- CutterOwn returns true. -/
import Derived.Test.YtgnbnkoanoalhaaOwn
namespace Go.Proofs.Ytgnbnkoanoalhaa
set_option linter.unusedVariables false
set_option linter.unusedSimpArgs false
open Go.RowKit
theorem upto_succ (k : Nat) : addH (fun j => decide (j < k)) k = fun j => decide (j < k + 1) := by
  funext j
  rw [Bool.eq_iff_iff]
  simp only [addH, Bool.or_eq_true, decide_eq_true_eq, beq_iff_eq]
  omega
theorem upto_zero : (fun j => decide (j < 0)) = fun (_ : Nat) => false := by funext j; simp
set_option maxHeartbeats 8000000 in
set_option maxRecDepth 100000 in
theorem own_in (v x : Value) (l : List UInt8) (mtu n : Int) (ops : List OpD) (w : World) (hr : Bs w v l) (hl : l.length ≤ 140737488351232) (hx : OpsRd w x ops) :
    Calls Try.prog 12 #[v, .int .i64 mtu, .agg #[.int .i64 n, x]] w fun e w' => e = .returned (.bool true) ∧ Below w.heap.size w w' := by
  obtain ⟨oap, ocap, rfl, hol, -⟩ := id hx
  obtain ⟨vp, vc, rfl, -⟩ := id hr
  obtain ⟨wa, hwa⟩ : ∃ wa, wa = w.alloc (.cells #[.int .i64 n, .slice oap ops.length ocap] 37) := ⟨_, rfl⟩
  have hB0 : Below w.heap.size w wa := hwa ▸ (Below.refl _ _).alloc (Nat.le_refl _) _
  have hN0 : Blk wa w.heap.size 37 [.int .i64 n, .slice oap ops.length ocap] := hwa ▸ Blk.new w _ _
  have hxa := hx.later hB0
  have hra := hr.later hB0
  have n0 := hN0.cell_some (i := 0) rfl
  have n1 := hN0.cell_some (i := 1) rfl
  have hlt0 := hN0.lt
  have HX := Lib.hid hxa; have HV := Lib.hid hra
  clear hx hxa hr hra hN0
  have hcl := cutOf_length l mtu
  go_enter Try.func12, Try.ntmps12
  go_wp2_with fail
  rw [← hwa]
  clear hwa
  refine (cut_any _ l mtu wa HV.out (by omega)).mono ?_
  rintro e w1 ⟨v1, rfl, hp1, hB1⟩
  go_wp2_with fail
  refine (cut_any _ l mtu w1 (HV.out.later hB1) (by omega)).mono ?_
  rintro e w2 ⟨v2, rfl, hp2, hB2⟩
  have hz1 := hB1.size
  have hz2 := hB2.size
  have hB12 := below_trans hB1 hB2
  have hlp : ∀ p ∈ cutOf l mtu, p.length ≤ 140737488351232 := fun p hp => Nat.le_trans (cutOf_le l mtu p hp) hl
  obtain ⟨vs1, o1, r1, i1⟩ := hp1.rows hlp
  obtain ⟨vs2, o2, r2, i2⟩ := hp2.rows hlp
  have HL1 := Lib.hid r1.lt
  have o1 := own_later o1 hB2
  have r1 := r1.later hB2
  have HP1 := Lib.hid (hp1.later hB2).bss; have HP2 := Lib.hid hp2.bss
  obtain ⟨p1, c1, rfl, -⟩ := Rd.of_own o1
  obtain ⟨p2, c2, rfl, -⟩ := Rd.of_own o2
  obtain ⟨K, hK⟩ : ∃ K, K = (cutOf l mtu).length := ⟨_, rfl⟩
  obtain ⟨E, hE⟩ : ∃ E, E = cutErr l.length mtu := ⟨_, rfl⟩
  have HK := Lib.hid hK; have HE := Lib.hid hE
  rw [← hK] at o1 o2 HP1 HP2 hcl ⊢
  rw [← hE]
  have HO1 := Lib.hid o1; have HO2 := Lib.hid o2; have HR1 := Lib.hid r1; have HR2 := Lib.hid r2
  have HI1 := Lib.hid i1
  clear hK hE o1 o2 r1 r2 i1 i2 hp1 hp2 hlp
  go_wp2_with fail
  refine (sameLists_yes _ _ (cutOf l mtu) _ HP1.out HP2.out (by have := HK.out; omega)).mono ?_
  rintro e _ ⟨rfl, n3, rfl⟩
  go_wp2_with fail
  refine (small_any _).mono ?_
  rintro e w4 ⟨rfl, hB4'⟩
  have hB4 : Below w2.heap.size w2 w4 := ⟨hB4'.os, hB4'.tape, hB4'.output, hB4'.size, hB4'.block⟩
  have hz4 := hB4.size
  clear hB4' HP1 HP2
  have o1 := own_later HO1.out hB4
  have o2 := own_later HO2.out hB4
  have hcell1 := HR1.out.cell
  have hcell2 := HR2.out.cell
  have HC1 := Lib.hid hcell1; have HC2 := Lib.hid hcell2
  clear hcell1 hcell2
  go_wp2_with (first
    | (at_builtin; refine wpList_app El.bytes rfl (.tmp 45) (.tmp 46) rfl (World.ownsRow_nil w4 w4.heap.size 22 1) rfl (Rd.of_own o1) rfl (by have := o1.1; exact this) HC1.out (by omega) (Nat.le_refl _) ?_; intro v5 w5 own5 hgr5 _; have hB5 : Below w4.heap.size w4 w5 := (Below.refl _ _).grown hgr5 (Nat.le_refl _) (fun k hk => by simp [Value.ownBlock] at hk); have o25 := own_later o2 hB5; have hz5 := hB5.size)
    | (at_builtin; refine wpList_app El.bytes rfl (.tmp 48) (.tmp 49) rfl own5 rfl (Rd.of_own o25) rfl (by have := o25.1; exact this) HC2.out (by omega) hz5 ?_; intro v6 w6 own6 hgr6 _))
  have hB6' : Below w4.heap.size w4 w6 := hB5.grown hgr6 hz5 (fun k hk => (own5.lt k hk).1)
  have HR12 := Lib.hid ((((HR1.out.app HR2.out hz1 (fun x hx b hb => (HL1.out x hx b hb).2)).later (below_trans hB4 hB5)).kept own5 (by decide) hgr6))
  have hB46 : Below wa.heap.size wa w6 := (below_trans (below_trans hB12 hB4) hB6')
  have hz6 := hB6'.size
  have HB46 := Lib.hid hB6'
  have HO6 : Hid (w6.ownsRow w4.heap.size 22 1 v6 (K + K) (vs1 ++ vs2)) := Lib.hid (by simpa using own6)
  have HO16 := Lib.hid ((own_later HO1.out (below_trans hB4 hB6')))
  have HBV := Lib.hid (HV.out.later hB46)
  clear own5 own6 hgr5 hgr6 hB5 o1 o2 o25 hB6'
  refine (num_any _ _).mono ?_
  rintro e _ ⟨rfl, rfl⟩
  by_cases hE0 : E = 0
  · subst hE0
    have he : cutErr l.length mtu = 0 := HE.out.symm
    obtain ⟨m, rfl⟩ := Int.eq_ofNat_of_zero_le (show 0 ≤ mtu by have := cutErr_zero he; omega)
    obtain ⟨q1, q2, q3, q4, q5, _⟩ := cutErr_zero_nat he
    have hcut : cutOf l m = pieces m l ((l.length + m - 1) / m) := by simp [cutOf, he]
    have hkk : K = (l.length + m - 1) / m := by rw [HK.out, hcut]; simp [pieces]
    have hcuts := cuts_of q1 q2 q3 q4 q5
    rw [← hkk] at hcuts hcut
    have HCUT := Lib.hid hcut
    have hk1 := hcuts.k0
    have hk2 := hcuts.k1
    have HCU := Lib.hid hcuts
    clear he hcut hkk hcuts HE q5
    go_wp2_with fail
    refine (new_yes K _ hk1 hk2).mono ?_
    rintro e w7 ⟨rfl, hb7, hB7⟩
    have hb7' : (BoxS.ofH K m l (fun j => decide (j < 0))).at w7 w6.heap.size := by rw [upto_zero, ofH_none]; exact hb7
    have hg7 := at_lt hb7'
    clear hb7
    go_wp2_with fail
    go_loopw [14] (fun i wr => ∃ t : Nat, t ≤ K ∧ i = .int .i64 t ∧ (BoxS.ofH K m l (fun j => decide (j < t))).at wr w6.heap.size ∧ Same (at1 w6.heap.size) w7 wr) (fun i _ => K - (intOf i).toNat)
    case atStart => exact ⟨0, Nat.zero_le _, rfl, hb7', Same.refl _ _⟩
    case round =>
      obtain ⟨t, ht, rfl, hb, hS⟩ := hrel
      have hBr : Below w6.heap.size w6 wr := hB7.trans (hS.belowB fun i hi => ⟨Nat.lt_of_lt_of_le hi hB7.size, fun h => by simp only [at1] at h; omega⟩)
      by_cases hlt : t < K
      · have o1r := own_later HO16.out hBr
        obtain ⟨gp, cp, hpe, _, _⟩ := o1r.form (by omega)
        injection hpe with e1 e2 e3
        subst e1; subst e3
        have hvl : vs1.length = K := by have := o1r.1; simpa using this
        obtain ⟨y, hy⟩ : ∃ y, vs1[t]? = some y := ⟨_, List.getElem?_eq_getElem (by omega)⟩
        have hcy : wr.cell? ⟨gp, t, none⟩ = some y := (o1r.cellAt t (by omega)).trans hy
        have hyo := own_later (own_later (own_later (HI1.out t y (piece m l t) hy (by rw [HCUT.out, pieces, List.getElem?_map, List.getElem?_range hlt]; rfl)) hB2) (below_trans hB4 HB46.out)) hBr
        have hpp := piece_pos HCU.out hlt
        obtain ⟨gy, cy, rfl, _, _⟩ := hyo.form (by omega)
        have hres := ofH_err (H := fun j => decide (j < t)) HCU.out hlt
        rw [show decide (t < t) = false by simp, if_neg (by decide)] at hres
        have hnext := ofH_put (H := fun j => decide (j < t)) HCU.out hlt
        rw [upto_succ] at hnext
        have ix : (t : Int) < K := by omega
        have HRES := Lib.hid hres; have HN := Lib.hid hnext
        clear hvl hy o1r hres hnext e2
        go_wp2_with fail
        refine (put_any _ (BoxS.ofH K m l (fun j => decide (j < t))) (t : Int) _ (piece m l t) _ hb (Bs.of_own hyo) (ofH_fine HCU.out)).mono ?_
        rintro e w8 ⟨rfl, hb8, hS8⟩
        rw [HN.out] at hb8
        simp only [BoxS.ofH]
        rw [HRES.out]
        go_wp2_with fail
        refine (num_any _ _).mono ?_
        rintro e _ ⟨rfl, rfl⟩
        have hS9 := hS.trans hS8 (fun _ _ h => h)
        go_wp2_with fail
        go_roundw
        case rel => exact ⟨t + 1, by omega, by go_num, hb8, hS9⟩
        case measure => simp [intOf]; omega
      · obtain rfl : t = K := by omega
        obtain ⟨w8, hw8⟩ : ∃ w8, w8 = wr := ⟨_, rfl⟩
        subst hw8
        have hz8 := hBr.size
        have hall : ∀ i, i < t → (fun j => decide (j < t)) i = true := fun i hi => by simpa using hi
        have HALL := Lib.hid hall; have HBX := Lib.hid hb
        have hg8 := at_lt hb
        clear hall hb hS hb7'
        go_wp2_with fail
        refine (wholeH_yes _ t m l _ _ HBX.out HCU.out HALL.out).mono ?_
        rintro e w9 ⟨x1, rfl, ox1, hB9⟩
        have HX1L := Lib.hid (fun b hb => (ox1.lt b hb).2)
        go_wp2_with fail
        refine (wholeH_yes _ t m l _ _ (at_later HBX.out hB9) HCU.out HALL.out).mono ?_
        rintro e w10 ⟨x2, rfl, ox2, hB10⟩
        have ox1 := own_later ox1 hB10
        have hB8 := below_trans hB9 hB10
        have hz9 := hB9.size
        have hz10 := hB10.size
        have k1 := run_str8 (Bs.of_own ox1) (W := w10) rfl
        have k2 := run_str8 (Bs.of_own ox2) (W := w10) rfl
        have k3 := run_str8 (HBV.out.later (below_trans hBr hB8)) (W := w10) rfl
        have hq := str_beq_yes (a := l) (b := l) rfl
        obtain ⟨xp1, xc1, rfl, -⟩ := Rd.of_own ox1
        obtain ⟨xp2, xc2, rfl, -⟩ := Rd.of_own ox2
        have HX1 := Lib.hid ox1; have HX2 := Lib.hid ox2
        have HO10 := Lib.hid (own_later HO6.out (below_trans hBr hB8))
        have HR10 := Lib.hid (HR12.out.later (below_trans hBr hB8))
        have HRL := Lib.hid HR12.out.lt
        have HBX10 := Lib.hid (at_later HBX.out hB8)
        clear ox1 ox2
        go_wp2_with fail
        refine (both_any _ _ _ _ _ _ _ HO10.out ⟨_, _, _, rfl⟩ ⟨_, _, _, rfl⟩ (by omega) (by omega)).mono ?_
        rintro e w11 ⟨va, rfl, oa, hSa⟩
        have hza := hSa.size
        have hrx : RowsE w10 wa.heap.size 5 1 140737488351232 (vs1 ++ vs2 ++ [.slice xp1 l.length xc1] ++ [.slice xp2 l.length xc2]) := by
          refine ((HR10.out.app (RowsE.one HX1.out hl) (by omega) fun y hy b hb => ?_).app (RowsE.one HX2.out hl) (by omega) fun y hy b hb => ?_)
          · have := (HRL.out y hy b hb).2; omega
          · rcases List.mem_append.1 hy with h | h
            · have := (HRL.out y h b hb).2; omega
            · simp at h
              subst h
              have := HX1L.out b hb
              omega
        have hra := hrx.same_own HO10.out (by decide) hSa
        rw [List.append_assoc, List.singleton_append] at hra
        have HRA := Lib.hid hra; have HOA := Lib.hid oa
        have hbx11 := at_same HBX10.out hSa (fun h => own_blk_ne HO10.out (BoxAt.blk HBX10.out) (by decide) h)
        have HBX11 := Lib.hid hbx11
        clear k1 k2 hra oa hrx hbx11
        obtain ⟨ns, f, hR11, hns⟩ := HRA.out
        have HR11 := Lib.hid hR11; have HNS := Lib.hid hns
        clear hR11 hns
        go_wp2_with fail
        refine (apartBytes_any _ _ _ _ _ _ _ _ HOA.out HR11.out (by omega) HNS.out (by omega)).mono ?_
        rintro e w12 ⟨rfl, hS12⟩
        have hft : ∀ k, Foot (vs1 ++ vs2 ++ [.slice xp1 l.length xc1, .slice xp2 l.length xc2]) k → wa.heap.size ≤ k := fun k ⟨y, hy, hk⟩ => (HRA.out.lt y hy k hk).1
        have hbx12 := at_same HBX11.out hS12 (fun ⟨y, hy, hk⟩ => by
          obtain ⟨i, hi, rfl⟩ := List.mem_iff_getElem.1 hy
          exact own_blk_ne (HR11.out.own i _ (List.getElem?_eq_getElem hi)) (BoxAt.blk HBX11.out) (by decide) hk)
        have hB12x : Below wa.heap.size wa w12 := (((hB46.trans (hBr.mono (by omega))).trans (hB8.mono (by omega))).trans (hSa.belowB fun i hi => ⟨by omega, fun h => by have := (HO10.out.lt i h).1; omega⟩)).trans (hS12.belowB fun i hi => ⟨by omega, fun h => by have := hft i h; omega⟩)
        have HBX12 := Lib.hid hbx12
        clear hS12 hSa hft hbx12 k3
        go_wp2_with fail
        refine (wholeH_yes _ t m l _ _ HBX12.out HCU.out HALL.out).mono ?_
        rintro e wx ⟨x3, rfl, ox3, hB13⟩
        have hBx : Below wa.heap.size wa wx := hB12x.trans (hB13.mono hB12x.size)
        have k4 := run_str8 (Bs.of_own ox3) (W := wx) rfl
        have k5 := run_str8 (HV.out.later hBx) (W := wx) rfl
        obtain ⟨xp3, xc3, rfl, -⟩ := Rd.of_own ox3
        have n0x := below_cell hBx n0 hlt0
        clear ox3
        go_wp2_with fail
        clear k4 k5 hq
        refine (begin_live n wa wx hBx).mono ?_
        rintro e wy ⟨g, r, base, pb, pr, s, rfl, hL, hBy, -⟩
        go_wp2_with fail
        go_loopw [24] (fun i wr => ∃ (t : Nat) (s : PS), t ≤ ops.length ∧ i = .int .i64 t ∧ Live wa wr g r base pb pr s) (fun i _ => ops.length - (intOf i).toNat)
        case atStart => exact ⟨0, s, Nat.zero_le _, rfl, hL⟩
        case round =>
          obtain ⟨t, s, ht, rfl, hL⟩ := hrel
          have m1 := below_cell hL.below n1 hlt0
          by_cases hlt : t < ops.length
          · obtain ⟨b, off, cap, xp, xn, xc, hv, hxs, hsl, e0, e1, e2⟩ := HX.out.at rfl hL.below hlt
            injection hv with hv1 hv2 hv3
            subst hv1; subst hv3
            obtain ⟨kd, ix, sg, ho⟩ : ∃ kd ix sg, ops[t] = OpD.mk kd ix sg := ⟨_, _, _, rfl⟩
            rw [ho] at hxs hsl e0 e1
            simp only at hxs hsl e0 e1
            clear ho hv2
            go_wp2_with fail
            refine (ask_live hL hxs hsl).mono ?_
            rintro e w5 ⟨rfl, hL5, -⟩
            go_wp2_with fail
            go_roundw
            case rel => exact ⟨t + 1, _, by omega, by go_num, hL5⟩
            case measure => simp [intOf]; omega
          · go_wp2_with fail
            refine (ranges_live hL).mono ?_
            rintro e w5 ⟨rfl, hB5⟩
            go_wp2_with fail
            go_ret
            exact ⟨rfl, hB0.trans ((hL.below.trans (hB5.mono hL.below.size)).mono hB0.size)⟩
  · have t0 : (E == 0) = false := by rw [beq_eq_false_iff_ne]; exact hE0
    obtain ⟨wx, hwx⟩ : ∃ wx, wx = w6 := ⟨_, rfl⟩
    subst hwx
    have hBx := hB46
    have n0x := below_cell hBx n0 hlt0
    go_wp2_with fail
    refine (begin_live n wa wx hBx).mono ?_
    rintro e wy ⟨g, r, base, pb, pr, s, rfl, hL, hBy, -⟩
    go_wp2_with fail
    go_loopw [24] (fun i wr => ∃ (t : Nat) (s : PS), t ≤ ops.length ∧ i = .int .i64 t ∧ Live wa wr g r base pb pr s) (fun i _ => ops.length - (intOf i).toNat)
    case atStart => exact ⟨0, s, Nat.zero_le _, rfl, hL⟩
    case round =>
      obtain ⟨t, s, ht, rfl, hL⟩ := hrel
      have m1 := below_cell hL.below n1 hlt0
      by_cases hlt : t < ops.length
      · obtain ⟨b, off, cap, xp, xn, xc, hv, hxs, hsl, e0, e1, e2⟩ := HX.out.at rfl hL.below hlt
        injection hv with hv1 hv2 hv3
        subst hv1; subst hv3
        obtain ⟨kd, ix, sg, ho⟩ : ∃ kd ix sg, ops[t] = OpD.mk kd ix sg := ⟨_, _, _, rfl⟩
        rw [ho] at hxs hsl e0 e1
        simp only at hxs hsl e0 e1
        clear ho hv2
        go_wp2_with fail
        refine (ask_live hL hxs hsl).mono ?_
        rintro e w5 ⟨rfl, hL5, -⟩
        go_wp2_with fail
        go_roundw
        case rel => exact ⟨t + 1, _, by omega, by go_num, hL5⟩
        case measure => simp [intOf]; omega
      · go_wp2_with fail
        refine (ranges_live hL).mono ?_
        rintro e w5 ⟨rfl, hB5⟩
        go_wp2_with fail
        go_ret
        exact ⟨rfl, hB0.trans ((hL.below.trans (hB5.mono hL.below.size)).mono hB0.size)⟩
theorem ownLaw_walk (W : World) (v0 : Value) (l : List UInt8) (h0 : cBytes.rep W [v0] l) (v1 : Value) (n : Int) (h1 : cInt.rep W [v1] n) (cs2 : Array Value) (s : ScriptD) (h2 : cScript.rep W cs2.toList s) :
    Calls Try.prog 12 #[v0, v1, .agg cs2] W fun e w' => e = .returned (.bool true) ∧ Below W.heap.size W w' := by
  obtain ⟨hb, hl⟩ := cBytes_bs h0
  obtain ⟨h1, _⟩ := h1
  simp only [List.cons.injEq, and_true] at h1
  subst h1
  obtain ⟨x, hcs, hx⟩ := cScript_rd h2
  obtain rfl : cs2 = #[.int .i64 s.count, x] := by
    apply Array.ext'
    rw [hcs]
  exact own_in v0 x l n s.count s.ops W hb hl hx
end Go.Proofs.Ytgnbnkoanoalhaa
