/- WheelOwn returns true. -/
import Derived.Test.YtnnkchgkebcblaaWOwnL
import Derived.Test.YtnnkchgkebcblaaWSteps
import Derived.Test.YtnnkchgkebcblaaPhase
namespace Go.Proofs.Ytnnkchgkebcblaa
set_option linter.unusedVariables false
set_option linter.unusedSimpArgs false
open Go.RowKit
theorem intss_one (xs : List Value) (h : ∀ x ∈ xs, ∃ a n c, x = .slice a n c) : ∀ x ∈ xs, x.oneCell' = true := fun x hx => by
  obtain ⟨a, n, c, rfl⟩ := h x hx
  rfl
set_option maxHeartbeats 8000000 in
set_option maxRecDepth 100000 in
theorem own_in (a b : Nat) (v : Value) (ops : List Opd) (w : World) (hv : OpsRd w v ops) :
    Calls Try.prog 8 #[.int .u64 (a : Int), .int .u64 (b : Int), v] w fun e w' => e = .returned (.bool true) ∧ Below w.heap.size w w' := by
  obtain ⟨ao, cap, rfl, hl, -⟩ := id hv
  have HV := Lib.hid hv
  clear hv
  obtain ⟨n, hn⟩ : ∃ n, n = ops.length := ⟨_, rfl⟩
  rw [← hn] at hl
  have HN := Lib.hid hn
  rw [← hn]
  clear hn
  go_enter Try.func8, Try.ntmps8
  go_wp2_with fail
  refine (two_any a b w).mono ?_
  rintro e w1 ⟨wb, db, gs, rs, Ss, ss, rfl, hD, hB1, rfl⟩
  have hG := Goes.start hD hB1
  have HG := Lib.hid hG
  clear hD hB1 hG
  obtain ⟨ss, hss⟩ : ∃ ss : Nat → WS, ss = pk ⟨min a 281474976710655, 0, []⟩ ⟨min b 281474976710655, 0, []⟩ := ⟨_, rfl⟩
  rw [← hss] at HG
  clear hss
  go_wp2_with fail
  refine (knows_any w1).mono ?_
  rintro e w2 ⟨rfl, hB2⟩
  have HI : Hid (OwnI w w2 0 wb db gs rs Ss ss (.slice none 0 0) (.slice none 0 0) [] [] []) := Lib.hid ⟨HG.out.later hB2, Lists.nil _ _, Lists.nil _ _, .inl rfl, fun R h => (by cases h), Nat.le_refl _⟩
  clear hB2 HG
  go_wp2_with fail
  go_loopw [10, 11, 12] (fun tl wl i wr => ∃ (t : Nat) (Ss : Nat → Nat → Prop) (ss : Nat → WS) (ts us : List Value) (Rs : List (List Int)), t ≤ n ∧ i = .int .i64 (t : Int) ∧ Hid (OwnI w wr t wb db gs rs Ss ss tl wl ts us Rs)) (fun _ _ i _ => n - (intOf i).toNat)
  case atStart => exact ⟨0, Ss, ss, [], [], [], Nat.zero_le _, rfl, HI⟩
  case round =>
    clear HI
    obtain ⟨t, Ss, ss, ts, us, Rs, ht, rfl, HI⟩ := hrel
    by_cases hlt : t < n
    · have ix : (t : Int) < (n : Int) := by omega
      obtain ⟨o, ho⟩ : ∃ o, ops[t]? = some o := ⟨_, List.getElem?_eq_getElem (by rw [← HN.out]; exact hlt)⟩
      obtain ⟨bb, off, rfl, hwf, -, e0, e1, e2, e3⟩ := HV.out.at HI.out.goes.below ho rfl
      have CELLS := Lib.hid (fun w' (hb : Below w.heap.size w w') => HV.out.at hb ho rfl)
      obtain ⟨k, hk, hbits⟩ := and1 o.on
      have cw := HI.out.goes.duos.cw hk
      have cd := HI.out.goes.duos.cd hk
      obtain ⟨gk, hgk⟩ : ∃ p, p = gs k := ⟨_, rfl⟩
      obtain ⟨rk, hrk⟩ : ∃ p, p = rs k := ⟨_, rfl⟩
      rw [← hgk] at cw
      rw [← hrk] at cd
      have kx : (k : Int) < 2 := by omega
      have hsk := HI.out.goes.sets k hk
      have HGK := Lib.hid hgk; have HRK := Lib.hid hrk
      have hBd : Below wr.heap.size wr wr.drew := (Below.refl _ _).drew
      have HI6 := Lib.hid (HI.out.later hBd)
      clear hgk hrk ho hBd
      by_cases k3 : o.kind = 3
      · have hplay : (ss k).play o = ⟨advTime o.at_ (ss k).now, (ss k).sets, stay (ss k).T (advTime o.at_ (ss k).now)⟩ := by unfold WS.play; rw [k3]; rfl
        obtain ⟨Sw, Sr, hwh, hrf, hdis, hS⟩ := HI6.out.goes.duos.duo k hk
        have hTl := hwh.len
        have hids := hwh.ids
        have hlive := fun t ht hv => (hwh.live t ht hv).1
        have cadv := wh_adv hwh o.at_ (by omega)
        rw [← HGK.out] at cadv
        obtain ⟨on, kind, id, at_⟩ := o
        simp only at e0 e1 e2 e3 hbits k3 hplay cadv
        subst k3
        obtain ⟨n2, hn2⟩ : ∃ n2, n2 = advTime at_ (ss k).now := ⟨_, rfl⟩
        obtain ⟨R, hR⟩ : ∃ R, R = rings (ss k).T n2 := ⟨_, rfl⟩
        have hRl : R.length ≤ 4398046511104 := by
          have := rings_stay_len (ss k).T n2
          rw [← hR] at this
          omega
        rw [← hn2, ← hR] at cadv
        obtain ⟨rn, hrn⟩ : ∃ rn, rn = R.length := ⟨_, rfl⟩
        rw [← hrn] at cadv hRl
        have told6 := HI6.out.told
        have hfew := HI.out.few
        obtain ⟨to, tc, rfl, -⟩ := own_open told6.own
        obtain ⟨wo, wc, rfl, -⟩ := own_open HI6.out.want.own
        have htl := told6.len
        have hul := HI6.out.want.len
        obtain ⟨m, hm⟩ : ∃ m, m = ts.length := ⟨_, rfl⟩
        obtain ⟨m2, hm2⟩ : ∃ m2, m2 = us.length := ⟨_, rfl⟩
        have hm24 : (m + 1) * 24 ≤ 140737488355328 := by omega
        have hm224 : (m2 + 1) * 24 ≤ 140737488355328 := by omega
        have HM := Lib.hid hm; have HM2 := Lib.hid hm2
        have HWH := Lib.hid hwh; have HRF := Lib.hid hrf; have HDIS := Lib.hid hdis; have HS := Lib.hid hS; have HCADV := Lib.hid cadv; have HN2 := Lib.hid hn2; have HR := Lib.hid hR; have HRN := Lib.hid hrn; have HPL := Lib.hid hplay; have HIDS := Lib.hid hids; have HLIVE := Lib.hid hlive
        have HTB := Lib.hid (show (ss k).T.length ≤ 4398046511104 by omega)
        rw [← hm, ← hm2]
        clear hwh hrf hdis hS cadv hn2 hR hrn hplay hids hlive told6 htl hul hm hm2 hTl hsk
        go_wp2_with fail
        clear hbits
        go_region_law (first
          | (go_simp; go_at_call 20; (refine HCADV.out.mono ?_); rintro e w7 ⟨v7, S7, rfl, hx7, -, h7, t7, -⟩; rw [HGK.out] at h7; obtain ⟨xo, xc, rfl, -⟩ := own_open hx7; have told7 := HI6.out.told.turn t7 (fun ho hE => HWH.out.alien ho hE); have z7 : w.heap.size ≤ w7.heap.size := Nat.le_trans HI6.out.goes.below.size t7.same.size; have own7 := told7.own; rw [← HM.out] at own7; have OWN7 := Lib.hid own7; have HX7 := Lib.hid hx7; have H7 := Lib.hid h7; have T7 := Lib.hid t7; clear told7 own7 hx7 h7 t7)
          | (go_loud (refine step_app El.intss rfl (.tmp 46) (.tmp 57) rfl (by first | exact OWN7.out.alloc _ | exact (OWN7.out.alloc _).drew) rfl (by first | exact Rd.new _ _ [.slice xo rn xc] 1 (by simp [maxLen]) | exact Rd.drew (Rd.new _ _ [.slice xo rn xc] 1 (by simp [maxLen]))) rfl rfl (by intro x hx; simp at hx; subst hx; rfl) hm24 (by simp; omega) ?_); intro v8 w8 hown8 hgr8 hN8; obtain ⟨to8, tc8, rfl, -⟩ := own_open hown8))
        all_goals
          have hgr8' : w7.grownBy w8 (Value.slice to m tc).ownBlock := grown_pre ((Below.refl _ _).alloc (Nat.le_refl _) _) hgr8
          have hN8' : Newer w7 (Value.slice to m tc) (Value.slice to8 (m + 1) tc8) := hN8.pre (by simp)
          have hM := own_mid HI6.out hk HWH.out HRF.out HDIS.out HS.out H7.out T7.out (R := R) (by rw [← HRN.out]; exact HX7.out) (tl' := Value.slice to8 (m + 1) tc8) (by rw [← HM.out]; exact hown8) (by rw [← HM.out]; exact hgr8')
          have MID := Lib.hid hM.1; have W8 := Lib.hid hM.2; have G8 := Lib.hid hgr8'; have N8 := Lib.hid hN8'
          have cd8 := MID.out.cd
          rw [← HRK.out] at cd8
          obtain ⟨bb', off', hbe, -, -, -, -, -, e38⟩ := CELLS.out w8 MID.out.below
          injection hbe with q1
          injection q1 with q1 q2
          subst q1; subst q2
          have cadv2 := rf_adv (MID.out.rf.later (w' := w8.drew) (Below.refl _ _).drew) at_ HIDS.out HTB.out HLIVE.out
          rw [← HN2.out, ← HR.out, ← HRN.out, ← HRK.out] at cadv2
          have HC2 := Lib.hid cadv2
          have want8 := MID.out.want.own
          clear hown8 hgr8 hN8 hgr8' hN8' hM cadv2 e0 e1 e2 e3 cw cd
          go_wp2_with fail
          go_region_law (first
            | (go_simp; go_at_call 21; (refine HC2.out.mono ?_); rintro e w9 ⟨v9, S9, rfl, hx9, h9, t9, -⟩; rw [HRK.out] at h9; obtain ⟨yo, yc, rfl, -⟩ := own_open hx9; have want9 := MID.out.want.turn (w' := w9) ⟨⟨t9.same.os, t9.same.tape, t9.same.output, t9.same.size, t9.same.block⟩, t9.foot⟩ (fun ho hE => MID.out.rf.alien ho hE); have z9 : w.heap.size ≤ w9.heap.size := Nat.le_trans MID.out.below.size t9.same.size; have own9 := want9.own; rw [← HM2.out] at own9; have OWN9 := Lib.hid own9; have HX9 := Lib.hid hx9; have H9 := Lib.hid h9; have T9 : Hid (Turn Sr S9 w8 w9) := Lib.hid ⟨⟨t9.same.os, t9.same.tape, t9.same.output, t9.same.size, t9.same.block⟩, t9.foot⟩; clear want9 own9 hx9 h9 t9)
            | (go_loud (refine step_app El.intss rfl (.tmp 59) (.tmp 70) rfl (by first | exact OWN9.out.alloc _ | exact (OWN9.out.alloc _).drew) rfl (by first | exact Rd.new _ _ [.slice yo rn yc] 1 (by simp [maxLen]) | exact Rd.drew (Rd.new _ _ [.slice yo rn yc] 1 (by simp [maxLen]))) rfl rfl (by intro x hx; simp at hx; subst hx; rfl) hm224 (by simp; omega) ?_); intro v10 w10 hown10 hgr10 hN10; obtain ⟨wo10, wc10, rfl, -⟩ := own_open hown10))
          all_goals
            have hgr10' : w9.grownBy w10 (Value.slice wo m2 wc).ownBlock := grown_pre ((Below.refl _ _).alloc (Nat.le_refl _) _) hgr10
            have hN10' : Newer w9 (Value.slice wo m2 wc) (Value.slice wo10 (m2 + 1) wc10) := hN10.pre (by simp)
            have hfin := own_step HI6.out hk HS.out T7.out (by rw [← HM.out]; exact G8.out) (by rw [← HM.out]; exact N8.out) MID.out W8.out H9.out T9.out (R := R) (by rw [← HRN.out]; exact HX9.out) (wl' := Value.slice wo10 (m2 + 1) wc10) (by rw [← HM2.out]; exact hown10) (by rw [← HM2.out]; exact hgr10') (by rw [← HM2.out]; exact hN10') (by rw [← HRN.out]; exact hRl)
            have HF := Lib.hid hfin
            clear hfin hown10 hgr10 hN10 hgr10' hN10'
            go_wp2_with fail
            go_roundw
            case rel => exact ⟨t + 1, _, _, _, _, _, by omega, by go_num, HF⟩
            case measure => simp [intOf]; omega
      · have b3 : (o.kind == 3) = false := by simpa using k3
        have c := plays_any (HI6.out.goes.duos.duo k hk) o hwf (by omega)
        rw [← HGK.out, ← HRK.out] at c
        have HC := Lib.hid c
        obtain ⟨to, tc, htv, -⟩ := own_open HI6.out.told.own
        obtain ⟨wo, wc, hwv, -⟩ := own_open HI6.out.want.own
        obtain ⟨on, kind, id, at_⟩ := o
        simp only at e0 e1 e2 e3 hbits b3
        clear c k3 htv hwv hsk
        go_wp2_with fail
        clear hbits
        go_region_law (go_simp; go_at_call 19; (refine HC.out.mono ?_); rintro e w7 ⟨rfl, S7, d7, t7⟩; rw [HGK.out, HRK.out] at d7; have HI7 := Lib.hid (HI6.out.play hk d7 t7); clear d7 t7)
        all_goals
          go_wp2_with fail
          go_roundw
          case rel => exact ⟨t + 1, _, _, _, _, _, by omega, by go_num, HI7⟩
          case measure => simp [intOf]; omega
    · obtain rfl : t = n := by omega
      obtain ⟨to, tc, rfl, -⟩ := own_open HI.out.told.own
      obtain ⟨wo, wc, rfl, -⟩ := own_open HI.out.want.own
      have htl := HI.out.told.len
      have hul := HI.out.want.len
      obtain ⟨m, hm⟩ : ∃ m, m = ts.length := ⟨_, rfl⟩
      obtain ⟨m2, hm2⟩ : ∃ m2, m2 = us.length := ⟨_, rfl⟩
      have hmm : m2 = m := by omega
      subst hmm
      have hfew := HI.out.few
      have hmb : m2 ≤ 4398046511104 := by omega
      have HM := Lib.hid hm; have HM2 := Lib.hid hm2; have HTL := Lib.hid htl
      rw [← hm, ← hm2]
      obtain ⟨wx, hwx⟩ : ∃ wx, wx = wr := ⟨_, rfl⟩
      subst hwx
      clear hm hm2 htl hul hfew
      go_wp2_with fail
      go_loopw [14] (fun i wr => ∃ (j : Nat), j ≤ m2 ∧ i = .int .i64 (j : Int) ∧ Hid (OwnI w wr t wb db gs rs Ss ss (.slice to m2 tc) (.slice wo m2 wc) ts us Rs)) (fun i _ => m2 - (intOf i).toNat)
      case atStart => exact ⟨0, Nat.zero_le _, rfl, by have := HI.out; rw [← HM.out, ← HM2.out] at this; exact Lib.hid this⟩
      case round =>
        clear HI
        obtain ⟨j, hj, rfl, HI⟩ := hrel
        by_cases hjm : j < m2
        · have ixj : (j : Int) < (m2 : Int) := by omega
          obtain ⟨x, hx⟩ : ∃ x, ts[j]? = some x := ⟨_, List.getElem?_eq_getElem (by rw [← HM.out]; exact hjm)⟩
          obtain ⟨y, hy⟩ : ∃ y, us[j]? = some y := ⟨_, List.getElem?_eq_getElem (by rw [← HM2.out]; exact hjm)⟩
          have tR := Rd.of_own HI.out.told.own
          have uR := Rd.of_own HI.out.want.own
          obtain ⟨tb, toff, tcap, heq, -, -, -, tcell⟩ := tR.form fun e => by rw [e] at hx; simp at hx
          injection heq with q1 q2 q3
          subst q1
          obtain ⟨ub', uoff, ucap, heq, -, -, -, ucell⟩ := uR.form fun e => by rw [e] at hy; simp at hy
          injection heq with q4 q5 q6
          subst q4
          have c1 := tcell j x hx
          have c2 := ucell j y hy
          obtain ⟨xo, xc, rfl, -⟩ := own_open (HI.out.told.rows.own j x hx)
          obtain ⟨yo, yc, rfl, -⟩ := own_open (HI.out.want.rows.own j y hy)
          obtain ⟨R, hR⟩ : ∃ R, R = Rs.getD j [] := ⟨_, rfl⟩
          obtain ⟨rn, hrn⟩ : ∃ rn, rn = R.length := ⟨_, rfl⟩
          have cs : ∀ w', OwnI w w' t wb db gs rs Ss ss (.slice (some ⟨tb, toff, none⟩) m2 tc) (.slice (some ⟨ub', uoff, none⟩) m2 wc) ts us Rs → Calls Try.prog 22 #[.slice xo rn xc, .slice yo rn yc] w' fun e w'' => e = .returned (.bool true) ∧ Below w'.heap.size w' w'' := fun w' h => by
            have h1 := h.told.rows.own j _ hx
            have h2 := h.want.rows.own j _ hy
            rw [← hR, ← hrn] at h1 h2
            have c := sames_any _ _ R R w' (by rw [← hrn]; exact Rd.of_own h1) (by rw [← hrn]; exact Rd.of_own h2)
            rwa [decide_eq_true rfl] at c
          rw [← hR, ← hrn] at c1 c2
          have HCS := Lib.hid cs
          clear tR uR tcell ucell q2 q3 q5 q6 hx hy cs hR hrn
          go_wp2_with fail
          refine region_class (C := fun w' => w'.cell? ⟨tb, toff + j, none⟩ = some (.slice xo rn xc) ∧ w'.cell? ⟨ub', uoff + j, none⟩ = some (.slice yo rn yc) ∧ Hid (OwnI w w' t wb db gs rs Ss ss (.slice (some ⟨tb, toff, none⟩) m2 tc) (.slice (some ⟨ub', uoff, none⟩) m2 wc) ts us Rs)) (by kernel_rfl) (by kernel_rfl) ⟨c1, c2, Lib.hid (HI.out.later (Below.refl _ _).drew)⟩ ?_
          repeat (first
            | go_big_quiet_skip
            | (go_big_quiet_want
               rename_i K hK
               apply Exists.intro
               refine ⟨fun w' hw' => ?_, hK _ ?_⟩
               obtain ⟨r1, r2, r3⟩ := hw'
               go_simp
               first
                 | (go_at_call 22
                    (with_reducible refine (HCS.out _ r3.out).mono ?_)
                    rintro e w5 ⟨rfl, b5⟩
                    exact ⟨rfl, below_cell b5 r1 (World.block_lt_of_cell? _ _ r1), below_cell b5 r2 (World.block_lt_of_cell? _ _ r2), Lib.hid (r3.out.later b5)⟩)
                 | with_reducible rfl
               clear hK K
               simp only [Act.put, List.setIfInBounds_toArray, List.set_cons_zero, List.set_cons_succ]))
          refine wpQuiet_nil ?_
          rintro w9 ⟨-, -, HI9⟩
          clear c1 c2
          go_wp2_with fail
          go_roundw
          case rel => exact ⟨j + 1, by omega, by go_num, HI9⟩
          case measure => simp [intOf]; omega
        · obtain rfl : j = m2 := by omega
          obtain ⟨p0, hp0⟩ : ∃ p, p = gs 0 := ⟨_, rfl⟩
          obtain ⟨p1, hp1⟩ : ∃ p, p = gs 1 := ⟨_, rfl⟩
          obtain ⟨q0, hq0⟩ : ∃ p, p = rs 0 := ⟨_, rfl⟩
          obtain ⟨q1, hq1⟩ : ∃ p, p = rs 1 := ⟨_, rfl⟩
          have E0 := Lib.hid hp0; have E1 := Lib.hid hp1; have E2 := Lib.hid hq0; have E3 := Lib.hid hq1
          clear hp0 hp1 hq0 hq1
          have zs : ∀ w', Goes w w' t wb db gs rs Ss ss → w'.cell? ⟨wb, 0, none⟩ = some (.pointer (some ⟨p0, 0, none⟩)) ∧ w'.cell? ⟨wb, 1, none⟩ = some (.pointer (some ⟨p1, 0, none⟩)) ∧ w'.cell? ⟨db, 0, none⟩ = some (.pointer (some ⟨q0, 0, none⟩)) ∧ w'.cell? ⟨db, 1, none⟩ = some (.pointer (some ⟨q1, 0, none⟩)) := fun _ h => by
            have a0 := h.duos.cw (k := 0) (by omega)
            have a1 := h.duos.cw (k := 1) (by omega)
            have d0 := h.duos.cd (k := 0) (by omega)
            have d1 := h.duos.cd (k := 1) (by omega)
            rw [← E0.out] at a0
            rw [← E1.out] at a1
            rw [← E2.out] at d0
            rw [← E3.out] at d1
            exact ⟨a0, a1, d0, d1⟩
          have sh0 : ∀ w', Goes w w' t wb db gs rs Ss ss → Calls Try.prog 15 #[.pointer (some ⟨p0, 0, none⟩), .pointer (some ⟨q0, 0, none⟩)] w' fun e w'' => e = .returned (.bool true) ∧ Goes w w'' t wb db gs rs Ss ss ∧ Below w'.heap.size w' w'' := fun _ h => by
            have c := shows_goes (k := 0) h (by omega) (by omega)
            rwa [← E0.out, ← E2.out] at c
          have sh1 : ∀ w', Goes w w' t wb db gs rs Ss ss → Calls Try.prog 15 #[.pointer (some ⟨p1, 0, none⟩), .pointer (some ⟨q1, 0, none⟩)] w' fun e w'' => e = .returned (.bool true) ∧ Goes w w'' t wb db gs rs Ss ss ∧ Below w'.heap.size w' w'' := fun _ h => by
            have c := shows_goes (k := 1) h (by omega) (by omega)
            rwa [← E1.out, ← E3.out] at c
          have ZS := Lib.hid zs; have SH0 := Lib.hid sh0; have SH1 := Lib.hid sh1
          have cap := (HI.out.later (w' := wr.drew) (Below.refl _ _).drew).apartInts (by omega)
          have HCAP := Lib.hid cap
          clear zs sh0 sh1 cap
          go_wp2_with fail
          refine region_phases [1] (by kernel_rfl) (by kernel_rfl) ?_
          refine phases_more (fun w' => w' = wr.drew) rfl ?_
          simp only [List.take_succ_cons, List.take_zero, List.drop_zero]
          repeat (first
            | go_big_quiet_skip
            | (go_big_quiet_want
               rename_i K hK
               apply Exists.intro
               refine ⟨fun w' hw' => ?_, hK _ ?_⟩
               subst hw'
               go_simp
               with_reducible rfl
               clear hK K
               simp only [Act.put, List.setIfInBounds_toArray, List.set_cons_zero, List.set_cons_succ]))
          refine wpQuiet_nil ?_
          rintro w7 rfl
          refine phases_op rfl rfl (fun K hK => ?_)
          go_simp
          go_at_call 23
          refine HCAP.out.mono ?_
          rintro e w7 ⟨rfl, g7⟩
          obtain ⟨z1, z2, z3, z4⟩ := ZS.out _ g7
          refine hK _ _ (phases_last (fun w' => w'.cell? ⟨wb, 0, none⟩ = some (.pointer (some ⟨p0, 0, none⟩)) ∧ w'.cell? ⟨wb, 1, none⟩ = some (.pointer (some ⟨p1, 0, none⟩)) ∧ w'.cell? ⟨db, 0, none⟩ = some (.pointer (some ⟨q0, 0, none⟩)) ∧ w'.cell? ⟨db, 1, none⟩ = some (.pointer (some ⟨q1, 0, none⟩)) ∧ Hid (Goes w w' t wb db gs rs Ss ss)) ⟨z1, z2, z3, z4, Lib.hid g7⟩ ?_)
          clear hK K g7
          simp only [Act.put, List.setIfInBounds_toArray, List.set_cons_zero, List.set_cons_succ, List.drop_succ_cons, List.drop_zero]
          repeat (first
            | go_big_quiet_skip
            | (go_big_quiet_want
               rename_i K hK
               apply Exists.intro
               refine ⟨fun w' hw' => ?_, hK _ ?_⟩
               obtain ⟨r1, r2, r3, r4, r5⟩ := hw'
               go_simp
               first
                 | (go_at_call 15
                    first
                      | (with_reducible refine (SH0.out _ r5.out).mono ?_)
                      | (with_reducible refine (SH1.out _ r5.out).mono ?_)
                    rintro e w5 ⟨rfl, g5, b5⟩
                    exact ⟨rfl, below_cell b5 r1 (World.block_lt_of_cell? _ _ r1), below_cell b5 r2 (World.block_lt_of_cell? _ _ r2), below_cell b5 r3 (World.block_lt_of_cell? _ _ r3), below_cell b5 r4 (World.block_lt_of_cell? _ _ r4), Lib.hid g5⟩)
                 | with_reducible rfl
               clear hK K
               simp only [Act.put, List.setIfInBounds_toArray, List.set_cons_zero, List.set_cons_succ]))
          refine wpQuiet_nil ?_
          rintro w9 ⟨-, -, -, -, HG9⟩
          clear z1 z2 z3 z4
          obtain ⟨z1, z2, z3, z4⟩ := ZS.out _ HG9.out
          have hG := HG9.out.later (w2 := w9.drew) (Below.refl _ _).drew
          have hlt := fun b => (hG.duos.duo 0 (by omega)).lt (b := b)
          have hlo := fun b (hb : Ss 0 b) => (hG.duos.nw 0 b (by omega) hb).2.2
          have hsk := hG.sets 0 (by omega)
          obtain ⟨Sw, Sr, hwh, hrf, hdis, hS⟩ := hG.duos.duo 0 (by omega)
          have hids := hwh.ids
          have hlive := fun t ht hv => (hwh.live t ht hv).1
          have hTl := hwh.len
          have cadv := wh_adv hwh 281474976710655 (by omega)
          obtain ⟨n2, hn2⟩ : ∃ n2, n2 = advTime 281474976710655 (ss 0).now := ⟨_, rfl⟩
          obtain ⟨R, hR⟩ : ∃ R, R = rings (ss 0).T n2 := ⟨_, rfl⟩
          rw [← hn2, ← hR] at cadv
          change Calls Try.prog _ #[_, .int .u64 281474976710655] _ _ at cadv
          obtain ⟨gp, hgp⟩ : ∃ gp, gp = gs 0 := ⟨_, rfl⟩
          have hgp2 : gp = p0 := hgp.trans E0.out.symm
          rw [← E0.out] at cadv hwh
          rw [← E2.out] at hrf
          have HN2 := Lib.hid hn2; have HR := Lib.hid hR; have HIDS := Lib.hid hids; have HLIVE := Lib.hid hlive; have HTL2 := Lib.hid (show (ss 0).T.length ≤ 4398046511104 by omega); have HWH := Lib.hid hwh; have HRF := Lib.hid hrf; have HDIS := Lib.hid hdis; have HS := Lib.hid hS; have HLT := Lib.hid hlt; have HC := Lib.hid cadv; have HB := Lib.hid hG.below; have HLO := Lib.hid hlo
          have HSK : (ss 0).sets ≤ 4398046511104 := by omega
          clear hG hlt hsk hwh hrf hdis hS hids hlive hTl cadv hn2 hR hgp hgp2 hlo
          go_wp2_with fail
          have cells : ∀ w', Same (fun b => Sw b ∨ Sr b) w9.drew w' → w'.cell? ⟨wb, 0, none⟩ = some (.pointer (some ⟨p0, 0, none⟩)) ∧ w'.cell? ⟨db, 0, none⟩ = some (.pointer (some ⟨q0, 0, none⟩)) := fun w' hs =>
            ⟨hs.cell_some (w := w9.drew) z1 (fun e => (HG9.out.duos.nw 0 _ (by omega) ((HS.out _).1 e)).1 rfl), hs.cell_some (w := w9.drew) z3 (fun e => (HG9.out.duos.nw 0 _ (by omega) ((HS.out _).1 e)).2.1 rfl)⟩
          have CELLS2 := Lib.hid cells
          clear cells
          go_region_law (first
            | (go_simp; go_at_call 20; (refine HC.out.mono ?_); rintro e w10 ⟨v10, S10, rfl, ho10, -, h10, t10, -⟩; obtain ⟨y1, y2⟩ := CELLS2.out w10 (t10.same.mono fun b _ e => .inl e); have R10 := Lib.hid (t10.rf HDIS.out HRF.out).1; have T10 := Lib.hid t10; have H10 := Lib.hid h10; have O10 := Lib.hid ho10; have c11 := rf_adv (t10.rf HDIS.out HRF.out).1 281474976710655 HIDS.out HTL2.out HLIVE.out; rw [← HN2.out, ← HR.out] at c11; change Calls Try.prog _ #[_, .int .u64 281474976710655] _ _ at c11; have C11 := Lib.hid c11; clear ho10 h10 t10 c11)
            | (go_simp; go_at_call 21; (refine C11.out.mono ?_); rintro e w11 ⟨v11, S11, rfl, ho11, h11, t11, -⟩; have hd := duo_mk HS.out HDIS.out HLT.out (Below.refl _ _) T10.out t11 H10.out h11; have o10 := own_same O10.out t11.same (fun b hb e => by have h1 := (O10.out.lt b hb).1; have h2 := HLT.out b ((HS.out b).1 (.inr e)); simp at h1 h2; omega); obtain ⟨x1, x2⟩ := CELLS2.out w11 (T10.out.same.mono (fun b _ e => .inl e) |>.trans t11.same (fun b _ e => .inr e)); have HD := Lib.hid hd; have V10 := Lib.hid o10; have V11 := Lib.hid ho11; clear hd o10 ho11 h11 t11)
            | (go_simp; go_at_call 22; (refine (sames_any _ _ R R _ (Rd.of_own V10.out) (Rd.of_own V11.out)).mono ?_); rw [decide_eq_true rfl]; rintro e w12 ⟨rfl, b12⟩; have x1 := below_cell b12 x1 (World.block_lt_of_cell? _ _ x1); have x2 := below_cell b12 x2 (World.block_lt_of_cell? _ _ x2); have B12 := Lib.hid b12; clear b12)
            | (go_simp; go_at_call 15; obtain ⟨S12, d12, t12⟩ := HD.out; (refine (shows_any (d12.later B12.out) HSK).mono ?_); rintro e w13 ⟨rfl, b13⟩; have HF := Lib.hid (HB.out.trans (t12.same.belowB (B := w.heap.size) fun j hj => ⟨Nat.lt_of_lt_of_le hj HB.out.size, fun e => by have := HLO.out j e; omega⟩)); have B13 := Lib.hid (below_trans B12.out b13); clear b13 t12 d12))
          all_goals
            go_wp2_with fail
            go_ret
            exact ⟨rfl, HF.out.trans (B13.out.mono HF.out.size)⟩
theorem ownLaw_walk (W : World) (v0 : Int) (x0 : Int) (h0 : cU64.rep W [.int .u64 v0] x0) (v1 : Int) (x1 : Int) (h1 : cU64.rep W [.int .u64 v1] x1) (v2 : Value) (x2) (h2 : cOps.rep W [v2] x2) :
    Calls Try.prog 8 #[.int .u64 v0, .int .u64 v1, v2] W fun e w' => e = .returned (.bool true) ∧ Below W.heap.size W w' := by
  have nat : ∀ {v x : Int}, cU64.rep W [.int .u64 v] x → ∃ n : Nat, v = (n : Int) := fun {v x} h => by
    obtain ⟨a1, a2⟩ := h
    simp only [List.cons.injEq, Value.int.injEq, true_and, and_true] at a1
    subst a1
    exact ⟨_, (u64_nat a2).symm⟩
  obtain ⟨a, rfl⟩ := nat h0
  obtain ⟨b, rfl⟩ := nat h1
  exact own_in a b v2 _ W (cOps_rd h2)
end Go.Proofs.Ytnnkchgkebcblaa
