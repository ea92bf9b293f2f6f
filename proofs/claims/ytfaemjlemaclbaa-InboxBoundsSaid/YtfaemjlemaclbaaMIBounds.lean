/- InboxBounds returns true. -/
import Derived.Test.YtfaemjlemaclbaaMIGo
namespace Go.Proofs.Ytfaemjlemaclbaa
set_option linter.unusedVariables false
set_option linter.unusedSimpArgs false
open Go.RowKit Go.Maps
/-- the marks of a bounded inbox. -/
structure Bd (A B e0 : Nat) (m : IM) : Prop where
  apart : Apart m
  inv : IInv m
  room : Room m
  mo : m.mo = A
  ms : m.ms = B
  ep : e0 ≤ m.ep.toNat
set_option maxHeartbeats 8000000 in
set_option maxRecDepth 100000 in
theorem ibounds_in (a b : Int) (v : Value) (ops : List OpI) (w : World) (hv : OpsRdI w v ops) :
    Calls Try.prog 7 #[.int .i64 a, .int .i64 b, v] w fun e w' => e = .returned (.bool true) ∧ Below w.heap.size w w' := by
  obtain ⟨ao, cap, rfl, hl, -⟩ := id hv
  have HV := Lib.hid hv
  clear hv
  obtain ⟨n, hn⟩ : ∃ n, n = ops.length := ⟨_, rfl⟩
  rw [← hn] at hl
  have HN := Lib.hid hn
  rw [← hn]
  clear hn
  go_enter Try.func7, Try.ntmps7
  go_wp2_with fail
  have c := within_any a 64 w (by decide) (by decide)
  change Calls Try.prog _ #[_, .int .i64 64] _ _ at c
  refine c.mono ?_
  clear c
  rintro e w1 ⟨k1, hk1, rfl, hw⟩
  rw [hw]
  clear hw w1
  go_wp2_with fail
  have c := within_any b 4096 w (by decide) (by decide)
  change Calls Try.prog _ #[_, .int .i64 4096] _ _ at c
  refine c.mono ?_
  clear c
  rintro e w1 ⟨k2, hk2, rfl, hw⟩
  rw [hw]
  clear hw w1
  obtain ⟨A, hA⟩ : ∃ A : Nat, A = 1 + k1 := ⟨_, rfl⟩
  obtain ⟨B, hB⟩ : ∃ B : Nat, B = 1 + k2 := ⟨_, rfl⟩
  have eA : (1 : Int) + (k1 : Int) = (A : Int) := by omega
  have eB : (1 : Int) + (k2 : Int) = (B : Int) := by omega
  have hok : newOk (A : Int) (B : Int) := ⟨by omega, by omega, by omega, by omega⟩
  clear hA hB
  go_wp2_with fail
  refine (inew_yes A B w hok).mono ?_
  rintro e w1 ⟨x, S, rfl, h1, hS, hB1⟩
  have hG : GoesX w w1 0 x S ⟨A, B, 0, [], []⟩ := ⟨h1, hB1, hS⟩
  have hD : Bd A B 0 ⟨A, B, 0, [], []⟩ := ⟨(fun s b c hb => by cases hb), h1.inv, h1.room, rfl, rfl, Nat.zero_le _⟩
  obtain ⟨m, hm⟩ : ∃ m : IM, m = ⟨A, B, 0, [], []⟩ := ⟨_, rfl⟩
  rw [← hm] at hG hD
  have HG := Lib.hid hG; have HD := Lib.hid hD
  clear h1 hS hB1 hG hD hm eA eB hk1 hk2
  go_wp2_with fail
  refine (knows_any _).mono ?_
  rintro e w9 ⟨rfl, hB9⟩
  have HG' := Lib.hid (HG.out.later hB9)
  clear HG hB9
  go_wp2_with fail
  go_loopw [9, 10] (fun la i wr => ∃ (t e0 : Nat) (S : Nat → Prop) (m : IM), t ≤ n ∧ la = .int .u64 (e0 : Int) ∧ i = .int .i64 (t : Int) ∧ Hid (GoesX w wr t x S m) ∧ Hid (Bd A B e0 m)) (fun _ i _ => n - (intOf i).toNat)
  case atStart => exact ⟨0, 0, S, m, Nat.zero_le _, rfl, rfl, HG', HD⟩
  case round =>
    clear HG' HD
    obtain ⟨t, e0', S, m, ht, rfl, rfl, HG, HD⟩ := hrel
    by_cases hlt : t < n
    · obtain ⟨o, ho⟩ : ∃ o, ops[t]? = some o := ⟨_, List.getElem?_eq_getElem (by rw [← HN.out]; exact hlt)⟩
      obtain ⟨bb, off, dv, gv, rfl, hu, f1, f2, hcell⟩ := HV.out.at HG.out.below ho rfl
      have c := HG.out.does o hu f1 (by omega)
      have hbd : Bd A B e0' (m.play o) := ⟨HD.out.apart.play o, HD.out.inv.play o, HD.out.room.play HD.out.inv o, (After.play m o).mo.trans HD.out.mo, (After.play m o).ms.trans HD.out.ms, Nat.le_trans HD.out.ep (After.play m o).ep⟩
      have HBD := Lib.hid hbd
      obtain ⟨m', hm'⟩ : ∃ m', m' = m.play o := ⟨_, rfl⟩
      rw [← hm'] at HBD
      have HM' := Lib.hid hm'
      clear hm' hbd
      obtain ⟨okind, ⟨ukind, uep, uses, path, idx, cnt, data, ucode, got⟩, oep, onum, ocode⟩ := o
      simp only [opv] at c
      have e0 := hcell 0 _ rfl
      rw [← Nat.add_assoc] at e0
      have e1 := hcell 1 _ rfl
      rw [← Nat.add_assoc] at e1
      have e2 := hcell 2 _ rfl
      rw [← Nat.add_assoc] at e2
      have e3 := hcell 3 _ rfl
      rw [← Nat.add_assoc] at e3
      have e4 := hcell 4 _ rfl
      rw [← Nat.add_assoc] at e4
      have e5 := hcell 5 _ rfl
      rw [← Nat.add_assoc] at e5
      have e6 := hcell 6 _ rfl
      rw [← Nat.add_assoc] at e6
      have e7 := hcell 7 _ rfl
      rw [← Nat.add_assoc] at e7
      have e8 := hcell 8 _ rfl
      rw [← Nat.add_assoc] at e8
      have e9 := hcell 9 _ rfl
      rw [← Nat.add_assoc] at e9
      have e10 := hcell 10 _ rfl
      rw [← Nat.add_assoc] at e10
      have e11 := hcell 11 _ rfl
      rw [← Nat.add_assoc] at e11
      have e12 := hcell 12 _ rfl
      rw [← Nat.add_assoc] at e12
      simp only [Nat.add_zero] at e0
      simp only at e1 e2 e3 e4 e5 e6 e8 e10 e11 e12
      have hdv := hu.dat
      have hgv := hu.got
      simp only at hdv hgv
      obtain ⟨dp, dc, rfl, -⟩ := id hdv
      obtain ⟨gp, gc, rfl, -⟩ := id hgv
      have HC := Lib.hid c
      have ix : (t : Int) < (n : Int) := by omega
      clear c hu f1 f2 hcell hdv hgv ho
      go_wp2_with fail
      refine HC.out.mono ?_
      rintro e w2 ⟨st, cd, er, ga, gn, gcc, ba, bn, bcc, rfl, -, -, S2, h2, -⟩
      rw [← HM'.out] at h2
      have HG2 := Lib.hid h2
      clear h2 HC e0 e1 e2 e3 e4 e5 e6 e7 e8 e9 e10 e11 e12
      go_wp2_with fail
      obtain ⟨N, hN⟩ : ∃ N, N = m'.O.length := ⟨_, rfl⟩
      obtain ⟨M, hM⟩ : ∃ M, M = m'.C.length := ⟨_, rfl⟩
      obtain ⟨E, hE⟩ : ∃ E, E = m'.ep.toNat := ⟨_, rfl⟩
      have hNA : ¬ (A : Int) < (N : Int) := by have := HBD.out.inv.lo; have := HBD.out.mo; omega
      have hMB : ¬ (B : Int) < (M : Int) := by have h1 := HBD.out.room; have h2 := HBD.out.ms; unfold Room at h1; omega
      have hEe : ¬ (E : Int) < (e0' : Int) := by have := HBD.out.ep; omega
      have hN64 : N ≤ 64 := by have := HBD.out.inv.lo; have := HBD.out.inv.mo2; omega
      have hM96 : M ≤ 4097 := by have := HBD.out.inv.lc; have := HBD.out.inv.ms2; omega
      have HNN := Lib.hid hN; have HMM := Lib.hid hM; have HEE := Lib.hid hE
      clear hN hM hE
      refine (in_open HG2.out.inb).mono ?_
      rintro e w3 ⟨v1, rfl, ho1, hB3⟩
      rw [← HNN.out] at ho1
      have HG3 := Lib.hid (HG2.out.later hB3)
      obtain ⟨a1, cap1, rfl, hk1, hk2, -⟩ := own_open ho1
      have HO1 := Lib.hid ho1; have HB3 := Lib.hid hB3
      clear ho1 hB3
      go_wp2_with fail
      refine (in_decided HG3.out.inb).mono ?_
      rintro e w4 ⟨v2, rfl, ho2, hB4⟩
      rw [← HMM.out] at ho2
      have HG4 := Lib.hid (HG3.out.later hB4)
      obtain ⟨a2, cap2, rfl, hk3, hk4, -⟩ := own_open ho2
      have HO2 := Lib.hid ho2; have HO1b := Lib.hid (own_later HO1.out hB4); have HB4 := Lib.hid hB4
      clear ho2 hB4 HO1 HG2 HG3
      simp only [maxLen] at hk2 hk4
      go_wp2_with fail
      have hepc : ∀ W, In W x S2 (t + 1) m' → Calls Try.prog 25 #[.pointer (some ⟨x, 0, none⟩)] W fun e w' => e = .returned (.int .u64 (E : Int)) ∧ w' = W := fun W h => by
        have := in_epoch h
        rwa [← HEE.out] at this
      have HEPC := Lib.hid hepc
      clear hepc
      refine (HEPC.out _ HG4.out.inb).mono ?_
      rintro e w5 ⟨rfl, hw⟩
      rw [hw]
      clear hw w5
      go_wp2_with fail
      refine (HEPC.out _ HG4.out.inb).mono ?_
      rintro e w5 ⟨rfl, hw⟩
      rw [hw]
      clear hw w5
      have hs1 : ((m'.O.map (·.1)).flatMap sc).length = N * 2 := by rw [HNN.out, sc_len, List.length_map]
      have hs2 : ((m'.C.map (·.1)).flatMap sc).length = M * 2 := by rw [HMM.out, sc_len, List.length_map]
      have HS1 := Lib.hid hs1; have HS2 := Lib.hid hs2
      clear hs1 hs2
      have hal : m'.all.length = N + M := by rw [IM.all, List.length_append, List.length_map, List.length_map, HNN.out, HMM.out]
      have HAL := Lib.hid hal
      clear hal
      have hall : (m'.O.map (·.1)).flatMap sc ++ (m'.C.map (·.1)).flatMap sc = m'.all.flatMap sc := by rw [IM.all, List.flatMap_append]
      have HALL := Lib.hid hall
      clear hall
      go_wp2_with (first
        | (at_builtin; (refine wpList_app El.sess rfl (.const (.slice none 0 0)) (.tmp 71) rfl (World.ownsRow_nil _ w4.heap.size _ _) rfl (Rd.of_own HO1b.out) rfl HS1.out (sc_one _) (by omega) (Nat.le_refl _) ?_); intro v5 w5 hown5 hgr5 hN5; clear hN5; have hB5 : Below w4.heap.size w4 w5 := (Below.refl _ _).grown hgr5 (Nat.le_refl _) (fun q hq => by cases hq); have ho5' := hown5; rw [Nat.zero_add, List.nil_append] at ho5'; obtain ⟨a5, c5, rfl, -⟩ := own_open ho5'; have HO5 := Lib.hid ho5'; have HB5 := Lib.hid hB5; have hz5 : w4.heap.size ≤ w5.heap.size := hB5.size; clear hown5 ho5' hgr5 hB5)
        | (at_builtin; (refine wpList_app El.sess rfl (.tmp 72) (.tmp 73) rfl HO5.out rfl (Rd.of_own (own_later HO2.out HB5.out)) rfl HS2.out (sc_one _) (by omega) hz5 ?_); intro v6 w6 hown6 hgr6 hN6; clear hN6; have hB6 : Below w4.heap.size w4 w6 := HB5.out.grown hgr6 hz5 (fun q hq => (HO5.out.lt q hq).1); rw [HALL.out] at hown6; obtain ⟨a6, c6, rfl, hk5, hk6, -⟩ := own_open hown6; have HO6 := Lib.hid hown6; have HG6 := Lib.hid (HG4.out.later hB6); clear hown6 hgr6 hB6)
        | fail)
      clear HO1b HO2 HO5 HB5 HS1 HS2 HG4 hz5
      simp only [maxLen] at hk6
      go_loopw [14] (fun j wr => ∃ q : Nat, q ≤ N + M ∧ j = .int .i64 (q : Int) ∧ Hid (GoesX w wr (t + 1) x S2 m' ∧ Below w6.heap.size w6 wr)) (fun j _ => N + M - (intOf j).toNat)
      case atStart => exact ⟨0, Nat.zero_le _, rfl, Lib.hid ⟨HG6.out, Below.refl _ _⟩⟩
      case round =>
        obtain ⟨q, hq, rfl, HI⟩ := hrel
        by_cases hlq : q < N + M
        · have ixq : (q : Int) < ((N + M : Nat) : Int) := by omega
          obtain ⟨p, hp⟩ : ∃ p, m'.all[q]? = some p := ⟨_, List.getElem?_eq_getElem (by rw [HAL.out]; exact hlq)⟩
          have hrd := Rd.of_own HO6.out
          rw [← HAL.out] at hrd
          obtain ⟨bq, offq, cq, hvq, -, d0, d1⟩ := sc_rd (hrd.later HI.out.2) hp
          injection hvq with hvq1 hvq2 hvq3
          subst hvq1
          have hpe : p.1 = m'.ep := all_ep HBD.out.inv p (List.mem_of_getElem? hp)
          have hpE : p.1.toNat = E := by rw [hpe, HEE.out]
          rw [hpE] at d0
          obtain ⟨p2, hp2⟩ : ∃ z, z = p.2.toNat := ⟨_, rfl⟩
          rw [← hp2] at d1
          have HP2 := Lib.hid hp2; have HPE := Lib.hid hpE; have HP := Lib.hid hp
          clear hp2 hpE hpe hp hrd hvq2 hvq3
          have hpre := sc_pre (Rd.of_own HO6.out) HAL.out.symm hlq
          have hnot := pre_not (all_nodup HBD.out.inv HBD.out.apart) HP.out
          have hlt2 : (m'.all.take q).length = q := by rw [List.length_take, HAL.out]; omega
          have hcon : ∀ W, Below wr.heap.size wr W → Calls Try.prog 20 #[.slice (some ⟨bq, offq, none⟩) q c6, .agg #[.int .u64 (E : Int), .int .u64 (p2 : Int)]] W fun e w' => e = .returned (.bool false) ∧ Below W.heap.size W w' := fun W hW => by
            have c := ihas_any (.slice (some ⟨bq, offq, none⟩) q c6) (m'.all.take q) p W (by rw [hlt2]; exact hpre.later (below_trans HI.out.2 hW)) (by omega)
            rw [decide_eq_false hnot, HPE.out, ← HP2.out] at c
            exact c
          have HCON := Lib.hid hcon
          have iqc : (q : Int) ≤ (c6 : Int) := by omega
          have iqn : q ≤ c6 := by omega
          clear hpre hnot hlt2 hcon
          go_wp2_with fail
          refine region_class (C := fun w' => w'.cell? ⟨bq, offq + q * 2, none⟩ = some (.int .u64 (E : Int)) ∧ w'.cell? ⟨bq, offq + q * 2 + 1, none⟩ = some (.int .u64 (p2 : Int)) ∧ Hid (Below wr.heap.size wr w')) (by kernel_rfl) (by kernel_rfl) ⟨d0, d1, Lib.hid (Below.refl _ _).drew⟩ ?_
          clear d0 d1
          repeat (first
            | go_big_quiet_skip
            | (go_big_quiet_want
               rename_i K hK
               apply Exists.intro
               refine ⟨fun w' hw' => ?_, hK _ ?_⟩
               obtain ⟨d0, d1, r4⟩ := hw'
               go_simp
               first
                 | (go_at_call 20
                    refine (HCON.out _ r4.out).mono ?_
                    rintro e w5 ⟨rfl, hB5⟩
                    exact ⟨rfl, below_cell hB5 d0 (World.block_lt_of_cell? _ _ d0), below_cell hB5 d1 (World.block_lt_of_cell? _ _ d1), Lib.hid (below_trans r4.out hB5)⟩)
                 | with_reducible rfl
               clear hK K
               simp only [Act.put, List.setIfInBounds_toArray, List.set_cons_zero, List.set_cons_succ]))
          refine wpQuiet_nil ?_
          rintro w7 ⟨-, -, r4⟩
          go_wp2_with fail
          go_roundw
          case rel => exact ⟨q + 1, by omega, by go_num, Lib.hid ⟨HI.out.1.later r4.out, below_trans HI.out.2 r4.out⟩⟩
          case measure => simp [intOf]; omega
        · obtain rfl : q = N + M := by omega
          go_wp2_with fail
          go_roundw
          case rel => exact ⟨t + 1, E, S2, m', by omega, rfl, by go_num, Lib.hid HI.out.1, Lib.hid ⟨HBD.out.apart, HBD.out.inv, HBD.out.room, HBD.out.mo, HBD.out.ms, by have := HEE.out; omega⟩⟩
          case measure => simp [intOf]; omega
    · obtain rfl : t = n := by omega
      go_wp2_with fail
      go_ret
      exact ⟨rfl, HG.out.below⟩
theorem ibounds_walk (W : World) (v0 : Int) (x0 : Int) (h0 : cInt.rep W [.int .i64 v0] x0) (v1 : Int) (x1 : Int) (h1 : cInt.rep W [.int .i64 v1] x1) (v2 : Value) (x2) (h2 : cOpsI.rep W [v2] x2) :
    Calls Try.prog 7 #[.int .i64 v0, .int .i64 v1, v2] W fun e w' => e = .returned (.bool true) ∧ Below W.heap.size W w' := ibounds_in v0 v1 v2 _ W (cOpsI_rd h2)
end Go.Proofs.Ytfaemjlemaclbaa
