/- The reference's Decode. -/
import Derived.Test.YtghjffgaebnhiaaDoorMRDec5
import Derived.Test.YtghjffgaebnhiaaDoorMDec8
namespace Go.Proofs.YtghjffgaebnhiaaDoor
set_option linter.unusedVariables false
set_option linter.unusedSimpArgs false
open Go.RowKit
theorem numbS_bad {l : List UInt8} {a b : Nat} {s : RS} (h : s.f ≠ 0) : numbS l a b s = (0, s) := by
  unfold numbS
  rw [numS_bad h]
  simp only
  rw [if_neg (fun hh => h hh.1)]
theorem bytesS_bad {l : List UInt8} {a : Nat} {s : RS} (h : s.f ≠ 0) : bytesS l a s = ([], s) := by unfold bytesS; rw [if_pos h]
theorem failS_bad {k : Nat} {s : RS} (h : s.f ≠ 0) : failS k s = s := by unfold failS; rw [if_neg h]
theorem dataS_bad {l : List UInt8} {u : UD} {s : RS} (h : s.f ≠ 0) : (dataS l u s).2 = s := by
  unfold dataS dataS2 dataS3 dataS4 dataS5
  simp only [numbS_bad h, bytesS_bad h, failS_bad h, if_true, List.length_nil]
theorem reportS_bad {l : List UInt8} {u : UD} {s : RS} (h : s.f ≠ 0) : (reportS l u s).2 = s := by
  unfold reportS reportS2
  simp only [numbS_bad h]
  rw [if_pos (.inl h)]
theorem head_state (l : List UInt8) (s : RS) : (if decide (0 < (numS l maxN s).1) then (numS l maxN s).2 else failS 30 (numS l maxN s).2) = (numbS l 1 maxN s).2 := by
  have hlt := numS_lt (l := l) (m := maxN) (s := s) (by decide)
  unfold numbS failS
  simp only
  by_cases h : 0 < (numS l maxN s).1
  · rw [if_pos (by simpa using h), if_neg (by omega)]
  · rw [if_neg (by simpa using h)]
    by_cases hf : (numS l maxN s).2.f = 0
    · rw [if_pos hf, if_pos ⟨hf, .inl (by omega)⟩]
    · rw [if_neg hf, if_neg (fun hh => hf hh.1)]
set_option maxHeartbeats 8000000 in
set_option maxRecDepth 100000 in
theorem rdecode_any (v : Value) (b : List UInt8) (w : World) (hb : Bs w v b) (hl : b.length ≤ 140737488355328) :
    Calls Tryd.prog 17 #[v] w (DecPost (decP b) w) := by
  obtain ⟨P, hP⟩ : ∃ P, P = decP b := ⟨_, rfl⟩
  rw [← hP]
  obtain ⟨ao, cap, rfl, -⟩ := id hb
  obtain ⟨W0, hW0⟩ : ∃ W0, W0 = w.alloc (.cells zarr 26) := ⟨_, rfl⟩
  have hB0 : Below w.heap.size w W0 := hW0 ▸ (Below.refl _ _).alloc (Nat.le_refl _) _
  have hR0 : Blk W0 w.heap.size 26 zcells := hW0 ▸ Blk.new w _ zcells
  have hun := rrunseal_any _ b W0 (Rd.later hb hB0) hl
  obtain ⟨n, hn⟩ : ∃ n, n = b.length := ⟨_, rfl⟩
  have hle : (unsealP b).1.length ≤ 140737488355328 := by
    have : (unsealP b).1.length ≤ b.length := by
      unfold unsealP
      split
      · exact Nat.zero_le _
      · split
        · simp only [List.length_take]; omega
        · exact Nat.zero_le _
    omega
  rw [← hn] at hun ⊢
  unfold decP at hP
  generalize unsealP b = up at *
  obtain ⟨l, e⟩ := up
  simp only at hun hle hP
  have HUN := Lib.hid hun; have HP := Lib.hid hP; have HB0 := Lib.hid hB0; have HR0 := Lib.hid hR0; have HLE := Lib.hid hle
  clear hun hP hB0 hR0 hb hl hn hle
  go_enter Tryd.func17, Tryd.ntmps17
  go_wp2_with fail
  rw [← hW0]
  have HW0 := Lib.hid hW0
  clear hW0
  refine HUN.out.mono ?_
  rintro e' w1 ⟨v1, rfl, ho1, hB1⟩
  have HR1 := Lib.hid (HR0.out.later hB1)
  have HBW := Lib.hid (below_trans HB0.out hB1)
  have hl1 : Bs w1 v1 l := Rd.of_own ho1
  obtain ⟨a1, c1, rfl, -⟩ := own_open ho1
  have HO1 := Lib.hid ho1; have HL1 := Lib.hid hl1
  clear ho1 hB1 hl1
  by_cases he : e = 0
  · subst he
    have hpd : P = decB l := by rw [HP.out, if_neg (by simp)]
    have hnew := rrnew_any _ l w1 HL1.out HLE.out
    obtain ⟨N1, hN1⟩ : ∃ N1, N1 = l.length := ⟨_, rfl⟩
    rw [← hN1] at HO1 HL1 hnew ⊢
    have HNEW := Lib.hid hnew; have HPD := Lib.hid hpd; have HN1 := Lib.hid hN1
    clear hpd hnew hN1
    go_wp2_with fail
    refine HNEW.out.mono ?_
    rintro e' w2 ⟨g, B, rfl, hg, hrd, hfl, hB2⟩
    have hrg : g ≠ w.heap.size := by have := HR1.out.lt; omega
    have hR2 := HR1.out.later hB2
    have hgl : g < w2.heap.size := hrd.lt
    unfold decB at HPD
    have hc1 := rsmall_any g B l ⟨0, 0⟩ 1 3 w2 hrd (by decide) (by decide)
    have hk1 := numbS_lt (l := l) (a := 1) (b := 3) (s := ⟨0, 0⟩)
    have hk2 := fun hh => (numbS_ok (l := l) (a := 1) (b := 3) (s := ⟨0, 0⟩) (Nat.zero_le _) hh)
    obtain ⟨PU, hPU⟩ : ∃ PU, PU = parseU l := ⟨_, rfl⟩
    rw [← hPU] at HPD
    unfold parseU at hPU
    generalize numbS l 1 3 ⟨0, 0⟩ = p1 at *
    obtain ⟨k, s1⟩ := p1
    simp only at hk1 hk2 hc1
    unfold parse2 at hPU
    simp only at hPU
    have hh2 := head_state l s1
    have hc2 := fun (w' : World) (hh : RRd w' g B l s1) => rrnum_any g B l s1 maxN w' hh (by decide)
    have hlt2 := numS_lt (l := l) (m := maxN) (s := s1) (by decide)
    have hv2 : (numbS l 1 maxN s1).1 = (numS l maxN s1).1 := rfl
    have hok2 := fun ha hh => (numbS_ok (l := l) (a := 1) (b := maxN) (s := s1) ha hh).1
    generalize numbS l 1 maxN s1 = q2 at *
    obtain ⟨ep, s2⟩ := q2
    generalize numS l maxN s1 = p2 at *
    obtain ⟨ep', s2'⟩ := p2
    simp only at hlt2 hok2 hv2 hh2
    subst hv2
    unfold parse3 at hPU
    simp only at hPU
    have hh3 := head_state l s2
    have hc3 := fun (w' : World) (hh : RRd w' g B l s2) => rrnum_any g B l s2 maxN w' hh (by decide)
    have hlt3 := numS_lt (l := l) (m := maxN) (s := s2) (by decide)
    have hv3 : (numbS l 1 maxN s2).1 = (numS l maxN s2).1 := rfl
    have hok3 := fun ha hh => (numbS_ok (l := l) (a := 1) (b := maxN) (s := s2) ha hh).1
    generalize numbS l 1 maxN s2 = q3 at *
    obtain ⟨ses, s3⟩ := q3
    generalize numS l maxN s2 = p3 at *
    obtain ⟨ses', s3'⟩ := p3
    simp only at hlt3 hok3 hv3 hh3
    subst hv3
    unfold parse4 at hPU
    simp only at hPU
    have hc2' : ∀ w', RRd w' g B l s1 → Calls Tryd.prog 54 #[.pointer (some ⟨g, 0, none⟩), .int .u64 281474976710655] w' (RRPost g B l (ep, s2') w') := hc2
    have hc3' : ∀ w', RRd w' g B l s2 → Calls Tryd.prog 54 #[.pointer (some ⟨g, 0, none⟩), .int .u64 281474976710655] w' (RRPost g B l (ses, s3') w') := hc3
    have hw2 := fun (w' : World) (hh : RRd w' g B l s2') => want_any g B l s2' (decide (0 < ep)) w' hh
    have hw3 := fun (w' : World) (hh : RRd w' g B l s3') => want_any g B l s3' (decide (0 < ses)) w' hh
    rw [hh2] at hw2
    rw [hh3] at hw3
    obtain ⟨K, hK⟩ : ∃ K : Int, K = if s1.f = 0 then (k : Int) else 0 := ⟨_, rfl⟩
    rw [← hK] at hc1
    have HC1 := Lib.hid hc1; have HC2 := Lib.hid hc2'; have HC3 := Lib.hid hc3'; have HW2 := Lib.hid hw2; have HW3 := Lib.hid hw3
    have HR2 := Lib.hid hR2; have HB2 := Lib.hid (below_trans HBW.out hB2); have HFL := Lib.hid hfl
    have HLT2 : Hid (ep ≤ 281474976710655) := Lib.hid hlt2; have HLT3 : Hid (ses ≤ 281474976710655) := Lib.hid hlt3
    have HOK2 := Lib.hid hok2; have HOK3 := Lib.hid hok3; have HK2 := Lib.hid hk2; have HGL := Lib.hid hgl; have HG := Lib.hid hg; have HRG := Lib.hid hrg; have HK := Lib.hid hK; have HPU := Lib.hid hPU; have HK1 := Lib.hid hk1
    clear hc1 hc2 hc3 hc2' hc3' hw2 hw3 hh2 hh3 hR2 hB2 hfl hlt2 hlt3 hok2 hok3 hk2 hgl hrd hg hrg hk1 hK hPU
    go_wp2_with fail
    refine HC1.out.mono ?_
    rintro e' w3 ⟨rfl, hr3, hs3⟩
    have HR3 := Lib.hid (HR2.out.same hs3 (fun e => HRG.out e.symm)); have HRD3 := Lib.hid hr3; have HS3 := Lib.hid hs3
    clear hr3 hs3 HC1
    obtain ⟨W4, hW4⟩ : ∃ W4, W4 = w3.alloc (.cells #[.int .i64 K, .int .u64 0, .int .u64 0, .int .i64 0, .int .i64 0, .int .i64 0, .slice none 0 0, .int .i64 0, .slice none 0 0] 26) := ⟨_, rfl⟩
    obtain ⟨q, hq⟩ : ∃ q, q = w3.heap.size := ⟨_, rfl⟩
    have hal : Below w3.heap.size w3 W4 := hW4 ▸ (Below.refl _ _).alloc (Nat.le_refl _) _
    have hq4 : Blk W4 q 26 [.int .i64 K, .int .u64 0, .int .u64 0, .int .i64 0, .int .i64 0, .int .i64 0, .slice none 0 0, .int .i64 0, .slice none 0 0] := hq ▸ hW4 ▸ Blk.new w3 _ _
    have hgw3 : g < w3.heap.size := Nat.lt_of_lt_of_le HGL.out HS3.out.size
    have hwg : w.heap.size ≤ g := Nat.le_trans HBW.out.size HG.out
    have hqg : q ≠ g := by omega
    have hqr : q ≠ w.heap.size := by have := HR3.out.lt; omega
    have hvq : B ≠ some q := fun e => by have := HFL.out q e; omega
    have hb3 : Below w.heap.size w w3 := below_same HB2.out HS3.out (fun i hi e => by have e' : i = g := e; omega)
    have HB4 := Lib.hid (below_trans hb3 hal); have HR4 := Lib.hid (HR3.out.later hal); have HRD4 := Lib.hid (HRD3.out.later hal)
    have HQ4 := Lib.hid hq4; have HQG := Lib.hid hqg; have HQR := Lib.hid hqr; have HVQ := Lib.hid hvq; have HQQ := Lib.hid hq; have HWG := Lib.hid hwg; have HW4 := Lib.hid hW4
    have hwq : w.heap.size < q := by have := HR3.out.lt; omega
    have HWQ := Lib.hid hwq
    clear hal hq4 hqg hqr hvq hb3 hq hgw3 hwg hW4 hwq
    go_wp2_with fail
    rw [← HW4.out, ← HQQ.out]
    refine (HC2.out _ HRD4.out).mono ?_
    rintro e' w5 ⟨rfl, hrx, hsx⟩
    simp only at hrx ⊢
    have hqx := HQ4.out.same hsx HQG.out
    have z := hqx.cell_some (i := 1) rfl
    have zf := hqx.frozen 1
    have hqy := hqx.set 1 (.int .u64 (ep : Int))
    simp only [List.set_cons_zero, List.set_cons_succ] at hqy
    have hry := hrx.store HQG.out HVQ.out 1 (.int .u64 (ep : Int))
    have hRy := (HR4.out.same hsx (fun e => HRG.out e.symm)).far (p := ⟨q, 1, none⟩) (fun e => HQR.out e.symm) (.int .u64 (ep : Int))
    have hBy : Below w.heap.size w (w5.setCell ⟨q, 1, none⟩ (.int .u64 (ep : Int))) := below_same (below_same HB4.out hsx (fun i hi e => by have e' : i = g := e; have := HWG.out; omega)) (at1_set w5 q 1 _) (fun i hi e => by have e' : i = q := e; have := HWQ.out; omega)
    have HQ5 := Lib.hid hqy; have HRD5 := Lib.hid hry; have HR5 := Lib.hid hRy; have HB5 := Lib.hid hBy
    clear hqx hqy hry hRy hBy hrx
    clear hsx
    have zw := HQ5.out.cell_some (i := 1) rfl
    have HWW := Lib.hid (HW2.out _ HRD5.out)
    go_wp2_with fail
    try rw [← HQQ.out]
    refine HWW.out.mono ?_
    rintro e' w6 ⟨rfl, hrx, hsx⟩
    clear HWW zw
    generalize decide (0 < ep) = okk at *
    have HQ6 := Lib.hid (HQ5.out.same hsx HQG.out); have HR6 := Lib.hid (HR5.out.same hsx (fun e => HRG.out e.symm))
    have HB6 := Lib.hid (below_same HB5.out hsx (fun i hi e => by have e' : i = g := e; have := HWG.out; omega))
    have HRD6 := Lib.hid hrx
    clear hrx hsx
    go_wp2_with fail
    refine (HC3.out _ HRD6.out).mono ?_
    rintro e' w7 ⟨rfl, hrx, hsx⟩
    simp only at hrx ⊢
    have hqx := HQ6.out.same hsx HQG.out
    have z := hqx.cell_some (i := 2) rfl
    have zf := hqx.frozen 2
    have hqy := hqx.set 2 (.int .u64 (ses : Int))
    simp only [List.set_cons_zero, List.set_cons_succ] at hqy
    have hry := hrx.store HQG.out HVQ.out 2 (.int .u64 (ses : Int))
    have hRy := (HR6.out.same hsx (fun e => HRG.out e.symm)).far (p := ⟨q, 2, none⟩) (fun e => HQR.out e.symm) (.int .u64 (ses : Int))
    have hBy : Below w.heap.size w (w7.setCell ⟨q, 2, none⟩ (.int .u64 (ses : Int))) := below_same (below_same HB6.out hsx (fun i hi e => by have e' : i = g := e; have := HWG.out; omega)) (at1_set w7 q 2 _) (fun i hi e => by have e' : i = q := e; have := HWQ.out; omega)
    have HQ7 := Lib.hid hqy; have HRD7 := Lib.hid hry; have HR7 := Lib.hid hRy; have HB7 := Lib.hid hBy
    clear hqx hqy hry hRy hBy hrx
    clear hsx
    have zw := HQ7.out.cell_some (i := 2) rfl
    have HWW := Lib.hid (HW3.out _ HRD7.out)
    go_wp2_with fail
    try rw [← HQQ.out]
    refine HWW.out.mono ?_
    rintro e' w8 ⟨rfl, hrx, hsx⟩
    clear HWW zw
    generalize decide (0 < ses) = okk at *
    have HQ8 := Lib.hid (HQ7.out.same hsx HQG.out); have HR8 := Lib.hid (HR7.out.same hsx (fun e => HRG.out e.symm))
    have HB8 := Lib.hid (below_same HB7.out hsx (fun i hi e => by have e' : i = g := e; have := HWG.out; omega))
    have HRD8 := Lib.hid hrx
    clear hrx hsx
    have HLE1 := Lib.hid HRD4.out.le; have HLE2 := Lib.hid HRD6.out.le
    clear HC2 HC3 HW2 HW3 HQ4 HQ5 HQ6 HQ7 HR4 HR5 HR6 HR7 HB4 HB5 HB6 HB7 HRD4 HRD5 HRD6 HRD7
    have z0 := HQ8.out.cell_some (i := 0) rfl
    have HPD := HPD
    by_cases hk1 : K = 1
    · subst hk1
      have hK1 := HK.out
      have hs1f : s1.f = 0 := by
        rcases Nat.eq_zero_or_pos s1.f with h | h
        · exact h
        · rw [if_neg (by omega)] at hK1; omega
      have hk1' : k = 1 := by rw [if_pos hs1f] at hK1; omega
      subst hk1'
      obtain ⟨D, hD⟩ : ∃ D, D = dataS l (headU 1 ep ses) s3 := ⟨_, rfl⟩
      have hst : PU.2 = D.2 ∧ (s3.f = 0 → PU.1 = D.1) := by
        have h := HPU.out
        by_cases h3 : s3.f = 0
        · rw [if_neg (show ¬ s3.f ≠ 0 by omega)] at h
          unfold bodyS at h
          rw [if_pos (show (headU 1 ep ses).kind = 1 from rfl), ← hD] at h
          rw [h]
          exact ⟨rfl, fun _ => rfl⟩
        · rw [if_pos h3] at h
          rw [h, hD, dataS_bad h3]
          exact ⟨rfl, fun hh => absurd hh h3⟩
      unfold dataS dataS2 dataS3 dataS4 dataS5 at hD
      have hc4 := rsmall_any g B l s3 1 2 w8 HRD8.out (by decide) (by decide)
      have ok4 := fun ha hh => (numbS_ok (l := l) (a := 1) (b := 2) (s := s3) ha hh).1
      generalize numbS l 1 2 s3 = p4 at *
      obtain ⟨n4, s4⟩ := p4
      simp only at hD hc4 ok4
      have hc5 := fun (w' : World) (hh : RRd w' g B l s4) => rsmall_any g B l s4 0 63 w' hh (by decide) (by decide)
      have ok5 := fun ha hh => (numbS_ok (l := l) (a := 0) (b := 63) (s := s4) ha hh)
      have le4 : s4.at_ ≤ l.length → (numbS l 0 63 s4).2.at_ ≤ l.length := fun h => numbS_le h
      generalize numbS l 0 63 s4 = p5 at *
      obtain ⟨n5, s5⟩ := p5
      simp only at hD hc5 ok5 le4
      obtain ⟨v5, hv5⟩ : ∃ v5 : Nat, v5 = if s5.f = 0 then n5 else 0 := ⟨_, rfl⟩
      have hv5i : (if s5.f = 0 then (n5 : Int) else 0) = (v5 : Int) := by rw [hv5]; split <;> rfl
      have h6e : numbS l (v5 + 1) 64 s5 = numbS l (n5 + 1) 64 s5 := by
        by_cases h5 : s5.f = 0
        · rw [hv5, if_pos h5]
        · rw [numbS_bad h5, numbS_bad h5]
      rw [hv5i] at hc5
      have hv63 : s4.at_ ≤ l.length → v5 ≤ 63 := fun ha => by
        rw [hv5]
        split
        · next h5 => exact (ok5 ha h5).2.2.1
        · omega
      have hc6 := fun (w' : World) (hh : RRd w' g B l s5) (h5 : v5 ≤ 63) => rsmall_any g B l s5 (v5 + 1) 64 w' hh (by omega) (by decide)
      rw [h6e] at hc6
      have ok6 := fun ha hh => (numbS_ok (l := l) (a := n5 + 1) (b := 64) (s := s5) ha hh).1
      generalize numbS l (n5 + 1) 64 s5 = p6 at *
      obtain ⟨n6, s6⟩ := p6
      simp only at hD hc6 ok6
      have hc7 := fun (w' : World) (hh : RRd w' g B l s6) => rrbytes_any g B l s6 1024 w' hh (by decide)
      have ok7 := fun ha hh => (bytesS_ok (l := l) (m := 1024) (s := s6) ha hh).1
      generalize bytesS l 1024 s6 = p7 at *
      obtain ⟨x, s7⟩ := p7
      simp only at hD hc7 ok7
      have hw8 := fun (w' : World) (hh : RRd w' g B l s7) => want_any g B l s7 (decide (0 < x.length)) w' hh
      have hSF : (if decide (0 < x.length) then s7 else failS 30 s7) = D.2 := by
        rw [hD]
        simp only
        by_cases hx : 0 < x.length
        · rw [if_pos (by simpa using hx), if_neg (by omega)]
        · rw [if_neg (by simpa using hx), if_pos (by omega)]
      have hSF7 : D.2.f = 0 → s7.f = 0 := fun h => by
        rw [hD] at h
        simp only at h
        split at h
        · unfold failS at h
          split at h
          · cases h
          · next hh => exact absurd h hh
        · exact h
      rw [hSF] at hw8
      have hD1 : D.1 = ⟨(headU 1 ep ses).kind, (headU 1 ep ses).ep, (headU 1 ep ses).ses, n4, n5, n6, x, (headU 1 ep ses).code, (headU 1 ep ses).got⟩ := by rw [hD]
      obtain ⟨V4, hV4⟩ : ∃ V4 : Int, V4 = if s4.f = 0 then (n4 : Int) else 0 := ⟨_, rfl⟩
      obtain ⟨V6, hV6⟩ : ∃ V6 : Int, V6 = if s6.f = 0 then (n6 : Int) else 0 := ⟨_, rfl⟩
      rw [← hV4] at hc4
      rw [← hV6] at hc6
      obtain ⟨NX, hNX⟩ : ∃ NX, NX = x.length := ⟨_, rfl⟩
      have hdx : decide (0 < x.length) = decide (0 < NX) := by rw [hNX]
      rw [hdx] at hw8
      obtain ⟨SF, hSFe⟩ : ∃ SF, SF = D.2 := ⟨_, rfl⟩
      rw [← hSFe] at hw8 hst hSF7
      have HC4 := Lib.hid hc4; have HC5 := Lib.hid hc5; have HC6 := Lib.hid hc6; have HC7 := Lib.hid hc7; have HW8 := Lib.hid hw8
      have HST := Lib.hid hst.1
      have HV63 := Lib.hid hv63; have HNX := Lib.hid hNX
      have huf : s3.at_ ≤ l.length → s4.at_ ≤ l.length → s5.at_ ≤ l.length → s6.at_ ≤ l.length → SF.f = 0 → PU.1 = ⟨1, UInt64.ofNat ep, UInt64.ofNat ses, V4, (v5 : Int), V6, x, 0, []⟩ := fun l3 l4 l5 l6 h => by
        have h7 := hSF7 h
        have h6 := ok7 l6 h7
        have h5 := ok6 l5 h6
        have h4 := (ok5 l4 h5).1
        have h3 := ok4 l3 h4
        rw [hst.2 h3, hD1, hV4, hV6, if_pos h4, if_pos h6, hv5, if_pos h5]
        rfl
      have HUF0 := Lib.hid huf
      have HL3 := Lib.hid HRD8.out.le
      clear hc4 hc5 hc6 hc7 hw8 hst hv63 hNX huf hSF hSF7 hD1 hD hV4 hV6 hdx hSFe ok4 ok5 ok6 ok7 le4 hv5 hv5i h6e hK1 hs1f
      go_wp2_with fail
      refine HC4.out.mono ?_
      rintro e' w9 ⟨rfl, hrx, hsx⟩
      have HL4 := Lib.hid hrx.le
      have hqx := HQ8.out.same hsx HQG.out
      have z := hqx.cell_some (i := 3) rfl
      have zf := hqx.frozen 3
      have hqy := hqx.set 3 (.int .i64 V4)
      simp only [List.set_cons_zero, List.set_cons_succ] at hqy
      have hry := hrx.store HQG.out HVQ.out 3 (.int .i64 V4)
      have hRy := (HR8.out.same hsx (fun e => HRG.out e.symm)).far (p := ⟨q, 3, none⟩) (fun e => HQR.out e.symm) (.int .i64 V4)
      have hBy : Below w.heap.size w (w9.setCell ⟨q, 3, none⟩ (.int .i64 V4)) := below_same (below_same HB8.out hsx (fun i hi e => by have e' : i = g := e; have := HWG.out; omega)) (at1_set w9 q 3 _) (fun i hi e => by have e' : i = q := e; have := HWQ.out; omega)
      have HQa := Lib.hid hqy; have HRDa := Lib.hid hry; have HRa := Lib.hid hRy; have HBa := Lib.hid hBy
      clear hqx hqy hry hRy hBy hrx
      clear hsx HC4
      go_wp2_with fail
      refine (HC5.out _ HRDa.out).mono ?_
      rintro e' wA ⟨rfl, hrx, hsx⟩
      clear z zf
      have HL5 := Lib.hid hrx.le
      have h63 := HV63.out HL4.out
      have hqx := HQa.out.same hsx HQG.out
      have z := hqx.cell_some (i := 4) rfl
      have zf := hqx.frozen 4
      have hqy := hqx.set 4 (.int .i64 (v5 : Int))
      simp only [List.set_cons_zero, List.set_cons_succ] at hqy
      have hry := hrx.store HQG.out HVQ.out 4 (.int .i64 (v5 : Int))
      have hRy := (HRa.out.same hsx (fun e => HRG.out e.symm)).far (p := ⟨q, 4, none⟩) (fun e => HQR.out e.symm) (.int .i64 (v5 : Int))
      have hBy : Below w.heap.size w (wA.setCell ⟨q, 4, none⟩ (.int .i64 (v5 : Int))) := below_same (below_same HBa.out hsx (fun i hi e => by have e' : i = g := e; have := HWG.out; omega)) (at1_set wA q 4 _) (fun i hi e => by have e' : i = q := e; have := HWQ.out; omega)
      have HQb := Lib.hid hqy; have HRDb := Lib.hid hry; have HRb := Lib.hid hRy; have HBb := Lib.hid hBy
      clear hqx hqy hry hRy hBy hrx
      clear hsx HC5
      have z4 := HQb.out.cell_some (i := 4) rfl
      have HC6b := Lib.hid (HC6.out _ HRDb.out h63)
      go_wp2_with fail
      refine HC6b.out.mono ?_
      rintro e' wB ⟨rfl, hrx, hsx⟩
      clear z zf
      have HL6 := Lib.hid hrx.le
      clear z4 HC6b
      have hqx := HQb.out.same hsx HQG.out
      have z := hqx.cell_some (i := 5) rfl
      have zf := hqx.frozen 5
      have hqy := hqx.set 5 (.int .i64 V6)
      simp only [List.set_cons_zero, List.set_cons_succ] at hqy
      have hry := hrx.store HQG.out HVQ.out 5 (.int .i64 V6)
      have hRy := (HRb.out.same hsx (fun e => HRG.out e.symm)).far (p := ⟨q, 5, none⟩) (fun e => HQR.out e.symm) (.int .i64 V6)
      have hBy : Below w.heap.size w (wB.setCell ⟨q, 5, none⟩ (.int .i64 V6)) := below_same (below_same HBb.out hsx (fun i hi e => by have e' : i = g := e; have := HWG.out; omega)) (at1_set wB q 5 _) (fun i hi e => by have e' : i = q := e; have := HWQ.out; omega)
      have HQc := Lib.hid hqy; have HRDc := Lib.hid hry; have HRc := Lib.hid hRy; have HBc := Lib.hid hBy
      clear hqx hqy hry hRy hBy hrx
      clear hsx HC6
      go_wp2_with fail
      refine (HC7.out _ HRDc.out).mono ?_
      rintro e' wC ⟨xv, rfl, hox, hrx, hsx⟩
      clear z zf
      simp only at hrx hox
      obtain ⟨xa, xc, rfl, -⟩ := own_open hox
      rw [← HNX.out] at hox ⊢
      have hqx := HQc.out.same hsx HQG.out
      have z := hqx.cell_some (i := 6) rfl
      have zf := hqx.frozen 6
      have hqy := hqx.set 6 (.slice xa NX xc)
      simp only [List.set_cons_zero, List.set_cons_succ] at hqy
      have hry := hrx.store HQG.out HVQ.out 6 (.slice xa NX xc)
      have hRy := (HRc.out.same hsx (fun e => HRG.out e.symm)).far (p := ⟨q, 6, none⟩) (fun e => HQR.out e.symm) (.slice xa NX xc)
      have hBy : Below w.heap.size w (wC.setCell ⟨q, 6, none⟩ (.slice xa NX xc)) := below_same (below_same HBc.out hsx (fun i hi e => by have e' : i = g := e; have := HWG.out; omega)) (at1_set wC q 6 _) (fun i hi e => by have e' : i = q := e; have := HWQ.out; omega)
      have HQd := Lib.hid hqy; have HRDd := Lib.hid hry; have HRd := Lib.hid hRy; have HBd := Lib.hid hBy
      clear hqx hqy hry hRy hBy hrx
      have hox2 : (wC.setCell ⟨q, 6, none⟩ (.slice xa NX xc)).ownsRow w.heap.size 5 1 (.slice xa NX xc) NX (x.map ub) := own_mono (own_same hox (at1_set wC q 6 _) (fun b hb e => by
        have e' : b = q := e
        subst e'
        exact own_blk_ne hox (HQc.out.same hsx HQG.out) (by decide) hb)) HBc.out.size
      have HOX := Lib.hid hox2
      clear hsx HC7 hox hox2
      have z6 := HQd.out.cell_some (i := 6) rfl
      have HWW := Lib.hid (HW8.out _ HRDd.out)
      go_wp2_with fail
      refine HWW.out.mono ?_
      rintro e' wD ⟨rfl, hrx, hsx⟩
      clear z zf
      have hdv := own_same HOX.out hsx (fun b hb e => by
        have e' : b = g := e
        subst e'
        obtain ⟨vd, -, hgd, -⟩ := HRDd.out.ex
        exact own_blk_ne HOX.out hgd (by decide) hb)
      have HDV := Lib.hid hdv
      have HQe := Lib.hid (HQd.out.same hsx HQG.out); have HRe := Lib.hid (HRd.out.same hsx (fun e => HRG.out e.symm))
      have HBe := Lib.hid (below_same HBd.out hsx (fun i hi e => by have e' : i = g := e; have := HWG.out; omega))
      have HRDe := Lib.hid hrx
      have HGV : Hid (wD.ownsRow w.heap.size 57 2 (.slice none 0 0) ([] : List (Int × Int)).length (rvs [])) := Lib.hid (World.ownsRow_nil _ _ _ _)
      have HUF := Lib.hid (HUF0.out HL3.out HL4.out HL5.out HL6.out)
      clear hrx hsx hdv z6 HWW HW8
      generalize decide (0 < NX) = okx at *
      obtain ⟨vz, hvz, hgz, hbz⟩ := HRDe.out.ex
      have zb := hgz.cell_some (i := 1) rfl
      have zr := hgz.cell_some (i := 0) rfl
      obtain ⟨za, zc, rfl, -⟩ := id hbz
      have hPD := HPD
      rw [HST.out] at hPD
      obtain ⟨atF, fF⟩ := SF
      simp only at hPD zb zr
      obtain ⟨LN, hLN⟩ : ∃ LN, LN = (l.drop atF).length := ⟨_, rfl⟩
      rw [← hLN] at zr
      have hLN2 : LN = l.length - atF := by rw [hLN, List.length_drop]
      have hleF := HRDe.out.le
      simp only at hleF
      have hend : endS l ⟨atF, fF⟩ = if fF = 0 ∧ 0 < LN then 11 else fF := by
        unfold endS
        simp only
        by_cases h1 : fF = 0 ∧ atF < l.length
        · rw [if_pos h1, if_pos ⟨h1.1, by omega⟩]
        · rw [if_neg h1, if_neg (fun h => h1 ⟨h.1, by omega⟩)]
      rw [hend] at hPD
      have HLL := Lib.hid hLN2; have HPD1 := Lib.hid hPD
      clear hPD hend hgz hbz hvz hLN hLN2 hleF
      by_cases hfF : fF = 0
      · subst hfF
        by_cases hLp : 0 < LN
        · have HPD2 : Hid (P = (zeroU, 11)) := Lib.hid (by have h := HPD1.out; rw [show (if (0 : Nat) = 0 ∧ 0 < LN then 11 else 0) = 11 from if_pos ⟨rfl, hLp⟩, if_pos (show (11 : Nat) ≠ 0 by decide)] at h; exact h)
          have j1 : (0 : Int) < (LN : Int) := by omega
          have hfl := rrfail_any g B l ⟨atF, 0⟩ 11 wD HRDe.out
          have HFL2 := Lib.hid hfl
          clear hfl
          go_wp2_with fail
          refine HFL2.out.mono ?_
          rintro e' wf ⟨rfl, hrx, hsx⟩
          rw [failS, if_pos rfl] at hrx
          obtain ⟨vf, -, hgf, -⟩ := hrx.ex
          have zb := hgf.cell_some (i := 1) rfl
          have HRF := Lib.hid (HRe.out.same hsx (fun e => HRG.out e.symm))
          have HBF := Lib.hid (below_same HBe.out hsx (fun i hi e => by have e' : i = g := e; have := HWG.out; omega))
          clear hrx hsx hgf HFL2
          have HRQ := Lib.hid HRF.out.drew
          have HBQ := Lib.hid HBF.out.drew
          have y0 := HRQ.out.cell_some (i := 0) rfl
          have y1 := HRQ.out.cell_some (i := 1) rfl
          have y2 := HRQ.out.cell_some (i := 2) rfl
          have y3 := HRQ.out.cell_some (i := 3) rfl
          have y4 := HRQ.out.cell_some (i := 4) rfl
          have y5 := HRQ.out.cell_some (i := 5) rfl
          have y6 := HRQ.out.cell_some (i := 6) rfl
          have y7 := HRQ.out.cell_some (i := 7) rfl
          have y8 := HRQ.out.cell_some (i := 8) rfl
          have x0 := HRQ.out.frozen 0
          have x1 := HRQ.out.frozen 1
          have x2 := HRQ.out.frozen 2
          have x3 := HRQ.out.frozen 3
          have x4 := HRQ.out.frozen 4
          have x5 := HRQ.out.frozen 5
          have x6 := HRQ.out.frozen 6
          have x7 := HRQ.out.frozen 7
          have x8 := HRQ.out.frozen 8
          have zbd : (wf.drew).cell? ⟨g, 1, none⟩ = some (.int .i64 ((11 : Nat) : Int)) := zb
          generalize hWD : wf.drew = WD at *
          go_wp2_with fail
          refine region_mix (fun w' => w'.cell? ⟨g, 1, none⟩ = some (.int .i64 ((11 : Nat) : Int))) (fun i => i == 5) [0, 1, 2, 3, 4, 5, 6] (by kernel_rfl) (by kernel_rfl) (by rw [hWD]; exact zbd) ?_
          rw [hWD]
          repeat (first
            | (refine mix_pure rfl rfl (by kernel_rfl) ?_
               apply Exists.intro
               refine ⟨fun w' hw' => ?_, ?_⟩
               · go_simp
                 with_reducible rfl
               simp only [List.getElem_toArray, List.getElem_cons_zero, List.getElem_cons_succ, Act.put, List.setIfInBounds_toArray, List.set_cons_zero, List.set_cons_succ])
            | fail)
          refine mix_eff rfl rfl (by kernel_rfl) ?_
          unfold effAt
          go_simp
          simp only [effUpon, List.getElem_toArray, List.getElem_cons_zero, List.getElem_cons_succ, Act.put, List.setIfInBounds_toArray, List.set_cons_zero, List.set_cons_succ]
          refine ⟨?_, ?_⟩
          · have hcs := (stores9_same WD w.heap.size (.int .i64 0) (.int .u64 0) (.int .u64 0) (.int .i64 0) (.int .i64 0) (.int .i64 0) (.slice none 0 0) (.int .i64 0) (.slice none 0 0)).cell_some zbd (fun e => HRG.out e)
            exact hcs
          repeat (first
            | (refine mix_pure rfl rfl (by kernel_rfl) ?_
               apply Exists.intro
               refine ⟨fun w' hw' => ?_, ?_⟩
               · go_simp
                 with_reducible rfl
               simp only [List.getElem_toArray, List.getElem_cons_zero, List.getElem_cons_succ, Act.put, List.setIfInBounds_toArray, List.set_cons_zero, List.set_cons_succ])
            | fail)
          refine mix_nil ?_
          go_wp2_with fail
          refine bodyPost_ret (results_cr rfl _ _ (w.heap.size) _ _ _ _ rfl (stores9_blk HRQ.out rfl (.int .i64 0) (.int .u64 0) (.int .u64 0) (.int .i64 0) (.int .i64 0) (.int .i64 0) (.slice none 0 0) (.int .i64 0) (.slice none 0 0)) Tryd.underlying26 rfl (by kernel_rfl)) rfl ?_
          rw [HPD2.out]
          exact dec_bad (below_same HBQ.out (stores9_same WD w.heap.size (.int .i64 0) (.int .u64 0) (.int .u64 0) (.int .i64 0) (.int .i64 0) (.int .i64 0) (.slice none 0 0) (.int .i64 0) (.slice none 0 0)) (fun i hi e => by have e' : i = w.heap.size := e; omega))
        · have hL0 : LN = 0 := by omega
          subst hL0
          have HPD2 : Hid (P = (PU.1, 0)) := Lib.hid (by have h := HPD1.out; rw [show (if (0 : Nat) = 0 ∧ 0 < 0 then 11 else 0) = 0 from if_neg (fun h => absurd h.2 (by decide)), if_neg (show ¬ (0 : Nat) ≠ 0 by decide)] at h; exact h)
          have HUF2 := Lib.hid (HUF.out rfl)
          have q0 := HQe.out.cell_some (i := 0) rfl
          have q1 := HQe.out.cell_some (i := 1) rfl
          have q2 := HQe.out.cell_some (i := 2) rfl
          have q3 := HQe.out.cell_some (i := 3) rfl
          have q4 := HQe.out.cell_some (i := 4) rfl
          have q5 := HQe.out.cell_some (i := 5) rfl
          have q6 := HQe.out.cell_some (i := 6) rfl
          have q7 := HQe.out.cell_some (i := 7) rfl
          have q8 := HQe.out.cell_some (i := 8) rfl
          have y0 := HRe.out.cell_some (i := 0) rfl
          have y1 := HRe.out.cell_some (i := 1) rfl
          have y2 := HRe.out.cell_some (i := 2) rfl
          have y3 := HRe.out.cell_some (i := 3) rfl
          have y4 := HRe.out.cell_some (i := 4) rfl
          have y5 := HRe.out.cell_some (i := 5) rfl
          have y6 := HRe.out.cell_some (i := 6) rfl
          have y7 := HRe.out.cell_some (i := 7) rfl
          have y8 := HRe.out.cell_some (i := 8) rfl
          have x0 := HRe.out.frozen 0
          have x1 := HRe.out.frozen 1
          have x2 := HRe.out.frozen 2
          have x3 := HRe.out.frozen 3
          have x4 := HRe.out.frozen 4
          have x5 := HRe.out.frozen 5
          have x6 := HRe.out.frozen 6
          have x7 := HRe.out.frozen 7
          have x8 := HRe.out.frozen 8
          go_wp2_with fail
          refine bodyPost_ret (results_cr rfl _ _ (w.heap.size) _ _ _ _ rfl (stores9_blk HRe.out rfl (.int .i64 1) (.int .u64 (ep : Int)) (.int .u64 (ses : Int)) (.int .i64 V4) (.int .i64 (v5 : Int)) (.int .i64 V6) (.slice xa NX xc) (.int .i64 0) (.slice none 0 0)) Tryd.underlying26 rfl (by kernel_rfl)) rfl ?_
          rw [HPD2.out, HUF2.out]
          refine ⟨.slice xa NX xc, .slice none 0 0, ?_, ?_, ?_, below_same HBe.out (stores9_same wD w.heap.size (.int .i64 1) (.int .u64 (ep : Int)) (.int .u64 (ses : Int)) (.int .i64 V4) (.int .i64 (v5 : Int)) (.int .i64 V6) (.slice xa NX xc) (.int .i64 0) (.slice none 0 0)) (fun i hi e => by have e' : i = w.heap.size := e; omega)⟩
          · rw [uv, ofNat_toNat (by have := HLT2.out; omega), ofNat_toNat (by have := HLT3.out; omega)]
            rfl
          · show World.ownsRow _ _ _ _ _ x.length _
            rw [← HNX.out]
            exact own_same HDV.out (stores9_same wD w.heap.size (.int .i64 1) (.int .u64 (ep : Int)) (.int .u64 (ses : Int)) (.int .i64 V4) (.int .i64 (v5 : Int)) (.int .i64 V6) (.slice xa NX xc) (.int .i64 0) (.slice none 0 0)) (fun b hb e => by
              have e' : b = w.heap.size := e
              subst e'
              exact own_blk_ne HDV.out HRe.out (by decide) hb)
          · skip
            exact own_same HGV.out (stores9_same wD w.heap.size (.int .i64 1) (.int .u64 (ep : Int)) (.int .u64 (ses : Int)) (.int .i64 V4) (.int .i64 (v5 : Int)) (.int .i64 V6) (.slice xa NX xc) (.int .i64 0) (.slice none 0 0)) (fun b hb e => by
              have e' : b = w.heap.size := e
              subst e'
              exact own_blk_ne HGV.out HRe.out (by decide) hb)
      · have HPD2 : Hid (P = (zeroU, fF)) := Lib.hid (by have h := HPD1.out; rw [show (if fF = 0 ∧ 0 < LN then 11 else fF) = fF from if_neg (fun h => hfF h.1), if_pos (show fF ≠ 0 from hfF)] at h; exact h)
        have j1 : ((fF : Int) == 0) = false := by simp; omega
        have j2 : ¬ (fF : Int) = 0 := by omega
        have j3 : ((fF : Int) != 0) = true := by simp; omega
        have HRQ := Lib.hid HRe.out.drew
        have HBQ := Lib.hid HBe.out.drew
        have y0 := HRQ.out.cell_some (i := 0) rfl
        have y1 := HRQ.out.cell_some (i := 1) rfl
        have y2 := HRQ.out.cell_some (i := 2) rfl
        have y3 := HRQ.out.cell_some (i := 3) rfl
        have y4 := HRQ.out.cell_some (i := 4) rfl
        have y5 := HRQ.out.cell_some (i := 5) rfl
        have y6 := HRQ.out.cell_some (i := 6) rfl
        have y7 := HRQ.out.cell_some (i := 7) rfl
        have y8 := HRQ.out.cell_some (i := 8) rfl
        have x0 := HRQ.out.frozen 0
        have x1 := HRQ.out.frozen 1
        have x2 := HRQ.out.frozen 2
        have x3 := HRQ.out.frozen 3
        have x4 := HRQ.out.frozen 4
        have x5 := HRQ.out.frozen 5
        have x6 := HRQ.out.frozen 6
        have x7 := HRQ.out.frozen 7
        have x8 := HRQ.out.frozen 8
        have zbd : (wD.drew).cell? ⟨g, 1, none⟩ = some (.int .i64 (fF : Int)) := zb
        generalize hWD : wD.drew = WD at *
        go_wp2_with fail
        refine region_mix (fun w' => w'.cell? ⟨g, 1, none⟩ = some (.int .i64 (fF : Int))) (fun i => i == 5) [0, 1, 2, 3, 4, 5, 6] (by kernel_rfl) (by kernel_rfl) (by rw [hWD]; exact zbd) ?_
        rw [hWD]
        repeat (first
          | (refine mix_pure rfl rfl (by kernel_rfl) ?_
             apply Exists.intro
             refine ⟨fun w' hw' => ?_, ?_⟩
             · go_simp
               with_reducible rfl
             simp only [List.getElem_toArray, List.getElem_cons_zero, List.getElem_cons_succ, Act.put, List.setIfInBounds_toArray, List.set_cons_zero, List.set_cons_succ])
          | fail)
        refine mix_eff rfl rfl (by kernel_rfl) ?_
        unfold effAt
        go_simp
        simp only [effUpon, List.getElem_toArray, List.getElem_cons_zero, List.getElem_cons_succ, Act.put, List.setIfInBounds_toArray, List.set_cons_zero, List.set_cons_succ]
        refine ⟨?_, ?_⟩
        · have hcs := (stores9_same WD w.heap.size (.int .i64 0) (.int .u64 0) (.int .u64 0) (.int .i64 0) (.int .i64 0) (.int .i64 0) (.slice none 0 0) (.int .i64 0) (.slice none 0 0)).cell_some zbd (fun e => HRG.out e)
          exact hcs
        repeat (first
          | (refine mix_pure rfl rfl (by kernel_rfl) ?_
             apply Exists.intro
             refine ⟨fun w' hw' => ?_, ?_⟩
             · go_simp
               with_reducible rfl
             simp only [List.getElem_toArray, List.getElem_cons_zero, List.getElem_cons_succ, Act.put, List.setIfInBounds_toArray, List.set_cons_zero, List.set_cons_succ])
          | fail)
        refine mix_nil ?_
        go_wp2_with fail
        refine bodyPost_ret (results_cr rfl _ _ (w.heap.size) _ _ _ _ rfl (stores9_blk HRQ.out rfl (.int .i64 0) (.int .u64 0) (.int .u64 0) (.int .i64 0) (.int .i64 0) (.int .i64 0) (.slice none 0 0) (.int .i64 0) (.slice none 0 0)) Tryd.underlying26 rfl (by kernel_rfl)) rfl ?_
        rw [HPD2.out]
        exact dec_bad (below_same HBQ.out (stores9_same WD w.heap.size (.int .i64 0) (.int .u64 0) (.int .u64 0) (.int .i64 0) (.int .i64 0) (.int .i64 0) (.slice none 0 0) (.int .i64 0) (.slice none 0 0)) (fun i hi e => by have e' : i = w.heap.size := e; omega))
    · by_cases hk2 : K = 2
      · subst hk2
        have hK1 := HK.out
        have hs1f : s1.f = 0 := by
          rcases Nat.eq_zero_or_pos s1.f with h | h
          · exact h
          · rw [if_neg (by omega)] at hK1; omega
        have hk2' : k = 2 := by rw [if_pos hs1f] at hK1; omega
        subst hk2'
        obtain ⟨D, hD⟩ : ∃ D, D = reportS l (headU 2 ep ses) s3 := ⟨_, rfl⟩
        have hst : PU.2 = D.2 ∧ (s3.f = 0 → PU.1 = D.1) := by
          have h := HPU.out
          by_cases h3 : s3.f = 0
          · rw [if_neg (show ¬ s3.f ≠ 0 by omega)] at h
            unfold bodyS at h
            rw [if_neg (show ¬ (headU 2 ep ses).kind = 1 by show ¬ ((2 : Nat) : Int) = 1; decide), if_pos (show (headU 2 ep ses).kind = 2 from rfl), ← hD] at h
            rw [h]
            exact ⟨rfl, fun _ => rfl⟩
          · rw [if_pos h3] at h
            rw [h, hD, reportS_bad h3]
            exact ⟨rfl, fun hh => absurd hh h3⟩
        unfold reportS reportS2 reportS3 at hD
        have hc4 := rsmall_any g B l s3 0 7 w8 HRD8.out (by decide) (by decide)
        have ok4 := fun ha hh => (numbS_ok (l := l) (a := 0) (b := 7) (s := s3) ha hh).1
        generalize numbS l 0 7 s3 = p4 at *
        obtain ⟨n4, s4⟩ := p4
        simp only at hD hc4 ok4
        have hc5 := fun (w' : World) (hh : RRd w' g B l s4) (hv : ∀ b, B = some b → b < w'.heap.size) => ranges_ref g B l s4 w' hh hv
        obtain ⟨V4, hV4⟩ : ∃ V4 : Int, V4 = if s4.f = 0 then (n4 : Int) else 0 := ⟨_, rfl⟩
        rw [← hV4] at hc4
        have HC4 := Lib.hid hc4; have HC5 := Lib.hid hc5; have HST0 := Lib.hid hst; have HDD := Lib.hid hD; have HOK4 := Lib.hid ok4; have HV4 := Lib.hid hV4
        have HL3 := Lib.hid HRD8.out.le
        clear hc4 hc5 hst hD ok4 hV4 hK1 hs1f
        go_wp2_with fail
        refine HC4.out.mono ?_
        rintro e' w9 ⟨rfl, hrx, hsx⟩
        have hrx4 := hrx
        have hqx := HQ8.out.same hsx HQG.out
        have z := hqx.cell_some (i := 7) rfl
        have zf := hqx.frozen 7
        have hqy := hqx.set 7 (.int .i64 V4)
        simp only [List.set_cons_zero, List.set_cons_succ] at hqy
        have hry := hrx.store HQG.out HVQ.out 7 (.int .i64 V4)
        have hRy := (HR8.out.same hsx (fun e => HRG.out e.symm)).far (p := ⟨q, 7, none⟩) (fun e => HQR.out e.symm) (.int .i64 V4)
        have hBy : Below w.heap.size w (w9.setCell ⟨q, 7, none⟩ (.int .i64 V4)) := below_same (below_same HB8.out hsx (fun i hi e => by have e' : i = g := e; have := HWG.out; omega)) (at1_set w9 q 7 _) (fun i hi e => by have e' : i = q := e; have := HWQ.out; omega)
        have HQa := Lib.hid hqy; have HRDa := Lib.hid hry; have HRa := Lib.hid hRy; have HBa := Lib.hid hBy
        clear hqx hqy hry hRy hBy hrx
        clear hsx HC4 hrx4
        obtain ⟨va, -, hga, -⟩ := HRDa.out.ex
        have zg := hga.cell_some (i := 1) rfl
        have z7 := HQa.out.cell_some (i := 7) rfl
        clear hga
        have HGV : ∀ W : World, Hid (W.ownsRow w.heap.size 57 2 (.slice none 0 0) ([] : List (Int × Int)).length (rvs [])) := fun W => Lib.hid (World.ownsRow_nil _ _ _ _)
        have HDV : ∀ W : World, Hid (W.ownsRow w.heap.size 5 1 (.slice none 0 0) ([] : List UInt8).length (([] : List UInt8).map ub)) := fun W => Lib.hid (World.ownsRow_nil _ _ _ _)
        by_cases hsk : s4.f ≠ 0 ∨ n4 ≠ 0
        · have hst := HST0.out
          have hD := HDD.out
          rw [if_pos hsk] at hD
          have HST : Hid (PU.2 = s4) := Lib.hid (by rw [hst.1, hD])
          have HUF : Hid (s4.f = 0 → PU.1 = ⟨2, UInt64.ofNat ep, UInt64.ofNat ses, 0, 0, 0, [], V4, []⟩) := Lib.hid (fun h => by
            rw [hst.2 (HOK4.out HL3.out h), hD, HV4.out, if_pos h]
            rfl)
          have hcond : (s4.f ≠ 0 ∧ V4 = 0) ∨ (s4.f = 0 ∧ V4 ≠ 0) := by
            by_cases h4 : s4.f = 0
            · refine .inr ⟨h4, ?_⟩
              rw [HV4.out, if_pos h4]
              omega
            · exact .inl ⟨h4, by rw [HV4.out, if_neg h4]⟩
          clear hst hD hsk
          rcases hcond with ⟨h4, h5⟩ | ⟨h4, h5⟩
          · clear zg
            subst h5
            generalize hW9 : w9.setCell ⟨q, 7, none⟩ (.int .i64 0) = W9 at *
            have HGV := HGV W9
            have HDV := HDV W9
            obtain ⟨vz, hvz, hgz, hbz⟩ := HRDa.out.ex
            have zb := hgz.cell_some (i := 1) rfl
            have zr := hgz.cell_some (i := 0) rfl
            obtain ⟨za, zc, rfl, -⟩ := id hbz
            have hPD := HPD
            rw [HST.out] at hPD
            obtain ⟨atF, fF⟩ := s4
            simp only at hPD zb zr h4
            obtain ⟨LN, hLN⟩ : ∃ LN, LN = (l.drop atF).length := ⟨_, rfl⟩
            rw [← hLN] at zr
            have hLN2 : LN = l.length - atF := by rw [hLN, List.length_drop]
            have hleF := HRDa.out.le
            simp only at hleF
            have hend : endS l ⟨atF, fF⟩ = if fF = 0 ∧ 0 < LN then 11 else fF := by
              unfold endS
              simp only
              by_cases h1 : fF = 0 ∧ atF < l.length
              · rw [if_pos h1, if_pos ⟨h1.1, by omega⟩]
              · rw [if_neg h1, if_neg (fun h => h1 ⟨h.1, by omega⟩)]
            rw [hend] at hPD
            have HLL := Lib.hid hLN2; have HPD1 := Lib.hid hPD
            clear hPD hend hgz hbz hvz hLN hLN2 hleF
            have hfF : ¬ fF = 0 := h4
            clear h4
            · have HPD2 : Hid (P = (zeroU, fF)) := Lib.hid (by have h := HPD1.out; rw [show (if fF = 0 ∧ 0 < LN then 11 else fF) = fF from if_neg (fun h => hfF h.1), if_pos (show fF ≠ 0 from hfF)] at h; exact h)
              have j1 : ((fF : Int) == 0) = false := by simp; omega
              have j2 : ¬ (fF : Int) = 0 := by omega
              have j3 : ((fF : Int) != 0) = true := by simp; omega
              have HRQ := Lib.hid HRa.out.drew
              have HBQ := Lib.hid HBa.out.drew
              have y0 := HRQ.out.cell_some (i := 0) rfl
              have y1 := HRQ.out.cell_some (i := 1) rfl
              have y2 := HRQ.out.cell_some (i := 2) rfl
              have y3 := HRQ.out.cell_some (i := 3) rfl
              have y4 := HRQ.out.cell_some (i := 4) rfl
              have y5 := HRQ.out.cell_some (i := 5) rfl
              have y6 := HRQ.out.cell_some (i := 6) rfl
              have y7 := HRQ.out.cell_some (i := 7) rfl
              have y8 := HRQ.out.cell_some (i := 8) rfl
              have x0 := HRQ.out.frozen 0
              have x1 := HRQ.out.frozen 1
              have x2 := HRQ.out.frozen 2
              have x3 := HRQ.out.frozen 3
              have x4 := HRQ.out.frozen 4
              have x5 := HRQ.out.frozen 5
              have x6 := HRQ.out.frozen 6
              have x7 := HRQ.out.frozen 7
              have x8 := HRQ.out.frozen 8
              have zbd : (W9.drew).cell? ⟨g, 1, none⟩ = some (.int .i64 (fF : Int)) := zb
              generalize hWD : W9.drew = WD at *
              go_wp2_with fail
              refine region_mix (fun w' => w'.cell? ⟨g, 1, none⟩ = some (.int .i64 (fF : Int))) (fun i => i == 5) [0, 1, 2, 3, 4, 5, 6] (by kernel_rfl) (by kernel_rfl) (by rw [hWD]; exact zbd) ?_
              rw [hWD]
              repeat (first
                | (refine mix_pure rfl rfl (by kernel_rfl) ?_
                   apply Exists.intro
                   refine ⟨fun w' hw' => ?_, ?_⟩
                   · go_simp
                     with_reducible rfl
                   simp only [List.getElem_toArray, List.getElem_cons_zero, List.getElem_cons_succ, Act.put, List.setIfInBounds_toArray, List.set_cons_zero, List.set_cons_succ])
                | fail)
              refine mix_eff rfl rfl (by kernel_rfl) ?_
              unfold effAt
              go_simp
              simp only [effUpon, List.getElem_toArray, List.getElem_cons_zero, List.getElem_cons_succ, Act.put, List.setIfInBounds_toArray, List.set_cons_zero, List.set_cons_succ]
              refine ⟨?_, ?_⟩
              · have hcs := (stores9_same WD w.heap.size (.int .i64 0) (.int .u64 0) (.int .u64 0) (.int .i64 0) (.int .i64 0) (.int .i64 0) (.slice none 0 0) (.int .i64 0) (.slice none 0 0)).cell_some zbd (fun e => HRG.out e)
                exact hcs
              repeat (first
                | (refine mix_pure rfl rfl (by kernel_rfl) ?_
                   apply Exists.intro
                   refine ⟨fun w' hw' => ?_, ?_⟩
                   · go_simp
                     with_reducible rfl
                   simp only [List.getElem_toArray, List.getElem_cons_zero, List.getElem_cons_succ, Act.put, List.setIfInBounds_toArray, List.set_cons_zero, List.set_cons_succ])
                | fail)
              refine mix_nil ?_
              go_wp2_with fail
              refine bodyPost_ret (results_cr rfl _ _ (w.heap.size) _ _ _ _ rfl (stores9_blk HRQ.out rfl (.int .i64 0) (.int .u64 0) (.int .u64 0) (.int .i64 0) (.int .i64 0) (.int .i64 0) (.slice none 0 0) (.int .i64 0) (.slice none 0 0)) Tryd.underlying26 rfl (by kernel_rfl)) rfl ?_
              rw [HPD2.out]
              exact dec_bad (below_same HBQ.out (stores9_same WD w.heap.size (.int .i64 0) (.int .u64 0) (.int .u64 0) (.int .i64 0) (.int .i64 0) (.int .i64 0) (.slice none 0 0) (.int .i64 0) (.slice none 0 0)) (fun i hi e => by have e' : i = w.heap.size := e; omega))
          · have i1 : (V4 == 0) = false := by simpa using h5
            rw [h4] at zg
            generalize hW9 : w9.setCell ⟨q, 7, none⟩ (.int .i64 V4) = W9 at *
            have HGV := HGV W9
            have HDV := HDV W9
            obtain ⟨vz, hvz, hgz, hbz⟩ := HRDa.out.ex
            have zb := hgz.cell_some (i := 1) rfl
            have zr := hgz.cell_some (i := 0) rfl
            obtain ⟨za, zc, rfl, -⟩ := id hbz
            have hPD := HPD
            rw [HST.out] at hPD
            obtain ⟨atF, fF⟩ := s4
            simp only at hPD zb zr h4
            obtain ⟨LN, hLN⟩ : ∃ LN, LN = (l.drop atF).length := ⟨_, rfl⟩
            rw [← hLN] at zr
            have hLN2 : LN = l.length - atF := by rw [hLN, List.length_drop]
            have hleF := HRDa.out.le
            simp only at hleF
            have hend : endS l ⟨atF, fF⟩ = if fF = 0 ∧ 0 < LN then 11 else fF := by
              unfold endS
              simp only
              by_cases h1 : fF = 0 ∧ atF < l.length
              · rw [if_pos h1, if_pos ⟨h1.1, by omega⟩]
              · rw [if_neg h1, if_neg (fun h => h1 ⟨h.1, by omega⟩)]
            rw [hend] at hPD
            have HLL := Lib.hid hLN2; have HPD1 := Lib.hid hPD
            clear hPD hend hgz hbz hvz hLN hLN2 hleF
            have hfF : fF = 0 := h4
            clear h4
            · subst hfF
              by_cases hLp : 0 < LN
              · have HPD2 : Hid (P = (zeroU, 11)) := Lib.hid (by have h := HPD1.out; rw [show (if (0 : Nat) = 0 ∧ 0 < LN then 11 else 0) = 11 from if_pos ⟨rfl, hLp⟩, if_pos (show (11 : Nat) ≠ 0 by decide)] at h; exact h)
                have j1 : (0 : Int) < (LN : Int) := by omega
                have hfl := rrfail_any g B l ⟨atF, 0⟩ 11 W9 HRDa.out
                have HFL2 := Lib.hid hfl
                clear hfl
                go_wp2_with fail
                refine HFL2.out.mono ?_
                rintro e' wf ⟨rfl, hrx, hsx⟩
                rw [failS, if_pos rfl] at hrx
                obtain ⟨vf, -, hgf, -⟩ := hrx.ex
                have zb := hgf.cell_some (i := 1) rfl
                have HRF := Lib.hid (HRa.out.same hsx (fun e => HRG.out e.symm))
                have HBF := Lib.hid (below_same HBa.out hsx (fun i hi e => by have e' : i = g := e; have := HWG.out; omega))
                clear hrx hsx hgf HFL2
                have HRQ := Lib.hid HRF.out.drew
                have HBQ := Lib.hid HBF.out.drew
                have y0 := HRQ.out.cell_some (i := 0) rfl
                have y1 := HRQ.out.cell_some (i := 1) rfl
                have y2 := HRQ.out.cell_some (i := 2) rfl
                have y3 := HRQ.out.cell_some (i := 3) rfl
                have y4 := HRQ.out.cell_some (i := 4) rfl
                have y5 := HRQ.out.cell_some (i := 5) rfl
                have y6 := HRQ.out.cell_some (i := 6) rfl
                have y7 := HRQ.out.cell_some (i := 7) rfl
                have y8 := HRQ.out.cell_some (i := 8) rfl
                have x0 := HRQ.out.frozen 0
                have x1 := HRQ.out.frozen 1
                have x2 := HRQ.out.frozen 2
                have x3 := HRQ.out.frozen 3
                have x4 := HRQ.out.frozen 4
                have x5 := HRQ.out.frozen 5
                have x6 := HRQ.out.frozen 6
                have x7 := HRQ.out.frozen 7
                have x8 := HRQ.out.frozen 8
                have zbd : (wf.drew).cell? ⟨g, 1, none⟩ = some (.int .i64 ((11 : Nat) : Int)) := zb
                generalize hWD : wf.drew = WD at *
                go_wp2_with fail
                refine region_mix (fun w' => w'.cell? ⟨g, 1, none⟩ = some (.int .i64 ((11 : Nat) : Int))) (fun i => i == 5) [0, 1, 2, 3, 4, 5, 6] (by kernel_rfl) (by kernel_rfl) (by rw [hWD]; exact zbd) ?_
                rw [hWD]
                repeat (first
                  | (refine mix_pure rfl rfl (by kernel_rfl) ?_
                     apply Exists.intro
                     refine ⟨fun w' hw' => ?_, ?_⟩
                     · go_simp
                       with_reducible rfl
                     simp only [List.getElem_toArray, List.getElem_cons_zero, List.getElem_cons_succ, Act.put, List.setIfInBounds_toArray, List.set_cons_zero, List.set_cons_succ])
                  | fail)
                refine mix_eff rfl rfl (by kernel_rfl) ?_
                unfold effAt
                go_simp
                simp only [effUpon, List.getElem_toArray, List.getElem_cons_zero, List.getElem_cons_succ, Act.put, List.setIfInBounds_toArray, List.set_cons_zero, List.set_cons_succ]
                refine ⟨?_, ?_⟩
                · have hcs := (stores9_same WD w.heap.size (.int .i64 0) (.int .u64 0) (.int .u64 0) (.int .i64 0) (.int .i64 0) (.int .i64 0) (.slice none 0 0) (.int .i64 0) (.slice none 0 0)).cell_some zbd (fun e => HRG.out e)
                  exact hcs
                repeat (first
                  | (refine mix_pure rfl rfl (by kernel_rfl) ?_
                     apply Exists.intro
                     refine ⟨fun w' hw' => ?_, ?_⟩
                     · go_simp
                       with_reducible rfl
                     simp only [List.getElem_toArray, List.getElem_cons_zero, List.getElem_cons_succ, Act.put, List.setIfInBounds_toArray, List.set_cons_zero, List.set_cons_succ])
                  | fail)
                refine mix_nil ?_
                go_wp2_with fail
                refine bodyPost_ret (results_cr rfl _ _ (w.heap.size) _ _ _ _ rfl (stores9_blk HRQ.out rfl (.int .i64 0) (.int .u64 0) (.int .u64 0) (.int .i64 0) (.int .i64 0) (.int .i64 0) (.slice none 0 0) (.int .i64 0) (.slice none 0 0)) Tryd.underlying26 rfl (by kernel_rfl)) rfl ?_
                rw [HPD2.out]
                exact dec_bad (below_same HBQ.out (stores9_same WD w.heap.size (.int .i64 0) (.int .u64 0) (.int .u64 0) (.int .i64 0) (.int .i64 0) (.int .i64 0) (.slice none 0 0) (.int .i64 0) (.slice none 0 0)) (fun i hi e => by have e' : i = w.heap.size := e; omega))
              · have hL0 : LN = 0 := by omega
                subst hL0
                have HPD2 : Hid (P = (PU.1, 0)) := Lib.hid (by have h := HPD1.out; rw [show (if (0 : Nat) = 0 ∧ 0 < 0 then 11 else 0) = 0 from if_neg (fun h => absurd h.2 (by decide)), if_neg (show ¬ (0 : Nat) ≠ 0 by decide)] at h; exact h)
                have HUF2 := Lib.hid (HUF.out rfl)
                have q0 := HQa.out.cell_some (i := 0) rfl
                have q1 := HQa.out.cell_some (i := 1) rfl
                have q2 := HQa.out.cell_some (i := 2) rfl
                have q3 := HQa.out.cell_some (i := 3) rfl
                have q4 := HQa.out.cell_some (i := 4) rfl
                have q5 := HQa.out.cell_some (i := 5) rfl
                have q6 := HQa.out.cell_some (i := 6) rfl
                have q7 := HQa.out.cell_some (i := 7) rfl
                have q8 := HQa.out.cell_some (i := 8) rfl
                have y0 := HRa.out.cell_some (i := 0) rfl
                have y1 := HRa.out.cell_some (i := 1) rfl
                have y2 := HRa.out.cell_some (i := 2) rfl
                have y3 := HRa.out.cell_some (i := 3) rfl
                have y4 := HRa.out.cell_some (i := 4) rfl
                have y5 := HRa.out.cell_some (i := 5) rfl
                have y6 := HRa.out.cell_some (i := 6) rfl
                have y7 := HRa.out.cell_some (i := 7) rfl
                have y8 := HRa.out.cell_some (i := 8) rfl
                have x0 := HRa.out.frozen 0
                have x1 := HRa.out.frozen 1
                have x2 := HRa.out.frozen 2
                have x3 := HRa.out.frozen 3
                have x4 := HRa.out.frozen 4
                have x5 := HRa.out.frozen 5
                have x6 := HRa.out.frozen 6
                have x7 := HRa.out.frozen 7
                have x8 := HRa.out.frozen 8
                go_wp2_with fail
                refine bodyPost_ret (results_cr rfl _ _ (w.heap.size) _ _ _ _ rfl (stores9_blk HRa.out rfl (.int .i64 2) (.int .u64 (ep : Int)) (.int .u64 (ses : Int)) (.int .i64 0) (.int .i64 0) (.int .i64 0) (.slice none 0 0) (.int .i64 V4) (.slice none 0 0)) Tryd.underlying26 rfl (by kernel_rfl)) rfl ?_
                rw [HPD2.out, HUF2.out]
                refine ⟨.slice none 0 0, .slice none 0 0, ?_, ?_, ?_, below_same HBa.out (stores9_same W9 w.heap.size (.int .i64 2) (.int .u64 (ep : Int)) (.int .u64 (ses : Int)) (.int .i64 0) (.int .i64 0) (.int .i64 0) (.slice none 0 0) (.int .i64 V4) (.slice none 0 0)) (fun i hi e => by have e' : i = w.heap.size := e; omega)⟩
                · rw [uv, ofNat_toNat (by have := HLT2.out; omega), ofNat_toNat (by have := HLT3.out; omega)]
                  rfl
                · skip
                  exact own_same HDV.out (stores9_same W9 w.heap.size (.int .i64 2) (.int .u64 (ep : Int)) (.int .u64 (ses : Int)) (.int .i64 0) (.int .i64 0) (.int .i64 0) (.slice none 0 0) (.int .i64 V4) (.slice none 0 0)) (fun b hb e => by
                    have e' : b = w.heap.size := e
                    subst e'
                    exact own_blk_ne HDV.out HRa.out (by decide) hb)
                · skip
                  exact own_same HGV.out (stores9_same W9 w.heap.size (.int .i64 2) (.int .u64 (ep : Int)) (.int .u64 (ses : Int)) (.int .i64 0) (.int .i64 0) (.int .i64 0) (.slice none 0 0) (.int .i64 V4) (.slice none 0 0)) (fun b hb e => by
                    have e' : b = w.heap.size := e
                    subst e'
                    exact own_blk_ne HGV.out HRa.out (by decide) hb)
        · have h4 : s4.f = 0 := by omega
          have h5 : n4 = 0 := by omega
          have hD : D = (withCode (headU 2 ep ses) n4 (rangesS l (numbS l 0 32 s4).1 true 0 (numbS l 0 32 s4).2 []).1, (rangesS l (numbS l 0 32 s4).1 true 0 (numbS l 0 32 s4).2 []).2) := by rw [HDD.out, if_neg hsk]; rfl
          have hVz : V4 = 0 := by rw [HV4.out, if_pos h4, h5]; rfl
          subst hVz
          generalize hW9 : w9.setCell ⟨q, 7, none⟩ (.int .i64 0) = W9 at *
          have HC5b := Lib.hid (HC5.out W9 HRDa.out (fun b hb => by have := HFL.out b hb; have := HRDa.out.lt; omega))
          obtain ⟨at4, f4⟩ := s4
          simp only at h4
          subst h4
          generalize rangesS l (numbS l 0 32 ⟨at4, 0⟩).1 true 0 (numbS l 0 32 ⟨at4, 0⟩).2 [] = RG at *
          obtain ⟨RGL, RGS⟩ := RG
          go_wp2_with fail
          refine HC5b.out.mono ?_
          rintro e' wA ⟨rv, L, rfl, hor, hLe, hrx, hsx⟩
          simp only at hLe hrx hD
          obtain ⟨ra, rc, rfl, -⟩ := own_open hor
          obtain ⟨NL, hNL⟩ : ∃ NL, NL = L.length := ⟨_, rfl⟩
          rw [← hNL] at hor ⊢
          have HNL := Lib.hid hNL
          have hqx := HQa.out.same hsx HQG.out
          have z := hqx.cell_some (i := 8) rfl
          have zf := hqx.frozen 8
          have hqy := hqx.set 8 (.slice ra NL rc)
          simp only [List.set_cons_zero, List.set_cons_succ] at hqy
          have hry := hrx.store HQG.out HVQ.out 8 (.slice ra NL rc)
          have hRy := (HRa.out.same hsx (fun e => HRG.out e.symm)).far (p := ⟨q, 8, none⟩) (fun e => HQR.out e.symm) (.slice ra NL rc)
          have hBy : Below w.heap.size w (wA.setCell ⟨q, 8, none⟩ (.slice ra NL rc)) := below_same (below_same HBa.out hsx (fun i hi e => by have e' : i = g := e; have := HWG.out; omega)) (at1_set wA q 8 _) (fun i hi e => by have e' : i = q := e; have := HWQ.out; omega)
          have HQb := Lib.hid hqy; have HRDb := Lib.hid hry; have HRb := Lib.hid hRy; have HBb := Lib.hid hBy
          clear hqx hqy hry hRy hBy hrx
          have hor2 : (wA.setCell ⟨q, 8, none⟩ (.slice ra NL rc)).ownsRow w.heap.size 57 2 (.slice ra NL rc) NL (rvs L) := own_mono (own_same hor (at1_set wA q 8 _) (fun b hb e => by
            have e' : b = q := e
            subst e'
            exact own_blk_ne hor (HQa.out.same hsx HQG.out) (by decide) hb)) HBa.out.size
          have hst := HST0.out
          have HST : Hid (PU.2 = RGS) := Lib.hid (by rw [hst.1, hD])
          have HUF : Hid (RGS.f = 0 → PU.1 = ⟨2, UInt64.ofNat ep, UInt64.ofNat ses, 0, 0, 0, [], 0, L⟩) := Lib.hid (fun h => by
            rw [hst.2 (HOK4.out HL3.out (by first | rfl | trivial)), hD, hLe h, h5]
            rfl)
          have HGV := Lib.hid hor2
          have HDV := HDV (wA.setCell ⟨q, 8, none⟩ (.slice ra NL rc))
          clear hsx hor hor2 hst hD hLe hNL
          generalize hWA : wA.setCell ⟨q, 8, none⟩ (.slice ra NL rc) = WA at *
          obtain ⟨vz, hvz, hgz, hbz⟩ := HRDb.out.ex
          have zb := hgz.cell_some (i := 1) rfl
          have zr := hgz.cell_some (i := 0) rfl
          obtain ⟨za, zc, rfl, -⟩ := id hbz
          have hPD := HPD
          rw [HST.out] at hPD
          obtain ⟨atF, fF⟩ := RGS
          simp only at hPD zb zr
          obtain ⟨LN, hLN⟩ : ∃ LN, LN = (l.drop atF).length := ⟨_, rfl⟩
          rw [← hLN] at zr
          have hLN2 : LN = l.length - atF := by rw [hLN, List.length_drop]
          have hleF := HRDb.out.le
          simp only at hleF
          have hend : endS l ⟨atF, fF⟩ = if fF = 0 ∧ 0 < LN then 11 else fF := by
            unfold endS
            simp only
            by_cases h1 : fF = 0 ∧ atF < l.length
            · rw [if_pos h1, if_pos ⟨h1.1, by omega⟩]
            · rw [if_neg h1, if_neg (fun h => h1 ⟨h.1, by omega⟩)]
          rw [hend] at hPD
          have HLL := Lib.hid hLN2; have HPD1 := Lib.hid hPD
          clear hPD hend hgz hbz hvz hLN hLN2 hleF
          by_cases hfF : fF = 0
          · subst hfF
            by_cases hLp : 0 < LN
            · have HPD2 : Hid (P = (zeroU, 11)) := Lib.hid (by have h := HPD1.out; rw [show (if (0 : Nat) = 0 ∧ 0 < LN then 11 else 0) = 11 from if_pos ⟨rfl, hLp⟩, if_pos (show (11 : Nat) ≠ 0 by decide)] at h; exact h)
              have j1 : (0 : Int) < (LN : Int) := by omega
              have hfl := rrfail_any g B l ⟨atF, 0⟩ 11 WA HRDb.out
              have HFL2 := Lib.hid hfl
              clear hfl
              go_wp2_with fail
              refine HFL2.out.mono ?_
              rintro e' wf ⟨rfl, hrx, hsx⟩
              rw [failS, if_pos rfl] at hrx
              obtain ⟨vf, -, hgf, -⟩ := hrx.ex
              have zb := hgf.cell_some (i := 1) rfl
              have HRF := Lib.hid (HRb.out.same hsx (fun e => HRG.out e.symm))
              have HBF := Lib.hid (below_same HBb.out hsx (fun i hi e => by have e' : i = g := e; have := HWG.out; omega))
              clear hrx hsx hgf HFL2
              have HRQ := Lib.hid HRF.out.drew
              have HBQ := Lib.hid HBF.out.drew
              have y0 := HRQ.out.cell_some (i := 0) rfl
              have y1 := HRQ.out.cell_some (i := 1) rfl
              have y2 := HRQ.out.cell_some (i := 2) rfl
              have y3 := HRQ.out.cell_some (i := 3) rfl
              have y4 := HRQ.out.cell_some (i := 4) rfl
              have y5 := HRQ.out.cell_some (i := 5) rfl
              have y6 := HRQ.out.cell_some (i := 6) rfl
              have y7 := HRQ.out.cell_some (i := 7) rfl
              have y8 := HRQ.out.cell_some (i := 8) rfl
              have x0 := HRQ.out.frozen 0
              have x1 := HRQ.out.frozen 1
              have x2 := HRQ.out.frozen 2
              have x3 := HRQ.out.frozen 3
              have x4 := HRQ.out.frozen 4
              have x5 := HRQ.out.frozen 5
              have x6 := HRQ.out.frozen 6
              have x7 := HRQ.out.frozen 7
              have x8 := HRQ.out.frozen 8
              have zbd : (wf.drew).cell? ⟨g, 1, none⟩ = some (.int .i64 ((11 : Nat) : Int)) := zb
              generalize hWD : wf.drew = WD at *
              go_wp2_with fail
              refine region_mix (fun w' => w'.cell? ⟨g, 1, none⟩ = some (.int .i64 ((11 : Nat) : Int))) (fun i => i == 5) [0, 1, 2, 3, 4, 5, 6] (by kernel_rfl) (by kernel_rfl) (by rw [hWD]; exact zbd) ?_
              rw [hWD]
              repeat (first
                | (refine mix_pure rfl rfl (by kernel_rfl) ?_
                   apply Exists.intro
                   refine ⟨fun w' hw' => ?_, ?_⟩
                   · go_simp
                     with_reducible rfl
                   simp only [List.getElem_toArray, List.getElem_cons_zero, List.getElem_cons_succ, Act.put, List.setIfInBounds_toArray, List.set_cons_zero, List.set_cons_succ])
                | fail)
              refine mix_eff rfl rfl (by kernel_rfl) ?_
              unfold effAt
              go_simp
              simp only [effUpon, List.getElem_toArray, List.getElem_cons_zero, List.getElem_cons_succ, Act.put, List.setIfInBounds_toArray, List.set_cons_zero, List.set_cons_succ]
              refine ⟨?_, ?_⟩
              · have hcs := (stores9_same WD w.heap.size (.int .i64 0) (.int .u64 0) (.int .u64 0) (.int .i64 0) (.int .i64 0) (.int .i64 0) (.slice none 0 0) (.int .i64 0) (.slice none 0 0)).cell_some zbd (fun e => HRG.out e)
                exact hcs
              repeat (first
                | (refine mix_pure rfl rfl (by kernel_rfl) ?_
                   apply Exists.intro
                   refine ⟨fun w' hw' => ?_, ?_⟩
                   · go_simp
                     with_reducible rfl
                   simp only [List.getElem_toArray, List.getElem_cons_zero, List.getElem_cons_succ, Act.put, List.setIfInBounds_toArray, List.set_cons_zero, List.set_cons_succ])
                | fail)
              refine mix_nil ?_
              go_wp2_with fail
              refine bodyPost_ret (results_cr rfl _ _ (w.heap.size) _ _ _ _ rfl (stores9_blk HRQ.out rfl (.int .i64 0) (.int .u64 0) (.int .u64 0) (.int .i64 0) (.int .i64 0) (.int .i64 0) (.slice none 0 0) (.int .i64 0) (.slice none 0 0)) Tryd.underlying26 rfl (by kernel_rfl)) rfl ?_
              rw [HPD2.out]
              exact dec_bad (below_same HBQ.out (stores9_same WD w.heap.size (.int .i64 0) (.int .u64 0) (.int .u64 0) (.int .i64 0) (.int .i64 0) (.int .i64 0) (.slice none 0 0) (.int .i64 0) (.slice none 0 0)) (fun i hi e => by have e' : i = w.heap.size := e; omega))
            · have hL0 : LN = 0 := by omega
              subst hL0
              have HPD2 : Hid (P = (PU.1, 0)) := Lib.hid (by have h := HPD1.out; rw [show (if (0 : Nat) = 0 ∧ 0 < 0 then 11 else 0) = 0 from if_neg (fun h => absurd h.2 (by decide)), if_neg (show ¬ (0 : Nat) ≠ 0 by decide)] at h; exact h)
              have HUF2 := Lib.hid (HUF.out rfl)
              have q0 := HQb.out.cell_some (i := 0) rfl
              have q1 := HQb.out.cell_some (i := 1) rfl
              have q2 := HQb.out.cell_some (i := 2) rfl
              have q3 := HQb.out.cell_some (i := 3) rfl
              have q4 := HQb.out.cell_some (i := 4) rfl
              have q5 := HQb.out.cell_some (i := 5) rfl
              have q6 := HQb.out.cell_some (i := 6) rfl
              have q7 := HQb.out.cell_some (i := 7) rfl
              have q8 := HQb.out.cell_some (i := 8) rfl
              have y0 := HRb.out.cell_some (i := 0) rfl
              have y1 := HRb.out.cell_some (i := 1) rfl
              have y2 := HRb.out.cell_some (i := 2) rfl
              have y3 := HRb.out.cell_some (i := 3) rfl
              have y4 := HRb.out.cell_some (i := 4) rfl
              have y5 := HRb.out.cell_some (i := 5) rfl
              have y6 := HRb.out.cell_some (i := 6) rfl
              have y7 := HRb.out.cell_some (i := 7) rfl
              have y8 := HRb.out.cell_some (i := 8) rfl
              have x0 := HRb.out.frozen 0
              have x1 := HRb.out.frozen 1
              have x2 := HRb.out.frozen 2
              have x3 := HRb.out.frozen 3
              have x4 := HRb.out.frozen 4
              have x5 := HRb.out.frozen 5
              have x6 := HRb.out.frozen 6
              have x7 := HRb.out.frozen 7
              have x8 := HRb.out.frozen 8
              go_wp2_with fail
              refine bodyPost_ret (results_cr rfl _ _ (w.heap.size) _ _ _ _ rfl (stores9_blk HRb.out rfl (.int .i64 2) (.int .u64 (ep : Int)) (.int .u64 (ses : Int)) (.int .i64 0) (.int .i64 0) (.int .i64 0) (.slice none 0 0) (.int .i64 0) (.slice ra NL rc)) Tryd.underlying26 rfl (by kernel_rfl)) rfl ?_
              rw [HPD2.out, HUF2.out]
              refine ⟨.slice none 0 0, .slice ra NL rc, ?_, ?_, ?_, below_same HBb.out (stores9_same WA w.heap.size (.int .i64 2) (.int .u64 (ep : Int)) (.int .u64 (ses : Int)) (.int .i64 0) (.int .i64 0) (.int .i64 0) (.slice none 0 0) (.int .i64 0) (.slice ra NL rc)) (fun i hi e => by have e' : i = w.heap.size := e; omega)⟩
              · rw [uv, ofNat_toNat (by have := HLT2.out; omega), ofNat_toNat (by have := HLT3.out; omega)]
                rfl
              · skip
                exact own_same HDV.out (stores9_same WA w.heap.size (.int .i64 2) (.int .u64 (ep : Int)) (.int .u64 (ses : Int)) (.int .i64 0) (.int .i64 0) (.int .i64 0) (.slice none 0 0) (.int .i64 0) (.slice ra NL rc)) (fun b hb e => by
                  have e' : b = w.heap.size := e
                  subst e'
                  exact own_blk_ne HDV.out HRb.out (by decide) hb)
              · show World.ownsRow _ _ _ _ _ L.length _
                rw [← HNL.out]
                exact own_same HGV.out (stores9_same WA w.heap.size (.int .i64 2) (.int .u64 (ep : Int)) (.int .u64 (ses : Int)) (.int .i64 0) (.int .i64 0) (.int .i64 0) (.slice none 0 0) (.int .i64 0) (.slice ra NL rc)) (fun b hb e => by
                  have e' : b = w.heap.size := e
                  subst e'
                  exact own_blk_ne HGV.out HRb.out (by decide) hb)
          · have HPD2 : Hid (P = (zeroU, fF)) := Lib.hid (by have h := HPD1.out; rw [show (if fF = 0 ∧ 0 < LN then 11 else fF) = fF from if_neg (fun h => hfF h.1), if_pos (show fF ≠ 0 from hfF)] at h; exact h)
            have j1 : ((fF : Int) == 0) = false := by simp; omega
            have j2 : ¬ (fF : Int) = 0 := by omega
            have j3 : ((fF : Int) != 0) = true := by simp; omega
            have HRQ := Lib.hid HRb.out.drew
            have HBQ := Lib.hid HBb.out.drew
            have y0 := HRQ.out.cell_some (i := 0) rfl
            have y1 := HRQ.out.cell_some (i := 1) rfl
            have y2 := HRQ.out.cell_some (i := 2) rfl
            have y3 := HRQ.out.cell_some (i := 3) rfl
            have y4 := HRQ.out.cell_some (i := 4) rfl
            have y5 := HRQ.out.cell_some (i := 5) rfl
            have y6 := HRQ.out.cell_some (i := 6) rfl
            have y7 := HRQ.out.cell_some (i := 7) rfl
            have y8 := HRQ.out.cell_some (i := 8) rfl
            have x0 := HRQ.out.frozen 0
            have x1 := HRQ.out.frozen 1
            have x2 := HRQ.out.frozen 2
            have x3 := HRQ.out.frozen 3
            have x4 := HRQ.out.frozen 4
            have x5 := HRQ.out.frozen 5
            have x6 := HRQ.out.frozen 6
            have x7 := HRQ.out.frozen 7
            have x8 := HRQ.out.frozen 8
            have zbd : (WA.drew).cell? ⟨g, 1, none⟩ = some (.int .i64 (fF : Int)) := zb
            generalize hWD : WA.drew = WD at *
            go_wp2_with fail
            refine region_mix (fun w' => w'.cell? ⟨g, 1, none⟩ = some (.int .i64 (fF : Int))) (fun i => i == 5) [0, 1, 2, 3, 4, 5, 6] (by kernel_rfl) (by kernel_rfl) (by rw [hWD]; exact zbd) ?_
            rw [hWD]
            repeat (first
              | (refine mix_pure rfl rfl (by kernel_rfl) ?_
                 apply Exists.intro
                 refine ⟨fun w' hw' => ?_, ?_⟩
                 · go_simp
                   with_reducible rfl
                 simp only [List.getElem_toArray, List.getElem_cons_zero, List.getElem_cons_succ, Act.put, List.setIfInBounds_toArray, List.set_cons_zero, List.set_cons_succ])
              | fail)
            refine mix_eff rfl rfl (by kernel_rfl) ?_
            unfold effAt
            go_simp
            simp only [effUpon, List.getElem_toArray, List.getElem_cons_zero, List.getElem_cons_succ, Act.put, List.setIfInBounds_toArray, List.set_cons_zero, List.set_cons_succ]
            refine ⟨?_, ?_⟩
            · have hcs := (stores9_same WD w.heap.size (.int .i64 0) (.int .u64 0) (.int .u64 0) (.int .i64 0) (.int .i64 0) (.int .i64 0) (.slice none 0 0) (.int .i64 0) (.slice none 0 0)).cell_some zbd (fun e => HRG.out e)
              exact hcs
            repeat (first
              | (refine mix_pure rfl rfl (by kernel_rfl) ?_
                 apply Exists.intro
                 refine ⟨fun w' hw' => ?_, ?_⟩
                 · go_simp
                   with_reducible rfl
                 simp only [List.getElem_toArray, List.getElem_cons_zero, List.getElem_cons_succ, Act.put, List.setIfInBounds_toArray, List.set_cons_zero, List.set_cons_succ])
              | fail)
            refine mix_nil ?_
            go_wp2_with fail
            refine bodyPost_ret (results_cr rfl _ _ (w.heap.size) _ _ _ _ rfl (stores9_blk HRQ.out rfl (.int .i64 0) (.int .u64 0) (.int .u64 0) (.int .i64 0) (.int .i64 0) (.int .i64 0) (.slice none 0 0) (.int .i64 0) (.slice none 0 0)) Tryd.underlying26 rfl (by kernel_rfl)) rfl ?_
            rw [HPD2.out]
            exact dec_bad (below_same HBQ.out (stores9_same WD w.heap.size (.int .i64 0) (.int .u64 0) (.int .u64 0) (.int .i64 0) (.int .i64 0) (.int .i64 0) (.slice none 0 0) (.int .i64 0) (.slice none 0 0)) (fun i hi e => by have e' : i = w.heap.size := e; omega))
      · have b1 : (K == 1) = false := by simpa using hk1
        have b2 : (K == 2) = false := by simpa using hk2
        have hst : PU.2 = s3 ∧ (s3.f = 0 → PU.1 = headU k ep ses ∧ K = (k : Int)) := by
          have h := HPU.out
          by_cases h3 : s3.f = 0
          · have hs2 := HOK3.out HLE2.out h3
            have hs1 := HOK2.out HLE1.out hs2
            have hKk : K = (k : Int) := by rw [HK.out, if_pos hs1]
            rw [if_neg (show ¬ s3.f ≠ 0 by omega)] at h
            unfold bodyS at h
            rw [if_neg (show ¬ (headU k ep ses).kind = 1 from fun hh => hk1 (hKk.trans hh)), if_neg (show ¬ (headU k ep ses).kind = 2 from fun hh => hk2 (hKk.trans hh))] at h
            rw [h]
            exact ⟨rfl, fun _ => ⟨rfl, hKk⟩⟩
          · rw [if_pos h3] at h
            rw [h]
            exact ⟨rfl, fun hh => absurd hh h3⟩
        have HST := Lib.hid hst.1
        have HUF : Hid (s3.f = 0 → PU.1 = ⟨K, UInt64.ofNat ep, UInt64.ofNat ses, 0, 0, 0, [], 0, []⟩) := Lib.hid (fun h => by
          obtain ⟨h1, h2⟩ := hst.2 h
          rw [h1, h2]
          rfl)
        have HDV : Hid (w8.ownsRow w.heap.size 5 1 (.slice none 0 0) ([] : List UInt8).length (([] : List UInt8).map ub)) := Lib.hid (World.ownsRow_nil _ _ _ _)
        have HGV : Hid (w8.ownsRow w.heap.size 57 2 (.slice none 0 0) ([] : List (Int × Int)).length (rvs [])) := Lib.hid (World.ownsRow_nil _ _ _ _)
        clear hst
        obtain ⟨vz, hvz, hgz, hbz⟩ := HRD8.out.ex
        have zb := hgz.cell_some (i := 1) rfl
        have zr := hgz.cell_some (i := 0) rfl
        obtain ⟨za, zc, rfl, -⟩ := id hbz
        have hPD := HPD
        rw [HST.out] at hPD
        obtain ⟨atF, fF⟩ := s3
        simp only at hPD zb zr
        obtain ⟨LN, hLN⟩ : ∃ LN, LN = (l.drop atF).length := ⟨_, rfl⟩
        rw [← hLN] at zr
        have hLN2 : LN = l.length - atF := by rw [hLN, List.length_drop]
        have hleF := HRD8.out.le
        simp only at hleF
        have hend : endS l ⟨atF, fF⟩ = if fF = 0 ∧ 0 < LN then 11 else fF := by
          unfold endS
          simp only
          by_cases h1 : fF = 0 ∧ atF < l.length
          · rw [if_pos h1, if_pos ⟨h1.1, by omega⟩]
          · rw [if_neg h1, if_neg (fun h => h1 ⟨h.1, by omega⟩)]
        rw [hend] at hPD
        have HLL := Lib.hid hLN2; have HPD1 := Lib.hid hPD
        clear hPD hend hgz hbz hvz hLN hLN2 hleF
        by_cases hfF : fF = 0
        · subst hfF
          by_cases hLp : 0 < LN
          · have HPD2 : Hid (P = (zeroU, 11)) := Lib.hid (by have h := HPD1.out; rw [show (if (0 : Nat) = 0 ∧ 0 < LN then 11 else 0) = 11 from if_pos ⟨rfl, hLp⟩, if_pos (show (11 : Nat) ≠ 0 by decide)] at h; exact h)
            have j1 : (0 : Int) < (LN : Int) := by omega
            have hfl := rrfail_any g B l ⟨atF, 0⟩ 11 w8 HRD8.out
            have HFL2 := Lib.hid hfl
            clear hfl
            go_wp2_with fail
            refine HFL2.out.mono ?_
            rintro e' wf ⟨rfl, hrx, hsx⟩
            rw [failS, if_pos rfl] at hrx
            obtain ⟨vf, -, hgf, -⟩ := hrx.ex
            have zb := hgf.cell_some (i := 1) rfl
            have HRF := Lib.hid (HR8.out.same hsx (fun e => HRG.out e.symm))
            have HBF := Lib.hid (below_same HB8.out hsx (fun i hi e => by have e' : i = g := e; have := HWG.out; omega))
            clear hrx hsx hgf HFL2
            have HRQ := Lib.hid HRF.out.drew
            have HBQ := Lib.hid HBF.out.drew
            have y0 := HRQ.out.cell_some (i := 0) rfl
            have y1 := HRQ.out.cell_some (i := 1) rfl
            have y2 := HRQ.out.cell_some (i := 2) rfl
            have y3 := HRQ.out.cell_some (i := 3) rfl
            have y4 := HRQ.out.cell_some (i := 4) rfl
            have y5 := HRQ.out.cell_some (i := 5) rfl
            have y6 := HRQ.out.cell_some (i := 6) rfl
            have y7 := HRQ.out.cell_some (i := 7) rfl
            have y8 := HRQ.out.cell_some (i := 8) rfl
            have x0 := HRQ.out.frozen 0
            have x1 := HRQ.out.frozen 1
            have x2 := HRQ.out.frozen 2
            have x3 := HRQ.out.frozen 3
            have x4 := HRQ.out.frozen 4
            have x5 := HRQ.out.frozen 5
            have x6 := HRQ.out.frozen 6
            have x7 := HRQ.out.frozen 7
            have x8 := HRQ.out.frozen 8
            have zbd : (wf.drew).cell? ⟨g, 1, none⟩ = some (.int .i64 ((11 : Nat) : Int)) := zb
            generalize hWD : wf.drew = WD at *
            go_wp2_with fail
            refine region_mix (fun w' => w'.cell? ⟨g, 1, none⟩ = some (.int .i64 ((11 : Nat) : Int))) (fun i => i == 5) [0, 1, 2, 3, 4, 5, 6] (by kernel_rfl) (by kernel_rfl) (by rw [hWD]; exact zbd) ?_
            rw [hWD]
            repeat (first
              | (refine mix_pure rfl rfl (by kernel_rfl) ?_
                 apply Exists.intro
                 refine ⟨fun w' hw' => ?_, ?_⟩
                 · go_simp
                   with_reducible rfl
                 simp only [List.getElem_toArray, List.getElem_cons_zero, List.getElem_cons_succ, Act.put, List.setIfInBounds_toArray, List.set_cons_zero, List.set_cons_succ])
              | fail)
            refine mix_eff rfl rfl (by kernel_rfl) ?_
            unfold effAt
            go_simp
            simp only [effUpon, List.getElem_toArray, List.getElem_cons_zero, List.getElem_cons_succ, Act.put, List.setIfInBounds_toArray, List.set_cons_zero, List.set_cons_succ]
            refine ⟨?_, ?_⟩
            · have hcs := (stores9_same WD w.heap.size (.int .i64 0) (.int .u64 0) (.int .u64 0) (.int .i64 0) (.int .i64 0) (.int .i64 0) (.slice none 0 0) (.int .i64 0) (.slice none 0 0)).cell_some zbd (fun e => HRG.out e)
              exact hcs
            repeat (first
              | (refine mix_pure rfl rfl (by kernel_rfl) ?_
                 apply Exists.intro
                 refine ⟨fun w' hw' => ?_, ?_⟩
                 · go_simp
                   with_reducible rfl
                 simp only [List.getElem_toArray, List.getElem_cons_zero, List.getElem_cons_succ, Act.put, List.setIfInBounds_toArray, List.set_cons_zero, List.set_cons_succ])
              | fail)
            refine mix_nil ?_
            go_wp2_with fail
            refine bodyPost_ret (results_cr rfl _ _ (w.heap.size) _ _ _ _ rfl (stores9_blk HRQ.out rfl (.int .i64 0) (.int .u64 0) (.int .u64 0) (.int .i64 0) (.int .i64 0) (.int .i64 0) (.slice none 0 0) (.int .i64 0) (.slice none 0 0)) Tryd.underlying26 rfl (by kernel_rfl)) rfl ?_
            rw [HPD2.out]
            exact dec_bad (below_same HBQ.out (stores9_same WD w.heap.size (.int .i64 0) (.int .u64 0) (.int .u64 0) (.int .i64 0) (.int .i64 0) (.int .i64 0) (.slice none 0 0) (.int .i64 0) (.slice none 0 0)) (fun i hi e => by have e' : i = w.heap.size := e; omega))
          · have hL0 : LN = 0 := by omega
            subst hL0
            have HPD2 : Hid (P = (PU.1, 0)) := Lib.hid (by have h := HPD1.out; rw [show (if (0 : Nat) = 0 ∧ 0 < 0 then 11 else 0) = 0 from if_neg (fun h => absurd h.2 (by decide)), if_neg (show ¬ (0 : Nat) ≠ 0 by decide)] at h; exact h)
            have HUF2 := Lib.hid (HUF.out rfl)
            have q0 := HQ8.out.cell_some (i := 0) rfl
            have q1 := HQ8.out.cell_some (i := 1) rfl
            have q2 := HQ8.out.cell_some (i := 2) rfl
            have q3 := HQ8.out.cell_some (i := 3) rfl
            have q4 := HQ8.out.cell_some (i := 4) rfl
            have q5 := HQ8.out.cell_some (i := 5) rfl
            have q6 := HQ8.out.cell_some (i := 6) rfl
            have q7 := HQ8.out.cell_some (i := 7) rfl
            have q8 := HQ8.out.cell_some (i := 8) rfl
            have y0 := HR8.out.cell_some (i := 0) rfl
            have y1 := HR8.out.cell_some (i := 1) rfl
            have y2 := HR8.out.cell_some (i := 2) rfl
            have y3 := HR8.out.cell_some (i := 3) rfl
            have y4 := HR8.out.cell_some (i := 4) rfl
            have y5 := HR8.out.cell_some (i := 5) rfl
            have y6 := HR8.out.cell_some (i := 6) rfl
            have y7 := HR8.out.cell_some (i := 7) rfl
            have y8 := HR8.out.cell_some (i := 8) rfl
            have x0 := HR8.out.frozen 0
            have x1 := HR8.out.frozen 1
            have x2 := HR8.out.frozen 2
            have x3 := HR8.out.frozen 3
            have x4 := HR8.out.frozen 4
            have x5 := HR8.out.frozen 5
            have x6 := HR8.out.frozen 6
            have x7 := HR8.out.frozen 7
            have x8 := HR8.out.frozen 8
            go_wp2_with fail
            refine bodyPost_ret (results_cr rfl _ _ (w.heap.size) _ _ _ _ rfl (stores9_blk HR8.out rfl (.int .i64 K) (.int .u64 (ep : Int)) (.int .u64 (ses : Int)) (.int .i64 0) (.int .i64 0) (.int .i64 0) (.slice none 0 0) (.int .i64 0) (.slice none 0 0)) Tryd.underlying26 rfl (by kernel_rfl)) rfl ?_
            rw [HPD2.out, HUF2.out]
            refine ⟨.slice none 0 0, .slice none 0 0, ?_, ?_, ?_, below_same HB8.out (stores9_same w8 w.heap.size (.int .i64 K) (.int .u64 (ep : Int)) (.int .u64 (ses : Int)) (.int .i64 0) (.int .i64 0) (.int .i64 0) (.slice none 0 0) (.int .i64 0) (.slice none 0 0)) (fun i hi e => by have e' : i = w.heap.size := e; omega)⟩
            · rw [uv, ofNat_toNat (by have := HLT2.out; omega), ofNat_toNat (by have := HLT3.out; omega)]
              rfl
            · skip
              exact own_same HDV.out (stores9_same w8 w.heap.size (.int .i64 K) (.int .u64 (ep : Int)) (.int .u64 (ses : Int)) (.int .i64 0) (.int .i64 0) (.int .i64 0) (.slice none 0 0) (.int .i64 0) (.slice none 0 0)) (fun b hb e => by
                have e' : b = w.heap.size := e
                subst e'
                exact own_blk_ne HDV.out HR8.out (by decide) hb)
            · skip
              exact own_same HGV.out (stores9_same w8 w.heap.size (.int .i64 K) (.int .u64 (ep : Int)) (.int .u64 (ses : Int)) (.int .i64 0) (.int .i64 0) (.int .i64 0) (.slice none 0 0) (.int .i64 0) (.slice none 0 0)) (fun b hb e => by
                have e' : b = w.heap.size := e
                subst e'
                exact own_blk_ne HGV.out HR8.out (by decide) hb)
        · have HPD2 : Hid (P = (zeroU, fF)) := Lib.hid (by have h := HPD1.out; rw [show (if fF = 0 ∧ 0 < LN then 11 else fF) = fF from if_neg (fun h => hfF h.1), if_pos (show fF ≠ 0 from hfF)] at h; exact h)
          have j1 : ((fF : Int) == 0) = false := by simp; omega
          have j2 : ¬ (fF : Int) = 0 := by omega
          have j3 : ((fF : Int) != 0) = true := by simp; omega
          have HRQ := Lib.hid HR8.out.drew
          have HBQ := Lib.hid HB8.out.drew
          have y0 := HRQ.out.cell_some (i := 0) rfl
          have y1 := HRQ.out.cell_some (i := 1) rfl
          have y2 := HRQ.out.cell_some (i := 2) rfl
          have y3 := HRQ.out.cell_some (i := 3) rfl
          have y4 := HRQ.out.cell_some (i := 4) rfl
          have y5 := HRQ.out.cell_some (i := 5) rfl
          have y6 := HRQ.out.cell_some (i := 6) rfl
          have y7 := HRQ.out.cell_some (i := 7) rfl
          have y8 := HRQ.out.cell_some (i := 8) rfl
          have x0 := HRQ.out.frozen 0
          have x1 := HRQ.out.frozen 1
          have x2 := HRQ.out.frozen 2
          have x3 := HRQ.out.frozen 3
          have x4 := HRQ.out.frozen 4
          have x5 := HRQ.out.frozen 5
          have x6 := HRQ.out.frozen 6
          have x7 := HRQ.out.frozen 7
          have x8 := HRQ.out.frozen 8
          have zbd : (w8.drew).cell? ⟨g, 1, none⟩ = some (.int .i64 (fF : Int)) := zb
          generalize hWD : w8.drew = WD at *
          go_wp2_with fail
          refine region_mix (fun w' => w'.cell? ⟨g, 1, none⟩ = some (.int .i64 (fF : Int))) (fun i => i == 5) [0, 1, 2, 3, 4, 5, 6] (by kernel_rfl) (by kernel_rfl) (by rw [hWD]; exact zbd) ?_
          rw [hWD]
          repeat (first
            | (refine mix_pure rfl rfl (by kernel_rfl) ?_
               apply Exists.intro
               refine ⟨fun w' hw' => ?_, ?_⟩
               · go_simp
                 with_reducible rfl
               simp only [List.getElem_toArray, List.getElem_cons_zero, List.getElem_cons_succ, Act.put, List.setIfInBounds_toArray, List.set_cons_zero, List.set_cons_succ])
            | fail)
          refine mix_eff rfl rfl (by kernel_rfl) ?_
          unfold effAt
          go_simp
          simp only [effUpon, List.getElem_toArray, List.getElem_cons_zero, List.getElem_cons_succ, Act.put, List.setIfInBounds_toArray, List.set_cons_zero, List.set_cons_succ]
          refine ⟨?_, ?_⟩
          · have hcs := (stores9_same WD w.heap.size (.int .i64 0) (.int .u64 0) (.int .u64 0) (.int .i64 0) (.int .i64 0) (.int .i64 0) (.slice none 0 0) (.int .i64 0) (.slice none 0 0)).cell_some zbd (fun e => HRG.out e)
            exact hcs
          repeat (first
            | (refine mix_pure rfl rfl (by kernel_rfl) ?_
               apply Exists.intro
               refine ⟨fun w' hw' => ?_, ?_⟩
               · go_simp
                 with_reducible rfl
               simp only [List.getElem_toArray, List.getElem_cons_zero, List.getElem_cons_succ, Act.put, List.setIfInBounds_toArray, List.set_cons_zero, List.set_cons_succ])
            | fail)
          refine mix_nil ?_
          go_wp2_with fail
          refine bodyPost_ret (results_cr rfl _ _ (w.heap.size) _ _ _ _ rfl (stores9_blk HRQ.out rfl (.int .i64 0) (.int .u64 0) (.int .u64 0) (.int .i64 0) (.int .i64 0) (.int .i64 0) (.slice none 0 0) (.int .i64 0) (.slice none 0 0)) Tryd.underlying26 rfl (by kernel_rfl)) rfl ?_
          rw [HPD2.out]
          exact dec_bad (below_same HBQ.out (stores9_same WD w.heap.size (.int .i64 0) (.int .u64 0) (.int .u64 0) (.int .i64 0) (.int .i64 0) (.int .i64 0) (.slice none 0 0) (.int .i64 0) (.slice none 0 0)) (fun i hi e => by have e' : i = w.heap.size := e; omega))
  · have i1 : ((e : Int) != 0) = true := by simp; omega
    have i2 : ¬ (e : Int) = 0 := by omega
    have HPP : Hid (P = (zeroU, e)) := Lib.hid (by rw [HP.out, if_pos he])
    have z0 := HR1.out.cell_some (i := 0) rfl
    have z1 := HR1.out.cell_some (i := 1) rfl
    have z2 := HR1.out.cell_some (i := 2) rfl
    have z3 := HR1.out.cell_some (i := 3) rfl
    have z4 := HR1.out.cell_some (i := 4) rfl
    have z5 := HR1.out.cell_some (i := 5) rfl
    have z6 := HR1.out.cell_some (i := 6) rfl
    have z7 := HR1.out.cell_some (i := 7) rfl
    have z8 := HR1.out.cell_some (i := 8) rfl
    have f0 := HR1.out.frozen 0
    have f1 := HR1.out.frozen 1
    have f2 := HR1.out.frozen 2
    have f3 := HR1.out.frozen 3
    have f4 := HR1.out.frozen 4
    have f5 := HR1.out.frozen 5
    have f6 := HR1.out.frozen 6
    have f7 := HR1.out.frozen 7
    have f8 := HR1.out.frozen 8
    go_wp2_with fail
    refine bodyPost_ret (results_cr rfl _ _ (w.heap.size) _ _ _ _ rfl (stores9_blk HR1.out rfl (.int .i64 0) (.int .u64 0) (.int .u64 0) (.int .i64 0) (.int .i64 0) (.int .i64 0) (.slice none 0 0) (.int .i64 0) (.slice none 0 0)) Tryd.underlying26 rfl (by kernel_rfl)) rfl ?_
    rw [HPP.out]
    exact dec_bad (HBW.out.trans ((stores9_same w1 w.heap.size (.int .i64 0) (.int .u64 0) (.int .u64 0) (.int .i64 0) (.int .i64 0) (.int .i64 0) (.slice none 0 0) (.int .i64 0) (.slice none 0 0)).belowB fun i hi => ⟨Nat.lt_of_lt_of_le hi HBW.out.size, fun e => by have : i = w.heap.size := e; omega⟩))
end Go.Proofs.YtghjffgaebnhiaaDoor
