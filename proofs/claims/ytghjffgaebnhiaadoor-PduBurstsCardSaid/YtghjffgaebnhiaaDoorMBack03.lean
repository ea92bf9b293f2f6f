/- PduBack returns true. -/
import Derived.Test.YtghjffgaebnhiaaDoorMSmall03
import Derived.Test.YtghjffgaebnhiaaDoorMKept
namespace Go.Proofs.YtghjffgaebnhiaaDoor
set_option linter.unusedVariables false
set_option linter.unusedSimpArgs false
open Go.RowKit
theorem decP_seal (t : List UInt8) : decP (t ++ sumB (crcOf t)) = decB t := by
  unfold decP
  rw [unseal_seal, if_neg (by simp)]
theorem valid_got {u : UD} (h : validU u) : u.got.length ≤ 64 := by
  rcases h.2.2 with ⟨-, hg⟩ | ⟨-, hg⟩ | ⟨-, hg⟩
  · have := hg.2.2.2.2.2.2.2.2; omega
  · have := mono_len (mono_of_rises hg.2.2.2.2 (by decide : (0 : Int) ≤ -1 + 1)) (by decide); omega
  · have := hg.2.2; omega
theorem encU_small {u : UD} (h : validU u) : (encU u).length ≤ 140737488355328 := by
  have h1 := fun (ns : List Nat) (h : ∀ n ∈ ns, n < 18446744073709551616) => digs_len ns h
  obtain ⟨⟨-, n1⟩, ⟨-, n2⟩, hc⟩ := h
  have hk : u.kind.toNat < 18446744073709551616 := by omega
  have hh := h1 [u.kind.toNat, u.ep.toNat, u.ses.toNat] (by intro n hn; simp at hn; omega)
  simp only [List.length_cons, List.length_nil] at hh
  rw [encU, List.length_append, sumB_len, encB, List.length_append, bodyU]
  rcases hc with ⟨h2, hg⟩ | ⟨h2, hg⟩ | ⟨h2, hg⟩
  · rw [if_pos h2]
    obtain ⟨g1, g2, g3, g4, g5, g6, g7, -⟩ := hg
    have h3 := h1 [u.path.toNat, u.idx.toNat, u.cnt.toNat] (by intro n hn; simp at hn; omega)
    have h4 := dig_len (n := u.data.length) (by omega)
    simp only [List.length_cons, List.length_nil] at h3
    simp only [List.length_append]
    omega
  · rw [if_neg (by omega), if_pos h2]
    have := layR_len u hg.2.1 hg.2.2.1 (mono_of_rises hg.2.2.2.2 (by decide))
    omega
  · rw [if_neg (by omega), if_neg (by omega)]
    simp only [List.length_nil]
    omega
set_option maxHeartbeats 8000000 in
set_option maxRecDepth 100000 in
theorem pduBack_in (u : UD) (dv gv tv : Value) (text : List UInt8) (w : World) (hd : Bs w dv u.data) (hg : Rgs w gv u.got) (hl1 : u.data.length ≤ 140737488351232) (hl2 : u.got.length ≤ 8796093022000) (htx : Bs w tv text) (htl : text.length ≤ 140737488351232) (ht : Tab w) :
    Calls Tryd.prog 5 #[uv u dv gv, tv] w fun e w' => e = .returned (.bool true) ∧ Below w.heap.size w w' := by
  obtain ⟨dp, dc, rfl, -⟩ := id hd
  obtain ⟨gp, gc, rfl, -⟩ := id hg
  obtain ⟨tp, tc, rfl, -⟩ := id htx
  obtain ⟨V, hV⟩ : ∃ V : Int, V = if validU u then 0 else 30 := ⟨_, rfl⟩
  obtain ⟨E, hE⟩ : ∃ E : List UInt8, E = if validU u then encU u else [] := ⟨_, rfl⟩
  obtain ⟨M, hM⟩ : ∃ M, M = E.length := ⟨_, rfl⟩
  have hcases : (V = 0 ∧ decP E = (u, 0) ∧ E.length ≤ 140737488355328) ∨ V = 30 := by
    by_cases hv : validU u
    · rw [if_pos hv] at hV hE
      refine .inl ⟨hV, by rw [hE]; exact decP_enc hv, ?_⟩
      rw [hE]
      exact encU_small hv
    · rw [if_neg hv] at hV
      exact .inr hV
  have csmall := fun (W : World) (h : Below w.heap.size w W) => small_any W (ht.later h)
  have cgiven := fun (W : World) (h : Below w.heap.size w W) => given_any u _ _ W (Rd.later hd h) (hg.later h) (by omega) (by omega)
  have cvalid := fun (W : World) (h : Below w.heap.size w W) => valid_any u dp gp dc gc W (hg.later h) (by omega)
  have cenc := fun (W : World) (b1 b2 : Nat) (hd : Bs W (.slice (some ⟨b1, 0, none⟩) u.data.length (u.data.length + 4)) u.data) (h : Rgs W (.slice (some ⟨b2, 0, none⟩) u.got.length (u.got.length + 3)) u.got) (hb : Below w.heap.size w W) => encode_any u (some ⟨b1, 0, none⟩) (some ⟨b2, 0, none⟩) (u.data.length + 4) (u.got.length + 3) W hd h (by omega) (ht.later hb)
  have cdec := fun (W : World) (v : Value) (hb : Below w.heap.size w W) (h : Bs W v E) (hs : E.length ≤ 140737488355328) => decode_any v E W h (ht.later hb) hs
  have csame := fun (W : World) (dv' gv' : Value) (hb : Below w.heap.size w W) (h1 : Bs W dv' u.data) (h2 : Rgs W gv' u.got) => sameUnit_yes u _ _ dv' gv' W (Rd.later hd hb) (hg.later hb) h1 h2 (by omega)
  obtain ⟨S, hS⟩ : ∃ S, S = text ++ sumB (crcOf text) := ⟨_, rfl⟩
  have hSl : S.length = text.length + 4 := by rw [hS, List.length_append, sumB_len]
  have hdS : decP S = decB text := by rw [hS]; exact decP_seal text
  have hback := decB_back (l := text)
  have cseal := fun (W : World) (hb : Below w.heap.size w W) => seal_any _ text W (Rd.later htx hb) (ht.later hb) (by omega)
  have cdec2 := fun (W : World) (v : Value) (hb : Below w.heap.size w W) (h : Bs W v S) => decode_any v S W h (ht.later hb) (by omega)
  rw [← hS] at cseal
  rw [hdS] at cdec2
  obtain ⟨Q, hQ⟩ : ∃ Q, Q = decB text := ⟨_, rfl⟩
  rw [← hQ] at cdec2 hback
  obtain ⟨pu, f⟩ := Q
  simp only at hback
  have cenc2 := fun (hv : validU pu ∧ encB pu = text) (W : World) (da ra : Option Addr) (dc rc : Nat) (hd : Bs W (.slice da pu.data.length dc) pu.data) (h : Rgs W (.slice ra pu.got.length rc) pu.got) (hl : pu.got.length ≤ 140737488355328) (hb : Below w.heap.size w W) => encode_any pu da ra dc rc W hd h hl (ht.later hb)
  have cval2 := fun (hv : validU pu ∧ encB pu = text) (W : World) (da ra : Option Addr) (dc rc : Nat) (h : Rgs W (.slice ra pu.got.length rc) pu.got) (hl : pu.got.length ≤ 140737488355328) => valid_any pu da ra dc rc W h hl
  have hpe : validU pu ∧ encB pu = text → (if validU pu then encU pu else []) = S ∧ (if validU pu then (0 : Int) else 30) = 0 := fun hv => by rw [if_pos hv.1, if_pos hv.1, encU, hv.2]; exact ⟨hS.symm, rfl⟩
  unfold EncPost at cenc cenc2
  unfold DecPost at cdec cdec2
  unfold GivenPost at cgiven
  simp only [← hV, ← hE, ← hM] at cvalid cenc
  have cenc3 : f = 0 → ∀ (W : World) (da ra : Option Addr) (dc rc : Nat), Bs W (.slice da pu.data.length dc) pu.data → Rgs W (.slice ra pu.got.length rc) pu.got → Below w.heap.size w W →
      Calls Tryd.prog 11 #[uv pu (.slice da pu.data.length dc) (.slice ra pu.got.length rc)] W (fun e w' => ∃ v', e = .returned (.tuple #[v', .int .i64 0]) ∧ w'.ownsRow W.heap.size 5 1 v' S.length (S.map ub) ∧ Below W.heap.size W w') := fun hf W da ra dc rc h1 h2 h3 => by
    have h4 := cenc2 (hback hf) W da ra dc rc h1 h2 (by have := valid_got (hback hf).1; omega) h3
    rw [(hpe (hback hf)).1, (hpe (hback hf)).2] at h4
    exact h4
  have cval3 : f = 0 → ∀ (W : World) (da ra : Option Addr) (dc rc : Nat), Rgs W (.slice ra pu.got.length rc) pu.got →
      Calls Tryd.prog 10 #[uv pu (.slice da pu.data.length dc) (.slice ra pu.got.length rc)] W (fun e w' => e = .returned (.int .i64 0) ∧ Below W.heap.size W w') := fun hf W da ra dc rc h2 => by
    have h4 := cval2 (hback hf) W da ra dc rc h2 (by have := valid_got (hback hf).1; omega)
    rw [(hpe (hback hf)).2] at h4
    exact h4
  obtain ⟨SN, hSN⟩ : ∃ SN, SN = S.length := ⟨_, rfl⟩
  have HSN := Lib.hid hSN; have HM := Lib.hid hM; have HCASES := Lib.hid hcases
  simp only [← hSN] at cenc3 cseal
  clear cenc2 cval2 hpe hback hQ hdS hSl hS hV hE hM hSN hcases
  obtain ⟨kind, ep, ses, path, idx, cnt, data, code, got⟩ := u
  obtain ⟨pk, pep, pses, pp, pidx, pc, pdata, pcode, pgot⟩ := pu
  simp only [uv] at *
  obtain ⟨n, hn⟩ : ∃ n, n = data.length := ⟨_, rfl⟩
  obtain ⟨k, hk⟩ : ∃ k, k = got.length := ⟨_, rfl⟩
  obtain ⟨e1, he1⟩ : ∃ e1, e1 = ep.toNat := ⟨_, rfl⟩
  obtain ⟨e2, he2⟩ : ∃ e2, e2 = ses.toNat := ⟨_, rfl⟩
  obtain ⟨pn, hpn⟩ : ∃ n, n = pdata.length := ⟨_, rfl⟩
  obtain ⟨pg, hpg⟩ : ∃ k, k = pgot.length := ⟨_, rfl⟩
  obtain ⟨p1, hp1⟩ : ∃ e1, e1 = pep.toNat := ⟨_, rfl⟩
  obtain ⟨p2, hp2⟩ : ∃ e2, e2 = pses.toNat := ⟨_, rfl⟩
  obtain ⟨tn, htn⟩ : ∃ tn, tn = text.length := ⟨_, rfl⟩
  simp only [← hn, ← hk, ← he1, ← he2, ← hpn, ← hpg, ← hp1, ← hp2, ← htn] at cgiven cvalid cenc cdec csame cseal cdec2 cenc3 cval3 hl1 hl2 ⊢
  have HGV := Lib.hid cgiven; have HVA := Lib.hid cvalid; have HEN := Lib.hid cenc; have HDE := Lib.hid cdec; have HSM := Lib.hid csame; have HSE := Lib.hid cseal; have HD2 := Lib.hid cdec2; have HE3 := Lib.hid cenc3; have HV3 := Lib.hid cval3; have HSMALL := Lib.hid csmall
  have HN := Lib.hid hn; have HK := Lib.hid hk; have HPN := Lib.hid hpn; have HPG := Lib.hid hpg; have HTN := Lib.hid htn; have HE1 := Lib.hid he1; have HE2 := Lib.hid he2
  have HL1 := Lib.hid hl1; have HL2 := Lib.hid hl2
  clear cgiven cvalid cenc cdec csame cseal cdec2 cenc3 cval3 csmall hn hk he1 he2 hpn hpg hp1 hp2 htn hd hg htx htl ht hl1 hl2
  obtain ⟨W0, hW0⟩ : ∃ W0, W0 = w.alloc (.cells #[.int .i64 kind, .int .u64 (e1 : Int), .int .u64 (e2 : Int), .int .i64 path, .int .i64 idx, .int .i64 cnt, .slice dp n dc, .int .i64 code, .slice gp k gc] 26) := ⟨_, rfl⟩
  have hB0 : Below w.heap.size w W0 := hW0 ▸ (Below.refl _ _).alloc (Nat.le_refl _) _
  have hU0 : Blk W0 w.heap.size 26 [.int .i64 kind, .int .u64 (e1 : Int), .int .u64 (e2 : Int), .int .i64 path, .int .i64 idx, .int .i64 cnt, .slice dp n dc, .int .i64 code, .slice gp k gc] := hW0 ▸ Blk.new w _ _
  have HB0 := Lib.hid hB0; have HU0 := Lib.hid hU0; have HW0 := Lib.hid hW0
  clear hB0 hU0 hW0
  go_enter Tryd.func5, Tryd.ntmps5
  go_wp2_with fail
  rw [← HW0.out]
  refine (HSMALL.out W0 HB0.out).mono ?_
  rintro e w1 ⟨rfl, hB1⟩
  have HU1 := Lib.hid (HU0.out.later hB1); have HB1 := Lib.hid (below_trans HB0.out hB1)
  clear hB1 HSMALL
  have x0 := HU1.out.cell_some (i := 0) rfl
  have x1 := HU1.out.cell_some (i := 1) rfl
  have x2 := HU1.out.cell_some (i := 2) rfl
  have x3 := HU1.out.cell_some (i := 3) rfl
  have x4 := HU1.out.cell_some (i := 4) rfl
  have x5 := HU1.out.cell_some (i := 5) rfl
  have x6 := HU1.out.cell_some (i := 6) rfl
  have x7 := HU1.out.cell_some (i := 7) rfl
  have x8 := HU1.out.cell_some (i := 8) rfl
  go_wp2_with fail
  refine (HGV.out w1 HB1.out).mono ?_
  rintro e w2 ⟨v1, v2, rfl, hlb, hlr, hB2⟩
  obtain ⟨b1, rfl, hb1, -⟩ := id hlb
  obtain ⟨b2, rfl, hb2, -⟩ := id hlr
  rw [← HN.out, ← HK.out]
  have hL1 := HL1.out; have hL2 := HL2.out
  have hd2 : Bs w2 (.slice (some ⟨b1, 0, none⟩) n (n + 4)) data := by have h := hlb.bs (by rw [HN.out] at hL1; omega); rw [← HN.out] at h; exact h
  have hg2 : Rgs w2 (.slice (some ⟨b2, 0, none⟩) k (k + 3)) got := by have h := hlr.rgs (by rw [HK.out] at hL2; omega); rw [← HK.out] at h; exact h
  have HU2 := Lib.hid (HU1.out.later hB2); have HB2 := Lib.hid (below_trans HB1.out hB2)
  have HC2 := Lib.hid (HEN.out w2 b1 b2 (by first | exact hd2 | (rw [HN.out] at hd2 ⊢; exact hd2)) (by first | exact hg2 | (rw [HK.out] at hg2 ⊢; exact hg2)) HB2.out)
  clear hB2 hlb hlr hd2 hg2 x0 x1 x2 x3 x4 x5 x6 x7 x8 hL1 hL2
  go_wp2_with fail
  refine HC2.out.mono ?_
  rintro e w3 ⟨v3, rfl, ho3, hB3⟩
  have hE3 : Bs w3 v3 E := by show Rd w3 v3 E.length _; rw [← HM.out]; exact Rd.of_own ho3
  obtain ⟨a3, c3, rfl, -⟩ := own_open ho3
  have HU3 := Lib.hid (HU2.out.later hB3); have HB3 := Lib.hid (below_trans HB2.out hB3); have HEE := Lib.hid hE3
  clear ho3 hB3 hE3 HC2
  rcases HCASES.out with ⟨hv0, hdE, hEl⟩ | hv0
  · subst hv0
    have hdd := HDE.out w3 _ HB3.out HEE.out hEl
    rw [hdE] at hdd
    simp only at hdd
    have HDD := Lib.hid hdd
    clear hdd hdE hEl HCASES
    go_wp2_with fail
    refine HDD.out.mono ?_
    rintro e w4 ⟨dv, rv, rfl, ho4, hr4, hB4⟩
    have hd4 : Bs w4 dv data := Bs.of_own ho4
    have hg4 : Rgs w4 rv got := Rgs.of_own hr4
    obtain ⟨qa, qc, rfl, -⟩ := own_open ho4
    obtain ⟨ra, rc, rfl, -⟩ := own_open hr4
    rw [← HN.out] at hd4 ho4 ⊢
    rw [← HK.out] at hg4 hr4 ⊢
    rw [← HE1.out, ← HE2.out]
    obtain ⟨W5, hW5⟩ : ∃ W5, W5 = w4.alloc (.cells #[.int .i64 kind, .int .u64 (e1 : Int), .int .u64 (e2 : Int), .int .i64 path, .int .i64 idx, .int .i64 cnt, .slice qa n qc, .int .i64 code, .slice ra k rc] 26) := ⟨_, rfl⟩
    have hB5 : Below w4.heap.size w4 W5 := hW5 ▸ (Below.refl _ _).alloc (Nat.le_refl _) _
    have hq5 : Blk W5 w4.heap.size 26 [.int .i64 kind, .int .u64 (e1 : Int), .int .u64 (e2 : Int), .int .i64 path, .int .i64 idx, .int .i64 cnt, .slice qa n qc, .int .i64 code, .slice ra k rc] := hW5 ▸ Blk.new w4 _ _
    have hu5 := (HU3.out.later hB4).later hB5
    have HB5 := Lib.hid (below_trans HB3.out (below_trans hB4 hB5))
    have HSA := Lib.hid (HSM.out W5 _ _ HB5.out (hd4.later hB5) (hg4.later hB5))
    have x0 := hu5.cell_some (i := 0) rfl
    have x1 := hu5.cell_some (i := 1) rfl
    have x2 := hu5.cell_some (i := 2) rfl
    have x3 := hu5.cell_some (i := 3) rfl
    have x4 := hu5.cell_some (i := 4) rfl
    have x5 := hu5.cell_some (i := 5) rfl
    have x6 := hu5.cell_some (i := 6) rfl
    have x7 := hu5.cell_some (i := 7) rfl
    have x8 := hu5.cell_some (i := 8) rfl
    have y0 := hq5.cell_some (i := 0) rfl
    have y1 := hq5.cell_some (i := 1) rfl
    have y2 := hq5.cell_some (i := 2) rfl
    have y3 := hq5.cell_some (i := 3) rfl
    have y4 := hq5.cell_some (i := 4) rfl
    have y5 := hq5.cell_some (i := 5) rfl
    have y6 := hq5.cell_some (i := 6) rfl
    have y7 := hq5.cell_some (i := 7) rfl
    have y8 := hq5.cell_some (i := 8) rfl
    rw [hW5] at x0 x1 x2 x3 x4 x5 x6 x7 x8 y0 y1 y2 y3 y4 y5 y6 y7 y8
    have HU5 := Lib.hid hu5; have HW5 := Lib.hid hW5
    clear ho4 hr4 hB4 hd4 hg4 hB5 hq5 hu5 hW5 HDD
    go_wp2_with fail
    rw [← HW5.out]
    refine HSA.out.mono ?_
    rintro e w6 ⟨rfl, hB6⟩
    have HUA := Lib.hid (HU5.out.later hB6); have HBA := Lib.hid (below_trans HB5.out hB6)
    clear hB6 x0 x1 x2 x3 x4 x5 x6 x7 x8 y0 y1 y2 y3 y4 y5 y6 y7 y8 HSA HW5
    go_wp2_with fail
    refine (HSE.out w6 HBA.out).mono ?_
    rintro e w7 ⟨sv, rfl, hos, hB7⟩
    have hs7 : Bs w7 sv S := by show Rd w7 sv S.length _; rw [← HSN.out]; exact Rd.of_own hos
    obtain ⟨sa, sc, rfl, -⟩ := own_open hos
    have HUB := Lib.hid (HUA.out.later hB7); have HBB := Lib.hid (below_trans HBA.out hB7)
    have HD := Lib.hid (HD2.out w7 _ HBB.out hs7)
    clear hos hB7 hs7
    go_wp2_with fail
    refine HD.out.mono ?_
    rintro e w8 ⟨dv, rv, rfl, ho8, hr8, hB8⟩
    have hd8 : Bs w8 dv pdata := by have h : Rd w8 dv pn (pdata.map ub) := Rd.of_own ho8; rw [HPN.out] at h; exact h
    have hg8 : Rgs w8 rv pgot := by have h : Rd w8 rv pg (rvs pgot) := Rd.of_own hr8; rw [HPG.out] at h; exact h
    obtain ⟨da, dcc, rfl, -⟩ := own_open ho8
    obtain ⟨ra, rcc, rfl, -⟩ := own_open hr8
    obtain ⟨W9, hW9⟩ : ∃ W9, W9 = w8.alloc (.cells #[.int .i64 pk, .int .u64 (p1 : Int), .int .u64 (p2 : Int), .int .i64 pp, .int .i64 pidx, .int .i64 pc, .slice da pn dcc, .int .i64 pcode, .slice ra pg rcc] 26) := ⟨_, rfl⟩
    have hB9 : Below w8.heap.size w8 W9 := hW9 ▸ (Below.refl _ _).alloc (Nat.le_refl _) _
    have hq9 : Blk W9 w8.heap.size 26 [.int .i64 pk, .int .u64 (p1 : Int), .int .u64 (p2 : Int), .int .i64 pp, .int .i64 pidx, .int .i64 pc, .slice da pn dcc, .int .i64 pcode, .slice ra pg rcc] := hW9 ▸ Blk.new w8 _ _
    obtain ⟨q, hq⟩ : ∃ q, q = w8.heap.size := ⟨_, rfl⟩
    have HU9 := Lib.hid ((HUB.out.later hB8).later hB9); have HB9 := Lib.hid (below_trans HBB.out (below_trans hB8 hB9))
    have HQ9 := Lib.hid hq9; have HD9 := Lib.hid (Rd.later hd8 hB9); have HG9 := Lib.hid (Rgs.later hg8 hB9)
    have HW9 := Lib.hid hW9; have HQQ := Lib.hid hq
    clear ho8 hr8 hB8 hd8 hg8 hB9 hq9 hW9 hq HD
    by_cases hf : f = 0
    · subst hf
      have hw9 := HW9.out; have hqq := HQQ.out
      have y0 := HQ9.out.cell_some (i := 0) rfl
      have y1 := HQ9.out.cell_some (i := 1) rfl
      have y2 := HQ9.out.cell_some (i := 2) rfl
      have y3 := HQ9.out.cell_some (i := 3) rfl
      have y4 := HQ9.out.cell_some (i := 4) rfl
      have y5 := HQ9.out.cell_some (i := 5) rfl
      have y6 := HQ9.out.cell_some (i := 6) rfl
      have y7 := HQ9.out.cell_some (i := 7) rfl
      have y8 := HQ9.out.cell_some (i := 8) rfl
      rw [hw9] at y0 y1 y2 y3 y4 y5 y6 y7 y8
      have HC := Lib.hid (HE3.out rfl W9 da ra dcc rcc (by have h := HD9.out; rw [HPN.out]; rw [HPN.out] at h; exact h) (by have h := HG9.out; rw [HPG.out]; rw [HPG.out] at h; exact h) HB9.out)
      clear hw9 hqq
      go_wp2_with fail
      rw [← HW9.out]
      refine HC.out.mono ?_
      clear HC y0 y1 y2 y3 y4 y5 y6 y7 y8
      rintro e wa ⟨cv, rfl, hoc, hBa⟩
      have hca : Bs wa cv S := by show Rd wa cv S.length _; rw [← HSN.out]; exact Rd.of_own hoc
      obtain ⟨ca, cc, rfl, -⟩ := own_open hoc
      have HUC := Lib.hid (HU9.out.later hBa); have HBC := Lib.hid (below_trans HB9.out hBa); have HQC := Lib.hid (HQ9.out.later hBa); have HGC := Lib.hid (HG9.out.later hBa); have HCC := Lib.hid hca
      obtain ⟨sl, hsl⟩ : ∃ sl, sl = str S := ⟨_, rfl⟩
      have HSL := Lib.hid hsl.symm
      clear hoc hBa hca hsl
      go_wp2_with fail
      refine region_mix (fun w' => Blk w' w.heap.size 26 [.int .i64 kind, .int .u64 (e1 : Int), .int .u64 (e2 : Int), .int .i64 path, .int .i64 idx, .int .i64 cnt, .slice dp n dc, .int .i64 code, .slice gp k gc] ∧ Blk w' w8.heap.size 26 [.int .i64 pk, .int .u64 (p1 : Int), .int .u64 (p2 : Int), .int .i64 pp, .int .i64 pidx, .int .i64 pc, .slice da pn dcc, .int .i64 pcode, .slice ra pg rcc] ∧ Bs w' (.slice ca SN cc) S) (fun i => i == 2 || i == 12 || i == 13 || i == 18) [0, 1, 2, 3, 4, 5, 6, 7, 8, 9, 10, 11, 12, 13, 14, 15, 16, 17, 18, 19, 20, 21] (by kernel_rfl) (by kernel_rfl) ⟨HUC.out.drew, HQC.out.drew, Rd.drew HCC.out⟩ ?_
      repeat (first
        | (refine mix_pure rfl rfl (by kernel_rfl) ?_
           apply Exists.intro
           refine ⟨fun w' hw' => ?_, ?_⟩
           · obtain ⟨hu, hq, hc⟩ := hw'
             have cv := run_str8 (W := w') hc rfl
             rw [HSL.out] at cv
             have x0 := hu.cell_some (i := 0) rfl
             have x1 := hu.cell_some (i := 1) rfl
             have x2 := hu.cell_some (i := 2) rfl
             have x3 := hu.cell_some (i := 3) rfl
             have x4 := hu.cell_some (i := 4) rfl
             have x5 := hu.cell_some (i := 5) rfl
             have x6 := hu.cell_some (i := 6) rfl
             have x7 := hu.cell_some (i := 7) rfl
             have x8 := hu.cell_some (i := 8) rfl
             have y0 := hq.cell_some (i := 0) rfl
             have y1 := hq.cell_some (i := 1) rfl
             have y2 := hq.cell_some (i := 2) rfl
             have y3 := hq.cell_some (i := 3) rfl
             have y4 := hq.cell_some (i := 4) rfl
             have y5 := hq.cell_some (i := 5) rfl
             have y6 := hq.cell_some (i := 6) rfl
             have y7 := hq.cell_some (i := 7) rfl
             have y8 := hq.cell_some (i := 8) rfl
             clear hu hq hc
             go_simp
             with_reducible rfl
           simp only [List.getElem_toArray, List.getElem_cons_zero, List.getElem_cons_succ, Act.put, List.setIfInBounds_toArray, List.set_cons_zero, List.set_cons_succ])
        | fail)
      refine mix_eff rfl rfl (by kernel_rfl) ?_
      unfold effAt
      go_simp
      simp only [effUpon, List.getElem_toArray, List.getElem_cons_zero, List.getElem_cons_succ, Act.put, List.setIfInBounds_toArray, List.set_cons_zero, List.set_cons_succ]
      have hBd := HBC.out.drew
      refine (HVA.out wa.drew hBd).mono ?_
      rintro e wb ⟨rfl, hBb⟩
      have hBb' : Below wa.heap.size wa wb := below_trans (Below.refl wa.heap.size wa).drew hBb
      have HUD := Lib.hid (HUC.out.later hBb'); have HBD := Lib.hid (below_trans HBC.out hBb'); have HQD := Lib.hid (HQC.out.later hBb'); have HGD := Lib.hid (HGC.out.later hBb'); have HCD := Lib.hid (Rd.later HCC.out hBb')
      clear hBd hBb hBb'
      refine ⟨_, rfl, ⟨HUD.out, HQD.out, HCD.out⟩, ?_⟩
      repeat (first
        | (refine mix_pure rfl rfl (by kernel_rfl) ?_
           apply Exists.intro
           refine ⟨fun w' hw' => ?_, ?_⟩
           · obtain ⟨hu, hq, hc⟩ := hw'
             have cv := run_str8 (W := w') hc rfl
             rw [HSL.out] at cv
             have x0 := hu.cell_some (i := 0) rfl
             have x1 := hu.cell_some (i := 1) rfl
             have x2 := hu.cell_some (i := 2) rfl
             have x3 := hu.cell_some (i := 3) rfl
             have x4 := hu.cell_some (i := 4) rfl
             have x5 := hu.cell_some (i := 5) rfl
             have x6 := hu.cell_some (i := 6) rfl
             have x7 := hu.cell_some (i := 7) rfl
             have x8 := hu.cell_some (i := 8) rfl
             have y0 := hq.cell_some (i := 0) rfl
             have y1 := hq.cell_some (i := 1) rfl
             have y2 := hq.cell_some (i := 2) rfl
             have y3 := hq.cell_some (i := 3) rfl
             have y4 := hq.cell_some (i := 4) rfl
             have y5 := hq.cell_some (i := 5) rfl
             have y6 := hq.cell_some (i := 6) rfl
             have y7 := hq.cell_some (i := 7) rfl
             have y8 := hq.cell_some (i := 8) rfl
             clear hu hq hc
             go_simp
             with_reducible rfl
           simp only [List.getElem_toArray, List.getElem_cons_zero, List.getElem_cons_succ, Act.put, List.setIfInBounds_toArray, List.set_cons_zero, List.set_cons_succ])
        | fail)
      refine mix_eff rfl rfl (by kernel_rfl) ?_
      unfold effAt
      go_simp
      simp only [effUpon, List.getElem_toArray, List.getElem_cons_zero, List.getElem_cons_succ, Act.put, List.setIfInBounds_toArray, List.set_cons_zero, List.set_cons_succ]
      refine (HSE.out wb HBD.out).mono ?_
      rintro e wc ⟨sv2, rfl, hos2, hBc⟩
      have HUE := Lib.hid (HUD.out.later hBc); have HBE := Lib.hid (below_trans HBD.out hBc); have HQE := Lib.hid (HQD.out.later hBc); have HGE := Lib.hid (HGD.out.later hBc); have HCE := Lib.hid (Rd.later HCD.out hBc)
      have hs2 : Bs wc sv2 S := by show Rd wc sv2 S.length _; rw [← HSN.out]; exact Rd.of_own hos2
      obtain ⟨sa2, sc2, rfl, -⟩ := own_open hos2
      have cv2 := run_str8 (W := wc) hs2 rfl
      rw [HSL.out] at cv2
      clear hos2 hBc hs2
      refine ⟨_, rfl, ⟨HUE.out, HQE.out, HCE.out⟩, ?_⟩
      refine mix_eff rfl rfl (by kernel_rfl) ?_
      unfold effAt
      go_simp
      simp only [effUpon, List.getElem_toArray, List.getElem_cons_zero, List.getElem_cons_succ, Act.put, List.setIfInBounds_toArray, List.set_cons_zero, List.set_cons_succ]
      refine ⟨⟨HUE.out, HQE.out, HCE.out⟩, ?_⟩
      clear cv2
      repeat (first
        | (refine mix_pure rfl rfl (by kernel_rfl) ?_
           apply Exists.intro
           refine ⟨fun w' hw' => ?_, ?_⟩
           · obtain ⟨hu, hq, hc⟩ := hw'
             have cv := run_str8 (W := w') hc rfl
             rw [HSL.out] at cv
             have x0 := hu.cell_some (i := 0) rfl
             have x1 := hu.cell_some (i := 1) rfl
             have x2 := hu.cell_some (i := 2) rfl
             have x3 := hu.cell_some (i := 3) rfl
             have x4 := hu.cell_some (i := 4) rfl
             have x5 := hu.cell_some (i := 5) rfl
             have x6 := hu.cell_some (i := 6) rfl
             have x7 := hu.cell_some (i := 7) rfl
             have x8 := hu.cell_some (i := 8) rfl
             have y0 := hq.cell_some (i := 0) rfl
             have y1 := hq.cell_some (i := 1) rfl
             have y2 := hq.cell_some (i := 2) rfl
             have y3 := hq.cell_some (i := 3) rfl
             have y4 := hq.cell_some (i := 4) rfl
             have y5 := hq.cell_some (i := 5) rfl
             have y6 := hq.cell_some (i := 6) rfl
             have y7 := hq.cell_some (i := 7) rfl
             have y8 := hq.cell_some (i := 8) rfl
             clear hu hq hc
             go_simp
             with_reducible rfl
           simp only [List.getElem_toArray, List.getElem_cons_zero, List.getElem_cons_succ, Act.put, List.setIfInBounds_toArray, List.set_cons_zero, List.set_cons_succ])
        | fail)
      refine mix_eff rfl rfl (by kernel_rfl) ?_
      unfold effAt
      go_simp
      simp only [effUpon, List.getElem_toArray, List.getElem_cons_zero, List.getElem_cons_succ, Act.put, List.setIfInBounds_toArray, List.set_cons_zero, List.set_cons_succ]
      refine (HV3.out (by first | rfl | trivial) wc da ra dcc rcc (by have h := HGE.out; rw [HPG.out]; rw [HPG.out] at h; exact h)).mono ?_
      rintro e wd ⟨rfl, hBd⟩
      have HBF := Lib.hid (below_trans HBE.out hBd)
      refine ⟨_, rfl, ⟨HUE.out.later hBd, HQE.out.later hBd, Rd.later HCE.out hBd⟩, ?_⟩
      clear hBd
      repeat (first
        | (refine mix_pure rfl rfl (by kernel_rfl) ?_
           apply Exists.intro
           refine ⟨fun w' hw' => ?_, ?_⟩
           · obtain ⟨hu, hq, hc⟩ := hw'
             have cv := run_str8 (W := w') hc rfl
             rw [HSL.out] at cv
             have x0 := hu.cell_some (i := 0) rfl
             have x1 := hu.cell_some (i := 1) rfl
             have x2 := hu.cell_some (i := 2) rfl
             have x3 := hu.cell_some (i := 3) rfl
             have x4 := hu.cell_some (i := 4) rfl
             have x5 := hu.cell_some (i := 5) rfl
             have x6 := hu.cell_some (i := 6) rfl
             have x7 := hu.cell_some (i := 7) rfl
             have x8 := hu.cell_some (i := 8) rfl
             have y0 := hq.cell_some (i := 0) rfl
             have y1 := hq.cell_some (i := 1) rfl
             have y2 := hq.cell_some (i := 2) rfl
             have y3 := hq.cell_some (i := 3) rfl
             have y4 := hq.cell_some (i := 4) rfl
             have y5 := hq.cell_some (i := 5) rfl
             have y6 := hq.cell_some (i := 6) rfl
             have y7 := hq.cell_some (i := 7) rfl
             have y8 := hq.cell_some (i := 8) rfl
             clear hu hq hc
             go_simp
             with_reducible rfl
           simp only [List.getElem_toArray, List.getElem_cons_zero, List.getElem_cons_succ, Act.put, List.setIfInBounds_toArray, List.set_cons_zero, List.set_cons_succ])
        | fail)
      refine mix_nil ?_
      go_wp2_with fail
      go_ret
      exact ⟨rfl, HBF.out⟩
    · have i1 : ((f : Int) != 0) = true := by simp; omega
      have i2 : ¬ (f : Int) = 0 := by omega
      have x0 := HU9.out.cell_some (i := 0) rfl
      have x1 := HU9.out.cell_some (i := 1) rfl
      have x2 := HU9.out.cell_some (i := 2) rfl
      have x3 := HU9.out.cell_some (i := 3) rfl
      have x4 := HU9.out.cell_some (i := 4) rfl
      have x5 := HU9.out.cell_some (i := 5) rfl
      have x6 := HU9.out.cell_some (i := 6) rfl
      have x7 := HU9.out.cell_some (i := 7) rfl
      have x8 := HU9.out.cell_some (i := 8) rfl
      have hw9 := HW9.out
      rw [hw9] at x0 x1 x2 x3 x4 x5 x6 x7 x8
      clear hw9
      go_wp2_with fail
      rw [← HW9.out]
      refine (HVA.out W9 HB9.out).mono ?_
      rintro e wa ⟨rfl, hBa⟩
      have HBE := Lib.hid (below_trans HB9.out hBa)
      clear hBa
      go_wp2_with fail
      go_ret
      exact ⟨rfl, HBE.out⟩
  · subst hv0
    obtain ⟨w6, hw6⟩ : ∃ w6, w6 = w3 := ⟨_, rfl⟩
    subst hw6
    have HUA := HU3; have HBA := HB3
    go_wp2_with fail
    refine (HSE.out w6 HBA.out).mono ?_
    rintro e w7 ⟨sv, rfl, hos, hB7⟩
    have hs7 : Bs w7 sv S := by show Rd w7 sv S.length _; rw [← HSN.out]; exact Rd.of_own hos
    obtain ⟨sa, sc, rfl, -⟩ := own_open hos
    have HUB := Lib.hid (HUA.out.later hB7); have HBB := Lib.hid (below_trans HBA.out hB7)
    have HD := Lib.hid (HD2.out w7 _ HBB.out hs7)
    clear hos hB7 hs7
    go_wp2_with fail
    refine HD.out.mono ?_
    rintro e w8 ⟨dv, rv, rfl, ho8, hr8, hB8⟩
    have hd8 : Bs w8 dv pdata := by have h : Rd w8 dv pn (pdata.map ub) := Rd.of_own ho8; rw [HPN.out] at h; exact h
    have hg8 : Rgs w8 rv pgot := by have h : Rd w8 rv pg (rvs pgot) := Rd.of_own hr8; rw [HPG.out] at h; exact h
    obtain ⟨da, dcc, rfl, -⟩ := own_open ho8
    obtain ⟨ra, rcc, rfl, -⟩ := own_open hr8
    obtain ⟨W9, hW9⟩ : ∃ W9, W9 = w8.alloc (.cells #[.int .i64 pk, .int .u64 (p1 : Int), .int .u64 (p2 : Int), .int .i64 pp, .int .i64 pidx, .int .i64 pc, .slice da pn dcc, .int .i64 pcode, .slice ra pg rcc] 26) := ⟨_, rfl⟩
    have hB9 : Below w8.heap.size w8 W9 := hW9 ▸ (Below.refl _ _).alloc (Nat.le_refl _) _
    have hq9 : Blk W9 w8.heap.size 26 [.int .i64 pk, .int .u64 (p1 : Int), .int .u64 (p2 : Int), .int .i64 pp, .int .i64 pidx, .int .i64 pc, .slice da pn dcc, .int .i64 pcode, .slice ra pg rcc] := hW9 ▸ Blk.new w8 _ _
    obtain ⟨q, hq⟩ : ∃ q, q = w8.heap.size := ⟨_, rfl⟩
    have HU9 := Lib.hid ((HUB.out.later hB8).later hB9); have HB9 := Lib.hid (below_trans HBB.out (below_trans hB8 hB9))
    have HQ9 := Lib.hid hq9; have HD9 := Lib.hid (Rd.later hd8 hB9); have HG9 := Lib.hid (Rgs.later hg8 hB9)
    have HW9 := Lib.hid hW9; have HQQ := Lib.hid hq
    clear ho8 hr8 hB8 hd8 hg8 hB9 hq9 hW9 hq HD
    by_cases hf : f = 0
    · subst hf
      have hw9 := HW9.out; have hqq := HQQ.out
      have y0 := HQ9.out.cell_some (i := 0) rfl
      have y1 := HQ9.out.cell_some (i := 1) rfl
      have y2 := HQ9.out.cell_some (i := 2) rfl
      have y3 := HQ9.out.cell_some (i := 3) rfl
      have y4 := HQ9.out.cell_some (i := 4) rfl
      have y5 := HQ9.out.cell_some (i := 5) rfl
      have y6 := HQ9.out.cell_some (i := 6) rfl
      have y7 := HQ9.out.cell_some (i := 7) rfl
      have y8 := HQ9.out.cell_some (i := 8) rfl
      rw [hw9] at y0 y1 y2 y3 y4 y5 y6 y7 y8
      have HC := Lib.hid (HE3.out rfl W9 da ra dcc rcc (by have h := HD9.out; rw [HPN.out]; rw [HPN.out] at h; exact h) (by have h := HG9.out; rw [HPG.out]; rw [HPG.out] at h; exact h) HB9.out)
      clear hw9 hqq
      go_wp2_with fail
      rw [← HW9.out]
      refine HC.out.mono ?_
      clear HC y0 y1 y2 y3 y4 y5 y6 y7 y8
      rintro e wa ⟨cv, rfl, hoc, hBa⟩
      have hca : Bs wa cv S := by show Rd wa cv S.length _; rw [← HSN.out]; exact Rd.of_own hoc
      obtain ⟨ca, cc, rfl, -⟩ := own_open hoc
      have HUC := Lib.hid (HU9.out.later hBa); have HBC := Lib.hid (below_trans HB9.out hBa); have HQC := Lib.hid (HQ9.out.later hBa); have HGC := Lib.hid (HG9.out.later hBa); have HCC := Lib.hid hca
      obtain ⟨sl, hsl⟩ : ∃ sl, sl = str S := ⟨_, rfl⟩
      have HSL := Lib.hid hsl.symm
      clear hoc hBa hca hsl
      go_wp2_with fail
      refine region_mix (fun w' => Blk w' w.heap.size 26 [.int .i64 kind, .int .u64 (e1 : Int), .int .u64 (e2 : Int), .int .i64 path, .int .i64 idx, .int .i64 cnt, .slice dp n dc, .int .i64 code, .slice gp k gc] ∧ Blk w' w8.heap.size 26 [.int .i64 pk, .int .u64 (p1 : Int), .int .u64 (p2 : Int), .int .i64 pp, .int .i64 pidx, .int .i64 pc, .slice da pn dcc, .int .i64 pcode, .slice ra pg rcc] ∧ Bs w' (.slice ca SN cc) S) (fun i => i == 2 || i == 12 || i == 13 || i == 18) [0, 1, 2, 3, 4, 5, 6, 7, 8, 9, 10, 11, 12, 13, 14, 15, 16, 17, 18, 19, 20, 21] (by kernel_rfl) (by kernel_rfl) ⟨HUC.out.drew, HQC.out.drew, Rd.drew HCC.out⟩ ?_
      repeat (first
        | (refine mix_pure rfl rfl (by kernel_rfl) ?_
           apply Exists.intro
           refine ⟨fun w' hw' => ?_, ?_⟩
           · obtain ⟨hu, hq, hc⟩ := hw'
             have cv := run_str8 (W := w') hc rfl
             rw [HSL.out] at cv
             have x0 := hu.cell_some (i := 0) rfl
             have x1 := hu.cell_some (i := 1) rfl
             have x2 := hu.cell_some (i := 2) rfl
             have x3 := hu.cell_some (i := 3) rfl
             have x4 := hu.cell_some (i := 4) rfl
             have x5 := hu.cell_some (i := 5) rfl
             have x6 := hu.cell_some (i := 6) rfl
             have x7 := hu.cell_some (i := 7) rfl
             have x8 := hu.cell_some (i := 8) rfl
             have y0 := hq.cell_some (i := 0) rfl
             have y1 := hq.cell_some (i := 1) rfl
             have y2 := hq.cell_some (i := 2) rfl
             have y3 := hq.cell_some (i := 3) rfl
             have y4 := hq.cell_some (i := 4) rfl
             have y5 := hq.cell_some (i := 5) rfl
             have y6 := hq.cell_some (i := 6) rfl
             have y7 := hq.cell_some (i := 7) rfl
             have y8 := hq.cell_some (i := 8) rfl
             clear hu hq hc
             go_simp
             with_reducible rfl
           simp only [List.getElem_toArray, List.getElem_cons_zero, List.getElem_cons_succ, Act.put, List.setIfInBounds_toArray, List.set_cons_zero, List.set_cons_succ])
        | fail)
      refine mix_eff rfl rfl (by kernel_rfl) ?_
      unfold effAt
      go_simp
      simp only [effUpon, List.getElem_toArray, List.getElem_cons_zero, List.getElem_cons_succ, Act.put, List.setIfInBounds_toArray, List.set_cons_zero, List.set_cons_succ]
      have hBd := HBC.out.drew
      refine (HVA.out wa.drew hBd).mono ?_
      rintro e wb ⟨rfl, hBb⟩
      have hBb' : Below wa.heap.size wa wb := below_trans (Below.refl wa.heap.size wa).drew hBb
      have HUD := Lib.hid (HUC.out.later hBb'); have HBD := Lib.hid (below_trans HBC.out hBb'); have HQD := Lib.hid (HQC.out.later hBb'); have HGD := Lib.hid (HGC.out.later hBb'); have HCD := Lib.hid (Rd.later HCC.out hBb')
      clear hBd hBb hBb'
      refine ⟨_, rfl, ⟨HUD.out, HQD.out, HCD.out⟩, ?_⟩
      repeat (first
        | (refine mix_pure rfl rfl (by kernel_rfl) ?_
           apply Exists.intro
           refine ⟨fun w' hw' => ?_, ?_⟩
           · obtain ⟨hu, hq, hc⟩ := hw'
             have cv := run_str8 (W := w') hc rfl
             rw [HSL.out] at cv
             have x0 := hu.cell_some (i := 0) rfl
             have x1 := hu.cell_some (i := 1) rfl
             have x2 := hu.cell_some (i := 2) rfl
             have x3 := hu.cell_some (i := 3) rfl
             have x4 := hu.cell_some (i := 4) rfl
             have x5 := hu.cell_some (i := 5) rfl
             have x6 := hu.cell_some (i := 6) rfl
             have x7 := hu.cell_some (i := 7) rfl
             have x8 := hu.cell_some (i := 8) rfl
             have y0 := hq.cell_some (i := 0) rfl
             have y1 := hq.cell_some (i := 1) rfl
             have y2 := hq.cell_some (i := 2) rfl
             have y3 := hq.cell_some (i := 3) rfl
             have y4 := hq.cell_some (i := 4) rfl
             have y5 := hq.cell_some (i := 5) rfl
             have y6 := hq.cell_some (i := 6) rfl
             have y7 := hq.cell_some (i := 7) rfl
             have y8 := hq.cell_some (i := 8) rfl
             clear hu hq hc
             go_simp
             with_reducible rfl
           simp only [List.getElem_toArray, List.getElem_cons_zero, List.getElem_cons_succ, Act.put, List.setIfInBounds_toArray, List.set_cons_zero, List.set_cons_succ])
        | fail)
      refine mix_eff rfl rfl (by kernel_rfl) ?_
      unfold effAt
      go_simp
      simp only [effUpon, List.getElem_toArray, List.getElem_cons_zero, List.getElem_cons_succ, Act.put, List.setIfInBounds_toArray, List.set_cons_zero, List.set_cons_succ]
      refine (HSE.out wb HBD.out).mono ?_
      rintro e wc ⟨sv2, rfl, hos2, hBc⟩
      have HUE := Lib.hid (HUD.out.later hBc); have HBE := Lib.hid (below_trans HBD.out hBc); have HQE := Lib.hid (HQD.out.later hBc); have HGE := Lib.hid (HGD.out.later hBc); have HCE := Lib.hid (Rd.later HCD.out hBc)
      have hs2 : Bs wc sv2 S := by show Rd wc sv2 S.length _; rw [← HSN.out]; exact Rd.of_own hos2
      obtain ⟨sa2, sc2, rfl, -⟩ := own_open hos2
      have cv2 := run_str8 (W := wc) hs2 rfl
      rw [HSL.out] at cv2
      clear hos2 hBc hs2
      refine ⟨_, rfl, ⟨HUE.out, HQE.out, HCE.out⟩, ?_⟩
      refine mix_eff rfl rfl (by kernel_rfl) ?_
      unfold effAt
      go_simp
      simp only [effUpon, List.getElem_toArray, List.getElem_cons_zero, List.getElem_cons_succ, Act.put, List.setIfInBounds_toArray, List.set_cons_zero, List.set_cons_succ]
      refine ⟨⟨HUE.out, HQE.out, HCE.out⟩, ?_⟩
      clear cv2
      repeat (first
        | (refine mix_pure rfl rfl (by kernel_rfl) ?_
           apply Exists.intro
           refine ⟨fun w' hw' => ?_, ?_⟩
           · obtain ⟨hu, hq, hc⟩ := hw'
             have cv := run_str8 (W := w') hc rfl
             rw [HSL.out] at cv
             have x0 := hu.cell_some (i := 0) rfl
             have x1 := hu.cell_some (i := 1) rfl
             have x2 := hu.cell_some (i := 2) rfl
             have x3 := hu.cell_some (i := 3) rfl
             have x4 := hu.cell_some (i := 4) rfl
             have x5 := hu.cell_some (i := 5) rfl
             have x6 := hu.cell_some (i := 6) rfl
             have x7 := hu.cell_some (i := 7) rfl
             have x8 := hu.cell_some (i := 8) rfl
             have y0 := hq.cell_some (i := 0) rfl
             have y1 := hq.cell_some (i := 1) rfl
             have y2 := hq.cell_some (i := 2) rfl
             have y3 := hq.cell_some (i := 3) rfl
             have y4 := hq.cell_some (i := 4) rfl
             have y5 := hq.cell_some (i := 5) rfl
             have y6 := hq.cell_some (i := 6) rfl
             have y7 := hq.cell_some (i := 7) rfl
             have y8 := hq.cell_some (i := 8) rfl
             clear hu hq hc
             go_simp
             with_reducible rfl
           simp only [List.getElem_toArray, List.getElem_cons_zero, List.getElem_cons_succ, Act.put, List.setIfInBounds_toArray, List.set_cons_zero, List.set_cons_succ])
        | fail)
      refine mix_eff rfl rfl (by kernel_rfl) ?_
      unfold effAt
      go_simp
      simp only [effUpon, List.getElem_toArray, List.getElem_cons_zero, List.getElem_cons_succ, Act.put, List.setIfInBounds_toArray, List.set_cons_zero, List.set_cons_succ]
      refine (HV3.out (by first | rfl | trivial) wc da ra dcc rcc (by have h := HGE.out; rw [HPG.out]; rw [HPG.out] at h; exact h)).mono ?_
      rintro e wd ⟨rfl, hBd⟩
      have HBF := Lib.hid (below_trans HBE.out hBd)
      refine ⟨_, rfl, ⟨HUE.out.later hBd, HQE.out.later hBd, Rd.later HCE.out hBd⟩, ?_⟩
      clear hBd
      repeat (first
        | (refine mix_pure rfl rfl (by kernel_rfl) ?_
           apply Exists.intro
           refine ⟨fun w' hw' => ?_, ?_⟩
           · obtain ⟨hu, hq, hc⟩ := hw'
             have cv := run_str8 (W := w') hc rfl
             rw [HSL.out] at cv
             have x0 := hu.cell_some (i := 0) rfl
             have x1 := hu.cell_some (i := 1) rfl
             have x2 := hu.cell_some (i := 2) rfl
             have x3 := hu.cell_some (i := 3) rfl
             have x4 := hu.cell_some (i := 4) rfl
             have x5 := hu.cell_some (i := 5) rfl
             have x6 := hu.cell_some (i := 6) rfl
             have x7 := hu.cell_some (i := 7) rfl
             have x8 := hu.cell_some (i := 8) rfl
             have y0 := hq.cell_some (i := 0) rfl
             have y1 := hq.cell_some (i := 1) rfl
             have y2 := hq.cell_some (i := 2) rfl
             have y3 := hq.cell_some (i := 3) rfl
             have y4 := hq.cell_some (i := 4) rfl
             have y5 := hq.cell_some (i := 5) rfl
             have y6 := hq.cell_some (i := 6) rfl
             have y7 := hq.cell_some (i := 7) rfl
             have y8 := hq.cell_some (i := 8) rfl
             clear hu hq hc
             go_simp
             with_reducible rfl
           simp only [List.getElem_toArray, List.getElem_cons_zero, List.getElem_cons_succ, Act.put, List.setIfInBounds_toArray, List.set_cons_zero, List.set_cons_succ])
        | fail)
      refine mix_nil ?_
      go_wp2_with fail
      go_ret
      exact ⟨rfl, HBF.out⟩
    · have i1 : ((f : Int) != 0) = true := by simp; omega
      have i2 : ¬ (f : Int) = 0 := by omega
      have x0 := HU9.out.cell_some (i := 0) rfl
      have x1 := HU9.out.cell_some (i := 1) rfl
      have x2 := HU9.out.cell_some (i := 2) rfl
      have x3 := HU9.out.cell_some (i := 3) rfl
      have x4 := HU9.out.cell_some (i := 4) rfl
      have x5 := HU9.out.cell_some (i := 5) rfl
      have x6 := HU9.out.cell_some (i := 6) rfl
      have x7 := HU9.out.cell_some (i := 7) rfl
      have x8 := HU9.out.cell_some (i := 8) rfl
      have hw9 := HW9.out
      rw [hw9] at x0 x1 x2 x3 x4 x5 x6 x7 x8
      clear hw9
      go_wp2_with fail
      rw [← HW9.out]
      refine (HVA.out W9 HB9.out).mono ?_
      rintro e wa ⟨rfl, hBa⟩
      have HBE := Lib.hid (below_trans HB9.out hBa)
      clear hBa
      go_wp2_with fail
      go_ret
      exact ⟨rfl, HBE.out⟩
theorem pduBack_walk (W : World) (cs0 : Array Value) (x0 : UT) (h0 : cUnit.rep W cs0.toList x0) (v1 : Value) (x1 : List UInt8) (h1 : cBytes.rep W [v1] x1) (ht : Tab W) :
    Calls Tryd.prog 5 #[.agg cs0, v1] W fun e w' => e = .returned (.bool true) ∧ Below W.heap.size W w' := by
  obtain ⟨dv, gv, hcs, hu⟩ := cUnit_rd h0
  have e : cs0 = (ucells (udT x0) dv gv).toArray := by rw [← hcs]
  rw [e]
  obtain ⟨hb, hl⟩ := cBytes_bs h1
  exact pduBack_in (udT x0) dv gv v1 x1 W hu.dat hu.got hu.l1 hu.l2 hb hl ht
end Go.Proofs.YtghjffgaebnhiaaDoor
