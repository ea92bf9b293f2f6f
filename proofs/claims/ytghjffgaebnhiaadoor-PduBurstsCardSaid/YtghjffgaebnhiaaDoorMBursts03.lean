/- PduBursts returns true. -/
import Derived.Test.YtghjffgaebnhiaaDoorMSmall03
import Derived.Test.YtghjffgaebnhiaaDoorMBurst
import Derived.Test.YtghjffgaebnhiaaDoorMBack03
import Derived.Test.YtghjffgaebnhiaaDoorMKept
namespace Go.Proofs.YtghjffgaebnhiaaDoor
set_option linter.unusedVariables false
set_option linter.unusedSimpArgs false
open Go.RowKit
theorem decP_burst {u : UD} (hv : validU u) (at_ : Int) (mask : Nat) (hne : burstN (encU u) at_ mask 32 ≠ encU u) : decP (burstN (encU u) at_ mask 32) = (zeroU, 13) := by
  have hl : (burstN (encU u) at_ mask 32).length = (encB u).length + 4 := by rw [burstN_len, encU, List.length_append, sumB_len]
  have hbad : unsealP (burstN (encU u) at_ mask 32) = ([], 13) := by
    unfold unsealP
    rw [if_neg (by omega), hl, Nat.add_sub_cancel, if_neg]
    intro he
    refine burst_bad (encB u) at_ mask hne ((burstN (encU u) at_ mask 32).take (encB u).length) ((burstN (encU u) at_ mask 32).drop (encB u).length) ?_ ?_ he.symm
    · rw [List.length_drop, hl]; omega
    · exact (List.take_append_drop _ _).symm
  unfold decP
  rw [hbad, if_pos (by simp)]
set_option maxHeartbeats 8000000 in
set_option maxRecDepth 100000 in
theorem pduBursts_in (u : UD) (dv gv : Value) (at_ : Int) (mask : Nat) (w : World) (hd : Bs w dv u.data) (hg : Rgs w gv u.got) (hl1 : u.data.length ≤ 140737488351232) (hl2 : u.got.length ≤ 8796093022000) (hmask : mask < 4294967296) (ht : Tab w) :
    Calls Tryd.prog 6 #[uv u dv gv, .int .i64 at_, .int .u32 (mask : Int)] w fun e w' => e = .returned (.bool true) ∧ Below w.heap.size w w' := by
  obtain ⟨dp, dc, rfl, -⟩ := id hd
  obtain ⟨gp, gc, rfl, -⟩ := id hg
  obtain ⟨V, hV⟩ : ∃ V : Int, V = if validU u then 0 else 30 := ⟨_, rfl⟩
  obtain ⟨E, hE⟩ : ∃ E : List UInt8, E = if validU u then encU u else [] := ⟨_, rfl⟩
  obtain ⟨M, hM⟩ : ∃ M, M = E.length := ⟨_, rfl⟩
  obtain ⟨C, hC⟩ : ∃ C : List UInt8, C = burstN E at_ mask 32 := ⟨_, rfl⟩
  have hCl : C.length = E.length := by rw [hC, burstN_len]
  have hcases : (V = 0 ∧ E.length ≤ 140737488355328 ∧ ((C = E ∧ decP C = (u, 0)) ∨ (C ≠ E ∧ decP C = (zeroU, 13)))) ∨ V = 30 := by
    by_cases hv : validU u
    · rw [if_pos hv] at hV hE
      refine .inl ⟨hV, by rw [hE]; exact encU_small hv, ?_⟩
      by_cases hne : C = E
      · exact .inl ⟨hne, by rw [hne, hE]; exact decP_enc hv⟩
      · exact .inr ⟨hne, by rw [hC, hE]; exact decP_burst hv at_ mask (by rw [← hE, ← hC]; exact hne)⟩
    · rw [if_neg hv] at hV
      exact .inr hV
  have csmall := fun (W : World) (h : Below w.heap.size w W) => small_any W (ht.later h)
  have cgiven := fun (W : World) (h : Below w.heap.size w W) => given_any u _ _ W (Rd.later hd h) (hg.later h) (by omega) (by omega)
  have crval := fun (W : World) (h : Below w.heap.size w W) => refValid_any u dp gp dc gc W (hg.later h) (by omega)
  have cenc := fun (W : World) (b1 b2 : Nat) (hd : Bs W (.slice (some ⟨b1, 0, none⟩) u.data.length (u.data.length + 4)) u.data) (h : Rgs W (.slice (some ⟨b2, 0, none⟩) u.got.length (u.got.length + 3)) u.got) (hb : Below w.heap.size w W) => encode_any u (some ⟨b1, 0, none⟩) (some ⟨b2, 0, none⟩) (u.data.length + 4) (u.got.length + 3) W hd h (by omega) (ht.later hb)
  have cbur := fun (W : World) (v : Value) (h : Bs W v E) (hs : E.length ≤ 140737488355328) => burst_any v E at_ mask W h hs hmask
  have cdec := fun (W : World) (v : Value) (hb : Below w.heap.size w W) (h : Bs W v C) (hs : E.length ≤ 140737488355328) => decode_any v C W h (ht.later hb) (by omega)
  have csame := fun (W : World) (dv' gv' : Value) (hb : Below w.heap.size w W) (h1 : Bs W dv' u.data) (h2 : Rgs W gv' u.got) => sameUnit_yes u _ _ dv' gv' W (Rd.later hd hb) (hg.later hb) h1 h2 (by omega)
  have csame0 := fun (W : World) (da ra : Option Addr) (dc rc : Nat) (h1 : Bs W (.slice da 0 dc) []) (h2 : Rgs W (.slice ra 0 rc) []) => sameUnit_yes zeroU (.slice da 0 dc) (.slice ra 0 rc) (.slice none 0 0) (.slice none 0 0) W h1 h2 (Rd.nil W) (Rd.nil W) (by decide)
  unfold EncPost at cenc
  unfold DecPost at cdec
  unfold GivenPost at cgiven
  simp only [← hV, ← hE, ← hM] at crval cenc
  rw [← hC, hCl, ← hM] at cbur
  have HM := Lib.hid hM; have HCASES := Lib.hid hcases; have HCL := Lib.hid hCl
  clear hV hE hM hC hcases hCl
  obtain ⟨kind, ep, ses, path, idx, cnt, data, code, got⟩ := u
  simp only [uv] at *
  obtain ⟨n, hn⟩ : ∃ n, n = data.length := ⟨_, rfl⟩
  obtain ⟨k, hk⟩ : ∃ k, k = got.length := ⟨_, rfl⟩
  obtain ⟨e1, he1⟩ : ∃ e1, e1 = ep.toNat := ⟨_, rfl⟩
  obtain ⟨e2, he2⟩ : ∃ e2, e2 = ses.toNat := ⟨_, rfl⟩
  simp only [← hn, ← hk, ← he1, ← he2] at cgiven crval cenc csame hl1 hl2 ⊢
  have HGV := Lib.hid cgiven; have HVA := Lib.hid crval; have HEN := Lib.hid cenc; have HDE := Lib.hid cdec; have HSM := Lib.hid csame; have HSZ := Lib.hid csame0; have HBU := Lib.hid cbur; have HSMALL := Lib.hid csmall
  have HN := Lib.hid hn; have HK := Lib.hid hk; have HE1 := Lib.hid he1; have HE2 := Lib.hid he2
  have HL1 := Lib.hid hl1; have HL2 := Lib.hid hl2
  clear cgiven crval cenc cdec csame csame0 cbur csmall hn hk he1 he2 hd hg ht hl1 hl2
  obtain ⟨W0, hW0⟩ : ∃ W0, W0 = w.alloc (.cells #[.int .i64 kind, .int .u64 (e1 : Int), .int .u64 (e2 : Int), .int .i64 path, .int .i64 idx, .int .i64 cnt, .slice dp n dc, .int .i64 code, .slice gp k gc] 26) := ⟨_, rfl⟩
  have hB0 : Below w.heap.size w W0 := hW0 ▸ (Below.refl _ _).alloc (Nat.le_refl _) _
  have hU0 : Blk W0 w.heap.size 26 [.int .i64 kind, .int .u64 (e1 : Int), .int .u64 (e2 : Int), .int .i64 path, .int .i64 idx, .int .i64 cnt, .slice dp n dc, .int .i64 code, .slice gp k gc] := hW0 ▸ Blk.new w _ _
  have HB0 := Lib.hid hB0; have HU0 := Lib.hid hU0; have HW0 := Lib.hid hW0
  clear hB0 hU0 hW0
  go_enter Tryd.func6, Tryd.ntmps6
  go_wp2_with fail
  rw [← HW0.out]
  refine (HSMALL.out W0 HB0.out).mono ?_
  rintro e w1 ⟨rfl, hB1⟩
  have HU1 := Lib.hid (HU0.out.later hB1); have HB1 := Lib.hid (below_trans HB0.out hB1)
  clear hB1 HSMALL
  have x0 := HU1.out.cell_some (i := 0) rfl
  have x1 := HU1.out.cell_some (i := 1) rfl
  have x2 := HU1.out.cell_some (i := 2) rfl
  have x3 := HU1.out.cell_some (i := 3) rfl
  have x4 := HU1.out.cell_some (i := 4) rfl
  have x5 := HU1.out.cell_some (i := 5) rfl
  have x6 := HU1.out.cell_some (i := 6) rfl
  have x7 := HU1.out.cell_some (i := 7) rfl
  have x8 := HU1.out.cell_some (i := 8) rfl
  go_wp2_with fail
  refine (HGV.out w1 HB1.out).mono ?_
  rintro e w2 ⟨v1, v2, rfl, hlb, hlr, hB2⟩
  obtain ⟨b1, rfl, hb1, -⟩ := id hlb
  obtain ⟨b2, rfl, hb2, -⟩ := id hlr
  rw [← HN.out, ← HK.out]
  have hL1 := HL1.out; have hL2 := HL2.out
  have hd2 : Bs w2 (.slice (some ⟨b1, 0, none⟩) n (n + 4)) data := by have h := hlb.bs (by rw [HN.out] at hL1; omega); rw [← HN.out] at h; exact h
  have hg2 : Rgs w2 (.slice (some ⟨b2, 0, none⟩) k (k + 3)) got := by have h := hlr.rgs (by rw [HK.out] at hL2; omega); rw [← HK.out] at h; exact h
  have HU2 := Lib.hid (HU1.out.later hB2); have HB2 := Lib.hid (below_trans HB1.out hB2)
  have HC2 := Lib.hid (HEN.out w2 b1 b2 (by first | exact hd2 | (rw [HN.out] at hd2 ⊢; exact hd2)) (by first | exact hg2 | (rw [HK.out] at hg2 ⊢; exact hg2)) HB2.out)
  clear hB2 hlb hlr hd2 hg2 x0 x1 x2 x3 x4 x5 x6 x7 x8 hL1 hL2
  go_wp2_with fail
  refine HC2.out.mono ?_
  rintro e w3 ⟨v3, rfl, ho3, hB3⟩
  have hE3 : Bs w3 v3 E := by show Rd w3 v3 E.length _; rw [← HM.out]; exact Rd.of_own ho3
  obtain ⟨a3, c3, rfl, -⟩ := own_open ho3
  have HU3 := Lib.hid (HU2.out.later hB3); have HB3 := Lib.hid (below_trans HB2.out hB3); have HEE := Lib.hid hE3
  clear ho3 hB3 hE3 HC2
  have x0 := HU3.out.cell_some (i := 0) rfl
  have x1 := HU3.out.cell_some (i := 1) rfl
  have x2 := HU3.out.cell_some (i := 2) rfl
  have x3 := HU3.out.cell_some (i := 3) rfl
  have x4 := HU3.out.cell_some (i := 4) rfl
  have x5 := HU3.out.cell_some (i := 5) rfl
  have x6 := HU3.out.cell_some (i := 6) rfl
  have x7 := HU3.out.cell_some (i := 7) rfl
  have x8 := HU3.out.cell_some (i := 8) rfl
  go_wp2_with fail
  refine (HVA.out w3 HB3.out).mono ?_
  rintro e w4 ⟨rfl, hB4⟩
  have HU4 := Lib.hid (HU3.out.later hB4); have HB4 := Lib.hid (below_trans HB3.out hB4); have HE4 := Lib.hid (Rd.later HEE.out hB4)
  clear hB4 x0 x1 x2 x3 x4 x5 x6 x7 x8
  rcases HCASES.out with ⟨hv0, hEl, hcs⟩ | hv0
  · subst hv0
    have HC5 := Lib.hid (HBU.out w4 _ HE4.out (by first | exact hEl | (rw [HM.out]; exact hEl)))
    have HEL := Lib.hid hEl; have HCS := Lib.hid hcs
    clear hEl hcs HCASES
    go_wp2_with fail
    refine HC5.out.mono ?_
    rintro e w5 ⟨v5, rfl, ho5, hB5⟩
    have hC5 : Bs w5 v5 C := by show Rd w5 v5 C.length _; rw [HCL.out, ← HM.out]; exact Rd.of_own ho5
    obtain ⟨a5, c5, rfl, -⟩ := own_open ho5
    have HU5 := Lib.hid (HU4.out.later hB5); have HB5 := Lib.hid (below_trans HB4.out hB5); have HE5 := Lib.hid (Rd.later HE4.out hB5); have HCC := Lib.hid hC5
    have hdd := HDE.out w5 _ HB5.out hC5 HEL.out
    have HDD := Lib.hid hdd
    clear ho5 hB5 hC5 hdd HC5
    go_wp2_with fail
    rcases HCS.out with ⟨hce, hdc⟩ | ⟨hce, hdc⟩
    · have hdd := HDD.out
      rw [hdc] at hdd
      simp only [zeroU] at hdd
      have HD2 := Lib.hid hdd; have HCE := Lib.hid hce
      clear hdd hdc hce HDD HCS
      refine HD2.out.mono ?_
      rintro e w6 ⟨dv, rv, rfl, ho6, hr6, hB6⟩
      have hd6 : Bs w6 dv data := Bs.of_own ho6
      have hg6 : Rgs w6 rv got := Rgs.of_own hr6
      obtain ⟨da, dd, rfl, -⟩ := own_open ho6
      obtain ⟨ra, rc, rfl, -⟩ := own_open hr6
      rw [← HN.out] at hd6 ho6 ⊢
      rw [← HK.out] at hg6 hr6 ⊢
      rw [← HE1.out, ← HE2.out]
      obtain ⟨W7, hW7⟩ : ∃ W7, W7 = w6.alloc (.cells #[.int .i64 kind, .int .u64 (e1 : Int), .int .u64 (e2 : Int), .int .i64 path, .int .i64 idx, .int .i64 cnt, .slice da n dd, .int .i64 code, .slice ra k rc] 26) := ⟨_, rfl⟩
      have hB7 : Below w6.heap.size w6 W7 := hW7 ▸ (Below.refl _ _).alloc (Nat.le_refl _) _
      have hq7 : Blk W7 w6.heap.size 26 [.int .i64 kind, .int .u64 (e1 : Int), .int .u64 (e2 : Int), .int .i64 path, .int .i64 idx, .int .i64 cnt, .slice da n dd, .int .i64 code, .slice ra k rc] := hW7 ▸ Blk.new w6 _ _
      have hu7 := (HU5.out.later hB6).later hB7
      have HB7 := Lib.hid (below_trans HB5.out (below_trans hB6 hB7))
      have HSA := Lib.hid (HSM.out W7 _ _ HB7.out (hd6.later hB7) (hg6.later hB7))
      have cv1 := run_str8 (W := W7) (Rd.later (Rd.later HCC.out hB6) hB7) rfl
      have cv2 := run_str8 (W := W7) (Rd.later (Rd.later HE5.out hB6) hB7) rfl
      rw [HCE.out] at cv1
      obtain ⟨sl, hsl⟩ : ∃ sl, sl = str E := ⟨_, rfl⟩
      rw [← hsl] at cv1 cv2
      clear hsl
      have x0 := hu7.cell_some (i := 0) rfl
      have x1 := hu7.cell_some (i := 1) rfl
      have x2 := hu7.cell_some (i := 2) rfl
      have x3 := hu7.cell_some (i := 3) rfl
      have x4 := hu7.cell_some (i := 4) rfl
      have x5 := hu7.cell_some (i := 5) rfl
      have x6 := hu7.cell_some (i := 6) rfl
      have x7 := hu7.cell_some (i := 7) rfl
      have x8 := hu7.cell_some (i := 8) rfl
      have y0 := hq7.cell_some (i := 0) rfl
      have y1 := hq7.cell_some (i := 1) rfl
      have y2 := hq7.cell_some (i := 2) rfl
      have y3 := hq7.cell_some (i := 3) rfl
      have y4 := hq7.cell_some (i := 4) rfl
      have y5 := hq7.cell_some (i := 5) rfl
      have y6 := hq7.cell_some (i := 6) rfl
      have y7 := hq7.cell_some (i := 7) rfl
      have y8 := hq7.cell_some (i := 8) rfl
      rw [hW7] at x0 x1 x2 x3 x4 x5 x6 x7 x8 y0 y1 y2 y3 y4 y5 y6 y7 y8 cv1 cv2
      have HW7 := Lib.hid hW7
      clear ho6 hr6 hB6 hd6 hg6 hB7 hq7 hu7 hW7 HD2
      go_wp2_with fail
      rw [← HW7.out]
      refine HSA.out.mono ?_
      rintro e w8 ⟨rfl, hB8⟩
      have HB8 := Lib.hid (below_trans HB7.out hB8)
      clear hB8
      go_wp2_with fail
      go_ret
      exact ⟨rfl, HB8.out⟩
    · have hdd := HDD.out
      rw [hdc] at hdd
      simp only [zeroU] at hdd
      have HD2 := Lib.hid hdd; have HCE := Lib.hid hce
      clear hdd hdc hce HDD HCS
      refine HD2.out.mono ?_
      rintro e w6 ⟨dv, rv, rfl, ho6, hr6, hB6⟩
      have hd6 : Bs w6 dv [] := Bs.of_own ho6
      have hg6 : Rgs w6 rv [] := Rgs.of_own hr6
      obtain ⟨da, dd, rfl, -⟩ := own_open ho6
      obtain ⟨ra, rc, rfl, -⟩ := own_open hr6
      obtain ⟨W7, hW7⟩ : ∃ W7, W7 = w6.alloc (.cells #[.int .i64 0, .int .u64 0, .int .u64 0, .int .i64 0, .int .i64 0, .int .i64 0, .slice da 0 dd, .int .i64 0, .slice ra 0 rc] 26) := ⟨_, rfl⟩
      have hB7 : Below w6.heap.size w6 W7 := hW7 ▸ (Below.refl _ _).alloc (Nat.le_refl _) _
      have hq7 : Blk W7 w6.heap.size 26 [.int .i64 0, .int .u64 0, .int .u64 0, .int .i64 0, .int .i64 0, .int .i64 0, .slice da 0 dd, .int .i64 0, .slice ra 0 rc] := hW7 ▸ Blk.new w6 _ _
      have hu7 := (HU5.out.later hB6).later hB7
      have HB7 := Lib.hid (below_trans HB5.out (below_trans hB6 hB7))
      have hsa := HSZ.out W7 da ra dd rc (hd6.later hB7) (hg6.later hB7)
      simp only [zeroU] at hsa
      have HSA : Hid (Calls Tryd.prog 18 #[.agg #[.int .i64 0, .int .u64 0, .int .u64 0, .int .i64 0, .int .i64 0, .int .i64 0, .slice da 0 dd, .int .i64 0, .slice ra 0 rc], .agg #[.int .i64 0, .int .u64 0, .int .u64 0, .int .i64 0, .int .i64 0, .int .i64 0, .slice none 0 0, .int .i64 0, .slice none 0 0]] W7 (fun e w' => e = .returned (.bool true) ∧ Below W7.heap.size W7 w')) := Lib.hid hsa
      clear hsa
      have cv1 := run_str8 (W := W7) (Rd.later (Rd.later HCC.out hB6) hB7) rfl
      have cv2 := run_str8 (W := W7) (Rd.later (Rd.later HE5.out hB6) hB7) rfl
      have hne := str_beq_no HCE.out
      have hne2 : str C ≠ str E := fun h => HCE.out (str_inj h)
      generalize str C = s1 at cv1 hne hne2
      generalize str E = s2 at cv2 hne hne2
      have x0 := hu7.cell_some (i := 0) rfl
      have x1 := hu7.cell_some (i := 1) rfl
      have x2 := hu7.cell_some (i := 2) rfl
      have x3 := hu7.cell_some (i := 3) rfl
      have x4 := hu7.cell_some (i := 4) rfl
      have x5 := hu7.cell_some (i := 5) rfl
      have x6 := hu7.cell_some (i := 6) rfl
      have x7 := hu7.cell_some (i := 7) rfl
      have x8 := hu7.cell_some (i := 8) rfl
      have y0 := hq7.cell_some (i := 0) rfl
      have y1 := hq7.cell_some (i := 1) rfl
      have y2 := hq7.cell_some (i := 2) rfl
      have y3 := hq7.cell_some (i := 3) rfl
      have y4 := hq7.cell_some (i := 4) rfl
      have y5 := hq7.cell_some (i := 5) rfl
      have y6 := hq7.cell_some (i := 6) rfl
      have y7 := hq7.cell_some (i := 7) rfl
      have y8 := hq7.cell_some (i := 8) rfl
      rw [hW7] at x0 x1 x2 x3 x4 x5 x6 x7 x8 y0 y1 y2 y3 y4 y5 y6 y7 y8 cv1 cv2
      have HW7 := Lib.hid hW7
      clear ho6 hr6 hB6 hd6 hg6 hB7 hq7 hu7 hW7 HD2
      go_wp2_with fail
      rw [← HW7.out]
      refine HSA.out.mono ?_
      rintro e w8 ⟨rfl, hB8⟩
      have HB8 := Lib.hid (below_trans HB7.out hB8)
      clear hB8
      go_wp2_with fail
      go_ret
      exact ⟨rfl, HB8.out⟩
  · subst hv0
    go_wp2_with fail
    go_ret
    exact ⟨rfl, HB4.out⟩
abbrev cU32 : Codec Tryd.prog 46 Int := Codec.int .u32 Tryd.underlying46 (by kernel_rfl)
theorem pduBursts_walk (W : World) (cs0 : Array Value) (x0 : UT) (h0 : cUnit.rep W cs0.toList x0) (v1 : Value) (x1 : Int) (h1 : cInt.rep W [v1] x1) (v2 : Value) (x2 : Int) (h2 : cU32.rep W [v2] x2) (ht : Tab W) :
    Calls Tryd.prog 6 #[.agg cs0, v1, v2] W fun e w' => e = .returned (.bool true) ∧ Below W.heap.size W w' := by
  obtain ⟨dv, gv, hcs, hu⟩ := cUnit_rd h0
  have e : cs0 = (ucells (udT x0) dv gv).toArray := by rw [← hcs]
  rw [e]
  obtain ⟨rfl, -⟩ : v1 = .int .i64 x1 ∧ True := by
    obtain ⟨h, -⟩ := h1
    exact ⟨by simpa using h, trivial⟩
  obtain ⟨m, hm, hv⟩ : ∃ m : Nat, m < 4294967296 ∧ v2 = .int .u32 (m : Int) := by
    obtain ⟨h, hw⟩ := h2
    simp only [Lit.wf, Bool.and_eq_true, decide_eq_true_eq] at hw
    have e1 : IntKind.u32.min = 0 := by decide
    have e2 : IntKind.u32.max = 4294967295 := by decide
    refine ⟨x2.toNat, by omega, ?_⟩
    have hv : v2 = .int .u32 x2 := by simpa using h
    rw [hv, Int.toNat_of_nonneg (by omega)]
  subst hv
  exact pduBursts_in (udT x0) dv gv x1 m W hu.dat hu.got hu.l1 hu.l2 hm ht
end Go.Proofs.YtghjffgaebnhiaaDoor
