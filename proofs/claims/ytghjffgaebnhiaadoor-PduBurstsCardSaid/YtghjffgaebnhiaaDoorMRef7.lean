/- halyardref03.Encode at a report. -/
import Derived.Test.YtghjffgaebnhiaaDoorMRef6
namespace Go.Proofs.YtghjffgaebnhiaaDoor
set_option linter.unusedVariables false
set_option linter.unusedSimpArgs false
open Go.RowKit
theorem wrap8_64 {n : Nat} (h : n < 256) : IntKind.u8.wrap (IntKind.i64.wrap (n : Int)) = (n : Int) := by
  simp [IntKind.wrap, IntKind.signed, IntKind.bits]
  omega
set_option maxHeartbeats 4000000 in
set_option maxRecDepth 100000 in
theorem refEncode_2a (u : UD) (dp gp : Option Addr) (dc gc : Nat) (w : World) (hk : u.kind = 2) (hgv : Rgs w (.slice gp u.got.length gc) u.got) (hlv : u.got.length ≤ 140737488355328) (hv : validU u) (hg : Rgs w (.slice gp u.got.length gc) u.got) (hc0 : 0 ≤ u.code) (hc7 : u.code ≤ 7) (hm : mono 0 u.got) (hc : u.code = 0) :
    Calls Tryd.prog 12 #[uv u (.slice dp u.data.length dc) (.slice gp u.got.length gc)] w fun e w' => ∃ v', e = .returned (.tuple #[v', .int .i64 0]) ∧ w'.ownsRow w.heap.size 5 1 v' ((digs [2, u.ep.toNat, u.ses.toNat] ++ (layR u)) ++ sumB (crcOf (digs [2, u.ep.toNat, u.ses.toNat] ++ (layR u)))).length (((digs [2, u.ep.toNat, u.ses.toNat] ++ (layR u)) ++ sumB (crcOf (digs [2, u.ep.toNat, u.ses.toNat] ++ (layR u)))).map ub) ∧ Below w.heap.size w w' := by
  have hB0 : ∀ o, Below w.heap.size w (w.alloc o) := fun o => (Below.refl _ _).alloc (Nat.le_refl _) _
  have hc := fun o => refValid_any u dp gp dc gc (w.alloc o) (hgv.later (hB0 o)) hlv
  simp only [if_pos hv] at hc
  have HC := Lib.hid hc
  clear hc hgv hlv hv
  obtain ⟨L, hL⟩ : ∃ L, L = digs [2, u.ep.toNat, u.ses.toNat] := ⟨_, rfl⟩
  have hll : L.length ≤ 30 := by
    have h1 := u.ep.toNat_lt
    have h2 := u.ses.toNat_lt
    have := digs_len [2, u.ep.toNat, u.ses.toNat] (by intro x hx; simp at hx; omega)
    simp only [List.length_cons, List.length_nil] at this
    rw [hL]
    omega
  obtain ⟨L2, hL2⟩ : ∃ L2, L2 = L ++ (layR u) := ⟨_, rfl⟩
  obtain ⟨L4, hL4⟩ : ∃ L4, L4 = L2 ++ sumB (crcOf L2) := ⟨_, rfl⟩
  rw [← hL, ← hL2, ← hL4]
  have hsl := fun (W : World) (v : Value) (hv : Bs W v L2) (h : L2.length ≤ 100000) => refSeal_any v L2 W hv (by omega)
  simp only [← hL4] at hsl
  obtain ⟨kind, ep, ses, path, idx, cnt, data, code, got⟩ := u
  obtain rfl : kind = 2 := hk
  unfold uv at *
  simp only at *
  obtain ⟨n, hn⟩ : ∃ n, n = data.length := ⟨_, rfl⟩
  obtain ⟨k, hk⟩ : ∃ k, k = got.length := ⟨_, rfl⟩
  obtain ⟨e1, he1⟩ : ∃ e1, e1 = ep.toNat := ⟨_, rfl⟩
  obtain ⟨e2, he2⟩ : ∃ e2, e2 = ses.toNat := ⟨_, rfl⟩
  obtain ⟨M1, hM1⟩ : ∃ M, M = (dig 2).length := ⟨_, rfl⟩
  obtain ⟨D1, hD1⟩ : ∃ D, D = (dig e1).length := ⟨_, rfl⟩
  obtain ⟨D2, hD2⟩ : ∃ D, D = (dig e2).length := ⟨_, rfl⟩
  obtain ⟨M, hM⟩ : ∃ M, M = L.length := ⟨_, rfl⟩
  have HE1 : Hid (e1 < 18446744073709551616) := Lib.hid (by rw [he1]; exact ep.toNat_lt)
  have HE2 : Hid (e2 < 18446744073709551616) := Lib.hid (by rw [he2]; exact ses.toNat_lt)
  have hd0 : M1 ≤ 10 := by rw [hM1]; exact dig_len (by decide)
  have hd1 : D1 ≤ 10 := by rw [hD1]; exact dig_len HE1.out
  have hd2 : D2 ≤ 10 := by rw [hD2]; exact dig_len HE2.out
  have hLe : L = dig 2 ++ dig e1 ++ dig e2 := by rw [hL, he1, he2]; simp [digs]
  have HL : Hid (M = M1 + D1 + D2 ∧ L.map ub = ((dig 2).map ub ++ (dig e1).map ub) ++ (dig e2).map ub) := Lib.hid ⟨by rw [hM, hLe, List.length_append, List.length_append, hM1, hD1, hD2], by rw [hLe, List.map_append, List.map_append]⟩
  have HDL1 : Hid (((dig e1).map ub).length = D1 * 1) := Lib.hid (by rw [List.length_map, hD1, Nat.mul_one])
  have HDL2 : Hid (((dig e2).map ub).length = D2 * 1) := Lib.hid (by rw [List.length_map, hD2, Nat.mul_one])
  have bd1 : (M1 + D1) * 1 ≤ 140737488355328 := by omega
  have bd2 : (M1 + D1 + D2) * 1 ≤ 140737488355328 := by omega
  rw [← hn, ← hk, ← he1, ← he2] at HC ⊢
  have HM1 := Lib.hid hM1; have HD1 := Lib.hid hD1; have HD2 := Lib.hid hD2; have HM := Lib.hid hM; have HN := Lib.hid hn; have HK := Lib.hid hk; have HSL := Lib.hid hsl; have HL2 := Lib.hid hL2
  have hM30 : M ≤ 30 := by rw [hM]; exact hll
  have hk64 := mono_len hm (by decide)
  have HG := Lib.hid hg; have HMO := Lib.hid hm
  have hk64' : k ≤ 64 := by rw [hk]; omega
  have y2 : (k : Int) % 256 = (k : Int) := by omega
  subst hc
  obtain ⟨L3, hL3⟩ : ∃ L3, L3 = L ++ dig 0 ++ dig got.length := ⟨_, rfl⟩
  have HL3 : Hid (L3.length = M + 1 + 1 ∧ L3.map ub = (L.map ub ++ [.int .u8 (0 : Int)]) ++ [.int .u8 (k : Int)]) := Lib.hid ⟨by rw [hL3, dig_small (n := 0) (by decide), dig_small (by omega), List.length_append, List.length_append, ← hM]; rfl, by rw [hL3, dig_small (n := 0) (by decide), dig_small (by omega), List.map_append, List.map_append, List.map_cons, List.map_cons, ub_ofNat (by omega), ub_ofNat (by omega), hk]; rfl⟩
  have HTOT : Hid (L2 = L3 ++ rngB 0 got) := Lib.hid (by rw [hL2, hL3, layR]; simp)
  clear hL3 hg hm hk64
  clear hM1 hD1 hD2 hM hn hk he1 he2 hLe hL hL2 hL4 hsl hll
  go_enter Tryd.func12, Tryd.ntmps12
  go_wp2_with fail
  refine (HC.out _).mono ?_
  rintro e w1 ⟨rfl, hB1⟩
  have hb1 : Blk w1 w.heap.size 26 [.int .i64 2, .int .u64 (e1 : Int), .int .u64 (e2 : Int), .int .i64 path, .int .i64 idx, .int .i64 cnt, .slice dp n dc, .int .i64 0, .slice gp k gc] := (Blk.new w _ _).later hB1
  have z0 := hb1.cell_some (i := 0) rfl
  have HB1 := Lib.hid (below_trans (hB0 _) hB1)
  have HU1 := Lib.hid hb1
  clear hB1 hb1 HC hB0
  go_wp2_with fail
  refine (refDigits_any 2 (by decide) w1).mono ?_
  rintro e w2 ⟨v2, rfl, ho2, hB2⟩
  rw [← HM1.out] at ho2
  have HO2 := Lib.hid (own_mono ho2 HB1.out.size)
  obtain ⟨a2, c2, rfl, -⟩ := own_open ho2
  have HB2 := Lib.hid (below_trans HB1.out hB2); have HU2 := Lib.hid (HU1.out.later hB2)
  have z1 := HU2.out.cell_some (i := 1) rfl
  clear ho2 hB2 z0
  go_wp2_with fail
  refine (refDigits_any e1 HE1.out w2).mono ?_
  rintro e w3 ⟨v3, rfl, ho3, hB3⟩
  rw [← HD1.out] at ho3
  obtain ⟨a3, c3, rfl, -⟩ := own_open ho3
  have HR3 := Lib.hid (Rd.of_own ho3)
  have HO3 := Lib.hid (own_later HO2.out hB3); have HB3 := Lib.hid (below_trans HB2.out hB3); have HU3 := Lib.hid (HU2.out.later hB3)
  have hz3 : w.heap.size ≤ w3.heap.size := HB3.out.size
  clear ho3 hB3 z1
  go_wp2_with (first
    | (at_builtin; refine wpList_app El.u8 rfl (.tmp 17) (.tmp 20) rfl HO3.out rfl HR3.out rfl HDL1.out (ub_one _) bd1 hz3 ?_; intro v4 w4 hown4 hgr4 _; go_loud (
        have hu4 := HU3.out.grown hgr4 (own_blk_ne HO3.out HU3.out (by decide))
        have hb4 := HB3.out.grown hgr4 hz3 (fun q hq => (HO3.out.lt q hq).1)
        have z2 := hu4.cell_some (i := 2) rfl
        have hz4 : w.heap.size ≤ w4.heap.size := hb4.size
        obtain ⟨a4, c4, hv4, -⟩ := own_open hown4
        subst hv4); have HO4 := Lib.hid hown4; have HU4 := Lib.hid hu4; have HB4 := Lib.hid hb4; clear hown4 hgr4 hu4 hb4)
    | fail)
  refine (refDigits_any e2 HE2.out w4).mono ?_
  rintro e w5 ⟨v5, rfl, ho5, hB5⟩
  rw [← HD2.out] at ho5
  obtain ⟨a5, c5, rfl, -⟩ := own_open ho5
  have HR5 := Lib.hid (Rd.of_own ho5)
  have HO5 := Lib.hid (own_later HO4.out hB5); have HB5 := Lib.hid (below_trans HB4.out hB5); have HU5 := Lib.hid (HU4.out.later hB5)
  have hz5 : w.heap.size ≤ w5.heap.size := HB5.out.size
  clear ho5 hB5 z2
  go_wp2_with (first
    | (at_builtin; refine wpList_app El.u8 rfl (.tmp 22) (.tmp 25) rfl HO5.out rfl HR5.out rfl HDL2.out (ub_one _) bd2 hz5 ?_; intro v6 w6 hown6 hgr6 _; go_loud (
        have hu6 := HU5.out.grown hgr6 (own_blk_ne HO5.out HU5.out (by decide))
        have hb6 := HB5.out.grown hgr6 hz5 (fun q hq => (HO5.out.lt q hq).1)
        have h6 : w6.ownsRow w.heap.size 5 1 v6 M (L.map ub) := by
          rw [HL.out.1, HL.out.2]
          exact hown6
        have hz6 : w.heap.size ≤ w6.heap.size := hb6.size
        obtain ⟨a6, c6, hv6, -⟩ := own_open h6
        subst hv6
        have z0 := hu6.cell_some (i := 0) rfl
        have z3 := hu6.cell_some (i := 3) rfl
        have z4 := hu6.cell_some (i := 4) rfl
        have z5 := hu6.cell_some (i := 5) rfl
        have z6 := hu6.cell_some (i := 6) rfl
        have z7 := hu6.cell_some (i := 7) rfl
        have z8 := hu6.cell_some (i := 8) rfl); have HO6 := Lib.hid h6; have HU6 := Lib.hid hu6; have HB6 := Lib.hid hb6; clear hown6 hgr6 hu6 hb6 h6)
    | (at_builtin; refine wpList_app El.u8 rfl (.tmp 49) (.tmp 53) rfl (HO6.out.alloc _) rfl (Rd.new _ _ [.int .u8 (0 : Int)] 1 (by simp [maxLen])) rfl rfl (by intro x hx; simp at hx; rcases hx with rfl; rfl) (by omega) (by simp; omega) ?_; intro v7 w7 hown hgr _; go_loud (
        have hu := (HU6.out.alloc (.cells #[.int .u8 (0 : Int)] 5)).grown hgr (own_blk_ne HO6.out HU6.out (by decide))
        have hb := (HB6.out.alloc hz6 (.cells #[.int .u8 (0 : Int)] 5)).grown hgr (by simp; omega) (fun q hq => (HO6.out.lt q hq).1)
        obtain ⟨aa7, cc7, hv, -⟩ := own_open hown
        subst hv
        have hz7 : w.heap.size ≤ w7.heap.size := hb.size
        have z7 := hu.cell_some (i := 7) rfl
        have z8 := hu.cell_some (i := 8) rfl); have HO7 := Lib.hid hown; have HU7 := Lib.hid hu; have HB7 := Lib.hid hb; clear hown hgr hu hb)
    | (at_builtin; refine wpList_app El.u8 rfl (.tmp 58) (.tmp 63) rfl (HO7.out.alloc _) rfl (Rd.new _ _ [.int .u8 ((k : Nat) : Int)] 1 (by simp [maxLen])) rfl rfl (by intro x hx; simp at hx; rcases hx with rfl; rfl) (by omega) (by simp; omega) ?_; intro v8 w8 hown hgr _; go_loud (
        have hu := (HU7.out.alloc (.cells #[.int .u8 ((k : Nat) : Int)] 5)).grown hgr (own_blk_ne HO7.out HU7.out (by decide))
        have hb := (HB7.out.alloc hz7 (.cells #[.int .u8 ((k : Nat) : Int)] 5)).grown hgr (by simp; omega) (fun q hq => (HO7.out.lt q hq).1)
        obtain ⟨aa8, cc8, hv, -⟩ := own_open hown
        subst hv
        have hz8 : w.heap.size ≤ w8.heap.size := hb.size
        have z7 := hu.cell_some (i := 7) rfl
        have z8 := hu.cell_some (i := 8) rfl); have HO8 := Lib.hid hown; have HU8 := Lib.hid hu; have HB8 := Lib.hid hb; clear hown hgr hu hb)
    | fail)
  have HOL : Hid (w8.ownsRow w.heap.size 5 1 (.slice aa8 (M + 1 + 1) cc8) L3.length (L3.map ub)) := Lib.hid (by rw [HL3.out.1, HL3.out.2]; exact HO8.out)
  go_loopw [5, 6, 7] (fun bv ev iv wr => ∃ (j : Nat) (e : Int) (B : List UInt8), j ≤ k ∧ iv = .int .i64 (j : Int) ∧ ev = .int .i64 e ∧ 0 ≤ e ∧ e ≤ 64 ∧ Hid (L2 = B ++ rngB e (got.drop j)) ∧ Hid (mono e (got.drop j)) ∧ Hid (B.length ≤ 1020 + j * 20) ∧ Hid (wr.ownsRow w.heap.size 5 1 bv B.length (B.map ub)) ∧ Hid (Below w.heap.size w wr) ∧ Hid (Blk wr w.heap.size 26 [.int .i64 2, .int .u64 (e1 : Int), .int .u64 (e2 : Int), .int .i64 path, .int .i64 idx, .int .i64 cnt, .slice dp n dc, .int .i64 0, .slice gp k gc])) (fun _ _ iv _ => k - (intOf iv).toNat)
  case atStart => exact ⟨0, 0, L3, Nat.zero_le _, rfl, rfl, Int.le_refl _, by omega, HTOT, HMO, Lib.hid (by have := HL3.out.1; omega), HOL, HB8, HU8⟩
  case round =>
    clear HOL HO8 HO7 HO6 HO5 HO4 HO3 HO2 HU7 HU6 HU5 HU4 HU3 HU2 HU1 HB7 HB6 HB5 HB4 HB3 HB2 HB1 HTOT z7 z8 HU8 HB8 hz8
    obtain ⟨j, e, B, hj, rfl, rfl, he0, he64, HTT, HMM, HBL2, HOB, HBW, HUW⟩ := hrel
    have z8 := HUW.out.cell_some (i := 8) rfl
    by_cases hlt : j < k
    · have ix : (j : Int) < (k : Int) := by omega
      have hjl : j < got.length := by rw [← HK.out]; exact hlt
      have hdrop : got.drop j = got[j] :: got.drop (j + 1) := List.drop_eq_getElem_cons hjl
      have hmm := HMM.out
      have htt := HTT.out
      rw [hdrop] at hmm htt
      obtain ⟨q1, q2, q3, q4⟩ := hmm
      obtain ⟨ao', cap', hv, -, hcell⟩ := HG.out.cells
      injection hv with hv1 hv2 hv3
      obtain ⟨b, off, hao, hc⟩ := hcell (by omega)
      obtain ⟨c0, c1'⟩ := hc j _ (List.getElem?_eq_getElem hjl)
      subst hv1
      subst hao
      obtain ⟨x, hx⟩ : ∃ x, x = got[j] := ⟨_, rfl⟩
      rw [← hx] at c0 c1' q1 q2 q3 q4 htt
      obtain ⟨x1, x2⟩ := x
      simp only at c0 c1' q1 q2 q3 q4 htt
      obtain ⟨p1, hp1⟩ : ∃ p1 : Nat, x1 - e = (p1 : Int) := ⟨(x1 - e).toNat, by omega⟩
      obtain ⟨p2, hp2⟩ : ∃ p2 : Nat, x2 - x1 = (p2 : Int) := ⟨(x2 - x1).toNat, by omega⟩
      have w1' : IntKind.u8.wrap (IntKind.i64.wrap (p1 : Int)) = (p1 : Int) := wrap8_64 (by omega)
      have w2' : IntKind.u8.wrap (IntKind.i64.wrap (p2 : Int)) = (p2 : Int) := wrap8_64 (by omega)
      have htt2 : L2 = (B ++ [UInt8.ofNat p1, UInt8.ofNat p2]) ++ rngB x2 (got.drop (j + 1)) := by
        rw [htt]
        show B ++ (dig (x1 - e).toNat ++ (dig (x2 - x1).toNat ++ _)) = _
        rw [show (x1 - e).toNat = p1 by omega, show (x2 - x1).toNat = p2 by omega, dig_small (show p1 < 128 by omega), dig_small (show p2 < 128 by omega)]
        simp
      have hbl : b < w.heap.size := World.block_lt_of_cell? _ _ c0
      have C0 := Lib.hid c0; have C1 := Lib.hid c1'; have HBL := Lib.hid hbl
      obtain ⟨a3', c3', rfl, -⟩ := own_open HOB.out
      obtain ⟨MB, hMB⟩ : ∃ M, M = B.length := ⟨_, rfl⟩
      have hob : wr.ownsRow w.heap.size 5 1 (.slice a3' MB c3') MB (B.map ub) := by rw [hMB]; exact HOB.out
      have hMl : MB ≤ 5000 := by have := HBL2.out; omega
      have HNB : Hid ((B ++ [UInt8.ofNat p1, UInt8.ofNat p2]).length = MB + 2 ∧ (B ++ [UInt8.ofNat p1, UInt8.ofNat p2]).map ub = B.map ub ++ [.int .u8 (p1 : Int), .int .u8 (p2 : Int)]) := Lib.hid ⟨by rw [List.length_append, ← hMB]; rfl, by rw [List.map_append, List.map_cons, List.map_cons, ub_ofNat (by omega), ub_ofNat (by omega)]; rfl⟩
      have hz : w.heap.size ≤ wr.heap.size := HBW.out.size
      have HOB2 := Lib.hid hob; have HT4 := Lib.hid htt2; have HM4 := Lib.hid q4; have HMBL := Lib.hid hMB
      rw [← hMB]
      have c0w := below_cell HBW.out c0 hbl
      have c1w := below_cell HBW.out c1' hbl
      clear htt htt2 hx hc hcell hdrop hv2 hv3 q4 hMB c0 c1' hob hbl
      go_wp2_with fail
      refine region_mix (fun w' => Blk w' w.heap.size 26 [.int .i64 2, .int .u64 (e1 : Int), .int .u64 (e2 : Int), .int .i64 path, .int .i64 idx, .int .i64 cnt, .slice dp n dc, .int .i64 0, .slice (some ⟨b, off, none⟩) k gc] ∧ Below w.heap.size w w') (fun i => i == 24 || i == 25) [0, 1, 2, 3, 4, 5, 6, 7, 8, 9, 10, 11, 12, 13, 14, 15, 16, 17, 18, 19, 20, 21, 22, 23, 24, 25, 26] (by kernel_rfl) (by kernel_rfl) ⟨HUW.out.drew, HBW.out.drew⟩ ?_
      repeat (first
      | (refine mix_pure rfl rfl (by kernel_rfl) ?_
         apply Exists.intro
         refine ⟨fun w' hw' => ?_, ?_⟩
         · have z8 := hw'.1.cell_some (i := 8) rfl
           have c0 := below_cell hw'.2 C0.out HBL.out
           have c1 := below_cell hw'.2 C1.out HBL.out
           go_simp
           with_reducible rfl
         simp only [List.getElem_toArray, List.getElem_cons_zero, List.getElem_cons_succ, Act.put, List.setIfInBounds_toArray, List.set_cons_zero, List.set_cons_succ])
      | fail)
      refine mix_eff rfl rfl (by kernel_rfl) ?_
      unfold effAt
      go_simp
      simp only [effUpon, List.getElem_toArray, List.getElem_cons_zero, List.getElem_cons_succ, Act.put, List.setIfInBounds_toArray, List.set_cons_zero, List.set_cons_succ]
      obtain ⟨Wn, hWn⟩ : ∃ Wn, Wn = (wr.alloc (.cells #[.int .u8 (p1 : Int), .int .u8 (p2 : Int)] 5)).drew := ⟨_, rfl⟩
      have hBn : Below wr.heap.size wr Wn := hWn ▸ ((Below.refl _ _).alloc (Nat.le_refl _) _).drew
      have hrn : Rd Wn (.slice (some ⟨wr.heap.size, 0, none⟩) 2 2) 2 [.int .u8 (p1 : Int), .int .u8 (p2 : Int)] := hWn ▸ (Rd.new wr _ [.int .u8 (p1 : Int), .int .u8 (p2 : Int)] 2 (by simp [maxLen])).drew
      rw [← hWn]
      have HBn := Lib.hid (HBW.out.trans (hBn.mono hz)); have HRn := Lib.hid hrn; have HUn := Lib.hid (HUW.out.later hBn); have HOn := Lib.hid (own_later HOB2.out hBn)
      have hzn : w.heap.size ≤ Wn.heap.size := HBn.out.size
      clear hWn hBn hrn
      refine ⟨⟨HUn.out, HBn.out⟩, ?_⟩
      refine mix_eff rfl rfl (by kernel_rfl) ?_
      refine effAt_app El.u8 (.tmp 72) (.tmp 96) rfl HOn.out rfl HRn.out rfl rfl (by intro x hx; simp at hx; rcases hx with rfl | rfl <;> rfl) (by omega) hzn ?_
      intro vn wn hown hgrn
      have hun := HUn.out.grown hgrn (own_blk_ne HOn.out HUn.out (by decide))
      have hbn := HBn.out.grown hgrn hzn (fun q hq => (HOn.out.lt q hq).1)
      have HOX := Lib.hid hown; have HUX := Lib.hid hun; have HBX := Lib.hid hbn
      clear hown hgrn hun hbn
      refine ⟨⟨HUX.out, HBX.out⟩, ?_⟩
      simp only [effUpon, List.getElem_toArray, List.getElem_cons_zero, List.getElem_cons_succ, Act.put, List.setIfInBounds_toArray, List.set_cons_zero, List.set_cons_succ]
      refine mix_pure rfl rfl (by kernel_rfl) ?_
      apply Exists.intro
      refine ⟨fun w' hw' => ?_, ?_⟩
      · go_simp
        with_reducible rfl
      refine mix_nil ?_
      simp only [effUpon, List.getElem_toArray, List.getElem_cons_zero, List.getElem_cons_succ, Act.put, List.setIfInBounds_toArray, List.set_cons_zero, List.set_cons_succ]
      have z8 := HUX.out.cell_some (i := 8) rfl
      have c1w := below_cell HBX.out C1.out HBL.out
      go_wp2_with fail
      go_roundw
      case rel => exact ⟨j + 1, x2, B ++ [UInt8.ofNat p1, UInt8.ofNat p2], by omega, by go_num, rfl, by omega, by omega, HT4, HM4, Lib.hid (by rw [HNB.out.1]; have := HBL2.out; have := HMBL.out; omega), Lib.hid (by rw [HNB.out.1, HNB.out.2]; exact HOX.out), HBX, HUX⟩
      case measure => simp [intOf]; omega
    · obtain rfl : j = k := by omega
      have HLB : Hid (L2 = B) := Lib.hid (by
        have h := HTT.out
        rw [HK.out, List.drop_length] at h
        rw [h]
        simp [rngB])
      obtain ⟨MB, hMB⟩ : ∃ M, M = B.length := ⟨_, rfl⟩
      have hob : wr.ownsRow w.heap.size 5 1 u5 MB (B.map ub) := by rw [hMB]; exact HOB.out
      have HMB := Lib.hid hMB
      obtain ⟨ab, cb, rfl, -⟩ := own_open hob
      have hr6 : Bs wr (.slice ab MB cb) L2 := by
        rw [HLB.out]
        show Rd wr _ B.length _
        rw [← HMB.out]
        exact Rd.of_own hob
      have HR6 := Lib.hid hr6
      clear hMB hob hr6
      go_wp2_with fail
      refine (HSL.out _ _ HR6.out (by rw [HLB.out]; have := HBL2.out; omega)).mono ?_
      rintro e' w9 ⟨v9, rfl, ho9, hB9⟩
      have HO9 := Lib.hid (own_mono ho9 HBW.out.size); have HB9 := Lib.hid (below_trans HBW.out hB9)
      clear ho9 hB9
      go_wp2_with fail
      go_ret2
      exact ⟨_, rfl, HO9.out, HB9.out⟩
set_option maxHeartbeats 4000000 in
set_option maxRecDepth 100000 in
theorem refEncode_2b (u : UD) (dp gp : Option Addr) (dc gc : Nat) (w : World) (hk : u.kind = 2) (hgv : Rgs w (.slice gp u.got.length gc) u.got) (hlv : u.got.length ≤ 140737488355328) (hv : validU u) (hg : Rgs w (.slice gp u.got.length gc) u.got) (hc0 : 0 ≤ u.code) (hc7 : u.code ≤ 7) (hm : mono 0 u.got) (hc : ¬ u.code = 0) (hck : ¬ u.code = 0 → u.got.length = 0) :
    Calls Tryd.prog 12 #[uv u (.slice dp u.data.length dc) (.slice gp u.got.length gc)] w fun e w' => ∃ v', e = .returned (.tuple #[v', .int .i64 0]) ∧ w'.ownsRow w.heap.size 5 1 v' ((digs [2, u.ep.toNat, u.ses.toNat] ++ (layR u)) ++ sumB (crcOf (digs [2, u.ep.toNat, u.ses.toNat] ++ (layR u)))).length (((digs [2, u.ep.toNat, u.ses.toNat] ++ (layR u)) ++ sumB (crcOf (digs [2, u.ep.toNat, u.ses.toNat] ++ (layR u)))).map ub) ∧ Below w.heap.size w w' := by
  have hB0 : ∀ o, Below w.heap.size w (w.alloc o) := fun o => (Below.refl _ _).alloc (Nat.le_refl _) _
  have hc := fun o => refValid_any u dp gp dc gc (w.alloc o) (hgv.later (hB0 o)) hlv
  simp only [if_pos hv] at hc
  have HC := Lib.hid hc
  clear hc hgv hlv hv
  obtain ⟨L, hL⟩ : ∃ L, L = digs [2, u.ep.toNat, u.ses.toNat] := ⟨_, rfl⟩
  have hll : L.length ≤ 30 := by
    have h1 := u.ep.toNat_lt
    have h2 := u.ses.toNat_lt
    have := digs_len [2, u.ep.toNat, u.ses.toNat] (by intro x hx; simp at hx; omega)
    simp only [List.length_cons, List.length_nil] at this
    rw [hL]
    omega
  obtain ⟨L2, hL2⟩ : ∃ L2, L2 = L ++ (layR u) := ⟨_, rfl⟩
  obtain ⟨L4, hL4⟩ : ∃ L4, L4 = L2 ++ sumB (crcOf L2) := ⟨_, rfl⟩
  rw [← hL, ← hL2, ← hL4]
  have hsl := fun (W : World) (v : Value) (hv : Bs W v L2) (h : L2.length ≤ 100000) => refSeal_any v L2 W hv (by omega)
  simp only [← hL4] at hsl
  obtain ⟨kind, ep, ses, path, idx, cnt, data, code, got⟩ := u
  obtain rfl : kind = 2 := hk
  unfold uv at *
  simp only at *
  obtain ⟨n, hn⟩ : ∃ n, n = data.length := ⟨_, rfl⟩
  obtain ⟨k, hk⟩ : ∃ k, k = got.length := ⟨_, rfl⟩
  obtain ⟨e1, he1⟩ : ∃ e1, e1 = ep.toNat := ⟨_, rfl⟩
  obtain ⟨e2, he2⟩ : ∃ e2, e2 = ses.toNat := ⟨_, rfl⟩
  obtain ⟨M1, hM1⟩ : ∃ M, M = (dig 2).length := ⟨_, rfl⟩
  obtain ⟨D1, hD1⟩ : ∃ D, D = (dig e1).length := ⟨_, rfl⟩
  obtain ⟨D2, hD2⟩ : ∃ D, D = (dig e2).length := ⟨_, rfl⟩
  obtain ⟨M, hM⟩ : ∃ M, M = L.length := ⟨_, rfl⟩
  have HE1 : Hid (e1 < 18446744073709551616) := Lib.hid (by rw [he1]; exact ep.toNat_lt)
  have HE2 : Hid (e2 < 18446744073709551616) := Lib.hid (by rw [he2]; exact ses.toNat_lt)
  have hd0 : M1 ≤ 10 := by rw [hM1]; exact dig_len (by decide)
  have hd1 : D1 ≤ 10 := by rw [hD1]; exact dig_len HE1.out
  have hd2 : D2 ≤ 10 := by rw [hD2]; exact dig_len HE2.out
  have hLe : L = dig 2 ++ dig e1 ++ dig e2 := by rw [hL, he1, he2]; simp [digs]
  have HL : Hid (M = M1 + D1 + D2 ∧ L.map ub = ((dig 2).map ub ++ (dig e1).map ub) ++ (dig e2).map ub) := Lib.hid ⟨by rw [hM, hLe, List.length_append, List.length_append, hM1, hD1, hD2], by rw [hLe, List.map_append, List.map_append]⟩
  have HDL1 : Hid (((dig e1).map ub).length = D1 * 1) := Lib.hid (by rw [List.length_map, hD1, Nat.mul_one])
  have HDL2 : Hid (((dig e2).map ub).length = D2 * 1) := Lib.hid (by rw [List.length_map, hD2, Nat.mul_one])
  have bd1 : (M1 + D1) * 1 ≤ 140737488355328 := by omega
  have bd2 : (M1 + D1 + D2) * 1 ≤ 140737488355328 := by omega
  rw [← hn, ← hk, ← he1, ← he2] at HC ⊢
  have HM1 := Lib.hid hM1; have HD1 := Lib.hid hD1; have HD2 := Lib.hid hD2; have HM := Lib.hid hM; have HN := Lib.hid hn; have HK := Lib.hid hk; have HSL := Lib.hid hsl; have HL2 := Lib.hid hL2
  have hM30 : M ≤ 30 := by rw [hM]; exact hll
  have hk64 := mono_len hm (by decide)
  have HG := Lib.hid hg; have HMO := Lib.hid hm
  have hk64' : k ≤ 64 := by rw [hk]; omega
  have y2 : (k : Int) % 256 = (k : Int) := by omega
  obtain ⟨c, rfl⟩ := Int.eq_ofNat_of_zero_le hc0
  have hcz : ¬ ((c : Int) = 0) := hc
  obtain ⟨L3, hL3⟩ : ∃ L3, L3 = L ++ dig c := ⟨_, rfl⟩
  have HL3 : Hid (L3.length = M + 1 ∧ L3.map ub = L.map ub ++ [.int .u8 (c : Int)]) := Lib.hid ⟨by rw [hL3, dig_small (by omega), List.length_append, ← hM]; rfl, by rw [hL3, dig_small (by omega), List.map_append, List.map_cons, ub_ofNat (by omega)]; rfl⟩
  have HTOT : Hid (L2 = L3) := Lib.hid (by rw [hL2, hL3, layR, if_neg hcz, List.append_nil]; simp)
  have y1 : (c : Int) % 256 = (c : Int) := by omega
  have t1 : ((c : Int) == 0) = false := by simpa using hcz
  have hk0 : k = 0 := by rw [hk]; exact hck hcz
  subst hk0
  clear hL3 hg hm hk64
  clear hM1 hD1 hD2 hM hn hk he1 he2 hLe hL hL2 hL4 hsl hll
  go_enter Tryd.func12, Tryd.ntmps12
  go_wp2_with fail
  refine (HC.out _).mono ?_
  rintro e w1 ⟨rfl, hB1⟩
  have hb1 : Blk w1 w.heap.size 26 [.int .i64 2, .int .u64 (e1 : Int), .int .u64 (e2 : Int), .int .i64 path, .int .i64 idx, .int .i64 cnt, .slice dp n dc, .int .i64 (c : Int), .slice gp 0 gc] := (Blk.new w _ _).later hB1
  have z0 := hb1.cell_some (i := 0) rfl
  have HB1 := Lib.hid (below_trans (hB0 _) hB1)
  have HU1 := Lib.hid hb1
  clear hB1 hb1 HC hB0
  go_wp2_with fail
  refine (refDigits_any 2 (by decide) w1).mono ?_
  rintro e w2 ⟨v2, rfl, ho2, hB2⟩
  rw [← HM1.out] at ho2
  have HO2 := Lib.hid (own_mono ho2 HB1.out.size)
  obtain ⟨a2, c2, rfl, -⟩ := own_open ho2
  have HB2 := Lib.hid (below_trans HB1.out hB2); have HU2 := Lib.hid (HU1.out.later hB2)
  have z1 := HU2.out.cell_some (i := 1) rfl
  clear ho2 hB2 z0
  go_wp2_with fail
  refine (refDigits_any e1 HE1.out w2).mono ?_
  rintro e w3 ⟨v3, rfl, ho3, hB3⟩
  rw [← HD1.out] at ho3
  obtain ⟨a3, c3, rfl, -⟩ := own_open ho3
  have HR3 := Lib.hid (Rd.of_own ho3)
  have HO3 := Lib.hid (own_later HO2.out hB3); have HB3 := Lib.hid (below_trans HB2.out hB3); have HU3 := Lib.hid (HU2.out.later hB3)
  have hz3 : w.heap.size ≤ w3.heap.size := HB3.out.size
  clear ho3 hB3 z1
  go_wp2_with (first
    | (at_builtin; refine wpList_app El.u8 rfl (.tmp 17) (.tmp 20) rfl HO3.out rfl HR3.out rfl HDL1.out (ub_one _) bd1 hz3 ?_; intro v4 w4 hown4 hgr4 _; go_loud (
        have hu4 := HU3.out.grown hgr4 (own_blk_ne HO3.out HU3.out (by decide))
        have hb4 := HB3.out.grown hgr4 hz3 (fun q hq => (HO3.out.lt q hq).1)
        have z2 := hu4.cell_some (i := 2) rfl
        have hz4 : w.heap.size ≤ w4.heap.size := hb4.size
        obtain ⟨a4, c4, hv4, -⟩ := own_open hown4
        subst hv4); have HO4 := Lib.hid hown4; have HU4 := Lib.hid hu4; have HB4 := Lib.hid hb4; clear hown4 hgr4 hu4 hb4)
    | fail)
  refine (refDigits_any e2 HE2.out w4).mono ?_
  rintro e w5 ⟨v5, rfl, ho5, hB5⟩
  rw [← HD2.out] at ho5
  obtain ⟨a5, c5, rfl, -⟩ := own_open ho5
  have HR5 := Lib.hid (Rd.of_own ho5)
  have HO5 := Lib.hid (own_later HO4.out hB5); have HB5 := Lib.hid (below_trans HB4.out hB5); have HU5 := Lib.hid (HU4.out.later hB5)
  have hz5 : w.heap.size ≤ w5.heap.size := HB5.out.size
  clear ho5 hB5 z2
  go_wp2_with (first
    | (at_builtin; refine wpList_app El.u8 rfl (.tmp 22) (.tmp 25) rfl HO5.out rfl HR5.out rfl HDL2.out (ub_one _) bd2 hz5 ?_; intro v6 w6 hown6 hgr6 _; go_loud (
        have hu6 := HU5.out.grown hgr6 (own_blk_ne HO5.out HU5.out (by decide))
        have hb6 := HB5.out.grown hgr6 hz5 (fun q hq => (HO5.out.lt q hq).1)
        have h6 : w6.ownsRow w.heap.size 5 1 v6 M (L.map ub) := by
          rw [HL.out.1, HL.out.2]
          exact hown6
        have hz6 : w.heap.size ≤ w6.heap.size := hb6.size
        obtain ⟨a6, c6, hv6, -⟩ := own_open h6
        subst hv6
        have z0 := hu6.cell_some (i := 0) rfl
        have z3 := hu6.cell_some (i := 3) rfl
        have z4 := hu6.cell_some (i := 4) rfl
        have z5 := hu6.cell_some (i := 5) rfl
        have z6 := hu6.cell_some (i := 6) rfl
        have z7 := hu6.cell_some (i := 7) rfl
        have z8 := hu6.cell_some (i := 8) rfl); have HO6 := Lib.hid h6; have HU6 := Lib.hid hu6; have HB6 := Lib.hid hb6; clear hown6 hgr6 hu6 hb6 h6)
    | (at_builtin; refine wpList_app El.u8 rfl (.tmp 49) (.tmp 53) rfl (HO6.out.alloc _) rfl (Rd.new _ _ [.int .u8 ((c : Nat) : Int)] 1 (by simp [maxLen])) rfl rfl (by intro x hx; simp at hx; rcases hx with rfl; rfl) (by omega) (by simp; omega) ?_; intro v7 w7 hown hgr _; go_loud (
        have hu := (HU6.out.alloc (.cells #[.int .u8 ((c : Nat) : Int)] 5)).grown hgr (own_blk_ne HO6.out HU6.out (by decide))
        have hb := (HB6.out.alloc hz6 (.cells #[.int .u8 ((c : Nat) : Int)] 5)).grown hgr (by simp; omega) (fun q hq => (HO6.out.lt q hq).1)
        obtain ⟨aa7, cc7, hv, -⟩ := own_open hown
        subst hv
        have hz7 : w.heap.size ≤ w7.heap.size := hb.size
        have z7 := hu.cell_some (i := 7) rfl
        have z8 := hu.cell_some (i := 8) rfl); have HO7 := Lib.hid hown; have HU7 := Lib.hid hu; have HB7 := Lib.hid hb; clear hown hgr hu hb)
    | fail)
  go_loopw [5, 6, 7] (fun bv ev iv wr => bv = .slice aa7 (M + 1) cc7 ∧ iv = .int .i64 0 ∧ wr = w7) (fun _ _ _ _ => 0)
  case atStart => exact ⟨rfl, rfl, rfl⟩
  case round =>
    obtain ⟨rfl, rfl, rfl⟩ := hrel
    have hr6 : Bs wr (.slice aa7 (M + 1) cc7) L2 := by
      rw [HTOT.out]
      show Rd wr _ L3.length _
      rw [HL3.out.1, HL3.out.2]
      exact Rd.of_own HO7.out
    have HR6 := Lib.hid hr6
    clear hr6
    go_wp2_with fail
    refine (HSL.out _ _ HR6.out (by rw [HTOT.out, HL3.out.1]; omega)).mono ?_
    rintro e' w9 ⟨v9, rfl, ho9, hB9⟩
    have HO9 := Lib.hid (own_mono ho9 HB7.out.size); have HB9 := Lib.hid (below_trans HB7.out hB9)
    clear ho9 hB9
    go_wp2_with fail
    go_ret2
    exact ⟨_, rfl, HO9.out, HB9.out⟩
end Go.Proofs.YtghjffgaebnhiaaDoor
