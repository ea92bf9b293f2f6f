/- PduValids returns true. -/
import Derived.Test.YtghjffgaebnhiaaDoorKept
import Derived.Test.YtghjffgaebnhiaaDoorEncA
import Derived.Test.YtghjffgaebnhiaaDoorCodecU
namespace Go.Proofs.YtghjffgaebnhiaaDoor
set_option linter.unusedVariables false
set_option linter.unusedSimpArgs false
open Go.RowKit
set_option maxHeartbeats 4000000 in
set_option maxRecDepth 100000 in
theorem pduValids_in (u : UD) (dv gv : Value) (w : World) (hd : Bs w dv u.data) (hg : Rgs w gv u.got) (hl1 : u.data.length ≤ 140737488351232) (hl2 : u.got.length ≤ 8796093022000) (ht : Tab w) :
    Calls Tryd.prog 3 #[uv u dv gv] w fun e w' => e = .returned (.bool true) ∧ Below w.heap.size w w' := by
  obtain ⟨dp, dc, rfl, -⟩ := id hd
  obtain ⟨gp, gc, rfl, -⟩ := id hg
  obtain ⟨V, hV⟩ : ∃ V : Int, V = if validU u then 0 else 30 := ⟨_, rfl⟩
  obtain ⟨E, hE⟩ : ∃ E : List UInt8, E = if validU u then encU u else [] := ⟨_, rfl⟩
  obtain ⟨M, hM⟩ : ∃ M, M = E.length := ⟨_, rfl⟩
  have cgiven := fun (W : World) (h : Below w.heap.size w W) => given_any u _ _ W (Rd.later hd h) (hg.later h) (by omega) (by omega)
  have cvalid := fun (W : World) (b1 b2 : Nat) (h : Rgs W (.slice (some ⟨b2, 0, none⟩) u.got.length (u.got.length + 3)) u.got) => valid_any u (some ⟨b1, 0, none⟩) (some ⟨b2, 0, none⟩) (u.data.length + 4) (u.got.length + 3) W h (by omega)
  have cenc := fun (W : World) (b1 b2 : Nat) (hd : Bs W (.slice (some ⟨b1, 0, none⟩) u.data.length (u.data.length + 4)) u.data) (h : Rgs W (.slice (some ⟨b2, 0, none⟩) u.got.length (u.got.length + 3)) u.got) (hb : Below w.heap.size w W) => encode_any u (some ⟨b1, 0, none⟩) (some ⟨b2, 0, none⟩) (u.data.length + 4) (u.got.length + 3) W hd h (by omega) (ht.later hb)
  have crenc := fun (W : World) (h : Below w.heap.size w W) => refEncode_any u dp gp dc gc W (Rd.later hd h) (hg.later h) (by omega)
  have crval := fun (W : World) (h : Below w.heap.size w W) => refValid_any u dp gp dc gc W (hg.later h) (by omega)
  have ckept := fun (W : World) (v1 v2 : Value) (base : Nat) (h1 : LentB base v1 u.data W) (h2 : LentR base v2 u.got W) (h : Below w.heap.size w W) => kept_yes base u v1 v2 _ _ W h1 h2 (Rd.later hd h) (hg.later h) (by omega) (by omega)
  unfold EncPost at cenc crenc
  simp only [← hV, ← hE, ← hM] at cvalid cenc crenc crval
  have HM := Lib.hid hM
  obtain ⟨kind, ep, ses, path, idx, cnt, data, code, got⟩ := u
  unfold GivenPost at cgiven
  simp only [uv] at cgiven cvalid cenc crenc crval ckept ⊢
  obtain ⟨n, hn⟩ : ∃ n, n = data.length := ⟨_, rfl⟩
  obtain ⟨k, hk⟩ : ∃ k, k = got.length := ⟨_, rfl⟩
  obtain ⟨e1, he1⟩ : ∃ e1, e1 = ep.toNat := ⟨_, rfl⟩
  obtain ⟨e2, he2⟩ : ∃ e2, e2 = ses.toNat := ⟨_, rfl⟩
  simp only [← hn, ← hk, ← he1, ← he2] at cgiven cvalid cenc crenc crval ckept hl1 hl2 ⊢
  have HGV := Lib.hid cgiven; have HVA := Lib.hid cvalid; have HEN := Lib.hid cenc; have HRE := Lib.hid crenc; have HRV := Lib.hid crval; have HKE := Lib.hid ckept; have HN := Lib.hid hn; have HK := Lib.hid hk
  have HL1 := Lib.hid hl1; have HL2 := Lib.hid hl2
  clear cgiven cvalid cenc crenc crval ckept hd hg hl1 hl2 ht hV hE hM hn hk he1 he2
  have hB0 : Below w.heap.size w (w.alloc (.cells #[.int .i64 kind, .int .u64 (e1 : Int), .int .u64 (e2 : Int), .int .i64 path, .int .i64 idx, .int .i64 cnt, .slice dp n dc, .int .i64 code, .slice gp k gc] 26)) := (Below.refl _ _).alloc (Nat.le_refl _) _
  have hU0 : Blk (w.alloc (.cells #[.int .i64 kind, .int .u64 (e1 : Int), .int .u64 (e2 : Int), .int .i64 path, .int .i64 idx, .int .i64 cnt, .slice dp n dc, .int .i64 code, .slice gp k gc] 26)) w.heap.size 26 [.int .i64 kind, .int .u64 (e1 : Int), .int .u64 (e2 : Int), .int .i64 path, .int .i64 idx, .int .i64 cnt, .slice dp n dc, .int .i64 code, .slice gp k gc] := Blk.new w _ _
  have HB0 := Lib.hid hB0; have HU0 := Lib.hid hU0
  clear hB0 hU0
  go_enter Tryd.func3, Tryd.ntmps3
  go_wp2_with fail
  refine (HGV.out _ HB0.out).mono ?_
  rintro e w1 ⟨v1, v2, rfl, hl1, hl2, hB1⟩
  have HLB := Lib.hid hl1; have HLR := Lib.hid hl2
  obtain ⟨b1, rfl, hb1, -⟩ := id hl1
  obtain ⟨b2, rfl, hb2, -⟩ := id hl2
  rw [← HN.out, ← HK.out]
  rw [← HN.out] at HLB
  rw [← HK.out] at HLR
  obtain ⟨W1, hW1⟩ : ∃ W1, W1 = w1.alloc (.cells #[.int .i64 kind, .int .u64 (e1 : Int), .int .u64 (e2 : Int), .int .i64 path, .int .i64 idx, .int .i64 cnt, .slice (some ⟨b1, 0, none⟩) n (n + 4), .int .i64 code, .slice (some ⟨b2, 0, none⟩) k (k + 3)] 26) := ⟨_, rfl⟩
  have hBW1 : Below w1.heap.size w1 W1 := hW1 ▸ (Below.refl _ _).alloc (Nat.le_refl _) _
  have hX1 : Blk W1 w1.heap.size 26 [.int .i64 kind, .int .u64 (e1 : Int), .int .u64 (e2 : Int), .int .i64 path, .int .i64 idx, .int .i64 cnt, .slice (some ⟨b1, 0, none⟩) n (n + 4), .int .i64 code, .slice (some ⟨b2, 0, none⟩) k (k + 3)] := hW1 ▸ Blk.new w1 _ _
  have x0 := hX1.cell_some (i := 0) rfl
  have x1 := hX1.cell_some (i := 1) rfl
  have x2 := hX1.cell_some (i := 2) rfl
  have x3 := hX1.cell_some (i := 3) rfl
  have x4 := hX1.cell_some (i := 4) rfl
  have x5 := hX1.cell_some (i := 5) rfl
  have x6 := hX1.cell_some (i := 6) rfl
  have x7 := hX1.cell_some (i := 7) rfl
  have x8 := hX1.cell_some (i := 8) rfl
  rw [hW1] at x0 x1 x2 x3 x4 x5 x6 x7 x8
  have HBA := Lib.hid (below_trans HB0.out (below_trans hB1 hBW1))
  have HU1 := Lib.hid ((HU0.out.later hB1).later hBW1)
  have HX1 := Lib.hid hX1
  have HLB1 := Lib.hid (HLB.out.later hBW1); have HLR1 := Lib.hid (HLR.out.later hBW1)
  have hg1 : Rgs W1 (.slice (some ⟨b2, 0, none⟩) k (k + 3)) got := by rw [HK.out]; rw [HK.out] at HLR1; exact HLR1.out.rgs (by have := HL2.out; rw [HK.out] at this; omega)
  have hd1 : Bs W1 (.slice (some ⟨b1, 0, none⟩) n (n + 4)) data := by rw [HN.out]; rw [HN.out] at HLB1; exact HLB1.out.bs (by have := HL1.out; rw [HN.out] at this; omega)
  have HG1 := Lib.hid hg1; have HD1 := Lib.hid hd1
  have hcv := HVA.out W1 b1 b2 (by first | exact hg1 | (rw [HK.out]; rw [HK.out] at hg1; exact hg1))
  have HCV := Lib.hid hcv
  clear hB1 hBW1 hX1 hl1 hl2 hg1 hd1 hcv
  go_wp2_with fail
  rw [← hW1]
  clear hW1 x0 x1 x2 x3 x4 x5 x6 x7 x8
  refine HCV.out.mono ?_
  rintro e w2 ⟨rfl, hB2⟩
  have HX2 := Lib.hid (HX1.out.later hB2); have HU2 := Lib.hid (HU1.out.later hB2)
  have HG2 := Lib.hid (HG1.out.later hB2); have HD2 := Lib.hid (Rd.later HD1.out hB2)
  have HLB2 := Lib.hid (HLB1.out.later hB2); have HLR2 := Lib.hid (HLR1.out.later hB2)
  have HBB := Lib.hid (below_trans HBA.out hB2)
  have x0 := HX2.out.cell_some (i := 0) rfl
  have x1 := HX2.out.cell_some (i := 1) rfl
  have x2 := HX2.out.cell_some (i := 2) rfl
  have x3 := HX2.out.cell_some (i := 3) rfl
  have x4 := HX2.out.cell_some (i := 4) rfl
  have x5 := HX2.out.cell_some (i := 5) rfl
  have x6 := HX2.out.cell_some (i := 6) rfl
  have x7 := HX2.out.cell_some (i := 7) rfl
  have x8 := HX2.out.cell_some (i := 8) rfl
  have hce := HEN.out w2 b1 b2 (by first | exact HD2.out | (have h := HD2.out; rw [HN.out] at h ⊢; exact h)) (by first | exact HG2.out | (have h := HG2.out; rw [HK.out] at h ⊢; exact h)) HBB.out
  have HCE := Lib.hid hce
  clear hB2 hce
  go_wp2_with fail
  refine HCE.out.mono ?_
  rintro e w3 ⟨v3, rfl, ho3, hB3⟩
  have HE3 : Hid (Bs w3 v3 E) := Lib.hid (by show Rd w3 v3 E.length _; rw [← HM.out]; exact Rd.of_own ho3)
  obtain ⟨a3, c3, rfl, -⟩ := own_open ho3
  have HX3 := Lib.hid (HX2.out.later hB3); have HU3 := Lib.hid (HU2.out.later hB3)
  have HLB3 := Lib.hid (HLB2.out.later hB3); have HLR3 := Lib.hid (HLR2.out.later hB3)
  have HBC := Lib.hid (below_trans HBB.out hB3)
  have y0 := HU3.out.cell_some (i := 0) rfl
  have y1 := HU3.out.cell_some (i := 1) rfl
  have y2 := HU3.out.cell_some (i := 2) rfl
  have y3 := HU3.out.cell_some (i := 3) rfl
  have y4 := HU3.out.cell_some (i := 4) rfl
  have y5 := HU3.out.cell_some (i := 5) rfl
  have y6 := HU3.out.cell_some (i := 6) rfl
  have y7 := HU3.out.cell_some (i := 7) rfl
  have y8 := HU3.out.cell_some (i := 8) rfl
  clear hB3 ho3 x0 x1 x2 x3 x4 x5 x6 x7 x8
  go_wp2_with fail
  refine (HRE.out w3 HBC.out).mono ?_
  rintro e w4 ⟨v4, rfl, ho4, hB4⟩
  have HE4 : Hid (Bs w4 v4 E) := Lib.hid (by show Rd w4 v4 E.length _; rw [← HM.out]; exact Rd.of_own ho4)
  obtain ⟨a4, c4, rfl, -⟩ := own_open ho4
  have HX4 := Lib.hid (HX3.out.later hB4); have HU4 := Lib.hid (HU3.out.later hB4)
  have HLB4 := Lib.hid (HLB3.out.later hB4); have HLR4 := Lib.hid (HLR3.out.later hB4)
  have HE34 := Lib.hid (Rd.later HE3.out hB4)
  have HBD := Lib.hid (below_trans HBC.out hB4)
  clear hB4 ho4 y0 y1 y2 y3 y4 y5 y6 y7 y8
  have y0 := HU4.out.cell_some (i := 0) rfl
  have y1 := HU4.out.cell_some (i := 1) rfl
  have y2 := HU4.out.cell_some (i := 2) rfl
  have y3 := HU4.out.cell_some (i := 3) rfl
  have y4 := HU4.out.cell_some (i := 4) rfl
  have y5 := HU4.out.cell_some (i := 5) rfl
  have y6 := HU4.out.cell_some (i := 6) rfl
  have y7 := HU4.out.cell_some (i := 7) rfl
  have y8 := HU4.out.cell_some (i := 8) rfl
  go_wp2_with fail
  refine (HRV.out w4 HBD.out).mono ?_
  rintro e w5 ⟨rfl, hB5⟩
  have HX5 := Lib.hid (HX4.out.later hB5); have HU5 := Lib.hid (HU4.out.later hB5)
  have HLB5 := Lib.hid (HLB4.out.later hB5); have HLR5 := Lib.hid (HLR4.out.later hB5)
  have HBE := Lib.hid (below_trans HBD.out hB5)
  have cv1 := run_str8 (W := w5) (Rd.later HE34.out hB5) rfl
  have cv2 := run_str8 (W := w5) (Rd.later HE4.out hB5) rfl
  obtain ⟨sl, hsl⟩ : ∃ sl, sl = str E := ⟨_, rfl⟩
  rw [← hsl] at cv1 cv2
  clear hB5 hsl y0 y1 y2 y3 y4 y5 y6 y7 y8
  have x0 := HX5.out.cell_some (i := 0) rfl
  have x1 := HX5.out.cell_some (i := 1) rfl
  have x2 := HX5.out.cell_some (i := 2) rfl
  have x3 := HX5.out.cell_some (i := 3) rfl
  have x4 := HX5.out.cell_some (i := 4) rfl
  have x5 := HX5.out.cell_some (i := 5) rfl
  have x6 := HX5.out.cell_some (i := 6) rfl
  have x7 := HX5.out.cell_some (i := 7) rfl
  have x8 := HX5.out.cell_some (i := 8) rfl
  have y0 := HU5.out.cell_some (i := 0) rfl
  have y1 := HU5.out.cell_some (i := 1) rfl
  have y2 := HU5.out.cell_some (i := 2) rfl
  have y3 := HU5.out.cell_some (i := 3) rfl
  have y4 := HU5.out.cell_some (i := 4) rfl
  have y5 := HU5.out.cell_some (i := 5) rfl
  have y6 := HU5.out.cell_some (i := 6) rfl
  have y7 := HU5.out.cell_some (i := 7) rfl
  have y8 := HU5.out.cell_some (i := 8) rfl
  have hck := HKE.out w5 _ _ _ HLB5.out HLR5.out HBE.out
  have HCK := Lib.hid hck
  clear hck
  go_wp2_with fail
  refine HCK.out.mono ?_
  rintro e w6 ⟨rfl, hB6⟩
  have HBF := Lib.hid (below_trans HBE.out hB6)
  clear hB6
  go_wp2_with fail
  go_ret
  exact ⟨rfl, HBF.out⟩
theorem pduValids_walk (W : World) (cs0 : Array Value) (x0 : UT) (h0 : cUnit.rep W cs0.toList x0) (ht : Tab W) :
    Calls Tryd.prog 3 #[.agg cs0] W fun e w' => e = .returned (.bool true) ∧ Below W.heap.size W w' := by
  obtain ⟨dv, gv, hcs, hu⟩ := cUnit_rd h0
  have e : cs0 = (ucells (udT x0) dv gv).toArray := by rw [← hcs]
  rw [e]
  exact pduValids_in (udT x0) dv gv W hu.dat hu.got hu.l1 hu.l2 ht
end Go.Proofs.YtghjffgaebnhiaaDoor
