/- PduDecodes returns true. -/
import Derived.Test.YtghjffgaebnhiaaDoorMRDec6
import Derived.Test.YtghjffgaebnhiaaDoorMCodec
import Derived.Test.YtghjffgaebnhiaaDoorMKept
namespace Go.Proofs.YtghjffgaebnhiaaDoor
set_option linter.unusedVariables false
set_option linter.unusedSimpArgs false
open Go.RowKit
theorem valid_got2 {u : UD} (h : validU u) : u.got.length ≤ 64 := by
  rcases h.2.2 with ⟨-, hg⟩ | ⟨-, hg⟩ | ⟨-, hg⟩
  · have := hg.2.2.2.2.2.2.2.2; omega
  · have := mono_len (mono_of_rises hg.2.2.2.2 (by decide : (0 : Int) ≤ -1 + 1)) (by decide); omega
  · have := hg.2.2; omega
set_option maxHeartbeats 8000000 in
set_option maxRecDepth 100000 in
theorem pduDecodes_in (v : Value) (b : List UInt8) (w : World) (hb : Bs w v b) (hl : b.length ≤ 140737488351232) (ht : Tab w) :
    Calls Tryd.prog 4 #[v] w fun e w' => e = .returned (.bool true) ∧ Below w.heap.size w w' := by
  obtain ⟨ao, cap, rfl, -⟩ := id hb
  have cby := bytes_any _ b w hb (by omega)
  have cdec := fun (W : World) (x : Value) (h : Below w.heap.size w W) (hx : Bs W x b) => decode_any x b W hx (ht.later h) (by omega)
  have crdec := fun (W : World) (h : Below w.heap.size w W) => rdecode_any _ b W (Rd.later hb h) (by omega)
  have csta := fun (W : World) (x : Value) (h : LentB w.heap.size x b W) (h2 : Below w.heap.size w W) => stays_any w.heap.size x _ b W h (Rd.later hb h2) (by omega)
  obtain ⟨⟨pu, f⟩, hQ⟩ : ∃ Q, Q = decP b := ⟨_, rfl⟩
  rw [← hQ] at cdec crdec
  have hgl : pu.got.length ≤ 140737488355328 := by
    unfold decP at hQ
    split at hQ
    · injection hQ with h1 h2; rw [h1]; decide
    · by_cases h0 : (decB (unsealP b).1).2 = 0
      · have := valid_got2 (decB_back h0).1
        rw [← hQ] at this
        have h2 : pu.got.length ≤ 64 := this
        omega
      · unfold decB at hQ h0
        split at hQ
        · injection hQ with h1 h2; rw [h1]; decide
        · next hh => rw [if_neg hh] at h0; exact absurd rfl h0
  have csame := fun (W : World) (d g d' g' : Value) (h1 : Bs W d pu.data) (h2 : Rgs W g pu.got) (h3 : Bs W d' pu.data) (h4 : Rgs W g' pu.got) => sameUnit_yes pu d g d' g' W h1 h2 h3 h4 hgl
  obtain ⟨n, hn⟩ : ∃ n, n = b.length := ⟨_, rfl⟩
  rw [← hn] at cby crdec csta ⊢
  unfold DecPost at cdec crdec
  have HBY := Lib.hid cby; have HDE := Lib.hid cdec; have HRD := Lib.hid crdec; have HST := Lib.hid csta; have HL : Hid (b.length ≤ 140737488355328) := Lib.hid (by omega)
  have HN := Lib.hid hn
  clear cby cdec crdec csta hQ hgl hn hb ht hl
  obtain ⟨pk, pep, pses, pp, pidx, pc, pdata, pcode, pgot⟩ := pu
  simp only [uv] at *
  obtain ⟨pn, hpn⟩ : ∃ n, n = pdata.length := ⟨_, rfl⟩
  obtain ⟨pg, hpg⟩ : ∃ k, k = pgot.length := ⟨_, rfl⟩
  obtain ⟨p1, hp1⟩ : ∃ e1, e1 = pep.toNat := ⟨_, rfl⟩
  obtain ⟨p2, hp2⟩ : ∃ e2, e2 = pses.toNat := ⟨_, rfl⟩
  simp only [← hpn, ← hpg, ← hp1, ← hp2] at HDE HRD csame
  have HSA := Lib.hid csame; have HPN := Lib.hid hpn; have HPG := Lib.hid hpg
  clear csame hpn hpg hp1 hp2
  go_enter Tryd.func4, Tryd.ntmps4
  go_wp2_with fail
  refine HBY.out.mono ?_
  rintro e w1 ⟨x1, rfl, hlb, hB1⟩
  have hbx := hlb.bs HL.out
  obtain ⟨gx, rfl, hgx, -⟩ := id hlb
  rw [← HN.out] at hbx hlb ⊢
  have HLB := Lib.hid hlb; have HB1 := Lib.hid hB1
  have HD1 := Lib.hid (HDE.out w1 _ hB1 (by first | exact hbx | (rw [HN.out] at hbx ⊢; exact hbx)))
  clear hB1 hbx hlb HBY
  go_wp2_with fail
  refine HD1.out.mono ?_
  rintro e w2 ⟨dv, rv, rfl, ho2, hr2, hB2⟩
  have hd2 : Bs w2 dv pdata := by have h : Rd w2 dv pn (pdata.map ub) := Rd.of_own ho2; rw [HPN.out] at h; exact h
  have hg2 : Rgs w2 rv pgot := by have h : Rd w2 rv pg (rvs pgot) := Rd.of_own hr2; rw [HPG.out] at h; exact h
  obtain ⟨da, dc, rfl, -⟩ := own_open ho2
  obtain ⟨ra, rc, rfl, -⟩ := own_open hr2
  obtain ⟨W3, hW3⟩ : ∃ W3, W3 = w2.alloc (.cells #[.int .i64 pk, .int .u64 (p1 : Int), .int .u64 (p2 : Int), .int .i64 pp, .int .i64 pidx, .int .i64 pc, .slice da pn dc, .int .i64 pcode, .slice ra pg rc] 26) := ⟨_, rfl⟩
  have hB3 : Below w2.heap.size w2 W3 := hW3 ▸ (Below.refl _ _).alloc (Nat.le_refl _) _
  have hq3 : Blk W3 w2.heap.size 26 [.int .i64 pk, .int .u64 (p1 : Int), .int .u64 (p2 : Int), .int .i64 pp, .int .i64 pidx, .int .i64 pc, .slice da pn dc, .int .i64 pcode, .slice ra pg rc] := hW3 ▸ Blk.new w2 _ _
  have HB3 := Lib.hid (below_trans HB1.out (below_trans hB2 hB3)); have HLB3 := Lib.hid ((HLB.out.later hB2).later hB3)
  have HQ3 := Lib.hid hq3; have HD3 := Lib.hid (Rd.later hd2 hB3); have HG3 := Lib.hid (Rgs.later hg2 hB3); have HW3 := Lib.hid hW3
  have HR3 := Lib.hid (HRD.out W3 HB3.out)
  clear ho2 hr2 hB2 hd2 hg2 hB3 hq3 hW3 HD1
  go_wp2_with fail
  rw [← HW3.out]
  refine HR3.out.mono ?_
  rintro e w4 ⟨dv, rv, rfl, ho4, hr4, hB4⟩
  have hd4 : Bs w4 dv pdata := by have h : Rd w4 dv pn (pdata.map ub) := Rd.of_own ho4; rw [HPN.out] at h; exact h
  have hg4 : Rgs w4 rv pgot := by have h : Rd w4 rv pg (rvs pgot) := Rd.of_own hr4; rw [HPG.out] at h; exact h
  obtain ⟨db, dd, rfl, -⟩ := own_open ho4
  obtain ⟨rb, rd, rfl, -⟩ := own_open hr4
  obtain ⟨W5, hW5⟩ : ∃ W5, W5 = w4.alloc (.cells #[.int .i64 pk, .int .u64 (p1 : Int), .int .u64 (p2 : Int), .int .i64 pp, .int .i64 pidx, .int .i64 pc, .slice db pn dd, .int .i64 pcode, .slice rb pg rd] 26) := ⟨_, rfl⟩
  have hB5 : Below w4.heap.size w4 W5 := hW5 ▸ (Below.refl _ _).alloc (Nat.le_refl _) _
  have hq5 : Blk W5 w4.heap.size 26 [.int .i64 pk, .int .u64 (p1 : Int), .int .u64 (p2 : Int), .int .i64 pp, .int .i64 pidx, .int .i64 pc, .slice db pn dd, .int .i64 pcode, .slice rb pg rd] := hW5 ▸ Blk.new w4 _ _
  have hq3' := (HQ3.out.later hB4).later hB5
  have HB5 := Lib.hid (below_trans HB3.out (below_trans hB4 hB5)); have HLB5 := Lib.hid ((HLB3.out.later hB4).later hB5)
  have hx1 : Bs W5 (.slice da pn dc) pdata := Rd.later (Rd.later HD3.out hB4) hB5
  have hx2 : Rgs W5 (.slice ra pg rc) pgot := (HG3.out.later hB4).later hB5
  have hx3 : Bs W5 (.slice db pn dd) pdata := Rd.later hd4 hB5
  have hx4 : Rgs W5 (.slice rb pg rd) pgot := hg4.later hB5
  have HS5 := Lib.hid (HSA.out W5 _ _ _ _ hx1 hx2 hx3 hx4)
  have x0 := hq3'.cell_some (i := 0) rfl
  have x1 := hq3'.cell_some (i := 1) rfl
  have x2 := hq3'.cell_some (i := 2) rfl
  have x3 := hq3'.cell_some (i := 3) rfl
  have x4 := hq3'.cell_some (i := 4) rfl
  have x5 := hq3'.cell_some (i := 5) rfl
  have x6 := hq3'.cell_some (i := 6) rfl
  have x7 := hq3'.cell_some (i := 7) rfl
  have x8 := hq3'.cell_some (i := 8) rfl
  have y0 := hq5.cell_some (i := 0) rfl
  have y1 := hq5.cell_some (i := 1) rfl
  have y2 := hq5.cell_some (i := 2) rfl
  have y3 := hq5.cell_some (i := 3) rfl
  have y4 := hq5.cell_some (i := 4) rfl
  have y5 := hq5.cell_some (i := 5) rfl
  have y6 := hq5.cell_some (i := 6) rfl
  have y7 := hq5.cell_some (i := 7) rfl
  have y8 := hq5.cell_some (i := 8) rfl
  rw [hW5] at x0 x1 x2 x3 x4 x5 x6 x7 x8 y0 y1 y2 y3 y4 y5 y6 y7 y8
  have HW5 := Lib.hid hW5
  clear ho4 hr4 hB4 hd4 hg4 hB5 hq5 hq3' hx1 hx2 hx3 hx4 hW5 HR3
  go_wp2_with fail
  rw [← HW5.out]
  refine HS5.out.mono ?_
  rintro e w6 ⟨rfl, hB6⟩
  have HB6 := Lib.hid (below_trans HB5.out hB6); have hlb6 := HLB5.out.later hB6
  have HT6 := Lib.hid (HST.out w6 _ (by first | exact hlb6 | (rw [HN.out] at hlb6 ⊢; exact hlb6)) HB6.out)
  clear hB6 hlb6 x0 x1 x2 x3 x4 x5 x6 x7 x8 y0 y1 y2 y3 y4 y5 y6 y7 y8
  go_wp2_with fail
  refine HT6.out.mono ?_
  rintro e w7 ⟨rfl, hB7⟩
  have HB7 := Lib.hid (below_trans HB6.out hB7)
  clear hB7
  go_wp2_with fail
  go_ret
  exact ⟨rfl, HB7.out⟩
theorem pduDecodes_walk (W : World) (v0 : Value) (x0 : List UInt8) (h0 : cBytes.rep W [v0] x0) (ht : Tab W) :
    Calls Tryd.prog 4 #[v0] W fun e w' => e = .returned (.bool true) ∧ Below W.heap.size W w' := by
  obtain ⟨hb, hl⟩ := cBytes_bs h0
  exact pduDecodes_in v0 x0 W hb hl ht
end Go.Proofs.YtghjffgaebnhiaaDoor
