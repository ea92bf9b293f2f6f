/- halyardlaw03: small. -/
import Derived.Test.YtghjffgaebnhiaaDoorMDec8
import Derived.Test.YtghjffgaebnhiaaDoorMEncA
import Derived.Test.YtghjffgaebnhiaaDoorMCodec
namespace Go.Proofs.YtghjffgaebnhiaaDoor
set_option linter.unusedVariables false
set_option linter.unusedSimpArgs false
open Go.RowKit
theorem sumB_len (c : W32) : (sumB c).length = 4 := rfl
theorem unseal_seal (l : List UInt8) : unsealP (l ++ sumB (crcOf l)) = (l, 0) := by
  have hl : (l ++ sumB (crcOf l)).length = l.length + 4 := by rw [List.length_append, sumB_len]
  unfold unsealP
  rw [if_neg (by omega), hl, Nat.add_sub_cancel, List.take_left, List.drop_left, if_pos rfl]
theorem decP_enc {u : UD} (hv : validU u) : decP (encU u) = (u, 0) := by
  unfold decP encU
  rw [unseal_seal]
  rw [if_neg (by simp)]
  exact decB_enc hv
def smallU : UD := ⟨2, 1, 300, 0, 0, 0, [], 0, [(0, 2), (5, 6)]⟩
theorem small_valid : validU smallU := by decide
theorem small_bytes : encB smallU = [2, 1, 130, 44, 0, 2, 0, 2, 3, 1] := by decide
set_option maxHeartbeats 8000000 in
set_option maxRecDepth 100000 in
theorem small_any (w : World) (ht : Tab w) :
    Calls Tryd.prog 20 #[] w fun e w' => e = .returned (.bool true) ∧ Below w.heap.size w w' := by
  obtain ⟨E, hE⟩ : ∃ E, E = encU smallU := ⟨_, rfl⟩
  obtain ⟨M, hM⟩ : ∃ M, M = E.length := ⟨_, rfl⟩
  have hd : decP E = (smallU, 0) := by rw [hE]; exact decP_enc small_valid
  have hu : unsealP E = (encB smallU, 0) := by rw [hE]; exact unseal_seal _
  have hM16 : E.length ≤ 1000 := by
    rw [hE, encU, List.length_append, sumB_len, small_bytes]
    decide
  have cenc := fun (W : World) (b2 : Nat) (hb : Below w.heap.size w W) (h : Rgs W (.slice (some ⟨b2, 0, none⟩) 2 2) [(0, 2), (5, 6)]) => encode_any smallU none (some ⟨b2, 0, none⟩) 0 2 W (Rd.nil W) h (by decide) (ht.later hb)
  unfold EncPost at cenc
  simp only [if_pos small_valid, ← hE, ← hM] at cenc
  have cuns := fun (W : World) (v : Value) (hb : Below w.heap.size w W) (h : Bs W v E) => unseal_any v E W h (ht.later hb) (by omega)
  have cdec := fun (W : World) (v : Value) (hb : Below w.heap.size w W) (h : Bs W v E) => decode_any v E W h (ht.later hb) (by omega)
  rw [hu, small_bytes] at cuns
  rw [hd] at cdec
  unfold DecPost at cdec
  simp only at cuns cdec
  have HCE := Lib.hid cenc; have HCU := Lib.hid cuns; have HCD := Lib.hid cdec; have HM := Lib.hid hM
  clear cenc cuns cdec hd hu hE hM hM16 ht
  obtain ⟨W1, hW1⟩ : ∃ W1, W1 = (w.alloc (.cells #[.int .i64 0, .int .i64 2, .int .i64 5, .int .i64 6] 57)).alloc (.cells #[.int .i64 2, .int .u64 1, .int .u64 300, .int .i64 0, .int .i64 0, .int .i64 0, .slice none 0 0, .int .i64 0, .slice (some ⟨w.heap.size, 0, none⟩) 2 2] 26) := ⟨_, rfl⟩
  have hB1 : Below w.heap.size w W1 := hW1 ▸ ((Below.refl _ _).alloc (Nat.le_refl _) _).alloc (by simp) _
  have hr1 : Rgs W1 (.slice (some ⟨w.heap.size, 0, none⟩) 2 2) [(0, 2), (5, 6)] := by
    have h := (Rd.new w 57 [.int .i64 0, .int .i64 2, .int .i64 5, .int .i64 6] 2 (by decide)).alloc (.cells #[.int .i64 2, .int .u64 1, .int .u64 300, .int .i64 0, .int .i64 0, .int .i64 0, .slice none 0 0, .int .i64 0, .slice (some ⟨w.heap.size, 0, none⟩) 2 2] 26)
    exact hW1 ▸ h
  have hu1 : Blk W1 (w.heap.size + 1) 26 [.int .i64 2, .int .u64 1, .int .u64 300, .int .i64 0, .int .i64 0, .int .i64 0, .slice none 0 0, .int .i64 0, .slice (some ⟨w.heap.size, 0, none⟩) 2 2] := by
    have := Blk.new (w.alloc (.cells #[.int .i64 0, .int .i64 2, .int .i64 5, .int .i64 6] 57)) 26 [.int .i64 2, .int .u64 1, .int .u64 300, .int .i64 0, .int .i64 0, .int .i64 0, .slice none 0 0, .int .i64 0, .slice (some ⟨w.heap.size, 0, none⟩) 2 2]
    rw [show (w.alloc (.cells #[.int .i64 0, .int .i64 2, .int .i64 5, .int .i64 6] 57)).heap.size = w.heap.size + 1 by simp] at this
    exact hW1 ▸ this
  have HB1 := Lib.hid hB1; have HR1 := Lib.hid hr1; have HU1 := Lib.hid hu1; have HW1 := Lib.hid hW1
  have HC1 := Lib.hid (HCE.out W1 w.heap.size hB1 hr1)
  have x0 := HU1.out.cell_some (i := 0) rfl
  have x1 := HU1.out.cell_some (i := 1) rfl
  have x2 := HU1.out.cell_some (i := 2) rfl
  have x3 := HU1.out.cell_some (i := 3) rfl
  have x4 := HU1.out.cell_some (i := 4) rfl
  have x5 := HU1.out.cell_some (i := 5) rfl
  have x6 := HU1.out.cell_some (i := 6) rfl
  have x7 := HU1.out.cell_some (i := 7) rfl
  have x8 := HU1.out.cell_some (i := 8) rfl
  rw [hW1] at x0 x1 x2 x3 x4 x5 x6 x7 x8
  clear hB1 hr1 hu1 hW1
  go_enter Tryd.func20, Tryd.ntmps20
  go_wp2_with fail
  rw [← HW1.out]
  refine HC1.out.mono ?_
  rintro e w2 ⟨v2, rfl, ho2, hB2⟩
  have hb2 : Bs w2 v2 E := by show Rd w2 v2 E.length _; rw [← HM.out]; exact Rd.of_own ho2
  obtain ⟨a2, c2, rfl, -⟩ := own_open ho2
  have HBB := Lib.hid (below_trans HB1.out hB2); have HE2 := Lib.hid hb2; have HU2 := Lib.hid (HU1.out.later hB2); have HR2 := Lib.hid (HR1.out.later hB2)
  have HC2 := Lib.hid (HCU.out w2 _ HBB.out hb2)
  clear ho2 hB2 hb2 x0 x1 x2 x3 x4 x5 x6 x7 x8 HC1 HCE
  go_wp2_with fail
  refine HC2.out.mono ?_
  rintro e w3 ⟨v3, rfl, ho3, hB3⟩
  have hb3 : Bs w3 v3 [2, 1, 130, 44, 0, 2, 0, 2, 3, 1] := Rd.of_own ho3
  obtain ⟨a3, c3, rfl, -⟩ := own_open ho3
  have HBC := Lib.hid (below_trans HBB.out hB3); have HE3 := Lib.hid (Rd.later HE2.out hB3); have HU3 := Lib.hid (HU2.out.later hB3); have HR3 := Lib.hid (HR2.out.later hB3); have HL3 := Lib.hid hb3
  have HC3 := Lib.hid (HCD.out w3 _ HBC.out HE3.out)
  clear ho3 hB3 hb3 HC2 HCU HCD
  go_wp2_with fail
  refine HC3.out.mono ?_
  rintro e w4 ⟨dv, rv, rfl, hd4, hr4, hB4⟩
  have hdb : Bs w4 dv [] := Bs.of_own (n := ([] : List UInt8).length) hd4
  have hrb : Rgs w4 rv [(0, 2), (5, 6)] := Rgs.of_own hr4
  obtain ⟨da, dc, rfl, -⟩ := own_open hd4
  obtain ⟨ra, rc, rfl, -⟩ := own_open hr4
  simp only [smallU, uv] at *
  have HBD := Lib.hid (below_trans HBC.out hB4); have HU4 := Lib.hid (HU3.out.later hB4); have HR4 := Lib.hid (HR3.out.later hB4); have HL4 := Lib.hid (Rd.later HL3.out hB4); have HDB := Lib.hid hdb; have HRB := Lib.hid hrb
  clear hd4 hr4 hB4 hdb hrb HC3
  obtain ⟨W5, hW5⟩ : ∃ W5, W5 = w4.alloc (.cells #[.int .i64 2, .int .u64 1, .int .u64 300, .int .i64 0, .int .i64 0, .int .i64 0, .slice da 0 dc, .int .i64 0, .slice ra 2 rc] 26) := ⟨_, rfl⟩
  have hB5 : Below w4.heap.size w4 W5 := hW5 ▸ (Below.refl _ _).alloc (Nat.le_refl _) _
  have hq5 : Blk W5 w4.heap.size 26 [.int .i64 2, .int .u64 1, .int .u64 300, .int .i64 0, .int .i64 0, .int .i64 0, .slice da 0 dc, .int .i64 0, .slice ra 2 rc] := hW5 ▸ Blk.new w4 _ _
  have hu5 := HU4.out.later hB5
  have hsame := sameUnit_yes ⟨2, 1, 300, 0, 0, 0, [], 0, [(0, 2), (5, 6)]⟩ (.slice none 0 0) (.slice (some ⟨w.heap.size, 0, none⟩) 2 2) (.slice da 0 dc) (.slice ra 2 rc) W5 (Rd.nil W5) (HR4.out.later hB5) (Rd.later HDB.out hB5) (HRB.out.later hB5) (by decide)
  have cv := run_str8 (W := W5) (Rd.later HL4.out hB5) rfl
  have hs : str [2, 1, 130, 44, 0, 2, 0, 2, 3, 1] = (⟨#[2, 1, 130, 44, 0, 2, 0, 2, 3, 1]⟩ : ByteArray) := rfl
  rw [hs] at cv
  simp only [List.length_cons, List.length_nil, Nat.reduceAdd] at cv
  clear hs
  have HBE := Lib.hid (below_trans HBD.out hB5)
  simp only [uv] at hsame
  have q1 : ((UInt64.toNat 1 : Nat) : Int) = 1 := rfl
  have q2 : ((UInt64.toNat 300 : Nat) : Int) = 300 := rfl
  rw [q1, q2] at hsame
  clear q1 q2
  have HSA := Lib.hid hsame
  have x0 := hu5.cell_some (i := 0) rfl
  have x1 := hu5.cell_some (i := 1) rfl
  have x2 := hu5.cell_some (i := 2) rfl
  have x3 := hu5.cell_some (i := 3) rfl
  have x4 := hu5.cell_some (i := 4) rfl
  have x5 := hu5.cell_some (i := 5) rfl
  have x6 := hu5.cell_some (i := 6) rfl
  have x7 := hu5.cell_some (i := 7) rfl
  have x8 := hu5.cell_some (i := 8) rfl
  have y0 := hq5.cell_some (i := 0) rfl
  have y1 := hq5.cell_some (i := 1) rfl
  have y2 := hq5.cell_some (i := 2) rfl
  have y3 := hq5.cell_some (i := 3) rfl
  have y4 := hq5.cell_some (i := 4) rfl
  have y5 := hq5.cell_some (i := 5) rfl
  have y6 := hq5.cell_some (i := 6) rfl
  have y7 := hq5.cell_some (i := 7) rfl
  have y8 := hq5.cell_some (i := 8) rfl
  rw [hW5] at x0 x1 x2 x3 x4 x5 x6 x7 x8 y0 y1 y2 y3 y4 y5 y6 y7 y8 cv
  have HW5 := Lib.hid hW5
  clear hB5 hq5 hu5 hsame hW5
  go_wp2_with fail
  rw [← HW5.out]
  refine HSA.out.mono ?_
  rintro e w6 ⟨rfl, hB6⟩
  have HBF := Lib.hid (below_trans HBE.out hB6)
  clear hB6
  go_wp2_with fail
  go_ret
  exact ⟨rfl, HBF.out⟩
end Go.Proofs.YtghjffgaebnhiaaDoor
