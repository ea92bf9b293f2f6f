/- knows: the chapter's first example. -/
import Derived.Test.YtfaemjlemaclbaaGreatMIOne
namespace Go.Proofs.YtfaemjlemaclbaaGreat
set_option linter.unusedVariables false
set_option linter.unusedSimpArgs false
open Go.RowKit Go.Maps
def U1 : UD := ⟨1, 1, 1, 2, 0, 2, [97, 98], 0, []⟩
def U2 : UD := ⟨1, 1, 1, 2, 1, 2, [99], 0, []⟩
def K0 : IM := ⟨2, 2, 0, [], []⟩
def K1 : IM := (K0.take U1).1
def K2 : IM := (K1.take U2).1
def K3 : IM := (K2.dec (1, 1) 1).1
def K4 : IM := (K3.take U1).1
theorem k1s : (K0.take U1).2.st = 3 := by decide +kernel
theorem k1c : (K0.take U1).2.code = 0 := by decide +kernel
theorem k1g : (K0.take U1).2.got = [(0, 1)] := by decide +kernel
theorem k1b : (K0.take U1).2.blk = [] := by decide +kernel
theorem k2g : (K1.take U2).2.got = [] := by decide +kernel
theorem k4g : (K3.take U1).2.got = [] := by decide +kernel
theorem k4b : (K3.take U1).2.blk = [] := by decide +kernel
theorem k2s : (K1.take U2).2.st = 4 := by decide +kernel
theorem k2c : (K1.take U2).2.code = 0 := by decide +kernel
theorem k2b : (K1.take U2).2.blk = [97, 98, 99] := by decide +kernel
theorem k3e : (K2.dec (1, 1) 1).2 = 0 := by decide +kernel
theorem k4s : (K3.take U1).2.st = 5 := by decide +kernel
theorem k4c : (K3.take U1).2.code = 1 := by decide +kernel
theorem k4e : K4.ep.toNat = 1 := by decide +kernel
section
variable {w : World} {x n b c : Nat} {S : Nat → Prop}
theorem kt1 (h : In w x S n K0) (hb : Bs w (.slice (some ⟨b, 0, none⟩) 2 c) [97, 98]) (hS : ¬ S b) (hn : n < 4611686018427387904) :
    Calls Tryz.prog 14 #[.pointer (some ⟨x, 0, none⟩), uv U1 (.slice (some ⟨b, 0, none⟩) 2 c) (.slice none 0 0)] w fun e w' => ∃ gv bv, e = .returned (.agg #[.int .i64 3, .int .i64 0, gv, bv]) ∧ Rgs w' gv [(0, 1)] ∧ Bs w' bv [] ∧ ∃ S', In w' x S' (n + 1) K1 ∧ Turn S S' w w' := by
  refine (in_take h U1 (some ⟨b, 0, none⟩) none c 0 hb (fun k e => by injection e with e; subst e; exact hS) hn).mono ?_
  rintro e w' ⟨gv, bv, rfl, h1, h2, S', h3, h4, -⟩
  rw [k1g] at h1
  rw [k1b] at h2
  rw [k1s, k1c]
  exact ⟨gv, bv, rfl, Rgs.of_own h1, Rd.of_own h2, S', h3, h4⟩
theorem kt2 (h : In w x S n K1) (hb : Bs w (.slice (some ⟨b, 0, none⟩) 1 c) [99]) (hS : ¬ S b) (hn : n < 4611686018427387904) :
    Calls Tryz.prog 14 #[.pointer (some ⟨x, 0, none⟩), uv U2 (.slice (some ⟨b, 0, none⟩) 1 c) (.slice none 0 0)] w fun e w' => ∃ gv bv, e = .returned (.agg #[.int .i64 4, .int .i64 0, gv, bv]) ∧ Rgs w' gv [] ∧ Bs w' bv [97, 98, 99] ∧ ∃ S', In w' x S' (n + 1) K2 ∧ Turn S S' w w' := by
  refine (in_take h U2 (some ⟨b, 0, none⟩) none c 0 hb (fun k e => by injection e with e; subst e; exact hS) hn).mono ?_
  rintro e w' ⟨gv, bv, rfl, h1, h2, S', h3, h4, -⟩
  rw [k2b] at h2
  rw [k2g] at h1
  rw [k2s, k2c]
  exact ⟨gv, bv, rfl, Rgs.of_own h1, Rd.of_own h2, S', h3, h4⟩
theorem kt3 (h : In w x S n K3) (hb : Bs w (.slice (some ⟨b, 0, none⟩) 2 c) [97, 98]) (hS : ¬ S b) (hn : n < 4611686018427387904) :
    Calls Tryz.prog 14 #[.pointer (some ⟨x, 0, none⟩), uv U1 (.slice (some ⟨b, 0, none⟩) 2 c) (.slice none 0 0)] w fun e w' => ∃ gv bv, e = .returned (.agg #[.int .i64 5, .int .i64 1, gv, bv]) ∧ Rgs w' gv [] ∧ Bs w' bv [] ∧ ∃ S', In w' x S' (n + 1) K4 ∧ Turn S S' w w' := by
  refine (in_take h U1 (some ⟨b, 0, none⟩) none c 0 hb (fun k e => by injection e with e; subst e; exact hS) hn).mono ?_
  rintro e w' ⟨gv, bv, rfl, h1, h2, S', h3, h4, -⟩
  rw [k4g] at h1
  rw [k4b] at h2
  rw [k4s, k4c]
  exact ⟨gv, bv, rfl, Rgs.of_own h1, Rd.of_own h2, S', h3, h4⟩
theorem kd (h : In w x S n K2) (hn : n < 4611686018427387904) :
    Calls Tryz.prog 26 #[.pointer (some ⟨x, 0, none⟩), .agg #[.int .u64 1, .int .u64 1], .int .i64 1] w fun e w' => e = .returned (.int .i64 0) ∧ ∃ S', In w' x S' (n + 1) K3 ∧ Turn S S' w w' := by
  have := in_dec h (1, 1) 1 hn
  rw [k3e] at this
  exact this
theorem ke (h : In w x S n K4) : Calls Tryz.prog 27 #[.pointer (some ⟨x, 0, none⟩)] w fun e w' => e = .returned (.int .u64 1) ∧ w' = w := by
  have := in_epoch h
  rw [k4e] at this
  exact this
end
set_option maxHeartbeats 4000000 in
set_option maxRecDepth 100000 in
theorem knows_any (w : World) : Calls Tryz.prog 10 #[] w fun e w' => e = .returned (.bool true) ∧ Below w.heap.size w w' := by
  have hnew := inew_yes 2 2 w (by decide)
  change Calls Tryz.prog _ #[.int .i64 2, .int .i64 2] w _ at hnew
  go_enter Tryz.func10, Tryz.ntmps10
  go_wp2_with fail
  refine hnew.mono ?_
  clear hnew
  rintro e w1 ⟨x, S0, rfl, h0, hS, hB1⟩
  have H0 := Lib.hid (show In w1 x S0 0 K0 from h0); have HS := Lib.hid hS; have HB1 := Lib.hid hB1
  clear h0 hS hB1
  go_wp2_with fail
  have c := one_any 1 1 0 2 [97, 98] (by decide) w1
  change Calls Tryz.prog _ #[.int .u64 1, .int .u64 1, .int .i64 0, .int .i64 2, .string { data := #[97, 98] }] _ _ at c
  refine c.mono ?_
  clear c
  rintro e w2 ⟨b, c1, rfl, hb, hb1, hb2, hB2⟩
  have hI := H0.out.later hB2
  have c := kt1 (c := c1) (b := b) hI hb (fun e => by have := H0.out.lt e; omega) (by decide)
  have T2 := Lib.hid (Turn.of_below hB2 S0)
  clear hb hb1 hb2 hB2 hI
  go_wp2_with fail
  refine c.mono ?_
  clear c
  rintro e w3 ⟨gv, bv, rfl, hg, hv, S1, h1, t1⟩
  have H1 := Lib.hid h1; have T3 := Lib.hid (T2.out.trans t1)
  obtain ⟨ga, gc, rfl, -⟩ := id hg
  obtain ⟨ba, bc, rfl, -⟩ := id hv
  obtain ⟨W4, hW4⟩ : ∃ W4, W4 = (w3.alloc (.cells #[.int .i64 3, .int .i64 0, .slice ga 1 gc, .slice ba 0 bc] 45)).alloc (.cells #[.int .i64 0, .int .i64 1] 63) := ⟨_, rfl⟩
  have hB4 : Below w3.heap.size w3 W4 := hW4 ▸ ((Below.refl _ _).alloc (Nat.le_refl _) _).alloc (by simp) _
  have hr4 : Rgs W4 (.slice (some ⟨w3.heap.size + 1, 0, none⟩) 1 1) [(0, 1)] := by
    have := Rd.new (w3.alloc (.cells #[.int .i64 3, .int .i64 0, .slice ga 1 gc, .slice ba 0 bc] 45)) 63 [.int .i64 0, .int .i64 1] 1 (by simp [maxLen])
    rw [show (w3.alloc (.cells #[.int .i64 3, .int .i64 0, .slice ga 1 gc, .slice ba 0 bc] 45)).heap.size = w3.heap.size + 1 by simp] at this
    exact hW4 ▸ this
  have c := iranges_yes (.slice ga 1 gc) _ [(0, 1)] W4 (hg.later hB4) hr4 (by decide)
  have HC := Lib.hid c; have HB4 := Lib.hid hB4
  clear c hr4 hB4 hg hv h1 t1
  go_wp2_with fail
  rw [← hW4]
  clear hW4
  refine HC.out.mono ?_
  rintro e w5 ⟨rfl, q, rfl⟩
  have hB5 := below_drewN HB4.out q
  have H5 := Lib.hid (H1.out.later hB5); have T5 := Lib.hid (T3.out.trans (Turn.of_below hB5 S1))
  obtain ⟨w5, hw5⟩ : ∃ w5, w5 = W4.drewN q := ⟨_, rfl⟩
  rw [← hw5] at H5 T5 ⊢
  clear hw5 HC HB4 hB5
  have c := one_any 1 1 1 2 [99] (by decide) w5
  change Calls Tryz.prog _ #[.int .u64 1, .int .u64 1, .int .i64 1, .int .i64 2, .string { data := #[99] }] _ _ at c
  go_wp2_with fail
  refine c.mono ?_
  clear c
  rintro e w6 ⟨b2, c2, rfl, hb, hb1, hb2, hB6⟩
  have hI := H5.out.later hB6
  have c := kt2 (c := c2) (b := b2) hI hb (fun e => by have := H5.out.lt e; omega) (by decide)
  have T6 := Lib.hid (T5.out.trans (Turn.of_below hB6 S1))
  clear hb hb1 hb2 hB6 hI
  go_wp2_with fail
  refine c.mono ?_
  clear c
  rintro e w7 ⟨gv, bv, rfl, hg, hv, S2, h1, t1⟩
  have H7 := Lib.hid h1; have T7 := Lib.hid (T6.out.trans t1)
  obtain ⟨ga2, gc2, rfl, -⟩ := id hg
  obtain ⟨ba2, bc2, rfl, -⟩ := id hv
  obtain ⟨W8, hW8⟩ : ∃ W8, W8 = w7.alloc (.cells #[.int .i64 4, .int .i64 0, .slice ga2 0 gc2, .slice ba2 3 bc2] 45) := ⟨_, rfl⟩
  have hB8 : Below w7.heap.size w7 W8 := hW8 ▸ (Below.refl _ _).alloc (Nat.le_refl _) _
  have k8 : (convert 32 9 (.slice ba2 3 bc2)).run Tryz.prog W8 = .ok (.string { data := #[97, 98, 99] }) W8 := run_str8 (Rd.later hv hB8) (W := W8) rfl
  have H8 := Lib.hid (H7.out.later hB8); have T8 := Lib.hid (T7.out.trans (Turn.of_below hB8 S2))
  have c := kd H8.out (by decide)
  have HC := Lib.hid c
  clear hg hv h1 t1 c hB8
  rw [hW8] at k8
  go_wp2_with fail
  rw [← hW8]
  clear hW8 k8
  refine HC.out.mono ?_
  rintro e w9 ⟨rfl, S3, h9, t9⟩
  have H9 := Lib.hid h9; have T9 := Lib.hid (T8.out.trans t9)
  clear h9 t9 HC
  have c := one_any 1 1 0 2 [97, 98] (by decide) w9
  change Calls Tryz.prog _ #[.int .u64 1, .int .u64 1, .int .i64 0, .int .i64 2, .string { data := #[97, 98] }] _ _ at c
  go_wp2_with fail
  refine c.mono ?_
  clear c
  rintro e w10 ⟨b3, c3, rfl, hb, hb1, hb2, hB10⟩
  have hI := H9.out.later hB10
  have c := kt3 (c := c3) (b := b3) hI hb (fun e => by have := H9.out.lt e; omega) (by decide)
  have T10 := Lib.hid (T9.out.trans (Turn.of_below hB10 S3))
  clear hb hb1 hb2 hB10 hI
  go_wp2_with fail
  refine c.mono ?_
  clear c
  rintro e w11 ⟨gv, bv, rfl, hg, hv, S4, h1, t1⟩
  have H11 := Lib.hid h1; have T11 := Lib.hid (T10.out.trans t1)
  obtain ⟨ga4, gc4, rfl, -⟩ := id hg
  obtain ⟨ba4, bc4, rfl, -⟩ := id hv
  obtain ⟨W12, hW12⟩ : ∃ W12, W12 = w11.alloc (.cells #[.int .i64 5, .int .i64 1, .slice ga4 0 gc4, .slice ba4 0 bc4] 45) := ⟨_, rfl⟩
  have hB12 : Below w11.heap.size w11 W12 := hW12 ▸ (Below.refl _ _).alloc (Nat.le_refl _) _
  have c := ke (H11.out.later hB12)
  have T12 := Lib.hid (T11.out.trans (Turn.of_below hB12 S4))
  clear hg hv h1 t1 hB12
  go_wp2_with fail
  rw [← hW12]
  clear hW12
  refine c.mono ?_
  clear c
  rintro e w13 ⟨rfl, hw⟩
  rw [hw]
  clear hw w13
  go_wp2_with fail
  go_ret
  refine ⟨rfl, HB1.out.trans (T12.out.same.belowB fun i hi => ⟨Nat.lt_of_lt_of_le hi HB1.out.size, fun e => ?_⟩)⟩
  have := HS.out i e
  omega
end Go.Proofs.YtfaemjlemaclbaaGreat
