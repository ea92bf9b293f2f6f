/- knows: the chapter's first example. -/
import Derived.Test.YtnnkchgkebcblaaWDuo
namespace Go.Proofs.Ytnnkchgkebcblaa
set_option linter.unusedVariables false
set_option linter.unusedSimpArgs false
open Go.RowKit
def K1 : List Tm := [⟨1, 12, 1, false⟩]
def K2 : List Tm := [⟨1, 12, 1, false⟩, ⟨2, 11, 2, false⟩]
def K3 : List Tm := [⟨1, 12, 1, false⟩, ⟨2, 11, 2, false⟩, ⟨3, 12, 3, false⟩]
def K4 : List Tm := [⟨1, 12, 1, false⟩, ⟨2, 11, 2, false⟩, ⟨3, 12, 3, false⟩, ⟨4, 11, 4, false⟩]
def K5 : List Tm := [⟨1, 12, 1, false⟩, ⟨3, 12, 3, false⟩]
theorem k1 : setR [] 1 12 10 1 = K1 := by decide +kernel
theorem k2 : setR K1 2 11 10 2 = K2 := by decide +kernel
theorem k3 : setR K2 3 12 10 3 = K3 := by decide +kernel
theorem k4 : setR K3 4 5 10 4 = K4 := by decide +kernel
theorem k4l : least K4 = some 11 := by decide +kernel
theorem k4a : advTime 11 10 = 11 := by decide +kernel
theorem k4r : rings K4 11 = [2, 4] := by decide +kernel
theorem k4s : stay K4 11 = K5 := by decide +kernel
theorem k5a : advTime 20 11 = 20 := by decide +kernel
theorem k5r : rings K5 20 = [1, 3] := by decide +kernel
theorem k5s : stay K5 20 = [] := by decide +kernel
set_option maxHeartbeats 4000000 in
set_option maxRecDepth 100000 in
theorem knows_any (w : World) :
    Calls Try.prog 14 #[] w fun e w' => e = .returned (.bool true) ∧ Below w.heap.size w w' := by
  have hnew := wh_new 10 w
  change Calls Try.prog 13 #[.int .u64 10] w _ at hnew
  go_enter Try.func14, Try.ntmps14
  go_wp2_with fail
  refine hnew.mono ?_
  clear hnew
  rintro e w1 ⟨g, S, rfl, h1, hS, hB1⟩
  have h1' : Wh w1 g S 10 0 [] := h1
  have H1 := Lib.hid h1'
  have HS := Lib.hid hS
  have HB1 := Lib.hid hB1
  clear h1 h1' hS hB1
  go_wp2_with fail
  have c := wh_now H1.out
  change Calls Try.prog _ _ _ (fun e w' => e = .returned (.int .u64 10) ∧ w' = w1) at c
  refine c.mono ?_
  clear c
  rintro e w2 ⟨rfl, rfl⟩
  have c := wh_set H1.out 1 12 (by decide) (by decide)
  change Calls Try.prog _ #[_, .int .i64 1, .int .u64 12] _ _ at c
  go_wp2_with fail
  refine c.mono ?_
  clear c
  rintro e w3 ⟨rfl, S3, h3, t3⟩
  rw [k1] at h3
  have H3 := Lib.hid h3; have T3 := Lib.hid t3
  clear h3 t3
  have c := wh_set H3.out 2 11 (by decide) (by decide)
  change Calls Try.prog _ #[_, .int .i64 2, .int .u64 11] _ _ at c
  go_wp2_with fail
  refine c.mono ?_
  clear c
  rintro e w4 ⟨rfl, S4, h3, t3⟩
  rw [k2] at h3
  have H4 := Lib.hid h3; have T4 := Lib.hid (T3.out.trans t3)
  clear h3 t3
  have c := wh_set H4.out 3 12 (by decide) (by decide)
  change Calls Try.prog _ #[_, .int .i64 3, .int .u64 12] _ _ at c
  go_wp2_with fail
  refine c.mono ?_
  clear c
  rintro e w5 ⟨rfl, S5, h3, t3⟩
  rw [k3] at h3
  have H5 := Lib.hid h3; have T5 := Lib.hid (T4.out.trans t3)
  clear h3 t3
  have c := wh_set H5.out 4 5 (by decide) (by decide)
  change Calls Try.prog _ #[_, .int .i64 4, .int .u64 5] _ _ at c
  go_wp2_with fail
  refine c.mono ?_
  clear c
  rintro e w6 ⟨rfl, S6, h3, t3⟩
  rw [k4] at h3
  have H6 := Lib.hid h3; have T6 := Lib.hid (T5.out.trans t3)
  clear h3 t3
  have c := wh_next H6.out (by decide)
  rw [k4l] at c
  change Calls Try.prog _ _ _ (fun e w' => e = .returned (.tuple #[.int .u64 11, .bool true]) ∧ Below w6.heap.size w6 w') at c
  go_wp2_with fail
  refine c.mono ?_
  clear c
  rintro e w7 ⟨rfl, hB7⟩
  have H7 := Lib.hid (H6.out.later hB7)
  have T7 := Lib.hid (T6.out.trans (Turn.of_below hB7 _))
  clear hB7
  have c := wh_len H7.out
  change Calls Try.prog _ _ _ (fun e w' => e = .returned (.int .i64 4) ∧ w' = w7) at c
  go_wp2_with fail
  refine c.mono ?_
  clear c
  rintro e w8 ⟨rfl, rfl⟩
  have c := wh_adv H7.out 11 (by decide)
  rw [k4a, k4r, k4s] at c
  change Calls Try.prog _ #[_, .int .u64 11] _ _ at c
  go_wp2_with fail
  refine c.mono ?_
  clear c
  rintro e w9 ⟨v, S9, rfl, ho, _, h9, t9, _⟩
  have H9 := Lib.hid h9
  have T9 := Lib.hid (T7.out.trans t9)
  have HO := Lib.hid ho
  clear h9 t9 ho
  go_wp2_with fail
  obtain ⟨wa, hwa⟩ : ∃ wa, wa = w9.alloc (.cells #[.int .i64 2, .int .i64 4] 3) := ⟨_, rfl⟩
  have hBa : Below w9.heap.size w9 wa := hwa ▸ (Below.refl _ _).alloc (Nat.le_refl _) _
  have hRa : Rd wa (.slice (some ⟨w9.heap.size, 0, none⟩) 2 2) ([2, 4] : List Int).length (ivs [2, 4]) := hwa ▸ Rd.new w9 _ _ 2 (by simp [maxLen])
  rw [← hwa]
  clear hwa
  have c := sames_any v (.slice (some ⟨w9.heap.size, 0, none⟩) 2 2) [2, 4] [2, 4] wa (Rd.of_own (own_later HO.out hBa)) hRa
  rw [decide_eq_true rfl] at c
  refine c.mono ?_
  clear c hRa
  rintro e w10 ⟨rfl, hB10⟩
  have hB9 := below_trans hBa hB10
  have H10 := Lib.hid (H9.out.later hB9)
  have T10 := Lib.hid (T9.out.trans (Turn.of_below hB9 _))
  clear hB9 hBa hB10
  have c := wh_adv H10.out 20 (by decide)
  rw [k5a, k5r, k5s] at c
  change Calls Try.prog _ #[_, .int .u64 20] _ _ at c
  go_wp2_with fail
  refine c.mono ?_
  clear c
  rintro e w11 ⟨u, S11, rfl, ho, _, h9, t9, _⟩
  have H11 := Lib.hid h9
  have T11 := Lib.hid (T10.out.trans t9)
  have HO2 := Lib.hid ho
  clear h9 t9 ho
  go_wp2_with fail
  obtain ⟨wa, hwa⟩ : ∃ wa, wa = w11.alloc (.cells #[.int .i64 1, .int .i64 3] 3) := ⟨_, rfl⟩
  have hBa : Below w11.heap.size w11 wa := hwa ▸ (Below.refl _ _).alloc (Nat.le_refl _) _
  have hRa : Rd wa (.slice (some ⟨w11.heap.size, 0, none⟩) 2 2) ([1, 3] : List Int).length (ivs [1, 3]) := hwa ▸ Rd.new w11 _ _ 2 (by simp [maxLen])
  rw [← hwa]
  clear hwa
  have c := sames_any u (.slice (some ⟨w11.heap.size, 0, none⟩) 2 2) [1, 3] [1, 3] wa (Rd.of_own (own_later HO2.out hBa)) hRa
  rw [decide_eq_true rfl] at c
  refine c.mono ?_
  clear c hRa
  rintro e w12 ⟨rfl, hB10⟩
  have hB9 := below_trans hBa hB10
  have H12 := Lib.hid (H11.out.later hB9)
  have T12 := Lib.hid (T11.out.trans (Turn.of_below hB9 _))
  clear hB9 hBa hB10
  have c := wh_len H12.out
  change Calls Try.prog _ _ _ (fun e w' => e = .returned (.int .i64 0) ∧ w' = w12) at c
  go_wp2_with fail
  refine c.mono ?_
  clear c
  rintro e w13 ⟨rfl, rfl⟩
  go_wp2_with fail
  go_ret
  refine ⟨rfl, HB1.out.trans (T12.out.same.belowB fun i hi => ⟨Nat.lt_of_lt_of_le hi HB1.out.size, fun e => ?_⟩)⟩
  have := HS.out i e
  omega
end Go.Proofs.Ytnnkchgkebcblaa
