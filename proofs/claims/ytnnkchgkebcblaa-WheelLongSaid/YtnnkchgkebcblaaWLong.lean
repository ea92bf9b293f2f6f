/- WheelLong returns true. -/
import Derived.Test.YtnnkchgkebcblaaWKnows
import Derived.Test.YtnnkchgkebcblaaCodecs
namespace Go.Proofs.Ytnnkchgkebcblaa
set_option linter.unusedVariables false
set_option linter.unusedSimpArgs false
open Go.RowKit
theorem setR_nil (i : Int) (x now ord : Nat) : setR [] i x now ord = [⟨i, atOf x now, ord, nevOf now⟩] := rfl
theorem advMax : advTime 18446744073709551615 281474976710655 = 281474976710655 := by decide +kernel
theorem one_rings_no {i : Int} {a n : Nat} (h : n < a) : rings [⟨i, a, 1, false⟩] n = [] := rings_none fun t ht _ => by simp at ht; subst ht; exact h
theorem one_stay {i : Int} {a n : Nat} (h : n < a) : stay [⟨i, a, 1, false⟩] n = [⟨i, a, 1, false⟩] := by simp [stay, h]
theorem one_gone {i : Int} {a : Nat} : stay [⟨i, a, 1, false⟩] a = [] := by simp [stay]
theorem one_rings {i : Int} {a : Nat} : rings [⟨i, a, 1, false⟩] a = [i] := by
  have h1 : due [(⟨i, a, 1, false⟩ : Tm)] a = [⟨i, a, 1, false⟩] := by simp [due]
  rw [rings_step (m := a) (fun t ht _ => by simp at ht; subst ht; exact Nat.le_refl _) (Nat.le_refl _), h1]
  simp [rings_none]
theorem one_least {i : Int} {a : Nat} : least [⟨i, a, 1, false⟩] = some a := rfl
theorem one_least_nev {i : Int} {a : Nat} : least [⟨i, a, 1, true⟩] = none := rfl
theorem nev_rings {i : Int} {a n : Nat} : rings [⟨i, a, 1, true⟩] n = [] := rings_none fun t ht hv => by simp at ht; subst ht; cases hv
theorem nev_stay {i : Int} {a n : Nat} : stay [⟨i, a, 1, true⟩] n = [⟨i, a, 1, true⟩] := by simp [stay]
set_option maxHeartbeats 4000000 in
set_option maxRecDepth 100000 in
theorem long_max (n : Nat) (i : Int) (x : Nat) (w : World) (hi : (key i).wf = true) (hn : 281474976710655 ≤ n) :
    Calls Try.prog 11 #[.int .u64 (n : Int), .int .i64 i, .int .u64 (x : Int)] w fun e w' => e = .returned (.bool true) ∧ Below w.heap.size w w' := by
  have hnew := wh_new n w
  rw [Nat.min_eq_right hn] at hnew
  clear hn
  go_enter Try.func11, Try.ntmps11
  go_wp2_with fail
  refine hnew.mono ?_
  clear hnew
  rintro e w1 ⟨g, S, rfl, h1, hS, hB1⟩
  have H1 := Lib.hid h1; have HB1 := Lib.hid hB1; have HS := Lib.hid hS
  clear h1 hS hB1
  go_wp2_with fail
  refine (knows_any w1).mono ?_
  rintro e w2 ⟨rfl, hB2⟩
  have H2 := Lib.hid (H1.out.later hB2); have T2 := Lib.hid (Turn.of_below hB2 S)
  clear hB2
  go_wp2_with fail
  refine (wh_set H2.out i x hi (by decide)).mono ?_
  rintro e w3 ⟨rfl, S3, h3, t3⟩
  rw [setR_nil, nevOf_max] at h3
  obtain ⟨a, ha⟩ : ∃ a, a = atOf x 281474976710655 := ⟨_, rfl⟩
  rw [← ha] at h3
  have H3 := Lib.hid h3; have T3 := Lib.hid (T2.out.trans t3)
  clear h3 t3 ha
  have c := wh_next H3.out (by decide)
  rw [one_least_nev] at c
  change Calls Try.prog _ _ _ (fun e w' => e = .returned (.tuple #[.int .u64 0, .bool false]) ∧ Below w3.heap.size w3 w') at c
  go_wp2_with fail
  refine c.mono ?_
  clear c
  rintro e w4 ⟨rfl, hB4⟩
  have H4 := Lib.hid (H3.out.later hB4); have T4 := Lib.hid (T3.out.trans (Turn.of_below hB4 _))
  clear hB4
  have c := wh_now H4.out
  change Calls Try.prog _ _ _ (fun e w' => e = .returned (.int .u64 281474976710655) ∧ w' = w4) at c
  go_wp2_with fail
  refine c.mono ?_
  clear c
  rintro e w5 ⟨rfl, rfl⟩
  have c := wh_len H4.out
  change Calls Try.prog _ _ _ (fun e w' => e = .returned (.int .i64 1) ∧ w' = w5) at c
  go_wp2_with fail
  refine c.mono ?_
  clear c
  rintro e w6 ⟨rfl, rfl⟩
  have c := wh_adv H4.out 18446744073709551615 (by decide)
  rw [advMax, nev_rings, nev_stay] at c
  change Calls Try.prog _ #[_, .int .u64 18446744073709551615] _ _ at c
  go_wp2_with fail
  refine c.mono ?_
  clear c
  rintro e w7 ⟨v, S7, rfl, ho, _, h7, t7, _⟩
  obtain ⟨va, vc, rfl, -⟩ := own_open ho
  have H7 := Lib.hid h7; have T7 := Lib.hid (T4.out.trans t7)
  clear h7 t7 ho
  go_wp2_with fail
  refine (wh_stop H7.out i hi (by decide)).mono ?_
  rintro e w8 ⟨rfl, S8, -, t8⟩
  have T8 := Lib.hid (T7.out.trans t8)
  have hany : ([⟨i, a, 1, true⟩] : List Tm).any (fun t => t.id == i) = true := by simp
  rw [hany]
  clear t8 hany
  go_wp2_with fail
  go_ret
  refine ⟨rfl, HB1.out.trans (T8.out.same.belowB fun j hj => ⟨Nat.lt_of_lt_of_le hj HB1.out.size, fun e => ?_⟩)⟩
  have := HS.out j e
  omega
set_option maxHeartbeats 1000000 in
set_option maxRecDepth 100000 in
theorem long_lt (n : Nat) (i : Int) (x : Nat) (w : World) (hi : (key i).wf = true) (hn : n < 281474976710655) :
    Calls Try.prog 11 #[.int .u64 (n : Int), .int .i64 i, .int .u64 (x : Int)] w fun e w' => e = .returned (.bool true) ∧ Below w.heap.size w w' := by
  have hnew := wh_new n w
  rw [Nat.min_eq_left (Nat.le_of_lt hn)] at hnew
  have hnm : ((n : Int) == 281474976710655) = false := by simp; omega
  have hnv := nevOf_lt hn
  obtain ⟨a, ha⟩ : ∃ a, a = atOf x n := ⟨_, rfl⟩
  have hcase : (x ≤ n ∧ a = n + 1) ∨ (n < x ∧ a = min x 281474976710655) := by
    unfold atOf at ha; omega
  have ha1 : n < a := by unfold atOf at ha; omega
  have ha2 : a ≤ 281474976710655 := by unfold atOf at ha; omega
  have HA := Lib.hid ha; have HNV := Lib.hid hnv
  clear ha hnv
  go_enter Try.func11, Try.ntmps11
  go_wp2_with fail
  refine hnew.mono ?_
  clear hnew
  rintro e w1 ⟨g, S, rfl, h1, hS, hB1⟩
  have H1 := Lib.hid h1; have HB1 := Lib.hid hB1; have HS := Lib.hid hS
  clear h1 hS hB1
  go_wp2_with fail
  refine (knows_any w1).mono ?_
  rintro e w2 ⟨rfl, hB2⟩
  have H2 := Lib.hid (H1.out.later hB2); have T2 := Lib.hid (Turn.of_below hB2 S)
  clear hB2
  go_wp2_with fail
  refine (wh_set H2.out i x hi (by decide)).mono ?_
  rintro e w3 ⟨rfl, S3, h3, t3⟩
  rw [setR_nil, HNV.out, ← HA.out] at h3
  have H3 := Lib.hid h3; have T3 := Lib.hid (T2.out.trans t3)
  clear h3 t3
  have c := wh_next H3.out (by decide)
  rw [one_least] at c
  change Calls Try.prog _ _ _ (fun e w' => e = .returned (.tuple #[.int .u64 (a : Int), .bool true]) ∧ Below w3.heap.size w3 w') at c
  go_wp2_with fail
  refine c.mono ?_
  clear c
  rintro e w4 ⟨rfl, hB4⟩
  have H4 := Lib.hid (H3.out.later hB4); have T4 := Lib.hid (T3.out.trans (Turn.of_below hB4 _))
  clear hB4
  go_wp2_with fail
  refine (wh_now H4.out).mono ?_
  rintro e w5 ⟨rfl, rfl⟩
  go_wp2_with fail
  refine (wh_now H4.out).mono ?_
  rintro e w6 ⟨rfl, rfl⟩
  have b1 : ¬ (a : Int) ≤ (n : Int) := by omega
  have b2 : ¬ (281474976710655 : Int) < (a : Int) := by omega
  go_wp2_with fail
  obtain ⟨p, hp⟩ : ∃ p : Nat, (p : Int) = (a : Int) - 1 := ⟨a - 1, by omega⟩
  have hadv1 : advTime p n = p := by unfold advTime; omega
  have hadv2 : advTime a p = a := by unfold advTime; omega
  have hpa : p < a := by omega
  have HP := Lib.hid hp; have HA1 := Lib.hid hadv1; have HA2 := Lib.hid hadv2
  clear hp hadv1 hadv2
  have ha3 : (1 : Int) ≤ (a : Int) := by omega
  have ha4 : IntKind.u64.wrap ((a : Int) - 1) = (a : Int) - 1 := by rw [IntKind.wrap_u64]; omega
  have fin : ∀ w', Wh w' g S3 n 1 [⟨i, a, 1, false⟩] → Calls Try.prog 20 #[.pointer (some ⟨g, 0, none⟩), .int .u64 ((a : Int) - 1)] w' fun e w'' => ∃ va vc S7, e = .returned (.slice va 0 vc) ∧ Wh w'' g S7 p 1 [⟨i, a, 1, false⟩] ∧ Turn S3 S7 w' w'' := fun w' h => by
    have c := wh_adv h p (by decide)
    rw [HA1.out, one_rings_no hpa, one_stay hpa, HP.out] at c
    refine c.mono ?_
    rintro e w'' ⟨v, S7, rfl, ho, _, h7, t7, _⟩
    obtain ⟨va, vc, rfl, -⟩ := own_open ho
    exact ⟨va, vc, S7, rfl, h7, t7⟩
  have HF := Lib.hid fin
  clear fin
  have hw1 : IntKind.u64.wrap ((n : Int) + 1) = (n : Int) + 1 := by rw [IntKind.wrap_u64]; omega
  rcases hcase with ⟨hx, hax⟩ | ⟨hx, hax⟩
  · have c1 : ¬ (n : Int) < (x : Int) := by omega
    have c2 : (x : Int) ≤ (n : Int) := by omega
    have hb : ((a : Int) != (n : Int) + 1) = false := by simp; omega
    clear hx hax ha2
    refine (wh_now H4.out).mono ?_
    rintro e w7 ⟨rfl, rfl⟩
    go_wp2_with fail
    refine (wh_now H4.out).mono ?_
    rintro e w7b ⟨rfl, rfl⟩
    go_wp2_with fail
    refine (wh_now H4.out).mono ?_
    rintro e w7c ⟨rfl, rfl⟩
    go_wp2_with fail
    refine (HF.out _ H4.out).mono ?_
    rintro e w8 ⟨va, vc, S7, rfl, h7, t7⟩
    have H7 := Lib.hid h7; have T7 := Lib.hid (T4.out.trans t7)
    clear h7 t7
    have c := wh_len H7.out
    change Calls Try.prog _ _ _ (fun e w' => e = .returned (.int .i64 1) ∧ w' = w8) at c
    go_wp2_with fail
    refine c.mono ?_
    clear c
    rintro e w9 ⟨rfl, rfl⟩
    have c := wh_adv H7.out a (by decide)
    rw [HA2.out, one_rings, one_gone] at c
    go_wp2_with fail
    refine c.mono ?_
    clear c
    rintro e w10 ⟨v, S10, rfl, ho, _, h10, t10, _⟩
    have H10 := Lib.hid h10; have T10 := Lib.hid (T7.out.trans t10); have HO := Lib.hid ho
    clear h10 t10 ho
    go_wp2_with fail
    obtain ⟨wa, hwa⟩ : ∃ wa, wa = w10.alloc (.cells #[.int .i64 i] 3) := ⟨_, rfl⟩
    have hBa : Below w10.heap.size w10 wa := hwa ▸ (Below.refl _ _).alloc (Nat.le_refl _) _
    have hRa : Rd wa (.slice (some ⟨w10.heap.size, 0, none⟩) 1 1) ([i] : List Int).length (ivs [i]) := hwa ▸ Rd.new w10 _ _ 1 (by simp [maxLen])
    rw [← hwa]
    clear hwa
    have c := sames_any v (.slice (some ⟨w10.heap.size, 0, none⟩) 1 1) [i] [i] wa (Rd.of_own (own_later HO.out hBa)) hRa
    rw [decide_eq_true rfl] at c
    refine c.mono ?_
    clear c hRa
    rintro e w11 ⟨rfl, hB11⟩
    have hB := below_trans hBa hB11
    have H11 := Lib.hid (H10.out.later hB); have T11 := Lib.hid (T10.out.trans (Turn.of_below hB _))
    clear hB hBa hB11
    have c := wh_next H11.out (by decide)
    change Calls Try.prog _ _ _ (fun e w' => e = .returned (.tuple #[.int .u64 0, .bool false]) ∧ Below w11.heap.size w11 w') at c
    go_wp2_with fail
    refine c.mono ?_
    clear c
    rintro e w12 ⟨rfl, hB12⟩
    have H12 := Lib.hid (H11.out.later hB12); have T12 := Lib.hid (T11.out.trans (Turn.of_below hB12 _))
    clear hB12
    have c := wh_len H12.out
    change Calls Try.prog _ _ _ (fun e w' => e = .returned (.int .i64 0) ∧ w' = w12) at c
    go_wp2_with fail
    refine c.mono ?_
    clear c
    rintro e w13 ⟨rfl, rfl⟩
    go_wp2_with fail
    go_ret
    refine ⟨rfl, HB1.out.trans (T12.out.same.belowB fun j hj => ⟨Nat.lt_of_lt_of_le hj HB1.out.size, fun e => ?_⟩)⟩
    have := HS.out j e
    omega
  · have c1 : (n : Int) < (x : Int) := by omega
    have c2 : ¬ (x : Int) ≤ (n : Int) := by omega
    have hmn : min (x : Int) 281474976710655 = (a : Int) := by omega
    clear hx hax ha2
    refine (wh_now H4.out).mono ?_
    rintro e w7 ⟨rfl, rfl⟩
    go_wp2_with fail
    refine (wh_now H4.out).mono ?_
    rintro e w7b ⟨rfl, rfl⟩
    go_wp2_with fail
    refine (HF.out _ H4.out).mono ?_
    rintro e w8 ⟨va, vc, S7, rfl, h7, t7⟩
    have H7 := Lib.hid h7; have T7 := Lib.hid (T4.out.trans t7)
    clear h7 t7
    have c := wh_len H7.out
    change Calls Try.prog _ _ _ (fun e w' => e = .returned (.int .i64 1) ∧ w' = w8) at c
    go_wp2_with fail
    refine c.mono ?_
    clear c
    rintro e w9 ⟨rfl, rfl⟩
    have c := wh_adv H7.out a (by decide)
    rw [HA2.out, one_rings, one_gone] at c
    go_wp2_with fail
    refine c.mono ?_
    clear c
    rintro e w10 ⟨v, S10, rfl, ho, _, h10, t10, _⟩
    have H10 := Lib.hid h10; have T10 := Lib.hid (T7.out.trans t10); have HO := Lib.hid ho
    clear h10 t10 ho
    go_wp2_with fail
    obtain ⟨wa, hwa⟩ : ∃ wa, wa = w10.alloc (.cells #[.int .i64 i] 3) := ⟨_, rfl⟩
    have hBa : Below w10.heap.size w10 wa := hwa ▸ (Below.refl _ _).alloc (Nat.le_refl _) _
    have hRa : Rd wa (.slice (some ⟨w10.heap.size, 0, none⟩) 1 1) ([i] : List Int).length (ivs [i]) := hwa ▸ Rd.new w10 _ _ 1 (by simp [maxLen])
    rw [← hwa]
    clear hwa
    have c := sames_any v (.slice (some ⟨w10.heap.size, 0, none⟩) 1 1) [i] [i] wa (Rd.of_own (own_later HO.out hBa)) hRa
    rw [decide_eq_true rfl] at c
    refine c.mono ?_
    clear c hRa
    rintro e w11 ⟨rfl, hB11⟩
    have hB := below_trans hBa hB11
    have H11 := Lib.hid (H10.out.later hB); have T11 := Lib.hid (T10.out.trans (Turn.of_below hB _))
    clear hB hBa hB11
    have c := wh_next H11.out (by decide)
    change Calls Try.prog _ _ _ (fun e w' => e = .returned (.tuple #[.int .u64 0, .bool false]) ∧ Below w11.heap.size w11 w') at c
    go_wp2_with fail
    refine c.mono ?_
    clear c
    rintro e w12 ⟨rfl, hB12⟩
    have H12 := Lib.hid (H11.out.later hB12); have T12 := Lib.hid (T11.out.trans (Turn.of_below hB12 _))
    clear hB12
    have c := wh_len H12.out
    change Calls Try.prog _ _ _ (fun e w' => e = .returned (.int .i64 0) ∧ w' = w12) at c
    go_wp2_with fail
    refine c.mono ?_
    clear c
    rintro e w13 ⟨rfl, rfl⟩
    go_wp2_with fail
    go_ret
    refine ⟨rfl, HB1.out.trans (T12.out.same.belowB fun j hj => ⟨Nat.lt_of_lt_of_le hj HB1.out.size, fun e => ?_⟩)⟩
    have := HS.out j e
    omega
theorem longLaw_walk (W : World) (v0 : Int) (x0 : Int) (h0 : cU64.rep W [.int .u64 v0] x0) (v1 : Int) (x1 : Int) (h1 : cInt.rep W [.int .i64 v1] x1) (v2 : Int) (x2 : Int) (h2 : cU64.rep W [.int .u64 v2] x2) :
    Calls Try.prog 11 #[.int .u64 v0, .int .i64 v1, .int .u64 v2] W fun e w' => e = .returned (.bool true) ∧ Below W.heap.size W w' := by
  have nat : ∀ {v x : Int}, cU64.rep W [.int .u64 v] x → ∃ n : Nat, v = (n : Int) := fun {v x} h => by
    obtain ⟨a1, a2⟩ := h
    simp only [List.cons.injEq, Value.int.injEq, true_and, and_true] at a1
    subst a1
    refine ⟨_, (?_ : v = ((v.toNat : Nat) : Int))⟩
    simp only [Lit.wf, Bool.and_eq_true, decide_eq_true_eq] at a2
    have e1 : IntKind.u64.min = 0 := by decide
    omega
  obtain ⟨n, rfl⟩ := nat h0
  obtain ⟨x, rfl⟩ := nat h2
  have hi : (key v1).wf = true := by
    obtain ⟨a1, a2⟩ := h1
    simp only [List.cons.injEq, Value.int.injEq, true_and, and_true] at a1
    subst a1
    exact a2
  rcases Nat.lt_or_ge n 281474976710655 with h | h
  · exact long_lt n v1 x W hi h
  · exact long_max n v1 x W hi h
end Go.Proofs.Ytnnkchgkebcblaa
