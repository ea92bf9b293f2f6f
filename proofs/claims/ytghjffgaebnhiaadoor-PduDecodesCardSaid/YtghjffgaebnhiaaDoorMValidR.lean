/- pdu: bare, goodReport, goodCancel. -/
import Derived.Test.YtghjffgaebnhiaaDoorMValid0
import Derived.Test.YtghjffgaebnhiaaDoorMElR
namespace Go.Proofs.YtghjffgaebnhiaaDoor
set_option linter.unusedVariables false
set_option linter.unusedSimpArgs false
open Go.RowKit
def bareU (u : UD) : Prop := u.path = 0 ∧ u.idx = 0 ∧ u.cnt = 0 ∧ u.data.length = 0
instance (u : UD) : Decidable (bareU u) := inferInstanceAs (Decidable (_ ∧ _))
/-- rising apart from one another, above e, 64 at most. -/
def rises : Int → List (Int × Int) → Bool
  | _, [] => true
  | e, g :: l => decide (e < g.1) && decide (g.1 < g.2) && decide (g.2 ≤ 64) && rises g.2 l
def goodR (u : UD) : Prop := bareU u ∧ 0 ≤ u.code ∧ u.code ≤ 7 ∧ (u.code ≠ 0 → u.got.length = 0) ∧ rises (-1) u.got = true
instance (u : UD) : Decidable (goodR u) := inferInstanceAs (Decidable (_ ∧ _))
def goodC (u : UD) : Prop := bareU u ∧ u.code = 0 ∧ u.got.length = 0
instance (u : UD) : Decidable (goodC u) := inferInstanceAs (Decidable (_ ∧ _))
theorem rd_lt {w : World} {v : Value} {n : Nat} {cs : List Value} (h : Rd w v n cs) (hc : cs ≠ []) : ∀ b, v.ownBlock = some b → b < w.heap.size := fun b e => by
  obtain ⟨b', off, cap, rfl, -, -, h1, -⟩ := h.form hc
  have : b' = b := Option.some.inj e
  omega
def ucs (u : UD) (dv gv : Value) : List Value := [.int .i64 u.kind, .int .u64 (u.ep.toNat : Int), .int .u64 (u.ses.toNat : Int), .int .i64 u.path, .int .i64 u.idx, .int .i64 u.cnt, dv, .int .i64 u.code, gv]
set_option maxHeartbeats 1000000 in
set_option maxRecDepth 100000 in
theorem bare_any (u : UD) (dp gp : Option Addr) (dc gc : Nat) (w : World) :
    Calls Tryd.prog 97 #[uv u (.slice dp u.data.length dc) (.slice gp u.got.length gc)] w fun e w' => e = .returned (.bool (decide (bareU u))) ∧ Below w.heap.size w w' := by
  have hdec : decide (bareU u) = (decide (u.path = 0) && decide (u.idx = 0) && decide (u.cnt = 0) && decide (u.data.length = 0)) := by
    rw [Bool.eq_iff_iff, decide_eq_true_iff]
    simp only [decide_eq_true_eq, Bool.and_eq_true, and_assoc, bareU]
  rw [hdec]
  obtain ⟨kind, ep, ses, path, idx, cnt, data, code, got⟩ := u
  unfold uv
  simp only
  obtain ⟨n, hn⟩ : ∃ n, n = data.length := ⟨_, rfl⟩
  obtain ⟨k, hk⟩ : ∃ k, k = got.length := ⟨_, rfl⟩
  obtain ⟨e1, he1⟩ : ∃ e1, e1 = ep.toNat := ⟨_, rfl⟩
  obtain ⟨e2, he2⟩ : ∃ e2, e2 = ses.toNat := ⟨_, rfl⟩
  rw [← hn, ← hk, ← he1, ← he2]
  clear hn hk he1 he2 hdec
  have t1 : (path == 0) = decide (path = 0) := rfl
  have t2 : (idx == 0) = decide (idx = 0) := rfl
  have t3 : (cnt == 0) = decide (cnt = 0) := rfl
  have t4 : ((n : Int) == 0) = decide (n = 0) := by rw [Bool.eq_iff_iff]; simp
  obtain ⟨b1, hb1⟩ : ∃ b, b = decide (path = 0) := ⟨_, rfl⟩
  obtain ⟨b2, hb2⟩ : ∃ b, b = decide (idx = 0) := ⟨_, rfl⟩
  obtain ⟨b3, hb3⟩ : ∃ b, b = decide (cnt = 0) := ⟨_, rfl⟩
  obtain ⟨b4, hb4⟩ : ∃ b, b = decide (n = 0) := ⟨_, rfl⟩
  rw [← hb1] at t1; rw [← hb2] at t2; rw [← hb3] at t3; rw [← hb4] at t4
  rw [← hb1, ← hb2, ← hb3, ← hb4]
  clear hb1 hb2 hb3 hb4
  cases b1 <;> cases b2 <;> cases b3
  all_goals
    go_enter Tryd.func97, Tryd.ntmps97
    go_wp2_with fail
    go_ret
    exact ⟨by first | rfl | simp, (Below.refl _ _).alloc (Nat.le_refl _) _⟩
set_option maxHeartbeats 1000000 in
set_option maxRecDepth 100000 in
theorem goodCancel_any (u : UD) (dp gp : Option Addr) (dc gc : Nat) (w : World) :
    Calls Tryd.prog 77 #[uv u (.slice dp u.data.length dc) (.slice gp u.got.length gc)] w fun e w' => e = .returned (.bool (decide (goodC u))) ∧ Below w.heap.size w w' := by
  have hdec : decide (goodC u) = (decide (bareU u) && decide (u.code = 0) && decide (u.got.length = 0)) := by
    rw [Bool.eq_iff_iff, decide_eq_true_iff]
    simp only [decide_eq_true_eq, Bool.and_eq_true, and_assoc, goodC]
  have hb := fun W => bare_any u dp gp dc gc W
  rw [hdec]
  obtain ⟨B, hB⟩ : ∃ B, B = decide (bareU u) := ⟨_, rfl⟩
  rw [← hB] at hb ⊢
  obtain ⟨kind, ep, ses, path, idx, cnt, data, code, got⟩ := u
  unfold uv at hb ⊢
  simp only at hb ⊢
  obtain ⟨n, hn⟩ : ∃ n, n = data.length := ⟨_, rfl⟩
  obtain ⟨k, hk⟩ : ∃ k, k = got.length := ⟨_, rfl⟩
  obtain ⟨e1, he1⟩ : ∃ e1, e1 = ep.toNat := ⟨_, rfl⟩
  obtain ⟨e2, he2⟩ : ∃ e2, e2 = ses.toNat := ⟨_, rfl⟩
  rw [← hn, ← hk, ← he1, ← he2] at hb ⊢
  clear hn hk he1 he2 hdec hB
  have t1 : (code == 0) = decide (code = 0) := rfl
  have t4 : ((k : Int) == 0) = decide (k = 0) := by rw [Bool.eq_iff_iff]; simp
  obtain ⟨b1, hb1⟩ : ∃ b, b = decide (code = 0) := ⟨_, rfl⟩
  obtain ⟨b4, hb4⟩ : ∃ b, b = decide (k = 0) := ⟨_, rfl⟩
  rw [← hb1] at t1; rw [← hb4] at t4
  rw [← hb1, ← hb4]
  clear hb1 hb4
  have HB := Lib.hid hb
  clear hb
  cases B <;> cases b1
  all_goals
    go_enter Tryd.func77, Tryd.ntmps77
    go_wp2_with fail
    refine (HB.out _).mono ?_
    rintro e w1 ⟨rfl, hB1⟩
    have hb := Blk.new w 26 [.int .i64 kind, .int .u64 (e1 : Int), .int .u64 (e2 : Int), .int .i64 path, .int .i64 idx, .int .i64 cnt, .slice dp n dc, .int .i64 code, .slice gp k gc]
    have hBw := below_trans ((Below.refl _ _).alloc (Nat.le_refl _) _) hB1
    have hb1 := hb.later hB1
    have c7 := hb1.cell_some (i := 7) rfl
    have c8 := hb1.cell_some (i := 8) rfl
    clear hb hb1 hB1
    go_wp2_with fail
    go_ret
    exact ⟨by first | rfl | simp, hBw⟩
set_option maxHeartbeats 2000000 in
set_option maxRecDepth 100000 in
theorem goodReport_any (u : UD) (dp gp : Option Addr) (dc gc : Nat) (w : World) (hg : Rgs w (.slice gp u.got.length gc) u.got) (hl : u.got.length ≤ 140737488355328) :
    Calls Tryd.prog 74 #[uv u (.slice dp u.data.length dc) (.slice gp u.got.length gc)] w fun e w' => e = .returned (.bool (decide (goodR u))) ∧ Below w.heap.size w w' := by
  have hdec : decide (goodR u) = (decide (bareU u) && decide (0 ≤ u.code) && decide (u.code ≤ 7) && (decide (u.code = 0) || decide (u.got.length = 0)) && rises (-1) u.got) := by
    rw [Bool.eq_iff_iff, decide_eq_true_iff]
    simp only [decide_eq_true_eq, Bool.and_eq_true, Bool.or_eq_true, and_assoc, goodR, ne_eq]
    constructor
    · rintro ⟨h1, h2, h3, h4, h5⟩
      refine ⟨h1, h2, h3, ?_, h5⟩
      by_cases h : u.code = 0
      · exact .inl h
      · exact .inr (h4 h)
    · rintro ⟨h1, h2, h3, h4, h5⟩
      exact ⟨h1, h2, h3, fun h => h4.resolve_left h, h5⟩
  have hb := fun W => bare_any u dp gp dc gc W
  rw [hdec]
  obtain ⟨B, hB⟩ : ∃ B, B = decide (bareU u) := ⟨_, rfl⟩
  rw [← hB] at hb ⊢
  obtain ⟨kind, ep, ses, path, idx, cnt, data, code, got⟩ := u
  unfold uv at hb ⊢
  simp only at hb hg hl ⊢
  obtain ⟨n, hn⟩ : ∃ n, n = data.length := ⟨_, rfl⟩
  obtain ⟨k, hk⟩ : ∃ k, k = got.length := ⟨_, rfl⟩
  obtain ⟨e1, he1⟩ : ∃ e1, e1 = ep.toNat := ⟨_, rfl⟩
  obtain ⟨e2, he2⟩ : ∃ e2, e2 = ses.toNat := ⟨_, rfl⟩
  have HG := Lib.hid hg; have HK := Lib.hid hk
  rw [← hk] at hl
  rw [← hn, ← hk, ← he1, ← he2] at hb ⊢
  clear hn hk he1 he2 hdec hB hg
  have HB := Lib.hid hb
  clear hb
  obtain ⟨R, hR⟩ : ∃ R, R = rises (-1) got := ⟨_, rfl⟩
  rw [← hR]
  have HR := Lib.hid hR
  clear hR
  cases B with
  | false =>
    go_enter Tryd.func74, Tryd.ntmps74
    go_wp2_with fail
    refine (HB.out _).mono ?_
    rintro e w1 ⟨rfl, hB1⟩
    have hBw := below_trans ((Below.refl _ _).alloc (Nat.le_refl _) _) hB1
    clear hB1
    go_wp2_with fail
    go_ret
    exact ⟨by first | rfl | simp, hBw⟩
  | true =>
    have hb := Blk.new w 26 [.int .i64 kind, .int .u64 (e1 : Int), .int .u64 (e2 : Int), .int .i64 path, .int .i64 idx, .int .i64 cnt, .slice dp n dc, .int .i64 code, .slice gp k gc]
    have HBN := Lib.hid hb
    clear hb
    by_cases h1 : code < 0
    · have d1 : decide (0 ≤ code) = false := by simp; omega
      rw [d1]
      clear d1
      go_enter Tryd.func74, Tryd.ntmps74
      go_wp2_with fail
      refine (HB.out _).mono ?_
      rintro e w1 ⟨rfl, hB1⟩
      have hBw := below_trans ((Below.refl _ _).alloc (Nat.le_refl _) _) hB1
      have c7 := (HBN.out.later hB1).cell_some (i := 7) rfl
      clear hB1
      go_wp2_with fail
      go_ret
      exact ⟨by first | rfl | simp, hBw⟩
    · have d1 : decide (0 ≤ code) = true := by simp; omega
      rw [d1]
      clear d1
      by_cases h2 : 7 < code
      · have d1 : decide (code ≤ 7) = false := by simp; omega
        rw [d1]
        clear d1
        go_enter Tryd.func74, Tryd.ntmps74
        go_wp2_with fail
        refine (HB.out _).mono ?_
        rintro e w1 ⟨rfl, hB1⟩
        have hBw := below_trans ((Below.refl _ _).alloc (Nat.le_refl _) _) hB1
        have c7 := (HBN.out.later hB1).cell_some (i := 7) rfl
        clear hB1
        go_wp2_with fail
        go_ret
        exact ⟨by first | rfl | simp, hBw⟩
      · have d1 : decide (code ≤ 7) = true := by simp; omega
        rw [d1]
        clear d1
        by_cases h3 : code ≠ 0 ∧ 0 < k
        · have t1 : (code != 0) = true := by simpa using h3.1
          have t0 : ¬ code = 0 := h3.1
          have hk0 : 0 < k := h3.2
          have hk1 : (0 : Int) < (k : Int) := by omega
          have d1 : decide (code = 0) = false := by simpa using h3.1
          have d2 : decide (k = 0) = false := by simp; omega
          rw [d1, d2]
          clear d1 d2 h3
          go_enter Tryd.func74, Tryd.ntmps74
          go_wp2_with fail
          refine (HB.out _).mono ?_
          rintro e w1 ⟨rfl, hB1⟩
          have hBw := below_trans ((Below.refl _ _).alloc (Nat.le_refl _) _) hB1
          have c7 := (HBN.out.later hB1).cell_some (i := 7) rfl
          have c8 := (HBN.out.later hB1).cell_some (i := 8) rfl
          clear hB1
          go_wp2_with fail
          go_ret
          exact ⟨by first | rfl | simp, hBw⟩
        · have d1 : (decide (code = 0) || decide (k = 0)) = true := by
            simp
            omega
          rw [d1]
          clear d1
          go_enter Tryd.func74, Tryd.ntmps74
          go_wp2_with fail
          refine (HB.out _).mono ?_
          rintro e w1 ⟨rfl, hB1⟩
          have hBw := below_trans ((Below.refl _ _).alloc (Nat.le_refl _) _) hB1
          have HBW := Lib.hid hBw
          have c7 := (HBN.out.later hB1).cell_some (i := 7) rfl
          have c8 := (HBN.out.later hB1).cell_some (i := 8) rfl
          clear hB1 hBw
          by_cases hc0 : code = 0
          · subst hc0
            go_wp2_with fail
            go_loopw [3, 5, 33] (fun ev gv iv wr => ∃ (j : Nat) (e : Int), j ≤ k ∧ iv = .int .i64 (j : Int) ∧ ev = .int .i64 e ∧ Hid (R = rises e (got.drop j)) ∧ Hid (Below w.heap.size w wr)) (fun _ _ iv _ => k - (intOf iv).toNat)
            case atStart => exact ⟨0, -1, Nat.zero_le _, rfl, rfl, Lib.hid HR.out, HBW⟩
            case round =>
              clear HBW c7 c8
              obtain ⟨j, e, hj, rfl, rfl, HE, HW⟩ := hrel
              by_cases hlt : j < k
              · have ix : (j : Int) < (k : Int) := by omega
                have hjl : j < got.length := by rw [← HK.out]; exact hlt
                have hdrop : got.drop j = got[j] :: got.drop (j + 1) := List.drop_eq_getElem_cons hjl
                have hrise : Hid (R = (decide (e < got[j].1) && decide (got[j].1 < got[j].2) && decide (got[j].2 ≤ 64) && rises got[j].2 (got.drop (j + 1)))) := Lib.hid (by rw [HE.out, hdrop]; rfl)
                obtain ⟨ao, cap, hv, -, hcell⟩ := Rgs.cells (Rd.below HG.out HW.out (rd_lt HG.out (fun h => by have h2 := congrArg List.length h; rw [rvs_len, ← HK.out, List.length_nil] at h2; omega)))
                injection hv with hv1 hv2 hv3
                obtain ⟨b, off, hao, hc⟩ := hcell (by omega)
                obtain ⟨c0, c1⟩ := hc j _ (List.getElem?_eq_getElem hjl)
                subst hv1
                subst hao
                obtain ⟨x, hx⟩ : ∃ x, x = got[j] := ⟨_, rfl⟩
                rw [← hx] at c0 c1 hrise
                obtain ⟨x1, x2⟩ := x
                simp only at c0 c1 hrise
                clear hx hc hcell hdrop hv2 hv3 HE
                by_cases q1 : e < x1
                · by_cases q2 : x1 < x2
                  · by_cases q3 : x2 ≤ 64
                    · have HR2 : Hid (R = rises x2 (got.drop (j + 1))) := Lib.hid (by rw [hrise.out, decide_eq_true q1, decide_eq_true q2, decide_eq_true q3]; rfl)
                      clear hrise
                      go_wp2_with fail
                      go_roundw
                      case rel => exact ⟨j + 1, x2, by omega, by go_num, rfl, HR2, Lib.hid (HW.out.alloc HW.out.size _)⟩
                      case measure => simp [intOf]; omega
                    · have HR2 : Hid (R = false) := Lib.hid (by rw [hrise.out, decide_eq_false q3]; simp)
                      clear hrise
                      go_wp2_with fail
                      go_ret
                      exact ⟨by rw [HR2.out]; rfl, HW.out.alloc HW.out.size _⟩
                  · have HR2 : Hid (R = false) := Lib.hid (by rw [hrise.out, decide_eq_false q2]; simp)
                    clear hrise
                    go_wp2_with fail
                    go_ret
                    exact ⟨by rw [HR2.out]; rfl, HW.out.alloc HW.out.size _⟩
                · have HR2 : Hid (R = false) := Lib.hid (by rw [hrise.out, decide_eq_false q1]; simp)
                  clear hrise
                  go_wp2_with fail
                  go_ret
                  exact ⟨by rw [HR2.out]; rfl, HW.out.alloc HW.out.size _⟩
              · obtain rfl : j = k := by omega
                have HR2 : Hid (R = true) := Lib.hid (by rw [HE.out, HK.out, List.drop_length]; rfl)
                go_wp2_with fail
                go_ret
                exact ⟨by rw [HR2.out]; rfl, HW.out⟩
          · obtain rfl : k = 0 := by omega
            have t1 : (code != 0) = true := by simpa using hc0
            go_wp2_with fail
            go_loopw [3, 5, 33] (fun ev gv iv wr => iv = .int .i64 0 ∧ Hid (Below w.heap.size w wr)) (fun _ _ iv _ => 0)
            case atStart => exact ⟨rfl, HBW⟩
            case round =>
              obtain ⟨rfl, HW⟩ := hrel
              have HR2 : Hid (R = true) := Lib.hid (by rw [HR.out, List.length_eq_zero_iff.1 HK.out.symm]; rfl)
              go_wp2_with fail
              go_ret
              exact ⟨by rw [HR2.out]; rfl, HW.out⟩
end Go.Proofs.YtghjffgaebnhiaaDoor
