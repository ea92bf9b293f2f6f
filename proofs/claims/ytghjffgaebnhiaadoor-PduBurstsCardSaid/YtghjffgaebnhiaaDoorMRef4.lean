/- halyardref03: told, Valid. -/
import Derived.Test.YtghjffgaebnhiaaDoorMRef1
import Derived.Test.YtghjffgaebnhiaaDoorMValidA
import Derived.Deep.QuietTactic
namespace Go.Proofs.YtghjffgaebnhiaaDoor
set_option linter.unusedVariables false
set_option linter.unusedSimpArgs false
open Go.RowKit
set_option maxHeartbeats 2000000 in
set_option maxRecDepth 100000 in
theorem told_any (v : Value) (l : List (Int × Int)) (w : World) (h : Rgs w v l) (hl : l.length ≤ 140737488355328) :
    Calls Tryd.prog 44 #[v] w fun e w' => e = .returned (.bool (rises (-1) l)) ∧ ∃ q, w' = w.drewN q := by
  obtain ⟨ao, cap, rfl, -, hr⟩ := h.cells
  obtain ⟨k, hk⟩ : ∃ k, k = l.length := ⟨_, rfl⟩
  obtain ⟨R, hR⟩ : ∃ R, R = rises (-1) l := ⟨_, rfl⟩
  rw [← hR]
  rw [← hk] at hr hl ⊢
  have HK := Lib.hid hk; have HR := Lib.hid hR; have HC := Lib.hid hr
  clear h hk hR hr
  go_enter Tryd.func44, Tryd.ntmps44
  go_wp2_with fail
  go_loopw [3, 4] (fun ev iv wr => ∃ (j : Nat) (e : Int) (q : Nat), j ≤ k ∧ iv = .int .i64 (j : Int) ∧ ev = .int .i64 e ∧ -1 ≤ e ∧ Hid (R = rises e (l.drop j)) ∧ wr = w.drewN q) (fun _ iv _ => k - (intOf iv).toNat)
  case atStart => exact ⟨0, -1, 0, Nat.zero_le _, rfl, rfl, Int.le_refl _, Lib.hid HR.out, rfl⟩
  case round =>
    obtain ⟨j, e, q, hj, rfl, rfl, he, HE, rfl⟩ := hrel
    by_cases hlt : j < k
    · have ix : (j : Int) < (k : Int) := by omega
      have hjl : j < l.length := by rw [← HK.out]; exact hlt
      have hdrop : l.drop j = l[j] :: l.drop (j + 1) := List.drop_eq_getElem_cons hjl
      have hrise : Hid (R = (decide (e < l[j].1) && decide (l[j].1 < l[j].2) && decide (l[j].2 ≤ 64) && rises l[j].2 (l.drop (j + 1)))) := Lib.hid (by rw [HE.out, hdrop]; rfl)
      obtain ⟨b, off, rfl, hc⟩ := HC.out (by omega)
      obtain ⟨c0, c1⟩ := hc j _ (List.getElem?_eq_getElem hjl)
      obtain ⟨x, hx⟩ : ∃ x, x = l[j] := ⟨_, rfl⟩
      rw [← hx] at c0 c1 hrise
      obtain ⟨x1, x2⟩ := x
      simp only at c0 c1 hrise
      clear hx hc hdrop HE
      by_cases q1 : e < x1
      · have t1 : decide (x1 ≤ e) = false := by simp; omega
        have t2 : decide (x1 < 0) = false := by simp; omega
        by_cases q2 : x1 < x2
        · have t3 : decide (x2 ≤ x1) = false := by simp; omega
          by_cases q3 : x2 ≤ 64
          · have t4 : decide (64 < x2) = false := by simp; omega
            have HR2 : Hid (R = rises x2 (l.drop (j + 1))) := Lib.hid (by rw [hrise.out, decide_eq_true q1, decide_eq_true q2, decide_eq_true q3]; rfl)
            clear hrise
            go_wp2_with fail
            go_quiet (fail)
            go_wp2_with fail
            go_roundw
            case rel => exact ⟨j + 1, x2, _, by omega, by go_num, rfl, by omega, HR2, rfl⟩
            case measure => simp [intOf]; omega
          · have t4 : decide (64 < x2) = true := by simp; omega
            have HR2 : Hid (R = false) := Lib.hid (by rw [hrise.out, decide_eq_false q3]; simp)
            clear hrise
            go_wp2_with fail
            go_quiet (fail)
            go_wp2_with fail
            go_ret
            exact ⟨by rw [HR2.out]; rfl, q + nq, by first | rfl | simp⟩
        · have t3 : decide (x2 ≤ x1) = true := by simp; omega
          have HR2 : Hid (R = false) := Lib.hid (by rw [hrise.out, decide_eq_false q2]; simp)
          clear hrise
          go_wp2_with fail
          go_quiet (fail)
          go_wp2_with fail
          go_ret
          exact ⟨by rw [HR2.out]; rfl, q + nq, by first | rfl | simp⟩
      · have t1 : decide (x1 ≤ e) = true := by simp; omega
        have HR2 : Hid (R = false) := Lib.hid (by rw [hrise.out, decide_eq_false q1]; simp)
        clear hrise
        go_wp2_with fail
        go_quiet (fail)
        go_wp2_with fail
        go_ret
        exact ⟨by rw [HR2.out]; rfl, q + nq, by first | rfl | simp⟩
    · obtain rfl : j = k := by omega
      have HR2 : Hid (R = true) := Lib.hid (by rw [HE.out, HK.out, List.drop_length]; rfl)
      go_wp2_with fail
      go_ret
      exact ⟨by rw [HR2.out]; rfl, _, rfl⟩
set_option maxHeartbeats 8000000 in
set_option maxRecDepth 100000 in
theorem refValid_1 (u : UD) (dp gp : Option Addr) (dc gc : Nat) (w : World) (hk : u.kind = 1) :
    Calls Tryd.prog 13 #[uv u (.slice dp u.data.length dc) (.slice gp u.got.length gc)] w fun e w' => e = .returned (.int .i64 (if named u.ep ∧ named u.ses ∧ goodD u then 0 else 30)) ∧ Below w.heap.size w w' := by
  obtain ⟨kind, ep, ses, path, idx, cnt, data, code, got⟩ := u
  obtain rfl : kind = 1 := hk
  obtain ⟨R, hR⟩ : ∃ R : Int, R = if named ep ∧ named ses ∧ goodD ⟨1, ep, ses, path, idx, cnt, data, code, got⟩ then 0 else 30 := ⟨_, rfl⟩
  have h0 : ((1 ≤ ep.toNat ∧ ep.toNat ≤ 281474976710655) ∧ (1 ≤ ses.toNat ∧ ses.toNat ≤ 281474976710655) ∧ (path = 1 ∨ path = 2) ∧ 1 ≤ cnt ∧ cnt ≤ 64 ∧ 0 ≤ idx ∧ idx < cnt ∧ 1 ≤ data.length ∧ data.length ≤ 1024 ∧ code = 0 ∧ got.length = 0) → R = 0 := fun h => by rw [hR]; exact if_pos h
  have h1 : ¬ ((1 ≤ ep.toNat ∧ ep.toNat ≤ 281474976710655) ∧ (1 ≤ ses.toNat ∧ ses.toNat ≤ 281474976710655) ∧ (path = 1 ∨ path = 2) ∧ 1 ≤ cnt ∧ cnt ≤ 64 ∧ 0 ≤ idx ∧ idx < cnt ∧ 1 ≤ data.length ∧ data.length ≤ 1024 ∧ code = 0 ∧ got.length = 0) → R = 30 := fun h => by rw [hR]; exact if_neg h
  unfold uv
  simp only
  rw [← hR]
  clear hR
  generalize data.length = n at *
  generalize got.length = k at *
  generalize ep.toNat = e1 at *
  generalize ses.toNat = e2 at *
  have H0 := Lib.hid h0; have H1 := Lib.hid h1
  clear h0 h1
  go_enter Tryd.func13, Tryd.ntmps13
  go_wp2_with fail
  all_goals
    go_ret
    refine ⟨?_, (Below.refl _ _).alloc (Nat.le_refl _) _⟩
    first
    | (have hR := H1.out (by simp_all; try omega); rw [hR]; rfl)
    | (have hR := H1.out (by omega); rw [hR]; rfl)
    | (have hR := H0.out (by omega); rw [hR]; rfl)
    | (have hR := H0.out (by simp_all; try omega); rw [hR]; rfl)
end Go.Proofs.YtghjffgaebnhiaaDoor
