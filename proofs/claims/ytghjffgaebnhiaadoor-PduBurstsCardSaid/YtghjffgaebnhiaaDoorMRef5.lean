/- halyardref03.Valid at any unit. -/
import Derived.Test.YtghjffgaebnhiaaDoorMRef4
namespace Go.Proofs.YtghjffgaebnhiaaDoor
set_option linter.unusedVariables false
set_option linter.unusedSimpArgs false
open Go.RowKit
set_option maxHeartbeats 8000000 in
set_option maxRecDepth 100000 in
theorem refValid_3 (u : UD) (dp gp : Option Addr) (dc gc : Nat) (w : World) (hk : u.kind = 3) :
    Calls Tryd.prog 13 #[uv u (.slice dp u.data.length dc) (.slice gp u.got.length gc)] w fun e w' => e = .returned (.int .i64 (if named u.ep ∧ named u.ses ∧ goodC u then 0 else 30)) ∧ Below w.heap.size w w' := by
  obtain ⟨kind, ep, ses, path, idx, cnt, data, code, got⟩ := u
  obtain rfl : kind = 3 := hk
  obtain ⟨R, hR⟩ : ∃ R : Int, R = if named ep ∧ named ses ∧ goodC ⟨3, ep, ses, path, idx, cnt, data, code, got⟩ then 0 else 30 := ⟨_, rfl⟩
  have h0 : ((1 ≤ ep.toNat ∧ ep.toNat ≤ 281474976710655) ∧ (1 ≤ ses.toNat ∧ ses.toNat ≤ 281474976710655) ∧ (path = 0 ∧ idx = 0 ∧ cnt = 0 ∧ data.length = 0) ∧ code = 0 ∧ got.length = 0) → R = 0 := fun h => by rw [hR]; exact if_pos h
  have h1 : ¬ ((1 ≤ ep.toNat ∧ ep.toNat ≤ 281474976710655) ∧ (1 ≤ ses.toNat ∧ ses.toNat ≤ 281474976710655) ∧ (path = 0 ∧ idx = 0 ∧ cnt = 0 ∧ data.length = 0) ∧ code = 0 ∧ got.length = 0) → R = 30 := fun h => by rw [hR]; exact if_neg h
  unfold uv
  simp only
  rw [← hR]
  clear hR
  generalize data.length = n at *
  generalize got.length = k at *
  generalize ep.toNat = e1 at *
  generalize ses.toNat = e2 at *
  have H0 := Lib.hid h0; have H1 := Lib.hid h1
  clear h0 h1
  go_enter Tryd.func13, Tryd.ntmps13
  go_wp2_with fail
  all_goals
    go_ret
    refine ⟨?_, (Below.refl _ _).alloc (Nat.le_refl _) _⟩
    first
    | (have hR := H1.out (by simp_all; try omega); rw [hR]; rfl)
    | (have hR := H1.out (by omega); rw [hR]; rfl)
    | (have hR := H0.out (by omega); rw [hR]; rfl)
    | (have hR := H0.out (by simp_all; try omega); rw [hR]; rfl)
set_option maxHeartbeats 8000000 in
set_option maxRecDepth 100000 in
theorem refValid_0 (u : UD) (dp gp : Option Addr) (dc gc : Nat) (w : World) (hk : ¬ u.kind = 1 ∧ ¬ u.kind = 2 ∧ ¬ u.kind = 3) :
    Calls Tryd.prog 13 #[uv u (.slice dp u.data.length dc) (.slice gp u.got.length gc)] w fun e w' => e = .returned (.int .i64 30) ∧ Below w.heap.size w w' := by
  obtain ⟨kind, ep, ses, path, idx, cnt, data, code, got⟩ := u
  obtain ⟨k1, k2, k3⟩ := hk
  simp only at k1 k2 k3
  have t1 : (kind == 1) = false := by simpa using k1
  have t2 : (kind == 2) = false := by simpa using k2
  have t3 : (kind == 3) = false := by simpa using k3
  unfold uv
  simp only
  generalize data.length = n at *
  generalize got.length = k at *
  generalize ep.toNat = e1 at *
  generalize ses.toNat = e2 at *
  go_enter Tryd.func13, Tryd.ntmps13
  go_wp2_with fail
  all_goals
    go_ret
    exact ⟨rfl, (Below.refl _ _).alloc (Nat.le_refl _) _⟩
set_option maxHeartbeats 8000000 in
set_option maxRecDepth 100000 in
theorem refValid_2 (u : UD) (dp gp : Option Addr) (dc gc : Nat) (w : World) (hk : u.kind = 2) (hg : Rgs w (.slice gp u.got.length gc) u.got) (hl : u.got.length ≤ 140737488355328) :
    Calls Tryd.prog 13 #[uv u (.slice dp u.data.length dc) (.slice gp u.got.length gc)] w fun e w' => e = .returned (.int .i64 (if named u.ep ∧ named u.ses ∧ goodR u then 0 else 30)) ∧ Below w.heap.size w w' := by
  obtain ⟨kind, ep, ses, path, idx, cnt, data, code, got⟩ := u
  obtain rfl : kind = 2 := hk
  simp only at hg hl
  obtain ⟨T, hT⟩ : ∃ T, T = rises (-1) got := ⟨_, rfl⟩
  have htold := fun o => told_any _ got (w.alloc o) (hg.later ((Below.refl _ _).alloc (Nat.le_refl _) _)) hl
  rw [← hT] at htold
  obtain ⟨R, hR⟩ : ∃ R : Int, R = if named ep ∧ named ses ∧ goodR ⟨2, ep, ses, path, idx, cnt, data, code, got⟩ then 0 else 30 := ⟨_, rfl⟩
  have h0 : ((1 ≤ ep.toNat ∧ ep.toNat ≤ 281474976710655) ∧ (1 ≤ ses.toNat ∧ ses.toNat ≤ 281474976710655) ∧ (path = 0 ∧ idx = 0 ∧ cnt = 0 ∧ data.length = 0) ∧ 0 ≤ code ∧ code ≤ 7 ∧ (code ≠ 0 → got.length = 0) ∧ T = true) → R = 0 := fun h => by rw [hR]; rw [hT] at h; exact if_pos h
  have h1 : ¬ ((1 ≤ ep.toNat ∧ ep.toNat ≤ 281474976710655) ∧ (1 ≤ ses.toNat ∧ ses.toNat ≤ 281474976710655) ∧ (path = 0 ∧ idx = 0 ∧ cnt = 0 ∧ data.length = 0) ∧ 0 ≤ code ∧ code ≤ 7 ∧ (code ≠ 0 → got.length = 0) ∧ T = true) → R = 30 := fun h => by rw [hR]; rw [hT] at h; exact if_neg h
  unfold uv
  simp only
  rw [← hR]
  clear hR hT hg hl
  generalize data.length = n at *
  generalize got.length = k at *
  generalize ep.toNat = e1 at *
  generalize ses.toNat = e2 at *
  have H0 := Lib.hid h0; have H1 := Lib.hid h1; have HTO := Lib.hid htold
  clear h0 h1 htold
  cases T
  all_goals
    go_enter Tryd.func13, Tryd.ntmps13
    go_wp2_with fail
    all_goals
      try (refine (HTO.out _).mono ?_; rintro e w1 ⟨rfl, q, rfl⟩)
    all_goals
      try go_wp2_with fail
    all_goals
      go_ret
      refine ⟨?_, by first | exact (Below.refl _ _).alloc (Nat.le_refl _) _ | exact below_drewN ((Below.refl _ _).alloc (Nat.le_refl _) _) _⟩
      first
      | (have hR := H1.out (by simp_all; try omega); rw [hR]; rfl)
      | (have hR := H1.out (by omega); rw [hR]; rfl)
      | (have hR := H0.out (by omega); rw [hR]; rfl)
      | (have hR := H0.out (by simp_all; try omega); rw [hR]; rfl)
theorem refValid_any (u : UD) (dp gp : Option Addr) (dc gc : Nat) (w : World) (hg : Rgs w (.slice gp u.got.length gc) u.got) (hl : u.got.length ≤ 140737488355328) :
    Calls Tryd.prog 13 #[uv u (.slice dp u.data.length dc) (.slice gp u.got.length gc)] w fun e w' => e = .returned (.int .i64 (if validU u then 0 else 30)) ∧ Below w.heap.size w w' := by
  have key : ∀ (G : Prop) [Decidable G], (validU u ↔ named u.ep ∧ named u.ses ∧ G) → (if named u.ep ∧ named u.ses ∧ G then (0 : Int) else 30) = if validU u then 0 else 30 := fun G _ h => by
    by_cases hv : validU u
    · rw [if_pos hv, if_pos (h.1 hv)]
    · rw [if_neg hv, if_neg fun hh => hv (h.2 hh)]
  by_cases h1 : u.kind = 1
  · rw [← key (goodD u) ⟨fun h => ⟨h.1, h.2.1, by rcases h.2.2 with h | h | h; exact h.2; omega; omega⟩, fun h => ⟨h.1, h.2.1, .inl ⟨h1, h.2.2⟩⟩⟩]
    exact refValid_1 u dp gp dc gc w h1
  by_cases h2 : u.kind = 2
  · rw [← key (goodR u) ⟨fun h => ⟨h.1, h.2.1, by rcases h.2.2 with h | h | h; omega; exact h.2; omega⟩, fun h => ⟨h.1, h.2.1, .inr (.inl ⟨h2, h.2.2⟩)⟩⟩]
    exact refValid_2 u dp gp dc gc w h2 hg hl
  by_cases h3 : u.kind = 3
  · rw [← key (goodC u) ⟨fun h => ⟨h.1, h.2.1, by rcases h.2.2 with h | h | h; omega; omega; exact h.2⟩, fun h => ⟨h.1, h.2.1, .inr (.inr ⟨h3, h.2.2⟩)⟩⟩]
    exact refValid_3 u dp gp dc gc w h3
  · rw [if_neg (by rintro ⟨-, -, h | h | h⟩; exact h1 h.1; exact h2 h.1; exact h3 h.1)]
    exact refValid_0 u dp gp dc gc w ⟨h1, h2, h3⟩
end Go.Proofs.YtghjffgaebnhiaaDoor
