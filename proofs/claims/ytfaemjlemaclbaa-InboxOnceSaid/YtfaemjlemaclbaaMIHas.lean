/- has: is a session among these? -/
import Derived.Test.YtfaemjlemaclbaaMISc
namespace Go.Proofs.Ytfaemjlemaclbaa
set_option linter.unusedVariables false
set_option linter.unusedSimpArgs false
open Go.RowKit Go.Maps
theorem run_eql_ses (a s : Sess) (W : World) : (binOp .eql 60 (.agg #[.int .u64 (a.1.toNat : Int), .int .u64 (a.2.toNat : Int)]) (.agg #[.int .u64 (s.1.toNat : Int), .int .u64 (s.2.toNat : Int)])).run Try.prog W = .ok (.bool (decide (a = s))) W := by
  obtain ⟨a1, a2⟩ := a
  obtain ⟨s1, s2⟩ := s
  simp [go_sem, Try.underlying60, Try.underlying25]
  by_cases h1 : a1 = s1
  · subst h1
    by_cases h2 : a2 = s2
    · subst h2
      simp
    · have : ¬ ((a2.toNat : Int) = (s2.toNat : Int)) := fun e => h2 (UInt64.toNat_inj.1 (by omega))
      simp [h2, this]
  · have : ¬ ((a1.toNat : Int) = (s1.toNat : Int)) := fun e => h1 (UInt64.toNat_inj.1 (by omega))
    simp [h1, this]
theorem sc_rd {w : World} {v : Value} {l : List Sess} (h : Rd w v l.length (l.flatMap sc)) {k : Nat} {s : Sess} (hk : l[k]? = some s) : ∃ b off cap, v = .slice (some ⟨b, off, none⟩) l.length cap ∧ cap ≤ maxLen ∧
    w.cell? ⟨b, off + k * 2, none⟩ = some (.int .u64 (s.1.toNat : Int)) ∧ w.cell? ⟨b, off + k * 2 + 1, none⟩ = some (.int .u64 (s.2.toNat : Int)) := by
  obtain ⟨h0, h1⟩ := sc_at l k s hk
  obtain ⟨b, off, cap, rfl, _, hc, _, hcell⟩ := h.form fun e => by rw [e] at h0; simp at h0
  refine ⟨b, off, cap, rfl, hc, hcell _ _ h0, ?_⟩
  have := hcell _ _ h1
  rwa [← Nat.add_assoc] at this
theorem sc_pre {w : World} {b off n c q : Nat} {l : List Sess} (h : Rd w (.slice (some ⟨b, off, none⟩) n c) n (l.flatMap sc)) (hn : n = l.length) (hq : q < n) : Rd w (.slice (some ⟨b, off, none⟩) q c) q ((l.take q).flatMap sc) := by
  have hne : l.flatMap sc ≠ [] := fun e => by
    have := sc_len l
    rw [e] at this
    simp at this
    omega
  obtain ⟨b', off', c', hv, h1, h2, h3, h4⟩ := h.form hne
  injection hv with hv1 hv2 hv3
  injection hv1 with hv1
  injection hv1 with e1 e2
  subst e1
  subst e2
  subst hv3
  refine Rd.mk (by omega) h2 fun j u hu => h4 j u ?_
  have e : l.flatMap sc = (l.take q).flatMap sc ++ (l.drop q).flatMap sc := by rw [← List.flatMap_append, List.take_append_drop]
  rw [e, List.getElem?_append_left (List.getElem?_eq_some_iff.1 hu).1]
  exact hu
theorem pre_not {l : List Sess} (h : l.Nodup) {q : Nat} {p : Sess} (hp : l[q]? = some p) : p ∉ l.take q := fun hm => by
  obtain ⟨k, hk⟩ := List.getElem?_of_mem hm
  rw [List.getElem?_take] at hk
  split at hk
  · next hlt =>
    obtain ⟨h1, e1⟩ := List.getElem?_eq_some_iff.1 hk
    obtain ⟨h2, e2⟩ := List.getElem?_eq_some_iff.1 hp
    have := (List.getElem_inj h).1 (e1.trans e2.symm)
    omega
  · cases hk
set_option maxHeartbeats 1000000 in
set_option maxRecDepth 100000 in
theorem ihas_any (v : Value) (l : List Sess) (s : Sess) (w : World) (h : Rd w v l.length (l.flatMap sc)) (hl : l.length < 4611686018427) :
    Calls Try.prog 20 #[v, .agg #[.int .u64 (s.1.toNat : Int), .int .u64 (s.2.toNat : Int)]] w fun e w' => e = .returned (.bool (decide (s ∈ l))) ∧ Below w.heap.size w w' := by
  obtain ⟨ao, cap, rfl, hnc, hcm, -⟩ := id h
  have HR := Lib.hid h
  obtain ⟨n, hn⟩ : ∃ n, n = l.length := ⟨_, rfl⟩
  rw [← hn] at hl hnc ⊢
  have HN := Lib.hid hn
  simp only [maxLen] at hcm
  obtain ⟨B, hBb⟩ : ∃ B : Bool, B = decide (s ∈ l) := ⟨_, rfl⟩
  have HBB := Lib.hid hBb
  rw [← hBb]
  clear h hn hBb
  obtain ⟨W0, hW0⟩ : ∃ W0, W0 = w.alloc (.cells #[.int .u64 (s.1.toNat : Int), .int .u64 (s.2.toNat : Int)] 60) := ⟨_, rfl⟩
  have hB0 : Below w.heap.size w W0 := hW0 ▸ (Below.refl _ _).alloc (Nat.le_refl _) _
  have hs0 : Blk W0 w.heap.size 60 [.int .u64 (s.1.toNat : Int), .int .u64 (s.2.toNat : Int)] := hW0 ▸ Blk.new w _ _
  have s0 := hs0.cell_some (i := 0) rfl
  have s1 := hs0.cell_some (i := 1) rfl
  have HR0 := Lib.hid (HR.out.later hB0); have HB0 := Lib.hid hB0
  clear hB0 hs0 HR
  go_enter Try.func20, Try.ntmps20
  go_wp2
  rw [← hW0]
  clear hW0
  go_loopw [5] (fun i wr => ∃ j : Nat, j ≤ n ∧ i = .int .i64 (j : Int) ∧ Hid (∀ k x, k < j → l[k]? = some x → x ≠ s) ∧ Below W0.heap.size W0 wr) (fun i _ => n - (intOf i).toNat)
  case atStart => exact ⟨0, Nat.zero_le _, rfl, Lib.hid fun k x hk => absurd hk (Nat.not_lt_zero _), Below.refl _ _⟩
  case round =>
    obtain ⟨j, hj, rfl, HF, hB⟩ := hrel
    have t0 := below_cell hB s0 (World.block_lt_of_cell? _ _ s0)
    have t1 := below_cell hB s1 (World.block_lt_of_cell? _ _ s1)
    by_cases hlt : j < n
    · have ix1 : (j : Int) < (n : Int) := by omega
      obtain ⟨p, hp⟩ : ∃ p, l[j]? = some p := ⟨_, List.getElem?_eq_getElem (by rw [← HN.out]; exact hlt)⟩
      obtain ⟨b, off, cap', hv, -, d0, d1⟩ := sc_rd (HR0.out.later hB) hp
      injection hv with hv1 hv2 hv3
      subst hv1
      have qe := run_eql_ses p s
      obtain ⟨u1, hu1⟩ : ∃ u : Int, u = (p.1.toNat : Int) := ⟨_, rfl⟩
      obtain ⟨u2, hu2⟩ : ∃ u : Int, u = (p.2.toNat : Int) := ⟨_, rfl⟩
      rw [← hu1] at d0 qe
      rw [← hu2] at d1 qe
      have HP := Lib.hid hp
      clear hp hu1 hu2 s0 s1 hv2 hv3
      by_cases he : p = s
      · rw [decide_eq_true he] at qe
        have hm : B = true := by
          rw [HBB.out]
          exact decide_eq_true (he ▸ List.mem_of_getElem? HP.out)
        clear he
        go_wp2
        go_quiet (fail)
        go_wp2
        go_ret
        refine ⟨?_, below_trans HB0.out (Below.trans hB (below_drewN (Below.refl _ _) _))⟩
        rw [hm]
        rfl
      · have HF2 : Hid (∀ k x, k < j + 1 → l[k]? = some x → x ≠ s) := Lib.hid fun k x hk hx => by
          rcases Nat.lt_or_ge k j with h | h
          · exact HF.out k x h hx
          · have : k = j := by omega
            subst this
            rw [HP.out] at hx
            injection hx with hx
            exact hx ▸ he
        rw [decide_eq_false he] at qe
        clear he
        go_wp2
        go_quiet (fail)
        go_wp2
        go_roundw
        case rel => exact ⟨j + 1, by omega, by go_num, HF2, below_drewN hB _⟩
        case measure => simp [intOf]; omega
    · obtain rfl : j = n := by omega
      have hm : B = false := by
        rw [HBB.out]
        refine decide_eq_false fun hs => ?_
        obtain ⟨k, hk⟩ := List.getElem?_of_mem hs
        have hk' := (List.getElem?_eq_some_iff.1 hk).1
        exact HF.out k s (by rw [HN.out]; exact hk') hk rfl
      go_wp2
      go_ret
      refine ⟨?_, below_trans HB0.out hB⟩
      rw [hm]
      rfl
end Go.Proofs.Ytfaemjlemaclbaa
