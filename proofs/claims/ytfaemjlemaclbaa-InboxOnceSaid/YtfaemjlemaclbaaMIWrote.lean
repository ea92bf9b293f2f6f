/- wrote: the code that the book has for a session. -/
import Derived.Test.YtfaemjlemaclbaaMIGo
import Derived.Test.YtfaemjlemaclbaaMRData
namespace Go.Proofs.Ytfaemjlemaclbaa
set_option linter.unusedVariables false
set_option linter.unusedSimpArgs false
open Go.RowKit Go.Maps
theorem El.code : El Try.prog 56 67 (.agg #[.int .u64 0, .int .u64 0, .int .i64 0]) 3 24 := ⟨Try.underlying56, by kernel_rfl, rfl, by decide, by decide⟩
/-- an entry of the book as cells. -/
def cb (p : Sess × Int) : List Value := [.int .u64 (p.1.1.toNat : Int), .int .u64 (p.1.2.toNat : Int), .int .i64 p.2]
theorem cb_one (B : List (Sess × Int)) : ∀ x ∈ B.flatMap cb, x.oneCell' = true := by
  intro x hx
  obtain ⟨t, _, ht⟩ := List.mem_flatMap.1 hx
  simp [cb] at ht
  rcases ht with rfl | rfl | rfl <;> rfl
theorem cb_at : ∀ (B : List (Sess × Int)) (k : Nat) (p : Sess × Int), B[k]? = some p → ∀ j, j < 3 → (B.flatMap cb)[k * 3 + j]? = (cb p)[j]? := by
  intro B
  induction B with
  | nil => intro k p h; simp at h
  | cons q B ih =>
    intro k p h j hj
    rw [List.flatMap_cons]
    cases k with
    | zero =>
      rw [List.getElem?_cons_zero] at h
      injection h with h
      subst h
      rw [Nat.zero_mul, Nat.zero_add, List.getElem?_append_left (by simp [cb]; omega)]
    | succ k =>
      rw [List.getElem?_cons_succ] at h
      rw [List.getElem?_append_right (by simp [cb]; omega), ← ih k p h j hj]
      congr 1
      simp [cb]
      omega
theorem cb_rd {w : World} {v : Value} {B : List (Sess × Int)} (h : Rd w v B.length (B.flatMap cb)) {k : Nat} {p : Sess × Int} (hk : B[k]? = some p) : ∃ b off cap, v = .slice (some ⟨b, off, none⟩) B.length cap ∧ B.length ≤ cap ∧ cap ≤ maxLen ∧
    w.cell? ⟨b, off + k * 3, none⟩ = some (.int .u64 (p.1.1.toNat : Int)) ∧ w.cell? ⟨b, off + k * 3 + 1, none⟩ = some (.int .u64 (p.1.2.toNat : Int)) ∧ w.cell? ⟨b, off + k * 3 + 2, none⟩ = some (.int .i64 p.2) := by
  have h0 := cb_at B k p hk 0 (by omega)
  have h1 := cb_at B k p hk 1 (by omega)
  have h2 := cb_at B k p hk 2 (by omega)
  obtain ⟨b, off, cap, rfl, hn, hc, _, hcell⟩ := h.form fun e => by rw [e] at h0; simp [cb] at h0
  have q0 := hcell _ _ (h0.trans (show (cb p)[0]? = some _ from rfl))
  have q1 := hcell _ _ (h1.trans (show (cb p)[1]? = some _ from rfl))
  have q2 := hcell _ _ (h2.trans (show (cb p)[2]? = some _ from rfl))
  rw [Nat.add_zero] at q0
  rw [← Nat.add_assoc] at q1 q2
  exact ⟨b, off, cap, rfl, hn, hc, q0, q1, q2⟩
theorem last_at' {s : Sess} {c : Int} : ∀ (n : Nat) (B : List (Sess × Int)), B.length = n → lastOf' B s = some c → ∃ k, B[k]? = some (s, c) ∧ ∀ (j : Nat) (p : Sess × Int), k < j → B[j]? = some p → p.1 ≠ s := by
  intro n
  induction n with
  | zero =>
    intro B hB h
    obtain rfl := List.length_eq_zero_iff.1 hB
    simp [lastOf', lk] at h
  | succ n ih =>
    intro B' hB h
    obtain rfl | ⟨B, q, rfl⟩ := List.eq_nil_or_concat B'
    · simp at hB
    obtain ⟨t, d⟩ := q
    rw [List.concat_eq_append] at hB h ⊢
    rw [last_snoc] at h
    by_cases e : t = s
    · rw [if_pos e] at h
      injection h with h
      subst h
      subst e
      refine ⟨B.length, by simp, fun j p hj hp => ?_⟩
      have := (List.getElem?_eq_some_iff.1 hp).1
      simp at this
      omega
    · rw [if_neg e] at h
      obtain ⟨k, hk, ha⟩ := ih B (by simpa using hB) h
      have hkl := (List.getElem?_eq_some_iff.1 hk).1
      refine ⟨k, by rw [List.getElem?_append_left hkl]; exact hk, fun j p hj hp => ?_⟩
      rcases Nat.lt_or_ge j B.length with hl | hl
      · exact ha j p hj (by rwa [List.getElem?_append_left hl] at hp)
      · have hj' : j = B.length := by
          have := (List.getElem?_eq_some_iff.1 hp).1
          simp at this
          omega
        subst hj'
        simp at hp
        rw [← hp]
        exact e
theorem last_at {B : List (Sess × Int)} {s : Sess} {c : Int} (h : lastOf' B s = some c) : ∃ k, B[k]? = some (s, c) ∧ ∀ (j : Nat) (p : Sess × Int), k < j → B[j]? = some p → p.1 ≠ s := last_at' _ B rfl h
set_option maxHeartbeats 2000000 in
set_option maxRecDepth 100000 in
theorem wrote_yes (v : Value) (B : List (Sess × Int)) (s : Sess) (c : Int) (w : World) (h : Rd w v B.length (B.flatMap cb)) (hl : B.length ≤ 1099511627776) (hs : lastOf' B s = some c) :
    Calls Try.prog 24 #[v, .agg #[.int .u64 (s.1.toNat : Int), .int .u64 (s.2.toNat : Int)], .int .i64 c] w fun e w' => e = .returned (.bool true) ∧ Below w.heap.size w w' := by
  obtain ⟨k, hk, ha⟩ := last_at hs
  obtain ⟨bb, off, cap, rfl, hnc, hcm, -⟩ := cb_rd h hk
  have HR := Lib.hid h; have HK := Lib.hid hk; have HAB := Lib.hid ha
  have hkl := (List.getElem?_eq_some_iff.1 hk).1
  obtain ⟨n, hn⟩ : ∃ n, n = B.length := ⟨_, rfl⟩
  rw [← hn] at hl hnc hkl ⊢
  have HN := Lib.hid hn
  simp only [maxLen] at hcm
  clear h hn hk ha hs
  obtain ⟨W0, hW0⟩ : ∃ W0, W0 = w.alloc (.cells #[.int .u64 (s.1.toNat : Int), .int .u64 (s.2.toNat : Int)] 60) := ⟨_, rfl⟩
  have hB0 : Below w.heap.size w W0 := hW0 ▸ (Below.refl _ _).alloc (Nat.le_refl _) _
  have hs0 : Blk W0 w.heap.size 60 [.int .u64 (s.1.toNat : Int), .int .u64 (s.2.toNat : Int)] := hW0 ▸ Blk.new w _ _
  have s0 := hs0.cell_some (i := 0) rfl
  have s1 := hs0.cell_some (i := 1) rfl
  have HR0 := Lib.hid (HR.out.later hB0); have HB0 := Lib.hid hB0
  clear hB0 hs0 HR
  go_enter Try.func24, Try.ntmps24
  go_wp2
  rw [← hW0]
  clear hW0
  go_loopw [7] (fun i wr => ∃ j : Nat, k ≤ j ∧ j < n ∧ i = .int .i64 (j : Int) ∧ Below W0.heap.size W0 wr) (fun i _ => (intOf i).toNat)
  case atStart => exact ⟨n - 1, by omega, by omega, by go_num, Below.refl _ _⟩
  case round =>
    obtain ⟨j, hj, hjn, rfl, hB⟩ := hrel
    have t0 := below_cell hB s0 (World.block_lt_of_cell? _ _ s0)
    have t1 := below_cell hB s1 (World.block_lt_of_cell? _ _ s1)
    obtain ⟨p, hp⟩ : ∃ p, B[j]? = some p := ⟨_, List.getElem?_eq_getElem (by rw [← HN.out]; exact hjn)⟩
    obtain ⟨b, off', cap', hv, -, -, d0, d1, d2⟩ := cb_rd (HR0.out.later hB) hp
    injection hv with hv1 hv2 hv3
    injection hv1 with hv1
    injection hv1 with e1 e2
    subst e1
    subst e2
    have qe := run_eql_ses p.1 s
    obtain ⟨u1, hu1⟩ : ∃ u : Int, u = (p.1.1.toNat : Int) := ⟨_, rfl⟩
    obtain ⟨u2, hu2⟩ : ∃ u : Int, u = (p.1.2.toNat : Int) := ⟨_, rfl⟩
    rw [← hu1] at d0 qe
    rw [← hu2] at d1 qe
    have HP := Lib.hid hp
    have ix1 : (j : Int) < (n : Int) := by omega
    have ix0 : ¬ (j : Int) < 0 := by omega
    clear hp hu1 hu2 s0 s1 hv2 hv3
    by_cases he : p.1 = s
    · have hjk : j = k := by
        rcases Nat.lt_or_ge k j with h | h
        · exact absurd he (HAB.out j p h HP.out)
        · omega
      subst hjk
      have hpc : p = (s, c) := by
        have := HP.out
        rw [HK.out] at this
        injection this with this
        exact this.symm
      rw [decide_eq_true he] at qe
      rw [hpc] at d2
      clear he
      go_wp2
      go_quiet (fail)
      go_wp2
      go_ret
      exact ⟨rfl, below_trans HB0.out (Below.trans hB (below_drewN (Below.refl _ _) _))⟩
    · have hjk : k < j := by
        rcases Nat.lt_or_ge k j with h | h
        · exact h
        · have : j = k := by omega
          subst this
          have h2 := HP.out
          rw [HK.out] at h2
          injection h2 with h2
          exact absurd (by rw [← h2]) he
      rw [decide_eq_false he] at qe
      clear he
      go_wp2
      go_quiet (fail)
      go_wp2
      go_roundw
      case rel => exact ⟨j - 1, by omega, by omega, by go_num, below_drewN hB _⟩
      case measure => simp [intOf]; omega
end Go.Proofs.Ytfaemjlemaclbaa
