/- The reference's Number. -/
import Derived.Test.YtghjffgaebnhiaaDoorMDNum
namespace Go.Proofs.YtghjffgaebnhiaaDoor
set_option linter.unusedVariables false
set_option linter.unusedSimpArgs false
open Go.RowKit
theorem numR_12 : ∀ (l : List UInt8) (i n : Nat), ((∃ x ∈ l, x.toNat < 128) ∨ 10 ≤ i + l.length) → (numR i n l).2.2 = 0 ∨ numR i n l = (0, 0, 12)
  | [], i, n, h => by
    rcases h with ⟨x, hx, _⟩ | h
    · cases hx
    · right
      simp only [List.length_nil] at h
      rw [numR, if_neg (by omega)]
  | x :: l, i, n, h => by
    rw [numR]
    split
    · exact .inr rfl
    · split
      · exact .inl rfl
      · next h1 h2 =>
        refine numR_12 l _ _ ?_
        rcases h with ⟨y, hy, hlt⟩ | h
        · rcases List.mem_cons.1 hy with rfl | hy
          · exact absurd hlt h2
          · exact .inl ⟨y, hy, hlt⟩
        · right
          rw [List.length_cons] at h
          omega
theorem numP_128 {l : List UInt8} (h : (∃ x ∈ l, x.toNat < 128) ∨ 10 ≤ 0 + l.length) (hd : l.head? = some 128) : numP l = (0, 0, 12) := by
  rcases numR_12 l 0 0 h with h1 | h1
  · rw [numP, if_pos ⟨h1, hd⟩]
  · rw [numP, h1]; simp
theorem numP_of {l : List UInt8} {r : Nat × Nat × Nat} (h : numR 0 0 l = r) (hd : l.head? ≠ some 128) : numP l = r := by
  rw [numP, if_neg (fun hh => hd hh.2), h]
theorem numR_nil (i n : Nat) : numR i n [] = (0, 0, if i < 10 then 10 else 12) := rfl
/-- the prefix of high bytes, one byte on. -/
theorem numR_high {l : List UInt8} {i n : Nat} (hi : i < l.length) (h9 : i ≤ 9) (hx : 128 ≤ l[i].toNat) (hn : n < 128 ^ i) (h : numR 0 0 l = numR i n (l.drop i)) :
    (i + 1 ≤ 9 → ∃ m, m < 128 ^ (i + 1) ∧ numR 0 0 l = numR (i + 1) m (l.drop (i + 1))) ∧ (i + 1 = 10 → numR 0 0 l = (0, 0, 12)) := by
  have hd : l.drop i = l[i] :: l.drop (i + 1) := List.drop_eq_getElem_cons hi
  rw [hd] at h
  have h256 := l[i].toNat_lt
  refine ⟨fun h1 => ⟨n * 128 + (l[i].toNat - 128), by rw [Nat.pow_succ]; omega, ?_⟩, fun h1 => ?_⟩
  · have hlt : n < 2 ^ 57 := by
      have : (128 : Nat) ^ i ≤ 128 ^ 8 := Nat.pow_le_pow_right (by decide) (by omega)
      omega
    rw [h, numR_hi (by omega) hlt hx]
  · have hi9 : i = 9 := by omega
    subst hi9
    rw [h, numR]
    split
    · rfl
    · rw [if_neg (by omega)]
      cases hc : l.drop (9 + 1) with
      | nil => rw [numR_nil]; rfl
      | cons y t => rw [numR, if_pos (.inl rfl)]
set_option maxHeartbeats 4000000 in
set_option maxRecDepth 100000 in
theorem rnumber_any (v : Value) (l : List UInt8) (w : World) (h : Bs w v l) (hl : l.length ≤ 140737488355328) :
    Calls Tryd.prog 88 #[v] w fun e w' => e = .returned (numVal l) ∧ w' = w := by
  obtain ⟨ao, cap, rfl, hm1, hm2, hc⟩ := id h
  obtain ⟨n, hn⟩ : ∃ n, n = l.length := ⟨_, rfl⟩
  obtain ⟨R, hR⟩ : ∃ R, R = numVal l := ⟨_, rfl⟩
  clear hm1 hm2
  rw [← hn] at hl ⊢
  rw [← hR]
  have HN := Lib.hid hn; have HC := Lib.hid hc; have HR := Lib.hid hR
  clear hn hc h hR
  go_enter Tryd.func88, Tryd.ntmps88
  go_wp2
  go_loopw [5] (fun iv wr => ∃ i : Nat, i ≤ n ∧ i ≤ 10 ∧ iv = .int .i64 (i : Int) ∧ Hid (∀ j (h : j < l.length), j < i → 128 ≤ l[j].toNat) ∧ Hid (i ≤ 9 → ∃ m, m < 128 ^ i ∧ numR 0 0 l = numR i m (l.drop i)) ∧ Hid (i = 10 → numR 0 0 l = (0, 0, 12)) ∧ wr = w) (fun iv _ => n - (intOf iv).toNat)
  case atStart => exact ⟨0, Nat.zero_le _, by omega, rfl, Lib.hid (fun j h hj => by omega), Lib.hid (fun _ => ⟨0, by decide, rfl⟩), Lib.hid (fun h => by omega), rfl⟩
  case round =>
    obtain ⟨i, hi, hi10, rfl, HH, HM, H10, rfl⟩ := hrel
    by_cases hgo : ∃ h : i < l.length, i < 10 ∧ 128 ≤ l[i].toNat
    · obtain ⟨hil, h10, hx⟩ := hgo
      have hin : i < n := by rw [HN.out]; exact hil
      have ix : (i : Int) < (n : Int) := by omega
      have ix2 : (i : Int) < 10 := by omega
      obtain ⟨b, off, rfl, hcc⟩ := HC.out (fun h => by have h1 := congrArg List.length h; rw [List.length_map, List.length_nil] at h1; omega)
      have e0 := hcc i (.int .u8 (l[i].toNat : Int)) (by rw [List.getElem?_map, List.getElem?_eq_getElem hil]; rfl)
      obtain ⟨m, hm, hmr⟩ := HM.out (by omega)
      obtain ⟨q1, q2⟩ := numR_high hil (by omega) hx hm hmr
      have Q1 := Lib.hid q1; have Q2 := Lib.hid q2
      have HH2 : Hid (∀ j (h : j < l.length), j < i + 1 → 128 ≤ l[j].toNat) := Lib.hid fun j h hj => by
        by_cases e : j = i
        · subst e; exact hx
        · exact HH.out j h (by omega)
      generalize l[i].toNat = X at e0 hx
      have i3 : (128 : Int) ≤ (X : Int) := by omega
      clear q1 q2 hmr hm hcc
      go_wp2_with fail
      go_roundw
      case rel => exact ⟨i + 1, by omega, by omega, by go_num, HH2, Q1, Q2, trivial⟩
      case measure => simp [intOf]; omega
    · by_cases hin : i < n
      · have hil : i < l.length := by rw [← HN.out]; exact hin
        have ix : (i : Int) < (n : Int) := by omega
        have nne : ¬ (i : Int) = (n : Int) := by omega
        have nne2 : ((i : Int) == (n : Int)) = false := by simp; omega
        obtain ⟨b, off, rfl, hcc⟩ := HC.out (fun h => by have h1 := congrArg List.length h; rw [List.length_map, List.length_nil] at h1; omega)
        have e0 := hcc i (.int .u8 (l[i].toNat : Int)) (by rw [List.getElem?_map, List.getElem?_eq_getElem hil]; rfl)
        have ez := hcc 0 (.int .u8 (l[0].toNat : Int)) (by rw [List.getElem?_map, List.getElem?_eq_getElem (by omega)]; rfl)
        rw [Nat.add_zero] at ez
        have hhead : (l.head? = some 128) ↔ l[0].toNat = 128 := by
          rw [List.head?_eq_getElem?, List.getElem?_eq_getElem (by omega)]
          constructor
          · intro h; injection h with h; rw [h]; rfl
          · intro h; exact congrArg some (UInt8.toNat_inj.1 h)
        by_cases h10 : i = 10
        · have hp : numP l = (0, 0, 12) := by
            have h1 := H10.out h10
            rw [numP, h1]; simp
          have HRR : Hid (R = .tuple #[.int .u64 0, .int .i64 0, .int .i64 12]) := Lib.hid (by rw [HR.out, numVal, hp]; rfl)
          subst h10
          clear hhead ez hcc
          go_wp2_with fail
          go_ret3
          rw [HRR.out]
          exact ⟨rfl, rfl⟩
        · have hi9 : i ≤ 9 := by omega
          have hlow : l[i].toNat < 128 := by
            rcases Nat.lt_or_ge l[i].toNat 128 with h | h
            · exact h
            · exact absurd ⟨hil, by omega, h⟩ hgo
          have ix2 : (i : Int) < 10 := by omega
          have ix3 : ¬ (i : Int) = 10 := by omega
          have ix4 : ((i : Int) == 10) = false := by simp; omega
          have hmem : (∃ x ∈ l, x.toNat < 128) ∨ 10 ≤ 0 + l.length := .inl ⟨l[i], List.getElem_mem hil, hlow⟩
          have HL := Lib.hid hlow
          by_cases hz : l[0].toNat = 128
          · have hp := numP_128 hmem (hhead.2 hz)
            have HRR : Hid (R = .tuple #[.int .u64 0, .int .i64 0, .int .i64 12]) := Lib.hid (by rw [HR.out, numVal, hp]; rfl)
            have ez2 : wr.cell? ⟨b, off, none⟩ = some (.int .u8 128) := by rw [ez, hz]; rfl
            clear hhead ez hz hp hmem hcc
            go_wp2_with fail
            go_ret3
            rw [HRR.out]
            exact ⟨rfl, rfl⟩
          · have hd : l.head? ≠ some 128 := fun h => hz (hhead.1 h)
            have HD := Lib.hid hd
            have HZ := Lib.hid hz
            have HHC := Lib.hid hcc
            generalize hZZ : l[0].toNat = Z at ez
            have HZZ := Lib.hid hZZ
            have z1 : ((Z : Int) == 128) = false := by have := HZ.out; simp; omega
            have z2 : ¬ (Z : Int) = 128 := by have := HZ.out; omega
            clear hhead hz hmem hd hZZ hcc
            go_wp2_with fail
            go_loopw [6, 7] (fun nv jv ws => ∃ (j m : Nat), j ≤ i + 1 ∧ nv = .int .u64 (m : Int) ∧ jv = .int .i64 (j : Int) ∧ m < 18446744073709551616 ∧ Hid (j ≤ i → numR 0 0 l = numR j m (l.drop j)) ∧ Hid (j = i + 1 → numR 0 0 l = (m, i + 1, 0)) ∧ ws = wr) (fun _ jv _ => i + 1 - (intOf jv).toNat)
            case atStart => exact ⟨0, 0, Nat.zero_le _, rfl, rfl, by decide, Lib.hid (fun _ => rfl), Lib.hid (fun h => by omega), rfl⟩
            case round =>
              obtain ⟨j, m, hj, rfl, rfl, hm64, HA, HB, rfl⟩ := hrel
              by_cases hji : j ≤ i
              · have jx : (j : Int) ≤ (i : Int) := by omega
                have hA := HA.out hji
                have hjl : j < l.length := by omega
                have jn : (j : Int) < (n : Int) := by omega
                have hdj : l.drop j = l[j] :: l.drop (j + 1) := List.drop_eq_getElem_cons hjl
                rw [hdj, numR] at hA
                by_cases hbig : 2 ^ 57 ≤ m
                · rw [if_pos (.inr hbig)] at hA
                  have hp := numP_of hA HD.out
                  have HRR : Hid (R = .tuple #[.int .u64 0, .int .i64 0, .int .i64 12]) := Lib.hid (by rw [HR.out, numVal, hp]; rfl)
                  have b1 : (144115188075855871 : Int) < (m : Int) := by omega
                  clear hA hp hdj
                  go_wp2_with fail
                  go_ret3
                  rw [HRR.out]
                  exact ⟨rfl, rfl⟩
                · rw [if_neg (by omega)] at hA
                  have b1 : ¬ (144115188075855871 : Int) < (m : Int) := by omega
                  have e1 := HHC.out j (.int .u8 (l[j].toNat : Int)) (by rw [List.getElem?_map, List.getElem?_eq_getElem hjl]; rfl)
                  have h256 := l[j].toNat_lt
                  have hhigh : j < i → 128 ≤ l[j].toNat := fun h => HH.out j hjl h
                  have hlow2 : j = i → l[j].toNat < 128 := fun h => by subst h; exact HL.out
                  generalize l[j].toNat = X at hA e1 h256 hhigh hlow2
                  obtain ⟨Q, hQ⟩ : ∃ Q, Q = X % 128 := ⟨_, rfl⟩
                  have r1 : (X : Int) % 128 = (Q : Int) := by omega
                  have r2 : Int.tmod (X : Int) 128 = (Q : Int) := by rw [Int.tmod_eq_emod_of_nonneg (by omega)]; exact r1
                  obtain ⟨M, hM⟩ : ∃ M, M = m * 128 + Q := ⟨_, rfl⟩
                  have hM64 : M < 18446744073709551616 := by omega
                  have HMM : Hid ((m : Int) * 128 + (Q : Int) = (M : Int)) := Lib.hid (by omega)
                  have HA2 : Hid (j + 1 ≤ i → numR 0 0 l = numR (j + 1) M (l.drop (j + 1))) := Lib.hid (fun h => by
                    have := hhigh (by omega)
                    rw [if_neg (by omega)] at hA
                    rw [hA, hM, hQ]
                    congr 1
                    omega)
                  have HB2 : Hid (j + 1 = i + 1 → numR 0 0 l = (M, i + 1, 0)) := Lib.hid (fun h => by
                    have hji : j = i := by omega
                    have := hlow2 hji
                    rw [if_pos this] at hA
                    rw [hA, hM, hQ, hji, Nat.mod_eq_of_lt this])
                  have hQl : Q < 128 := by omega
                  have hml : m < 144115188075855872 := by omega
                  clear hA hdj hhigh hlow2 hQ hM hbig
                  go_wp2_with fail
                  go_roundw
                  case rel => exact ⟨j + 1, M, by omega, by rw [HMM.out], by go_num, hM64, HA2, HB2, trivial⟩
                  case measure => simp [intOf]; omega
              · obtain rfl : j = i + 1 := by omega
                have hp := numP_of (HB.out rfl) HD.out
                have HRR : Hid (R = .tuple #[.int .u64 (m : Int), .int .i64 ((i + 1 : Nat) : Int), .int .i64 0]) := Lib.hid (by rw [HR.out, numVal, hp]; rfl)
                have jx : ¬ ((i : Int) + 1) ≤ (i : Int) := by omega
                clear hp
                go_wp2_with fail
                go_ret3
                rw [HRR.out]
                exact ⟨rfl, rfl⟩
      · obtain rfl : i = n := by omega
        have hnot : ¬ (i : Int) < (i : Int) := by omega
        by_cases h10 : i = 10
        · have hp : numP l = (0, 0, 12) := by
            have h1 := H10.out h10
            rw [numP, h1]; simp
          have HRR : Hid (R = .tuple #[.int .u64 0, .int .i64 0, .int .i64 12]) := Lib.hid (by rw [HR.out, numVal, hp]; rfl)
          subst h10
          go_wp2_with fail
          go_ret3
          rw [HRR.out]
          exact ⟨rfl, rfl⟩
        · have ix2 : (i : Int) < 10 := by omega
          obtain ⟨m, -, hmr⟩ := HM.out (by omega)
          have h0 : numR 0 0 l = (0, 0, 10) := by rw [hmr, HN.out, List.drop_length, numR_nil, if_pos (by rw [← HN.out]; omega)]
          have hp : numP l = (0, 0, 10) := by rw [numP, h0]; simp
          have HRR : Hid (R = .tuple #[.int .u64 0, .int .i64 0, .int .i64 10]) := Lib.hid (by rw [HR.out, numVal, hp]; rfl)
          clear hmr h0 hp
          go_wp2_with fail
          go_ret3
          rw [HRR.out]
          exact ⟨rfl, rfl⟩
end Go.Proofs.YtghjffgaebnhiaaDoor
