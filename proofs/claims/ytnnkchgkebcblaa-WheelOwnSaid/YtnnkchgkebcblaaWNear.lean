/- nearest: the first row to come that is not empty. -/
import Derived.Test.YtnnkchgkebcblaaWDig
import Derived.Test.YtnnkchgkebcblaaClass
import Derived.Lib.QuoteBits
namespace Go.Proofs.Ytnnkchgkebcblaa
set_option linter.unusedVariables false
set_option linter.unusedSimpArgs false
open Go.RowKit
theorem e1_any (l : Nat) (hl : l < 8) : IntKind.i64.wrap (6 * (l : Int) + 6) = 6 * (l : Int) + 6 := by
  rw [show 6 * (l : Int) + 6 = ((6 * l + 6 : Nat) : Int) by omega]
  exact Lib.wrap_i64_small _ (by omega)
theorem pow_le8 (l : Nat) (hl : l < 8) : 64 ^ l ≤ 64 ^ 7 := Nat.pow_le_pow_right (by decide) (by omega)
theorem bg_bits (now l u : Nat) (hnow : now < 64 ^ 8) (hl : l < 8) (hu : u < 64) :
    bits .or .u64 (IntKind.u64.wrap ((now : Int) / 2 ^ (6 * (l : Int) + 6).toNat * 2 ^ (6 * (l : Int) + 6).toNat)) (IntKind.u64.wrap (IntKind.u64.wrap (u : Int) * 2 ^ (6 * (l : Int)).toNat)) = ((bg now l u : Nat) : Int) := by
  have t1 : (6 * (l : Int) + 6).toNat = 6 * (l + 1) := by omega
  have t2 : (6 * (l : Int)).toNat = 6 * l := by omega
  have p1 : ∀ k : Nat, (2 : Int) ^ (6 * k) = ((64 ^ k : Nat) : Int) := fun k => by
    rw [show (64 : Nat) ^ k = 2 ^ (6 * k) by rw [Nat.pow_mul], Int.natCast_pow]
    rfl
  have h1 : now / 64 ^ (l + 1) * 64 ^ (l + 1) ≤ now := Nat.div_mul_le_self _ _
  have h2 : u * 64 ^ l ≤ 63 * 64 ^ 7 := Nat.mul_le_mul (by omega) (pow_le8 l hl)
  have h3 : u * 64 ^ l < 64 ^ (l + 1) := by
    rw [Nat.pow_succ, Nat.mul_comm (64 ^ l)]
    exact Nat.mul_lt_mul_of_pos_right hu (Nat.pow_pos (by decide))
  rw [t1, t2, shr_dg, p1, p1, IntKind.wrap_u64, IntKind.wrap_u64, IntKind.wrap_u64]
  rw [show (u : Int) % 18446744073709551616 = (u : Int) by omega, ← Int.natCast_mul, ← Int.natCast_mul]
  have h4 : hi (l + 1) now * 64 ^ (l + 1) ≤ now := h1
  rw [show ((hi (l + 1) now * 64 ^ (l + 1) : Nat) : Int) % 18446744073709551616 = ((hi (l + 1) now * 64 ^ (l + 1) : Nat) : Int) by omega,
    show ((u * 64 ^ l : Nat) : Int) % 18446744073709551616 = ((u * 64 ^ l : Nat) : Int) by omega, u64_or_nat _ _ (by omega) (by omega)]
  congr 1
  unfold bg
  have e : (64 : Nat) ^ (l + 1) = 2 ^ (6 * (l + 1)) := by rw [Nat.pow_mul]
  rw [e] at h3 ⊢
  rw [Nat.mul_comm (hi (l + 1) now)]
  exact (Nat.two_pow_add_eq_or_of_lt h3 _).symm
set_option maxHeartbeats 4000000 in
set_option maxRecDepth 100000 in
theorem nearest_any (g mb : Nat) (sl : List Value) (now sets : Nat) (R : Nat → List Tm) (m : Int → Option Pl) (N : Nat) (w : World) (h : WAt w g mb sl now sets R m N) (hnow : now < 64 ^ 8) :
    Calls Try.prog 39 #[.pointer (some ⟨g, 0, none⟩)] w fun e w' => Below w.heap.size w w' ∧
      ((e = .returned (.tuple #[.int .u64 0, .pointer none]) ∧ ∀ l, l < 8 → ∀ u, dg now l < u → u < 64 → R (l * 64 + u) = []) ∨
        ∃ L s, Near now (fun k => R k ≠ []) L s ∧ e = .returned (.tuple #[.int .u64 ((bg now L s : Nat) : Int), .pointer (some ⟨g, 3 + (L * 64 + s), none⟩)])) := by
  have c1 := h.c1
  have HW := Lib.hid h
  clear h
  go_enter Try.func39, Try.ntmps39
  go_wp2
  go_loopw [8] (fun i wr => ∃ l : Nat, l ≤ 8 ∧ i = .int .i64 (l : Int) ∧ wr = w ∧ ∀ l', l' < l → ∀ u, dg now l' < u → u < 64 → R (l' * 64 + u) = []) (fun i _ => 8 - (intOf i).toNat)
  case atStart => exact ⟨0, by omega, rfl, rfl, fun l' hl => by omega⟩
  case round =>
    obtain ⟨l, hl, rfl, rfl, hbel⟩ := hrel
    by_cases hlt : l < 8
    · have hi1 : ((l : Int) < 8) := by omega
      have hd64 := dg_lt now l
      go_wp2_with fail
      refine (digit_any now l hnow hlt _).mono ?_
      rintro e w1 ⟨rfl, rfl⟩
      go_wp2
      go_loopw [5] (fun i wr => ∃ u : Nat, u ≤ 64 ∧ dg now l < u ∧ i = .int .i64 (u : Int) ∧ wr = w1 ∧ ∀ u', dg now l < u' → u' < u → R (l * 64 + u') = []) (fun i _ => 64 - (intOf i).toNat)
      case atStart => exact ⟨dg now l + 1, by omega, by omega, by go_num, rfl, fun u' h1 h2 => by omega⟩
      case round =>
        obtain ⟨u, hu, hdu, rfl, rfl, hleft⟩ := hrel
        by_cases hul : u < 64
        · have hi2 : ((u : Int) < 64) := by omega
          obtain ⟨v, hv, hc, hown⟩ := HW.out.at (k := l * 64 + u) (by omega)
          have hc' : wr.cell? ⟨g, 3 + l * 64 + u, none⟩ = some v := by rw [Nat.add_assoc]; exact hc
          by_cases he : R (l * 64 + u) = []
          · rw [he] at hown
            obtain ⟨ao, cap, rfl⟩ : ∃ ao cap, v = .slice ao 0 cap := by
              rcases hown.2 with ⟨rfl, _⟩ | ⟨g', cap, cur, rfl, _⟩
              · exact ⟨_, _, rfl⟩
              · exact ⟨_, _, rfl⟩
            clear hown hv
            go_wp2
            exact ⟨⟨u + 1, by omega, by omega, by go_num, trivial, fun u' h1 h2 => by
              rcases Nat.lt_or_ge u' u with h3 | h3
              · exact hleft u' h1 h3
              · rw [show u' = u by omega]; exact he⟩, by simp [intOf]; omega⟩
          · obtain ⟨ao, cap, rfl⟩ : ∃ ao cap, v = .slice ao (R (l * 64 + u)).length cap := by
              rcases hown.2 with ⟨rfl, h0⟩ | ⟨g', cap, cur, rfl, _⟩
              · exact absurd (List.eq_nil_of_length_eq_zero h0) he
              · exact ⟨_, _, rfl⟩
            have hp : 0 < (R (l * 64 + u)).length := List.length_pos_iff.2 he
            have hp' : ((0 : Int) < ((R (l * 64 + u)).length : Int)) := by omega
            clear hown hv
            go_wp2
            have e1 := e1_any l hlt
            refine region_class (C := fun w' => w'.cell? ⟨g, 1, none⟩ = some (.int .u64 (now : Int)) ∧ Below wr.heap.size wr w') (by kernel_rfl) (by kernel_rfl) ⟨c1, (Below.refl _ _).drew⟩ ?_
            repeat (first
              | go_big_quiet_skip
              | (go_big_quiet_want
                 rename_i K hK
                 apply Exists.intro
                 refine ⟨fun w' hw' => ?_, hK _ ?_⟩
                 obtain ⟨r1, r2⟩ := hw'
                 go_simp
                 (try simp only [e1])
                 with_reducible rfl
                 clear hK K
                 simp only [Act.put, List.setIfInBounds_toArray, List.set_cons_zero, List.set_cons_succ]))
            refine wpQuiet_nil ?_
            rintro w5 ⟨r1, r2⟩
            simp only [bg_bits now l u hnow hlt hul, Nat.add_assoc]
            go_wp2
            go_ret2
            exact ⟨r2, .inr ⟨l, u, ⟨hlt, hdu, hul, he, fun l' h1 u' h2 h3 h4 => h4 (hbel l' h1 u' h2 h3), fun u' h1 h2 h3 => h3 (hleft u' h1 h2)⟩, rfl⟩⟩
        · have hi2 : ¬ ((u : Int) < 64) := by omega
          go_wp2
          exact ⟨⟨l + 1, by omega, by go_num, trivial, fun l' h1 u' h2 h3 => by
            rcases Nat.lt_or_ge l' l with h4 | h4
            · exact hbel l' h4 u' h2 h3
            · have e : l' = l := by omega
              subst e
              exact hleft u' h2 (by omega)⟩, by simp [intOf]; omega⟩
    · have hi1 : ¬ ((l : Int) < 8) := by omega
      go_wp2
      go_ret2
      exact ⟨Below.refl _ _, .inl ⟨rfl, fun l' h1 => hbel l' (by omega)⟩⟩
end Go.Proofs.Ytnnkchgkebcblaa
