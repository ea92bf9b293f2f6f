/- Total: how many numbers, the program's and the reference's. -/
import Derived.Test.YtghjffgaebnhiaaRefSets
import Derived.Test.YtghjffgaebnhiaaLeast
namespace Go.Proofs.Ytghjffgaebnhiaa
set_option linter.unusedVariables false
set_option linter.unusedSimpArgs false
open Go.RowKit
theorem sumR_take (L : List (Int × Int)) (k : Nat) (h : k < L.length) : sumR (L.take (k + 1)) = sumR (L.take k) + (L[k].2 - L[k].1) := by
  rw [List.take_succ_eq_append_getElem h, sumR_snoc]
theorem canon_take {L : List (Int × Int)} (h : Canon L) (k : Nat) : Canon (L.take k) := ⟨fun g hg => h.1 g (List.mem_of_mem_take hg), h.2.sublist (List.take_sublist k L)⟩
theorem sum_wrap {S x1 x2 : Int} (h0 : 0 ≤ S + (x2 - x1)) (h1 : S + (x2 - x1) < 18446744073709551616) : IntKind.u64.wrap (IntKind.u64.wrap (S + IntKind.u64.wrap x2) - IntKind.u64.wrap x1) = S + (x2 - x1) := by
  have e : ∀ x, IntKind.u64.wrap x = x % 18446744073709551616 := fun x => by simp [IntKind.wrap, IntKind.signed, IntKind.bits]
  rw [e, e, e, e]
  omega
theorem diff_wrap {x1 x2 : Int} (h0 : 0 ≤ x2 - x1) (h1 : x2 - x1 < 18446744073709551616) : IntKind.u64.wrap (IntKind.u64.wrap x2 - IntKind.u64.wrap x1) = x2 - x1 := by
  have e : ∀ x, IntKind.u64.wrap x = x % 18446744073709551616 := fun x => by simp [IntKind.wrap, IntKind.signed, IntKind.bits]
  rw [e, e, e]
  omega
def totalR (L : List (Int × Int)) : Int := min (sumR L) 9223372036854775807
set_option maxHeartbeats 2000000 in
set_option maxRecDepth 100000 in
theorem refTotal_any (v : Value) (l : List (Int × Int)) (w : World) (h : Rgs w v l) (hl : l.length ≤ 4398046511104) (hlo : ∀ g ∈ l, -9223372036854775808 ≤ g.1) (hi : ∀ g ∈ l, g.2 ≤ 9223372036854775807) :
    Calls Try.prog 15 #[v] w fun e w' => e = .returned (.int .i64 (totalR (leastR l))) ∧ Below w.heap.size w w' := by
  have HL := Lib.hid (refLeast_any v l w h hl hlo hi)
  have hcan := (leastR_canon l).1
  have hin : ∀ g ∈ leastR l, -9223372036854775808 ≤ g.1 ∧ g.2 ≤ 9223372036854775807 := by
    obtain ⟨hc, hm⟩ := leastR_canon l
    intro g hg
    have hlt := hc.1 g hg
    obtain ⟨k, hk, h1, h2⟩ := (hm g.1).1 ⟨g, hg, Int.le_refl _, hlt⟩
    obtain ⟨k', hk', h3, h4⟩ := (hm (g.2 - 1)).1 ⟨g, hg, by omega, by omega⟩
    have a := hlo k hk
    have b := hi k' hk'
    omega
  have hll := leastR_len l
  obtain ⟨L, hL⟩ : ∃ L, L = leastR l := ⟨_, rfl⟩
  rw [← hL] at HL hcan hin hll ⊢
  have HC := Lib.hid hcan; have HI := Lib.hid hin
  clear hL hcan hin hlo hi h
  go_enter Try.func15, Try.ntmps15
  go_wp2_with fail
  refine HL.out.mono ?_
  rintro e w1 ⟨v1, rfl, own1, hB1⟩
  obtain ⟨ap, ac, rfl, -, hr⟩ := (Rgs.of_own own1).cells
  clear own1
  go_wp2_with fail
  go_loopw [4, 5] (fun s i wr => ∃ (k : Nat) (S : Int), k ≤ L.length ∧ i = .int .i64 k ∧ s = .int .u64 S ∧ Hid (S = sumR (L.take k)) ∧ ∃ q, wr = w1.drewN q) (fun _ i _ => L.length - (intOf i).toNat)
  case atStart => exact ⟨0, 0, Nat.zero_le _, rfl, rfl, Lib.hid (by simp [sumR]), 0, rfl⟩
  case round =>
    obtain ⟨k, S, hk, rfl, rfl, HS, q, rfl⟩ := hrel
    by_cases hlt : k < L.length
    · obtain ⟨b, off, rfl, hc⟩ := hr (by omega)
      obtain ⟨c0, c1⟩ := hc k _ (List.getElem?_eq_getElem hlt)
      obtain ⟨x, hx⟩ : ∃ x, x = L[k] := ⟨_, rfl⟩
      rw [← hx] at c0 c1
      obtain ⟨x1, x2⟩ := x
      simp only at c0 c1
      have ix : (k : Int) < L.length := by omega
      have hsb := sumR_bound (L.take (k + 1)) (-9223372036854775808) 9223372036854775807 (canon_take HC.out _) (fun g hg => HI.out g (List.mem_of_mem_take hg)) (by omega)
      have hst := sumR_take L k hlt
      rw [← hx, ← HS.out] at hst
      simp only at hst
      rw [hst] at hsb
      have HW := Lib.hid (sum_wrap hsb.1 (by omega))
      have HST := Lib.hid hst
      clear hc hr hx hsb hst
      go_wp2_with fail
      go_quiet (fail)
      go_wp2_with fail
      go_roundw
      case rel => exact ⟨k + 1, _, by omega, by go_num, rfl, Lib.hid (by rw [HW.out, HST.out]), _, rfl⟩
      case measure => simp [intOf]; omega
    · obtain rfl : k = L.length := by omega
      have hsb := sumR_bound L (-9223372036854775808) 9223372036854775807 HC.out HI.out (by omega)
      have hS := HS.out
      rw [List.take_length] at hS
      rw [← hS] at hsb
      have HSS := Lib.hid hS
      have hs0 := hsb.1
      clear hS hsb HS
      by_cases hbig : 9223372036854775807 < S
      · go_wp2_with fail
        go_ret
        exact ⟨congrArg (fun z => Ending.returned (.int .i64 z)) (by unfold totalR; rw [← HSS.out]; omega), below_drewN hB1 _⟩
      · have t1 : decide (9223372036854775807 < S) = false := by simpa using hbig
        have hw : wrap64 S = S := by unfold wrap64; omega
        go_wp2_with fail
        go_ret
        exact ⟨congrArg (fun z => Ending.returned (.int .i64 z)) (by unfold totalR; rw [← HSS.out]; omega), below_drewN hB1 _⟩
set_option maxHeartbeats 2000000 in
set_option maxRecDepth 100000 in
theorem total_any (v : Value) (l : List (Int × Int)) (w : World) (h : Rgs w v l) (hl : l.length ≤ 4398046511104) (hlo : ∀ g ∈ l, -9223372036854775808 ≤ g.1) (hi : ∀ g ∈ l, g.2 ≤ 9223372036854775807) :
    Calls Try.prog 14 #[v] w fun e w' => e = .returned (.int .i64 (totalR (leastR l))) ∧ Below w.heap.size w w' := by
  have HL := Lib.hid (least_rd v l w h (by omega))
  have hcan := (leastR_canon l).1
  have hin : ∀ g ∈ leastR l, -9223372036854775808 ≤ g.1 ∧ g.2 ≤ 9223372036854775807 := by
    obtain ⟨hc, hm⟩ := leastR_canon l
    intro g hg
    have hlt := hc.1 g hg
    obtain ⟨k, hk, h1, h2⟩ := (hm g.1).1 ⟨g, hg, Int.le_refl _, hlt⟩
    obtain ⟨k', hk', h3, h4⟩ := (hm (g.2 - 1)).1 ⟨g, hg, by omega, by omega⟩
    have a := hlo k hk
    have b := hi k' hk'
    omega
  have hll := leastR_len l
  obtain ⟨L, hL⟩ : ∃ L, L = leastR l := ⟨_, rfl⟩
  rw [← hL] at HL hcan hin hll ⊢
  have HC := Lib.hid hcan; have HI := Lib.hid hin
  clear hL hcan hin hlo hi h
  go_enter Try.func14, Try.ntmps14
  go_wp2_with fail
  refine HL.out.mono ?_
  rintro e w1 ⟨v1, rfl, own1, hB1⟩
  obtain ⟨ap, ac, rfl, -, hr⟩ := (Rgs.of_own own1).cells
  clear own1
  go_wp2_with fail
  go_loopw [3, 9] (fun s i wr => ∃ (k : Nat) (S : Int), k ≤ L.length ∧ i = .int .i64 k ∧ s = .int .u64 S ∧ Hid (S = min (sumR (L.take k)) 9223372036854775807) ∧ 0 ≤ S ∧ S ≤ 9223372036854775807 ∧ Below w1.heap.size w1 wr) (fun _ i _ => L.length - (intOf i).toNat)
  case atStart => exact ⟨0, 0, Nat.zero_le _, rfl, rfl, Lib.hid (by rw [List.take_zero]; show (0 : Int) = min 0 _; omega), Int.le_refl _, by omega, Below.refl _ _⟩
  case round =>
    obtain ⟨k, S, hk, rfl, rfl, HS, hs0, hs1, hB⟩ := hrel
    have hz := hB.size
    by_cases hlt : k < L.length
    · obtain ⟨b, off, rfl, hc⟩ := hr (by omega)
      obtain ⟨c0, c1⟩ := hc k _ (List.getElem?_eq_getElem hlt)
      have c0 := below_cell hB c0 (World.block_lt_of_cell? _ _ c0)
      have c1 := below_cell hB c1 (World.block_lt_of_cell? _ _ c1)
      obtain ⟨x, hx⟩ : ∃ x, x = L[k] := ⟨_, rfl⟩
      rw [← hx] at c0 c1
      have hxl := HC.out.1 x (hx ▸ List.getElem_mem hlt)
      have hxi := HI.out x (hx ▸ List.getElem_mem hlt)
      have hsb := sumR_bound (L.take k) (-9223372036854775808) 9223372036854775807 (canon_take HC.out _) (fun g hg => HI.out g (List.mem_of_mem_take hg)) (by omega)
      have hst := sumR_take L k hlt
      rw [← hx] at hst
      obtain ⟨x1, x2⟩ := x
      simp only at c0 c1 hxl hxi hst
      have ix : (k : Int) < L.length := by omega
      have HW := Lib.hid (diff_wrap (x1 := x1) (x2 := x2) (by omega) (by omega))
      have HST := Lib.hid hst
      have HSB := Lib.hid hsb.1
      clear hc hr hx hst hsb
      obtain ⟨D, hD⟩ : ∃ D, D = x2 - x1 := ⟨_, rfl⟩
      have hd0 : 0 < D := by omega
      have hdw : IntKind.u64.wrap (IntKind.u64.wrap x2 - IntKind.u64.wrap x1) = D := by rw [HW.out, hD]
      have HD := Lib.hid hD
      clear hD
      go_wp2_with fail
      go_roundw
      case rel =>
        have a1 := HST.out
        have a2 := HS.out
        have a3 := HD.out
        have a4 := HSB.out
        exact ⟨k + 1, _, by omega, by go_num, rfl, Lib.hid (by omega), by omega, by omega, hB.alloc hz _⟩
      case measure => simp [intOf]; omega
    · obtain rfl : k = L.length := by omega
      have hw : wrap64 S = S := by unfold wrap64; omega
      go_wp2_with fail
      go_ret
      refine ⟨congrArg (fun z => Ending.returned (.int .i64 z)) ?_, hB1.trans (hB.mono hB1.size)⟩
      have := HS.out
      rw [List.take_length] at this
      unfold totalR
      omega
end Go.Proofs.Ytghjffgaebnhiaa
