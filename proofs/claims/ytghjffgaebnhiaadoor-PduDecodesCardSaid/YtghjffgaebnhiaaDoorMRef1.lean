/- Ref1, Ref2, Ref3: joined. -/
import Derived.Test.YtghjffgaebnhiaaDoorMEnc1
section
/- halyardref01: Digits, AppendNumber, AppendBytes. -/
namespace Go.Proofs.YtghjffgaebnhiaaDoor
set_option linter.unusedVariables false
set_option linter.unusedSimpArgs false
open Go.RowKit
set_option maxHeartbeats 2000000 in
set_option maxRecDepth 100000 in
theorem refDigits_any (n : Nat) (hn : n < 18446744073709551616) (w : World) :
    Calls Tryd.prog 41 #[.int .u64 (n : Int)] w fun e w' => ∃ v', e = .returned v' ∧ w'.ownsRow w.heap.size 5 1 v' (dig n).length ((dig n).map ub) ∧ Below w.heap.size w w' := by
  obtain ⟨q, hq⟩ : ∃ q, q = n % 128 := ⟨_, rfl⟩
  obtain ⟨m, hm⟩ : ∃ m, m = n / 128 := ⟨_, rfl⟩
  have a1 : (n : Int) % 128 = (q : Int) := by omega
  have a2 : (n : Int) / 128 = (m : Int) := by omega
  have a3 : (n : Int).tmod 128 = (q : Int) := by rw [Int.tmod_eq_emod_of_nonneg (by omega)]; exact a1
  have a4 : (n : Int).tdiv 128 = (m : Int) := by rw [Int.tdiv_eq_ediv_of_nonneg (by omega)]; exact a2
  have q1 : q < 128 := by omega
  have q2 : (q : Int) % 256 = (q : Int) := by omega
  have hm57 : m < 144115188075855872 := by omega
  have HD : Hid (digF 10 m ++ [UInt8.ofNat q] = dig n) := Lib.hid (by rw [hm, hq]; rfl)
  have HP : Hid (ub (UInt8.ofNat q) = .int .u8 (q : Int)) := Lib.hid (by
    unfold ub
    rw [UInt8.toNat_ofNat', Nat.mod_eq_of_lt (by omega)])
  clear hq hm
  go_enter Tryd.func41, Tryd.ntmps41
  go_wp2_with fail
  obtain ⟨W1, hW1⟩ : ∃ W1, W1 = w.alloc (.cells #[.int .u8 (q : Int)] 5) := ⟨_, rfl⟩
  have hB1 : Below w.heap.size w W1 := hW1 ▸ (Below.refl _ _).alloc (Nat.le_refl _) _
  have hA1 : Blk W1 w.heap.size 5 ([UInt8.ofNat q].map ub) := by
    rw [hW1, List.map_cons, HP.out]
    exact Blk.new w _ _
  have ho1 : W1.ownsRow w.heap.size 5 1 (.slice (some ⟨w.heap.size, 0, none⟩) 1 1) 1 ([UInt8.ofNat q].map ub) := own_of_blk (rest := []) (by rw [List.append_nil]; exact hA1) (Nat.le_refl _) rfl (Nat.le_refl _) (by simp [maxLen]) rfl
  rw [← hW1]
  have HO1 := Lib.hid ho1; have HB1 := Lib.hid hB1
  clear hW1 hA1 ho1 hB1
  go_loopw [0, 3] (fun nv ov wr => ∃ (j m : Nat) (t : List UInt8), j ≤ 10 ∧ m < 128 ^ (10 - j) ∧ m < 144115188075855872 ∧ nv = .int .u64 (m : Int) ∧ Hid (t.length = j + 1) ∧ Hid (digF 10 m ++ t = dig n) ∧ Hid (wr.ownsRow w.heap.size 5 1 ov t.length (t.map ub)) ∧ Hid (Below w.heap.size w wr)) (fun nv _ _ => (intOf nv).toNat)
  case atStart => exact ⟨0, m, [UInt8.ofNat q], by omega, by omega, hm57, rfl, Lib.hid rfl, HD, HO1, HB1⟩
  case round =>
    clear HO1 HB1 HD HP a1 a2 a3 a4 q1 q2 hm57
    obtain ⟨j, m, t, hj, hm, hm57, rfl, HT, HD, HO, HW⟩ := hrel
    by_cases h0 : 0 < m
    · have hj9 : j < 10 := by
        rcases Nat.lt_or_ge j 10 with h | h
        · exact h
        · obtain rfl : j = 10 := by omega
          simp at hm
          omega
      obtain ⟨q, hq⟩ : ∃ q, q = m % 128 := ⟨_, rfl⟩
      obtain ⟨r, hr⟩ : ∃ r, r = m / 128 := ⟨_, rfl⟩
      have a1 : (m : Int) % 128 = (q : Int) := by omega
      have a2 : (m : Int) / 128 = (r : Int) := by omega
      have q1 : q < 128 := by omega
      have q2 : (q : Int) % 256 = (q : Int) := by omega
      obtain ⟨p, hp⟩ : ∃ p, p = q + 128 := ⟨_, rfl⟩
      have o1 : (q : Int) + 128 = (p : Int) := by omega
      have o2 : (p : Int) % 256 = (p : Int) := by omega
      have hp0 : (0 : Int) < (m : Int) := by omega
      have hr1 : r < 128 ^ (10 - (j + 1)) := by
        rw [hr]
        obtain ⟨k, hk⟩ : ∃ k, 10 - j = k + 1 := ⟨9 - j, by omega⟩
        rw [hk, Nat.pow_succ] at hm
        rw [show 10 - (j + 1) = k by omega]
        omega
      have HD2 : Hid (digF 10 r ++ (UInt8.ofNat p :: t) = dig n) := Lib.hid (by
        rw [hp, hq, hr, ← digF_go (by omega) h0]
        exact HD.out)
      have hrm : r < m := by omega
      have HP : Hid (ub (UInt8.ofNat p) = .int .u8 (p : Int)) := Lib.hid (by
        unfold ub
        rw [UInt8.toNat_ofNat', Nat.mod_eq_of_lt (by omega)])
      obtain ⟨T, hT⟩ : ∃ T, T = t.length := ⟨_, rfl⟩
      have hTl : T ≤ 11 := by rw [hT, HT.out]; omega
      obtain ⟨a5, c5, rfl, -⟩ := own_open HO.out
      have hz : w.heap.size ≤ wr.heap.size := HW.out.size
      have HRD : Hid (Rd wr (.slice a5 T c5) T (t.map ub)) := Lib.hid (by rw [hT]; exact Rd.of_own HO.out)
      have HTL : Hid ((t.map ub).length = T * 1) := Lib.hid (by simp [hT])
      have HTT := Lib.hid hT
      rw [← hT]
      clear hq hp hr hm hT
      go_wp2_with (at_builtin; go_loud (refine wpList_app El.u8 rfl (.tmp 16) (.tmp 17) rfl (base := w.heap.size) (n := 1) (xs := [.int .u8 (p : Int)]) (own_of_blk (rest := []) (by rw [List.append_nil]; exact Blk.new wr _ _) hz rfl (Nat.le_refl _) (by simp [maxLen]) rfl) rfl (HRD.out.alloc _) rfl HTL.out (ub_one t) (by omega) (by simp; omega) ?_); intro v2 w2 hown2 hgr2 _; go_loud (
        have h2 : w2.ownsRow w.heap.size 5 1 v2 (UInt8.ofNat p :: t).length ((UInt8.ofNat p :: t).map ub) := by
          rw [List.length_cons, List.map_cons, HP.out, ← HTT.out, Nat.add_comm]
          exact hown2
        have hb2 : Below w.heap.size w w2 := (HW.out.alloc hz _).grown hgr2 (by simp; omega) (fun q hq => by have : wr.heap.size = q := Option.some.inj hq; omega)
        have H2 := Lib.hid h2
        have HB2 := Lib.hid hb2
        clear h2 hb2 hown2 hgr2))
      go_roundw
      case rel => exact ⟨j + 1, r, UInt8.ofNat p :: t, by omega, hr1, by omega, rfl, Lib.hid (by rw [List.length_cons, HT.out]), HD2, H2, HB2⟩
      case measure => simp [intOf]; omega
    · obtain rfl : m = 0 := by omega
      have hd : t = dig n := by
        have := HD.out
        rw [digF_zero, List.nil_append] at this
        exact this
      have HDN := Lib.hid hd
      clear hd
      go_wp2_with fail
      go_ret
      exact ⟨_, rfl, by rw [← HDN.out]; exact HO.out, HW.out⟩
end Go.Proofs.YtghjffgaebnhiaaDoor
end
section
/- halyardref01: AppendNumber, AppendBytes, CRC, Seal. -/
namespace Go.Proofs.YtghjffgaebnhiaaDoor
set_option linter.unusedVariables false
set_option linter.unusedSimpArgs false
open Go.RowKit
theorem bs_own {w : World} {base : Nat} {v : Value} {l : List UInt8} (h : w.ownsRow base 5 1 v l.length (l.map ub)) : Bs w v l := Rd.of_own h
set_option maxHeartbeats 2000000 in
set_option maxRecDepth 100000 in
theorem refAppendNumber_any (v : Value) (l : List UInt8) (n : Nat) (hn : n < 18446744073709551616) (w : World) (hb : Bs w v l) (hl : l.length + 10 ≤ 140737488355328) :
    Calls Tryd.prog 81 #[v, .int .u64 (n : Int)] w fun e w' => ∃ v', e = .returned v' ∧ w'.ownsRow w.heap.size 5 1 v' (l ++ dig n).length ((l ++ dig n).map ub) ∧ Below w.heap.size w w' := by
  obtain ⟨ao, cap, rfl, -⟩ := id hb
  obtain ⟨N, hN⟩ : ∃ N, N = l.length := ⟨_, rfl⟩
  obtain ⟨D, hD⟩ : ∃ D, D = (dig n).length := ⟨_, rfl⟩
  have hD10 : D ≤ 10 := by rw [hD]; exact dig_len hn
  have hr : Rd w (.slice ao N cap) N (l.map ub) := by rw [hN]; exact hb
  have hml : (l.map ub).length = N * 1 := by simp [hN]
  have HR := Lib.hid hr; have HML := Lib.hid hml; have HN := Lib.hid hN; have HD := Lib.hid hD
  rw [← hN] at hl ⊢
  have hbd : (0 + N) * 1 ≤ 140737488355328 := by omega
  have hbd2 : (N + D) * 1 ≤ 140737488355328 := by omega
  clear hb hr hml hN hD
  go_enter Tryd.func81, Tryd.ntmps81
  go_wp2_with (first
    | (at_builtin; refine wpList_app El.u8 rfl (.const (.slice none 0 0)) (.tmp 6) rfl (World.ownsRow_nil _ w.heap.size _ _) rfl HR.out rfl HML.out (ub_one l) hbd (Nat.le_refl _) ?_; intro v1 w1 hown1 hgr1 _; go_loud (
        have hB1 : Below w.heap.size w w1 := (Below.refl w.heap.size w).grown hgr1 (Nat.le_refl _) (by simp [Value.ownBlock])
        rw [Nat.zero_add, List.nil_append] at hown1
        obtain ⟨a1, c1, hv1, -⟩ := own_open hown1
        subst hv1
        have hz1 := hB1.size); have HO1 := Lib.hid hown1; have HB1 := Lib.hid hB1; clear hown1 hgr1 hB1)
    | fail)
  refine (refDigits_any n hn w1).mono ?_
  rintro e w2 ⟨v2, rfl, ho2, hB2⟩
  rw [← HD.out] at ho2
  obtain ⟨a2, c2, rfl, -⟩ := own_open ho2
  have HO2 := Lib.hid ho2; have HO12 := Lib.hid (own_later HO1.out hB2); have HB2 := Lib.hid (below_trans HB1.out hB2)
  have hz2 : w.heap.size ≤ w2.heap.size := HB2.out.size
  have HDL : Hid (((dig n).map ub).length = D * 1) := Lib.hid (by rw [List.length_map, HD.out, Nat.mul_one])
  clear ho2 hB2
  go_wp2_with (first
    | (at_builtin; refine wpList_app El.u8 rfl (.tmp 8) (.tmp 10) rfl HO12.out rfl (Rd.of_own HO2.out) rfl HDL.out (ub_one _) hbd2 hz2 ?_; intro v3 w3 hown3 hgr3 _; go_loud (
        have h3 : w3.ownsRow w.heap.size 5 1 v3 (l ++ dig n).length ((l ++ dig n).map ub) := by
          have e1 : (l ++ dig n).length = N + D := by rw [List.length_append, ← HN.out, ← HD.out]
          have e2 : (l ++ dig n).map ub = l.map ub ++ (dig n).map ub := by rw [List.map_append]
          rw [e1, e2]
          exact hown3
        have hb3 := HB2.out.grown hgr3 hz2 (fun q hq => (HO12.out.lt q hq).1)); have H3 := Lib.hid h3; have HB3 := Lib.hid hb3; clear hown3 hgr3 h3 hb3)
    | fail)
  go_ret
  exact ⟨_, rfl, H3.out, HB3.out⟩
set_option maxHeartbeats 2000000 in
set_option maxRecDepth 100000 in
theorem refAppendBytes_any (v u : Value) (l m : List UInt8) (w : World) (hb : Bs w v l) (hu : Bs w u m) (hl : l.length + 10 + m.length ≤ 140737488355328) :
    Calls Tryd.prog 42 #[v, u] w fun e w' => ∃ v', e = .returned v' ∧ w'.ownsRow w.heap.size 5 1 v' (l ++ (dig m.length ++ m)).length ((l ++ (dig m.length ++ m)).map ub) ∧ Below w.heap.size w w' := by
  obtain ⟨ao, cap, rfl, -⟩ := id hb
  obtain ⟨bo, bcap, rfl, -⟩ := id hu
  obtain ⟨n, hn⟩ : ∃ n, n = l.length := ⟨_, rfl⟩
  obtain ⟨k, hk⟩ : ∃ k, k = m.length := ⟨_, rfl⟩
  have hd10 : (dig m.length).length ≤ 10 := dig_len (by omega)
  have hc := refAppendNumber_any (.slice ao l.length cap) l k (by omega) w hb (by omega)
  have hcw : (k : Int) % 18446744073709551616 = (k : Int) := by omega
  have hcw2 : IntKind.u64.wrap (k : Int) = (k : Int) := by rw [IntKind.wrap_u64]; exact hcw
  rw [← hn] at hc
  rw [← hn, ← hk]
  have HC := Lib.hid hc; have HU := Lib.hid hu; have HN := Lib.hid hn; have HK := Lib.hid hk; have HL := Lib.hid hl; have H10 := Lib.hid hd10
  clear hc hb hu hn hl hd10 hk
  go_enter Tryd.func42, Tryd.ntmps42
  go_wp2_with fail
  refine HC.out.mono ?_
  rintro e w1 ⟨v1, rfl, ho, hB⟩
  have hz := hB.size
  obtain ⟨M, hM⟩ : ∃ M, M = (l ++ dig k).length := ⟨_, rfl⟩
  rw [← hM] at ho
  obtain ⟨a1, c1, rfl, -⟩ := own_open ho
  have HM := Lib.hid hM
  have HO := Lib.hid ho; have HB := Lib.hid hB; have HU1 : Hid (Rd w1 (.slice bo k bcap) k (m.map ub)) := Lib.hid (by rw [HK.out]; exact Rd.later HU.out hB)
  have hbd : (M + k) * 1 ≤ 140737488355328 := by have h1 := HL.out; have h2 := H10.out; have h3 := HK.out; rw [hM, List.length_append]; rw [← h3] at h1 h2; omega
  have hml : (m.map ub).length = k * 1 := by rw [List.length_map, HK.out, Nat.mul_one]
  have HML := Lib.hid hml
  clear ho hB hml hM
  go_wp2_with (at_builtin; go_loud (refine wpList_app El.u8 rfl (.tmp 11) (.tmp 12) rfl HO.out rfl HU1.out rfl HML.out (ub_one m) hbd hz ?_); intro v2 w2 hown2 hgr2 _; go_loud (
    have h2 : w2.ownsRow w.heap.size 5 1 v2 (l ++ (dig k ++ m)).length ((l ++ (dig k ++ m)).map ub) := by
      have e1 : (l ++ (dig k ++ m)).length = M + k := by rw [← List.append_assoc, List.length_append, HM.out, HK.out]
      have e2 : (l ++ (dig k ++ m)).map ub = (l ++ dig k).map ub ++ m.map ub := by rw [← List.append_assoc, List.map_append]
      rw [e1, e2]
      exact hown2
    have hb2 := HB.out.grown hgr2 hz (fun q hq => (HO.out.lt q hq).1)
    have H2 := Lib.hid h2
    have HB2 := Lib.hid hb2
    clear h2 hb2 hown2 hgr2))
  go_ret
  exact ⟨_, rfl, H2.out, HB2.out⟩
end Go.Proofs.YtghjffgaebnhiaaDoor
end
section
/- halyardref01: CRC, Seal. -/
namespace Go.Proofs.YtghjffgaebnhiaaDoor
set_option linter.unusedVariables false
set_option linter.unusedSimpArgs false
open Go.RowKit
/-- one bit. -/
theorem sh_bitN (s : W32) (b : Nat) (hb : b < 2) : (sh (s ^^^ BitVec.ofNat 32 b)).toNat = if s.toNat % 2 = b then s.toNat / 2 else s.toNat / 2 ^^^ 3988292384 := by
  have h1 : (s ^^^ BitVec.ofNat 32 b).getLsbD 0 = decide (¬ s.toNat % 2 = b) := by
    rw [BitVec.getLsbD_xor, BitVec.getLsbD_ofNat]
    have : s.getLsbD 0 = s.toNat.testBit 0 := rfl
    rw [this, Nat.testBit_zero, Nat.testBit_zero]
    rcases Nat.lt_or_ge b 1 with h | h
    · obtain rfl : b = 0 := by omega
      have := Nat.mod_two_eq_zero_or_one s.toNat
      rcases this with h | h <;> simp [h]
    · obtain rfl : b = 1 := by omega
      have := Nat.mod_two_eq_zero_or_one s.toNat
      rcases this with h | h <;> simp [h]
  have h2 : ((s ^^^ BitVec.ofNat 32 b) >>> 1).toNat = s.toNat / 2 := by
    rw [BitVec.toNat_ushiftRight, BitVec.toNat_xor, BitVec.toNat_ofNat, Nat.mod_eq_of_lt (by omega), Nat.shiftRight_xor_distrib, Nat.shiftRight_eq_div_pow, Nat.shiftRight_eq_div_pow, show b / 2 ^ 1 = 0 by omega, Nat.xor_zero]
  unfold sh
  rw [h1]
  by_cases h : s.toNat % 2 = b
  · rw [if_neg (by simpa using h), if_pos h, h2]
  · rw [if_pos (by simpa using h), if_neg h, BitVec.toNat_xor, h2]
    rfl
set_option maxHeartbeats 4000000 in
set_option maxRecDepth 100000 in
theorem refCrc_any (v : Value) (l : List UInt8) (w : World) (hb : Bs w v l) (hl : l.length ≤ 140737488355328) :
    Calls Tryd.prog 98 #[v] w fun e w' => e = .returned (.int .u32 ((crcOf l).toNat : Int)) ∧ w' = w := by
  obtain ⟨ao, cap, rfl, _, _, hc⟩ := id hb
  obtain ⟨n, hn⟩ : ∃ n, n = l.length := ⟨_, rfl⟩
  rw [← hn] at hl ⊢
  have HN := Lib.hid hn; have HC := Lib.hid hc
  clear hn hc hb
  go_enter Tryd.func98, Tryd.ntmps98
  go_wp2
  go_loopw [3, 4, 5, 6, 7] (fun c i _ _ _ wr => ∃ (k C : Nat), k ≤ n ∧ i = .int .i64 (k : Int) ∧ C < 4294967296 ∧ c = .int .u32 (C : Int) ∧ Hid (C = (crcL crc0 (l.take k)).toNat) ∧ wr = w) (fun _ i _ _ _ _ => n - (intOf i).toNat)
  case atStart => exact ⟨0, 4294967295, Nat.zero_le _, rfl, by decide, rfl, Lib.hid rfl, rfl⟩
  case round =>
    obtain ⟨k, C, hk, rfl, hC, rfl, HE, rfl⟩ := hrel
    obtain ⟨wo, hwo⟩ : ∃ wo, wo = wr := ⟨_, rfl⟩
    subst hwo
    by_cases hlt : k < n
    · have ix : (k : Int) < (n : Int) := by omega
      obtain ⟨b, off, rfl, hcell⟩ := HC.out (fun h => by have h1 := congrArg List.length h; rw [List.length_map, List.length_nil, ← HN.out] at h1; omega)
      have hlk : k < l.length := by rw [← HN.out]; exact hlt
      have e0 := hcell k (.int .u8 (l[k].toNat : Int)) (by rw [List.getElem?_map, List.getElem?_eq_getElem hlk]; rfl)
      obtain ⟨X, hX⟩ : ∃ X, X = l[k].toNat := ⟨_, rfl⟩
      have hX8 : X < 256 := by rw [hX]; exact UInt8.toNat_lt _
      rw [← hX] at e0
      obtain ⟨S, hS⟩ : ∃ S, S = crcL crc0 (l.take k) := ⟨_, rfl⟩
      have HSC : Hid (C = (shN 0 (S ^^^ BitVec.ofNat 32 (X % 2 ^ 0))).toNat) := Lib.hid (by rw [HE.out, hS, show X % 2 ^ 0 = 0 by omega]; simp [shN])
      have HNX : Hid ((shN 8 (S ^^^ BitVec.ofNat 32 (X % 2 ^ 8))).toNat = (crcL crc0 (l.take (k + 1))).toNat) := Lib.hid (by rw [crcL_take l k hlk, crcB_bits, hS, hX])
      clear hcell hX hS
      go_wp2_with fail
      go_loopw [3, 5, 6, 7] (fun c j _ _ wr => ∃ (q D : Nat), q ≤ 8 ∧ j = .int .i64 (q : Int) ∧ D < 4294967296 ∧ c = .int .u32 (D : Int) ∧ Hid (D = (shN q (S ^^^ BitVec.ofNat 32 (X % 2 ^ q))).toNat) ∧ wr = wo) (fun _ j _ _ _ => 8 - (intOf j).toNat)
      case atStart => exact ⟨0, C, Nat.zero_le _, rfl, hC, rfl, HSC, rfl⟩
      case round =>
        obtain ⟨q, D, hq, rfl, hD, rfl, HD, rfl⟩ := hrel
        by_cases hq8 : q < 8
        · have iq : (q : Int) < 8 := by omega
          obtain ⟨Y, hY⟩ : ∃ Y, Y = X / 2 ^ q := ⟨_, rfl⟩
          have hYX : Y ≤ X := by rw [hY]; exact Nat.div_le_self _ _
          have y0 : (X : Int) / 2 ^ q = (Y : Int) := by rw [hY]; simp
          have y1 : (X : Int) / 2 ^ q % 4294967296 = (Y : Int) := by rw [y0]; omega
          obtain ⟨d, hd⟩ : ∃ d, d = D % 2 := ⟨_, rfl⟩
          obtain ⟨b1, hb1⟩ : ∃ b1, b1 = Y % 2 := ⟨_, rfl⟩
          have a1 : bits .and .u32 (D : Int) 1 = (d : Int) := by rw [hd, ← nat_mask1]; exact u32_and_nat D 1 hD (by decide)
          have a2 : bits .and .u32 (Y : Int) 1 = (b1 : Int) := by rw [hb1, ← nat_mask1]; exact u32_and_nat Y 1 (by omega) (by decide)
          obtain ⟨E, hE⟩ : ∃ E, E = D / 2 ^^^ 3988292384 := ⟨_, rfl⟩
          have hEl : E < 4294967296 := by rw [hE]; exact xor_lt32 (by omega) (by decide)
          have x1 : bits .xor .u32 ((D : Int) / 2) 3988292384 = (E : Int) := by
            have h : bits .xor .u32 ((D / 2 : Nat) : Int) ((3988292384 : Nat) : Int) = ((D / 2 ^^^ 3988292384 : Nat) : Int) := u32_xor_nat (D / 2) 3988292384 (by omega) (by decide)
            rw [Int.natCast_ediv] at h
            rw [hE]
            exact h
          have hstep : (shN (q + 1) (S ^^^ BitVec.ofNat 32 (X % 2 ^ (q + 1)))).toNat = if d = b1 then D / 2 else E := by
            rw [← sh_bit S X q hX8 hq8, ← hY, ← hb1, sh_bitN _ _ (by omega), ← HD.out, ← hd, hE]
          have HST := Lib.hid hstep
          clear hY y0 hd hb1 hE hstep
          by_cases hdb : d = b1
          · have t1 : ((d : Int) != (b1 : Int)) = false := by rw [hdb]; simp
            have HF : Hid (D / 2 = (shN (q + 1) (S ^^^ BitVec.ofNat 32 (X % 2 ^ (q + 1)))).toNat) := Lib.hid (by rw [HST.out, if_pos hdb])
            obtain ⟨D2, hD2⟩ : ∃ D2, D2 = D / 2 := ⟨_, rfl⟩
            have x2 : (D : Int) / 2 = (D2 : Int) := by omega
            rw [← hD2] at HF
            have hD2l : D2 < 4294967296 := by omega
            clear hD2 hdb
            go_wp2_with fail
            go_roundw
            case rel => exact ⟨q + 1, D2, by omega, by go_num, hD2l, rfl, HF, trivial⟩
            case measure => simp [intOf]; omega
          · have t1 : ((d : Int) != (b1 : Int)) = true := by simp; omega
            have HF : Hid (E = (shN (q + 1) (S ^^^ BitVec.ofNat 32 (X % 2 ^ (q + 1)))).toNat) := Lib.hid (by rw [HST.out, if_neg hdb])
            clear hdb
            go_wp2_with fail
            go_roundw
            case rel => exact ⟨q + 1, E, by omega, by go_num, hEl, rfl, HF, trivial⟩
            case measure => simp [intOf]; omega
        · obtain rfl : q = 8 := by omega
          have HD2 : Hid (D = (crcL crc0 (l.take (k + 1))).toNat) := Lib.hid (HD.out.trans HNX.out)
          go_wp2_with fail
          go_roundw
          case rel => exact ⟨k + 1, D, by omega, by go_num, hD, rfl, HD2, trivial⟩
          case measure => simp [intOf]; omega
    · obtain rfl : k = n := by omega
      obtain ⟨N, hN⟩ : ∃ N, N = (crcOf l).toNat := ⟨_, rfl⟩
      have bx : bits .xor .u32 (C : Int) 4294967295 = (N : Int) := by
        have h1 := HE.out
        rw [HN.out, List.take_length] at h1
        have h2 : bits .xor .u32 (C : Int) ((4294967295 : Nat) : Int) = ((C ^^^ 4294967295 : Nat) : Int) := u32_xor_nat C 4294967295 hC (by decide)
        rw [hN, crcOf, xor_crc0, BitVec.toNat_xor]
        show _ = ((BitVec.toNat (crcL crc0 l) ^^^ 4294967295 : Nat) : Int)
        rw [← h1]
        exact h2
      have HNN := Lib.hid hN
      clear hN
      go_wp2_with fail
      go_ret
      rw [← HNN.out]
      exact ⟨rfl, rfl⟩
set_option maxHeartbeats 2000000 in
set_option maxRecDepth 100000 in
theorem refseal_any (v : Value) (l : List UInt8) (w : World) (hb : Bs w v l) (hl : l.length ≤ 140737488355328) :
    Calls Tryd.prog 82 #[v] w fun e w' => ∃ v', e = .returned v' ∧ w'.ownsRow w.heap.size 5 1 v' (sumB (crcOf l)).length ((sumB (crcOf l)).map ub) ∧ Below w.heap.size w w' := by
  obtain ⟨ao, cap, rfl, -⟩ := id hb
  obtain ⟨N, hN⟩ : ∃ N, N = (crcOf l).toNat := ⟨_, rfl⟩
  have hc := refCrc_any _ l w hb hl
  rw [← hN] at hc
  obtain ⟨n, hn⟩ : ∃ n, n = l.length := ⟨_, rfl⟩
  rw [← hn] at hc ⊢
  have hv : #[Value.int .u8 ((N : Int) % 256), .int .u8 ((N : Int) / 256 % 256), .int .u8 ((N : Int) / 65536 % 256), .int .u8 ((N : Int) / 16777216 % 256)] = ((sumB (crcOf l)).map ub).toArray := by
    rw [hN]
    unfold sumB ub
    have e : ∀ x : Nat, ((UInt8.ofNat (x % 256)).toNat : Int) = (x : Int) % 256 := fun x => by rw [UInt8.toNat_ofNat']; omega
    simp only [List.map_cons, List.map_nil, e]
    simp
  have HC := Lib.hid hc; have HV := Lib.hid hv
  clear hc hv hN hb hn
  go_enter Tryd.func82, Tryd.ntmps82
  go_wp2_with fail
  refine HC.out.mono ?_
  rintro e wq ⟨rfl, hw⟩
  rw [hw]
  clear hw wq
  go_wp2_with fail
  go_ret
  refine ⟨_, rfl, ?_, (Below.refl _ _).alloc (Nat.le_refl _) _⟩
  rw [HV.out]
  exact own_of_blk (rest := []) (by rw [List.append_nil]; exact Blk.new w _ _) (Nat.le_refl _) rfl (Nat.le_refl _) (by simp [maxLen]) rfl
set_option maxHeartbeats 2000000 in
set_option maxRecDepth 100000 in
theorem refSeal_any (v : Value) (l : List UInt8) (w : World) (hb : Bs w v l) (hl : l.length + 4 ≤ 140737488355328) :
    Calls Tryd.prog 43 #[v] w fun e w' => ∃ v', e = .returned v' ∧ w'.ownsRow w.heap.size 5 1 v' (l ++ sumB (crcOf l)).length ((l ++ sumB (crcOf l)).map ub) ∧ Below w.heap.size w w' := by
  obtain ⟨ao, cap, rfl, -⟩ := id hb
  obtain ⟨N, hN⟩ : ∃ N, N = l.length := ⟨_, rfl⟩
  have hr : Rd w (.slice ao N cap) N (l.map ub) := by rw [hN]; exact hb
  have hml : (l.map ub).length = N * 1 := by simp [hN]
  have HB : Hid (∀ W, Below w.heap.size w W → Bs W (.slice ao N cap) l) := Lib.hid (fun W h => by rw [hN]; exact Rd.later hb h)
  have HR := Lib.hid hr; have HML := Lib.hid hml; have HN := Lib.hid hN
  rw [← hN] at hl ⊢
  have hbd : (0 + N) * 1 ≤ 140737488355328 := by omega
  have hbd2 : (N + 4) * 1 ≤ 140737488355328 := by omega
  clear hb hr hml hN
  go_enter Tryd.func43, Tryd.ntmps43
  go_wp2_with (first
    | (at_builtin; refine wpList_app El.u8 rfl (.const (.slice none 0 0)) (.tmp 4) rfl (World.ownsRow_nil _ w.heap.size _ _) rfl HR.out rfl HML.out (ub_one l) hbd (Nat.le_refl _) ?_; intro v1 w1 hown1 hgr1 _; go_loud (
        have hB1 : Below w.heap.size w w1 := (Below.refl w.heap.size w).grown hgr1 (Nat.le_refl _) (by simp [Value.ownBlock])
        rw [Nat.zero_add, List.nil_append] at hown1
        obtain ⟨a1, c1, hv1, -⟩ := own_open hown1
        subst hv1
        have hz1 := hB1.size); have HO1 := Lib.hid hown1; have HB1 := Lib.hid hB1; clear hown1 hgr1 hB1)
    | fail)
  refine (refseal_any _ l w1 (HB.out w1 HB1.out) (by rw [← HN.out]; omega)).mono ?_
  rintro e w2 ⟨v2, rfl, ho2, hB2⟩
  rw [sum_len] at ho2
  obtain ⟨a2, c2, rfl, -⟩ := own_open ho2
  have HO2 := Lib.hid ho2; have HO12 := Lib.hid (own_later HO1.out hB2); have HB2 := Lib.hid (below_trans HB1.out hB2)
  have hz2 : w.heap.size ≤ w2.heap.size := HB2.out.size
  clear ho2 hB2
  go_wp2_with (first
    | (at_builtin; refine wpList_app El.u8 rfl (.tmp 6) (.tmp 8) rfl HO12.out rfl (Rd.of_own HO2.out) rfl (by rw [List.length_map, sum_len]) (ub_one _) hbd2 hz2 ?_; intro v3 w3 hown3 hgr3 _; go_loud (
        have h3 : w3.ownsRow w.heap.size 5 1 v3 (l ++ sumB (crcOf l)).length ((l ++ sumB (crcOf l)).map ub) := by
          have e1 : (l ++ sumB (crcOf l)).length = N + 4 := by rw [List.length_append, ← HN.out, sum_len]
          have e2 : (l ++ sumB (crcOf l)).map ub = l.map ub ++ (sumB (crcOf l)).map ub := by rw [List.map_append]
          rw [e1, e2]
          exact hown3
        have hb3 := HB2.out.grown hgr3 hz2 (fun q hq => (HO12.out.lt q hq).1)); have H3 := Lib.hid h3; have HB3 := Lib.hid hb3; clear hown3 hgr3 h3 hb3)
    | fail)
  go_ret
  exact ⟨_, rfl, H3.out, HB3.out⟩
end Go.Proofs.YtghjffgaebnhiaaDoor
end
