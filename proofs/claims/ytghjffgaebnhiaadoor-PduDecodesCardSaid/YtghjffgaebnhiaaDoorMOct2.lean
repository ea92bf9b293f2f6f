/- octet.AppendNumber, AppendBytes. -/
import Derived.Test.YtghjffgaebnhiaaDoorMOct1
namespace Go.Proofs.YtghjffgaebnhiaaDoor
set_option linter.unusedVariables false
set_option linter.unusedSimpArgs false
open Go.RowKit
theorem and127 (m : Nat) (h : m < 18446744073709551616) : bits .and .u64 (m : Int) 127 = ((m % 128 : Nat) : Int) := by rw [← nat_mask7]; exact u64_and_nat m 127 h (by decide)
theorem or128 (q : Nat) (h : q < 128) : bits .or .u8 (q : Int) 128 = ((q + 128 : Nat) : Int) := by
  have h1 := u8_or_nat q 128 (by omega) (by decide)
  rw [Nat.or_comm, nat_join 7 128 q (by decide) h, Nat.add_comm] at h1
  exact h1
theorem blk_back {w : World} {g : Nat} {ty : TypeId} {k : Nat} {cs : List Value} (h : Blk w g ty (List.replicate (k + 1) (.int .u8 0) ++ cs)) (u : Value) : Blk (w.setCell ⟨g, k, none⟩ u) g ty (List.replicate k (.int .u8 0) ++ (u :: cs)) := by
  have := h.set k u
  rw [List.set_append, if_pos (by simp), List.replicate_succ', List.set_append, if_neg (by simp)] at this
  simpa using this
set_option maxHeartbeats 4000000 in
set_option maxRecDepth 100000 in
theorem appendNumber_any (v : Value) (l : List UInt8) (n : Nat) (hn : n < 18446744073709551616) (w : World) (hb : Bs w v l) (hl : l.length + 10 ≤ 140737488355328) :
    Calls Tryd.prog 80 #[v, .int .u64 (n : Int)] w fun e w' => ∃ v', e = .returned v' ∧ w'.ownsRow w.heap.size 5 1 v' (l ++ dig n).length ((l ++ dig n).map ub) ∧ Below w.heap.size w w' := by
  obtain ⟨ao, cap, rfl, -⟩ := id hb
  obtain ⟨N, hN⟩ : ∃ N, N = l.length := ⟨_, rfl⟩
  have HB := Lib.hid hb; have HN := Lib.hid hN; have HL := Lib.hid hl
  rw [← hN]
  clear hb hN hl
  obtain ⟨q, hq⟩ : ∃ q, q = n % 128 := ⟨_, rfl⟩
  have a1 : bits .and .u64 (n : Int) 127 = (q : Int) := by rw [hq]; exact and127 n hn
  have q1 : q < 128 := by omega
  have q2 : (q : Int) % 256 = (q : Int) := by omega
  obtain ⟨m, hm⟩ : ∃ m, m = n / 128 := ⟨_, rfl⟩
  have s1 : (n : Int) / 128 = (m : Int) := by omega
  have hm1 : m < 128 ^ 9 := by omega
  have HD : Hid (digF 10 m ++ [UInt8.ofNat q] = dig n) := Lib.hid (by rw [hm, hq]; rfl)
  clear hq hm
  go_enter Tryd.func80, Tryd.ntmps80
  go_wp2_with fail
  obtain ⟨W1, hW1⟩ : ∃ W1, W1 = w.alloc (.cells #[.int .u8 0, .int .u8 0, .int .u8 0, .int .u8 0, .int .u8 0, .int .u8 0, .int .u8 0, .int .u8 0, .int .u8 0, .int .u8 (q : Int)] 118) := ⟨_, rfl⟩
  have hB1 : Below w.heap.size w W1 := hW1 ▸ (Below.refl _ _).alloc (Nat.le_refl _) _
  have hA1 : Blk W1 w.heap.size 118 (List.replicate 9 (.int .u8 0) ++ [UInt8.ofNat q].map ub) := by
    have e : ub (UInt8.ofNat q) = .int .u8 (q : Int) := by
      unfold ub
      rw [UInt8.toNat_ofNat', Nat.mod_eq_of_lt (by omega)]
    have := Blk.new w 118 (List.replicate 9 (.int .u8 0) ++ [UInt8.ofNat q].map ub)
    simp only [List.map_cons, List.map_nil, e] at this ⊢
    rw [hW1]
    exact this
  rw [← hW1]
  have HA1 := Lib.hid hA1; have HB1 := Lib.hid hB1
  clear hW1 hA1 hB1
  go_loopw [1, 6] (fun nv av wr => ∃ (j m : Nat) (t : List UInt8), j ≤ 9 ∧ m < 128 ^ (9 - j) ∧ nv = .int .u64 (m : Int) ∧ av = .int .i64 ((9 - j : Nat) : Int) ∧ Hid (t.length = j + 1) ∧ Hid (digF 10 m ++ t = dig n) ∧ Hid (Blk wr w.heap.size 118 (List.replicate (9 - j) (.int .u8 0) ++ t.map ub)) ∧ Hid (Below w.heap.size w wr)) (fun nv _ _ => (intOf nv).toNat)
  case atStart => exact ⟨0, m, [UInt8.ofNat q], by omega, hm1, rfl, rfl, Lib.hid rfl, HD, HA1, HB1⟩
  case round =>
    clear HA1 HB1 HD hm1 s1 a1 q1 q2
    obtain ⟨j, m, t, hj, hm, rfl, rfl, HT, HD, HA, HW⟩ := hrel
    by_cases h0 : 0 < m
    · have hj9 : j < 9 := by
        rcases Nat.lt_or_ge j 9 with h | h
        · exact h
        · obtain rfl : j = 9 := by omega
          simp at hm
          omega
      obtain ⟨k, hk⟩ : ∃ k, 9 - j = k + 1 := ⟨8 - j, by omega⟩
      have hm64 : m < 18446744073709551616 := by
        have h1 : (128 : Nat) ^ (9 - j) ≤ 128 ^ 9 := Nat.pow_le_pow_right (by decide) (by omega)
        omega
      rw [hk] at HA hm ⊢
      have hk9 : k < 9 := by omega
      obtain ⟨q, hq⟩ : ∃ q, q = m % 128 := ⟨_, rfl⟩
      have a1 : bits .and .u64 (m : Int) 127 = (q : Int) := by rw [hq]; exact and127 m hm64
      have q1 : q < 128 := by omega
      have q2 : (q : Int) % 256 = (q : Int) := by omega
      obtain ⟨p, hp⟩ : ∃ p, p = q + 128 := ⟨_, rfl⟩
      have o1 : bits .or .u8 (q : Int) 128 = (p : Int) := by rw [hp]; exact or128 q q1
      obtain ⟨r, hr⟩ : ∃ r, r = m / 128 := ⟨_, rfl⟩
      have s1 : (m : Int) / 128 = (r : Int) := by omega
      have hp0 : (0 : Int) < (m : Int) := by omega
      have k1 : ((k + 1 : Nat) : Int) - 1 = (k : Int) := by omega
      have ik : (k : Int) < 10 := by omega
      have hr1 : r < 128 ^ k := by rw [hr]; rw [Nat.pow_succ] at hm; omega
      have HD2 : Hid (digF 10 r ++ (UInt8.ofNat p :: t) = dig n) := Lib.hid (by
        rw [hp, hq, hr, ← digF_go (by omega) h0]
        exact HD.out)
      have cz := HA.out.cell_some (i := k) (v := .int .u8 0) (by rw [List.getElem?_append_left (by simp), List.getElem?_replicate, if_pos (by omega)])
      have fz := HA.out.frozen k
      have hrm : r < m := by omega
      have HP : Hid (ub (UInt8.ofNat p) = .int .u8 (p : Int)) := Lib.hid (by
        unfold ub
        rw [UInt8.toNat_ofNat', Nat.mod_eq_of_lt (by omega)])
      clear hq hp hr hm
      go_wp2_with fail
      go_roundw
      case rel => exact ⟨j + 1, r, UInt8.ofNat p :: t, by omega, by rw [show 9 - (j + 1) = k by omega]; exact hr1, rfl, by rw [show 9 - (j + 1) = k by omega], Lib.hid (by rw [List.length_cons, HT.out]), HD2, Lib.hid (by
        rw [show 9 - (j + 1) = k by omega, List.map_cons, HP.out]
        exact blk_back HA.out _), Lib.hid (HW.out.setCell (Nat.le_refl _) _)⟩
      case measure => simp [intOf]; omega
    · obtain rfl : m = 0 := by omega
      have HDN : Hid (t = dig n) := Lib.hid (by
        have := HD.out
        rw [digF_zero, List.nil_append] at this
        exact this)
      obtain ⟨k, hk⟩ : ∃ k, k = 9 - j := ⟨_, rfl⟩
      rw [← hk] at HA ⊢
      have hk9 : k ≤ 9 := by omega
      have HTL : Hid (t.length = 10 - k) := Lib.hid (by have := HT.out; omega)
      have hkn : ¬ (10 - k = 0) := by omega
      have hki : (k : Int) ≤ 10 := by omega
      have hz : w.heap.size ≤ wr.heap.size := HW.out.size
      clear hk hj HT HD hm h0
      obtain ⟨wo, hwo⟩ : ∃ wo, wo = wr := ⟨_, rfl⟩
      subst hwo
      go_wp2_with fail
      obtain ⟨W2, hW2⟩ : ∃ W2, W2 = wo.alloc (.cells #[.slice ao N cap, .slice (some ⟨w.heap.size, k, none⟩) (10 - k) (10 - k)] 23) := ⟨_, rfl⟩
      have hB2 : Below wo.heap.size wo W2 := hW2 ▸ (Below.refl _ _).alloc (Nat.le_refl _) _
      have h2 : Blk W2 wo.heap.size 23 [.slice ao N cap, .slice (some ⟨w.heap.size, k, none⟩) (10 - k) (10 - k)] := hW2 ▸ Blk.new wo _ _
      have hr2 : Bs W2 (.slice (some ⟨w.heap.size, k, none⟩) (10 - k) (10 - k)) (dig n) := by
        show Rd _ _ (dig n).length _
        rw [← HDN.out, HTL.out]
        refine Rd.mk (Nat.le_refl _) (by simp [maxLen]; omega) fun j u hu => ?_
        refine (HA.out.later hB2).cell_some ?_
        rw [List.getElem?_append_right (by simp)]
        simpa using hu
      have hl2 : Bs W2 (.slice ao N cap) l := by
        rw [HN.out]
        exact Rd.later (Rd.later HB.out HW.out) hB2
      have hd10 : (dig n).length ≤ 10 := dig_len hn
      have hc := concat_bytes wo.heap.size _ _ l (dig n) W2 (h2.cell_some rfl) (h2.cell_some rfl) hl2 hr2 (by have := HL.out; omega)
      have HC := Lib.hid hc
      have HB2 := Lib.hid (below_trans HW.out hB2)
      rw [← hW2]
      clear hW2 hB2 h2 hr2 hl2 hd10 hc
      refine HC.out.mono ?_
      rintro e w3 ⟨v3, rfl, ho, hB3⟩
      have HO := Lib.hid (own_mono ho HB2.out.size); have HB3 := Lib.hid (below_trans HB2.out hB3)
      clear ho hB3
      go_wp2_with fail
      go_ret
      exact ⟨_, rfl, HO.out, HB3.out⟩
end Go.Proofs.YtghjffgaebnhiaaDoor
