/- halyardref01: Digits, AppendNumber, AppendBytes. -/
import Derived.Test.YtghjffgaebnhiaaDoorMEnc1
namespace Go.Proofs.YtghjffgaebnhiaaDoor
set_option linter.unusedVariables false
set_option linter.unusedSimpArgs false
open Go.RowKit
set_option maxHeartbeats 2000000 in
set_option maxRecDepth 100000 in
theorem refDigits_any (n : Nat) (hn : n < 18446744073709551616) (w : World) :
    Calls Tryd.prog 41 #[.int .u64 (n : Int)] w fun e w' => ∃ v', e = .returned v' ∧ w'.ownsRow w.heap.size 5 1 v' (dig n).length ((dig n).map ub) ∧ Below w.heap.size w w' := by
  obtain ⟨q, hq⟩ : ∃ q, q = n % 128 := ⟨_, rfl⟩
  obtain ⟨m, hm⟩ : ∃ m, m = n / 128 := ⟨_, rfl⟩
  have a1 : (n : Int) % 128 = (q : Int) := by omega
  have a2 : (n : Int) / 128 = (m : Int) := by omega
  have a3 : (n : Int).tmod 128 = (q : Int) := by rw [Int.tmod_eq_emod_of_nonneg (by omega)]; exact a1
  have a4 : (n : Int).tdiv 128 = (m : Int) := by rw [Int.tdiv_eq_ediv_of_nonneg (by omega)]; exact a2
  have q1 : q < 128 := by omega
  have q2 : (q : Int) % 256 = (q : Int) := by omega
  have hm57 : m < 144115188075855872 := by omega
  have HD : Hid (digF 10 m ++ [UInt8.ofNat q] = dig n) := Lib.hid (by rw [hm, hq]; rfl)
  have HP : Hid (ub (UInt8.ofNat q) = .int .u8 (q : Int)) := Lib.hid (by
    unfold ub
    rw [UInt8.toNat_ofNat', Nat.mod_eq_of_lt (by omega)])
  clear hq hm
  go_enter Tryd.func41, Tryd.ntmps41
  go_wp2_with fail
  obtain ⟨W1, hW1⟩ : ∃ W1, W1 = w.alloc (.cells #[.int .u8 (q : Int)] 5) := ⟨_, rfl⟩
  have hB1 : Below w.heap.size w W1 := hW1 ▸ (Below.refl _ _).alloc (Nat.le_refl _) _
  have hA1 : Blk W1 w.heap.size 5 ([UInt8.ofNat q].map ub) := by
    rw [hW1, List.map_cons, HP.out]
    exact Blk.new w _ _
  have ho1 : W1.ownsRow w.heap.size 5 1 (.slice (some ⟨w.heap.size, 0, none⟩) 1 1) 1 ([UInt8.ofNat q].map ub) := own_of_blk (rest := []) (by rw [List.append_nil]; exact hA1) (Nat.le_refl _) rfl (Nat.le_refl _) (by simp [maxLen]) rfl
  rw [← hW1]
  have HO1 := Lib.hid ho1; have HB1 := Lib.hid hB1
  clear hW1 hA1 ho1 hB1
  go_loopw [0, 3] (fun nv ov wr => ∃ (j m : Nat) (t : List UInt8), j ≤ 10 ∧ m < 128 ^ (10 - j) ∧ m < 144115188075855872 ∧ nv = .int .u64 (m : Int) ∧ Hid (t.length = j + 1) ∧ Hid (digF 10 m ++ t = dig n) ∧ Hid (wr.ownsRow w.heap.size 5 1 ov t.length (t.map ub)) ∧ Hid (Below w.heap.size w wr)) (fun nv _ _ => (intOf nv).toNat)
  case atStart => exact ⟨0, m, [UInt8.ofNat q], by omega, by omega, hm57, rfl, Lib.hid rfl, HD, HO1, HB1⟩
  case round =>
    clear HO1 HB1 HD HP a1 a2 a3 a4 q1 q2 hm57
    obtain ⟨j, m, t, hj, hm, hm57, rfl, HT, HD, HO, HW⟩ := hrel
    by_cases h0 : 0 < m
    · have hj9 : j < 10 := by
        rcases Nat.lt_or_ge j 10 with h | h
        · exact h
        · obtain rfl : j = 10 := by omega
          simp at hm
          omega
      obtain ⟨q, hq⟩ : ∃ q, q = m % 128 := ⟨_, rfl⟩
      obtain ⟨r, hr⟩ : ∃ r, r = m / 128 := ⟨_, rfl⟩
      have a1 : (m : Int) % 128 = (q : Int) := by omega
      have a2 : (m : Int) / 128 = (r : Int) := by omega
      have q1 : q < 128 := by omega
      have q2 : (q : Int) % 256 = (q : Int) := by omega
      obtain ⟨p, hp⟩ : ∃ p, p = q + 128 := ⟨_, rfl⟩
      have o1 : (q : Int) + 128 = (p : Int) := by omega
      have o2 : (p : Int) % 256 = (p : Int) := by omega
      have hp0 : (0 : Int) < (m : Int) := by omega
      have hr1 : r < 128 ^ (10 - (j + 1)) := by
        rw [hr]
        obtain ⟨k, hk⟩ : ∃ k, 10 - j = k + 1 := ⟨9 - j, by omega⟩
        rw [hk, Nat.pow_succ] at hm
        rw [show 10 - (j + 1) = k by omega]
        omega
      have HD2 : Hid (digF 10 r ++ (UInt8.ofNat p :: t) = dig n) := Lib.hid (by
        rw [hp, hq, hr, ← digF_go (by omega) h0]
        exact HD.out)
      have hrm : r < m := by omega
      have HP : Hid (ub (UInt8.ofNat p) = .int .u8 (p : Int)) := Lib.hid (by
        unfold ub
        rw [UInt8.toNat_ofNat', Nat.mod_eq_of_lt (by omega)])
      obtain ⟨T, hT⟩ : ∃ T, T = t.length := ⟨_, rfl⟩
      have hTl : T ≤ 11 := by rw [hT, HT.out]; omega
      obtain ⟨a5, c5, rfl, -⟩ := own_open HO.out
      have hz : w.heap.size ≤ wr.heap.size := HW.out.size
      have HRD : Hid (Rd wr (.slice a5 T c5) T (t.map ub)) := Lib.hid (by rw [hT]; exact Rd.of_own HO.out)
      have HTL : Hid ((t.map ub).length = T * 1) := Lib.hid (by simp [hT])
      have HTT := Lib.hid hT
      rw [← hT]
      clear hq hp hr hm hT
      go_wp2_with (at_builtin; go_loud (refine wpList_app El.u8 rfl (.tmp 16) (.tmp 17) rfl (base := w.heap.size) (n := 1) (xs := [.int .u8 (p : Int)]) (own_of_blk (rest := []) (by rw [List.append_nil]; exact Blk.new wr _ _) hz rfl (Nat.le_refl _) (by simp [maxLen]) rfl) rfl (HRD.out.alloc _) rfl HTL.out (ub_one t) (by omega) (by simp; omega) ?_); intro v2 w2 hown2 hgr2 _; go_loud (
        have h2 : w2.ownsRow w.heap.size 5 1 v2 (UInt8.ofNat p :: t).length ((UInt8.ofNat p :: t).map ub) := by
          rw [List.length_cons, List.map_cons, HP.out, ← HTT.out, Nat.add_comm]
          exact hown2
        have hb2 : Below w.heap.size w w2 := (HW.out.alloc hz _).grown hgr2 (by simp; omega) (fun q hq => by have : wr.heap.size = q := Option.some.inj hq; omega)
        have H2 := Lib.hid h2
        have HB2 := Lib.hid hb2
        clear h2 hb2 hown2 hgr2))
      go_roundw
      case rel => exact ⟨j + 1, r, UInt8.ofNat p :: t, by omega, hr1, by omega, rfl, Lib.hid (by rw [List.length_cons, HT.out]), HD2, H2, HB2⟩
      case measure => simp [intOf]; omega
    · obtain rfl : m = 0 := by omega
      have hd : t = dig n := by
        have := HD.out
        rw [digF_zero, List.nil_append] at this
        exact this
      have HDN := Lib.hid hd
      clear hd
      go_wp2_with fail
      go_ret
      exact ⟨_, rfl, by rw [← HDN.out]; exact HO.out, HW.out⟩
end Go.Proofs.YtghjffgaebnhiaaDoor
