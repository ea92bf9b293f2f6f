/- octet.Burst. -/
import Derived.Test.YtghjffgaebnhiaaDoorMDec8
namespace Go.Proofs.YtghjffgaebnhiaaDoor
set_option linter.unusedVariables false
set_option linter.unusedSimpArgs false
open Go.RowKit
theorem burstN_out (b : List UInt8) (at_ : Int) (mask : Nat) (h : at_ < -31 ∨ 8 * (b.length : Int) ≤ at_) (j : Nat) (hj : j ≤ 32) : burstN b at_ mask j = b := by
  induction j with
  | zero => rfl
  | succ j ih =>
    rw [burstN, if_neg (by omega), ih (by omega)]
theorem flip_map (L : List UInt8) (K : Nat) (rest : List Value) (h : K / 8 < L.length) : (flipBit L K).map ub ++ rest = (L.map ub ++ rest).set (K / 8) (.int .u8 ((L[K / 8].toNat ^^^ 2 ^ (K % 8) : Nat) : Int)) := by
  have e : flipBit L K = L.set (K / 8) (L[K / 8] ^^^ UInt8.ofNat (2 ^ (K % 8))) := by
    unfold flipBit
    apply List.ext_getElem?
    intro i
    rw [List.getElem?_modify, List.getElem?_set]
    by_cases hi : K / 8 = i
    · subst hi
      simp [h]
    · simp [hi]
  have h2 : (2 : Nat) ^ (K % 8) < 256 := by
    have : (2 : Nat) ^ (K % 8) ≤ 2 ^ 7 := Nat.pow_le_pow_right (by decide) (by omega)
    omega
  have h3 : (L[K / 8] ^^^ UInt8.ofNat (2 ^ (K % 8))).toNat = L[K / 8].toNat ^^^ 2 ^ (K % 8) := by
    rw [UInt8.toNat_xor, UInt8.toNat_ofNat', Nat.mod_eq_of_lt h2]
  rw [e, List.map_set, List.set_append_left _ _ (by rw [List.length_map]; exact h)]
  congr 2
  unfold ub
  rw [h3]
set_option maxHeartbeats 4000000 in
set_option maxRecDepth 100000 in
theorem burst_any (v : Value) (b : List UInt8) (at_ : Int) (mask : Nat) (w : World) (hb : Bs w v b) (hl : b.length ≤ 140737488355328) (hm : mask < 4294967296) :
    Calls Tryd.prog 22 #[v, .int .i64 at_, .int .u32 (mask : Int)] w fun e w' => ∃ v', e = .returned v' ∧ w'.ownsRow w.heap.size 5 1 v' (burstN b at_ mask 32).length ((burstN b at_ mask 32).map ub) ∧ Below w.heap.size w w' := by
  have hcl := clone_any v b w hb hl
  obtain ⟨ao, cap, rfl, -⟩ := id hb
  obtain ⟨n, hn⟩ : ∃ n, n = b.length := ⟨_, rfl⟩
  have hlen : (burstN b at_ mask 32).length = n := by rw [burstN_len, hn]
  rw [hlen]
  rw [← hn] at hcl hl ⊢
  have HCL := Lib.hid hcl; have HN := Lib.hid hn
  clear hcl hn hb hlen
  go_enter Tryd.func22, Tryd.ntmps22
  go_wp2_with fail
  refine HCL.out.mono ?_
  rintro e w1 ⟨v1, rfl, ho, hB⟩
  obtain ⟨a1, c1, rfl, -⟩ := own_open ho
  have HO := Lib.hid ho; have HB := Lib.hid hB
  clear ho hB HCL
  have e8 : wrap64 ((8 : Int) * (n : Int)) = 8 * (n : Int) := by unfold wrap64; omega
  by_cases hr : at_ < -31 ∨ 8 * (n : Int) ≤ at_
  · have HE : Hid (burstN b at_ mask 32 = b) := Lib.hid (burstN_out b at_ mask (by rw [← HN.out]; exact hr) 32 (Nat.le_refl _))
    by_cases h1 : at_ < -31
    · go_wp2_with fail
      go_ret
      rw [HE.out]
      exact ⟨_, rfl, HO.out, HB.out⟩
    · have h2 : 8 * (n : Int) ≤ at_ := hr.resolve_left h1
      go_wp2_with fail
      go_ret
      rw [HE.out]
      exact ⟨_, rfl, HO.out, HB.out⟩
  · have h1 : ¬ at_ < -31 := fun h => hr (.inl h)
    have h2 : ¬ 8 * (n : Int) ≤ at_ := fun h => hr (.inr h)
    clear hr
    go_wp2_with fail
    go_loopw [8, 9, 22] (fun _ _ iv wr => ∃ j : Nat, j ≤ 32 ∧ iv = .int .i64 (j : Int) ∧ Hid (wr.ownsRow w.heap.size 5 1 (.slice a1 n c1) n ((burstN b at_ mask j).map ub)) ∧ Hid (Below w.heap.size w wr)) (fun _ _ iv _ => 32 - (intOf iv).toNat)
    case atStart => exact ⟨0, by omega, rfl, HO, HB⟩
    case round =>
      clear HO HB
      obtain ⟨j, hj, rfl, HO, HB⟩ := hrel
      by_cases hlt : j < 32
      · have ix : (j : Int) < 32 := by omega
        have wk : wrap64 (at_ + (j : Int)) = at_ + (j : Int) := by unfold wrap64; omega
        have ix0 : (0 : Int) ≤ (j : Int) := by omega
        obtain ⟨D, hD⟩ : ∃ D, D = mask / 2 ^ j := ⟨_, rfl⟩
        have hDi : (mask : Int) / 2 ^ j = (D : Int) := by rw [hD]; norm_cast
        have hDl : D < 4294967296 := by rw [hD]; exact Nat.lt_of_le_of_lt (Nat.div_le_self _ _) hm
        have hand : bits .and .u32 (D : Int) 1 = ((D % 2 : Nat) : Int) := by rw [← nat_mask1]; exact u32_and_nat D 1 hDl (by decide)
        have htb : mask.testBit j = decide (D % 2 = 1) := by rw [Nat.testBit_eq_decide_div_mod_eq, hD]
        have hst : burstN b at_ mask (j + 1) = if mask.testBit j = true ∧ 0 ≤ at_ + j ∧ at_ + j < 8 * b.length then flipBit (burstN b at_ mask j) (at_ + j).toNat else burstN b at_ mask j := rfl
        rw [htb, ← HN.out] at hst
        have HD := Lib.hid hD
        clear htb hD
        by_cases hbit : D % 2 = 1
        · have hb1 : bits .and .u32 ((mask : Int) / 2 ^ j) 1 = 1 := by rw [hDi, hand, hbit]; rfl
          rw [decide_eq_true hbit] at hst
          clear hand hDi
          by_cases hk0 : 0 ≤ at_ + (j : Int)
          · by_cases hkn : at_ + (j : Int) < 8 * (n : Int)
            · rw [if_pos ⟨rfl, hk0, hkn⟩] at hst
              obtain ⟨K, hK⟩ : ∃ K : Nat, at_ + (j : Int) = (K : Int) := ⟨(at_ + j).toNat, by omega⟩
              rw [hK, Int.toNat_natCast] at hst
              have hn0 : 0 < n := by omega
              have hLl : (burstN b at_ mask j).length = n := by rw [burstN_len, ← HN.out]
              obtain ⟨L, hL⟩ : ∃ L, L = burstN b at_ mask j := ⟨_, rfl⟩
              rw [← hL] at HO hLl hst
              have HST := Lib.hid hst
              clear hst hL
              obtain ⟨g, cap', rest, hv, hg, hnc, hcm, hblk, hrl⟩ := own_blk HO.out hn0
              injection hv with hv1 hv2 hv3
              subst hv1
              subst hv3
              obtain ⟨I, hI⟩ : ∃ I, I = K / 8 := ⟨_, rfl⟩
              obtain ⟨R, hR⟩ : ∃ R, R = K % 8 := ⟨_, rfl⟩
              have hIl : I < L.length := by omega
              have hfm := flip_map L K rest (by omega)
              simp only [← hI, ← hR] at hfm
              have hX8 : L[I].toNat < 256 := UInt8.toNat_lt _
              have c0 : wr.cell? ⟨g, I, none⟩ = some (.int .u8 (L[I].toNat : Int)) := hblk.cell_some (by rw [List.getElem?_append_left (by rw [List.length_map]; exact hIl), List.getElem?_map, List.getElem?_eq_getElem hIl]; rfl)
              generalize hX : L[I].toNat = X at hfm hX8 c0
              have h2R : (2 : Nat) ^ R < 256 := by
                have : (2 : Nat) ^ R ≤ 2 ^ 7 := Nat.pow_le_pow_right (by decide) (by omega)
                omega
              have hxor : bits .xor .u8 (X : Int) ((2 ^ R : Nat) : Int) = ((X ^^^ 2 ^ R : Nat) : Int) := u8_xor_nat X (2 ^ R) hX8 h2R
              have hp2 : (2 : Int) ^ R = ((2 ^ R : Nat) : Int) := by norm_cast
              have hP : IntKind.u8.wrap ((2 : Int) ^ R) = ((2 ^ R : Nat) : Int) := by rw [hp2, IntKind.wrap_u8']; exact Int.emod_eq_of_lt (Int.natCast_nonneg _) (by exact_mod_cast h2R)
              clear hp2
              have qi : (at_ + (j : Int)) / 8 = (I : Int) := by omega
              have qr : (at_ + (j : Int)) % 8 = (R : Int) := by omega
              have ti : Int.tdiv (at_ + (j : Int)) 8 = (I : Int) := by rw [Int.tdiv_eq_ediv_of_nonneg hk0]; exact qi
              have tr : Int.tmod (at_ + (j : Int)) 8 = (R : Int) := by rw [Int.tmod_eq_emod_of_nonneg hk0]; exact qr
              have wI : IntKind.i64.wrap (I : Int) = (I : Int) := by rw [IntKind.wrap_i64]; omega
              have wR : IntKind.i64.wrap (R : Int) = (R : Int) := by rw [IntKind.wrap_i64]; omega
              have f0 := hblk.frozen I
              have iI : (I : Int) < (n : Int) := by omega
              have hnew := own_of_blk (n := n) (cs := (flipBit L K).map ub) (rest := rest) (hfm ▸ hblk.set I _) hg (by rw [List.length_map, flip_len, hLl, Nat.mul_one]) hnc hcm (by rw [List.length_map, flip_len]; rw [List.length_map] at hrl; exact hrl)
              generalize X ^^^ 2 ^ R = Y at *
              generalize (2 : Nat) ^ R = P at *
              have HNEW := Lib.hid hnew
              have hBs : Below w.heap.size w (wr.setCell ⟨g, I, none⟩ (.int .u8 (Y : Int))) := HB.out.setCell (p := ⟨g, I, none⟩) hg _
              have HBS := Lib.hid hBs
              have HXX := Lib.hid hX; have HI := Lib.hid hI; have HRR := Lib.hid hR; have HBK := Lib.hid hblk
              clear hnew hBs hX hI hR hfm hblk hrl hg hnc hcm hLl hn0 hK h2R hX8
              go_wp2_with fail
              refine region_mix (fun _ => True) (fun i => i == 4 || i == 10) [0, 1, 2, 3, 5, 6, 7, 4, 8, 9, 10] (by kernel_rfl) (by kernel_rfl) trivial ?_
              repeat (first
                | (refine mix_pure rfl rfl (by kernel_rfl) ?_
                   apply Exists.intro
                   refine ⟨fun w' hw' => ?_, ?_⟩
                   · go_simp
                     with_reducible rfl
                   simp only [List.getElem_toArray, List.getElem_cons_zero, List.getElem_cons_succ, Act.put, List.setIfInBounds_toArray, List.set_cons_zero, List.set_cons_succ])
                | fail)
              refine mix_eff rfl rfl (by kernel_rfl) ?_
              unfold effAt
              go_simp
              simp only [effUpon, List.getElem_toArray, List.getElem_cons_zero, List.getElem_cons_succ, Act.put, List.setIfInBounds_toArray, List.set_cons_zero, List.set_cons_succ]
              try refine ⟨trivial, ?_⟩
              repeat (first
                | (refine mix_pure rfl rfl (by kernel_rfl) ?_
                   apply Exists.intro
                   refine ⟨fun w' hw' => ?_, ?_⟩
                   · go_simp
                     with_reducible rfl
                   simp only [List.getElem_toArray, List.getElem_cons_zero, List.getElem_cons_succ, Act.put, List.setIfInBounds_toArray, List.set_cons_zero, List.set_cons_succ])
                | fail)
              refine mix_eff rfl rfl (by kernel_rfl) ?_
              unfold effAt
              go_simp
              simp only [effUpon, List.getElem_toArray, List.getElem_cons_zero, List.getElem_cons_succ, Act.put, List.setIfInBounds_toArray, List.set_cons_zero, List.set_cons_succ]
              try refine ⟨trivial, ?_⟩
              refine mix_nil ?_
              have hdw : (wr.setCell ⟨g, I, none⟩ (.int .u8 (Y : Int))).drew.ownsRow w.heap.size 5 1 (.slice (some ⟨g, 0, none⟩) n c1) n ((flipBit L K).map ub) := own_same HNEW.out (Same.refl no _).drew (fun _ _ h => h)
              rw [← HST.out] at hdw
              have HDW := Lib.hid hdw; have HBD := Lib.hid HBS.out.drew
              clear hdw HBS HNEW
              generalize (wr.setCell ⟨g, I, none⟩ (.int .u8 (Y : Int))).drew = W9 at *
              go_wp2_with fail
              go_roundw
              case rel => exact ⟨j + 1, by omega, by go_num, HDW, HBD⟩
              case measure => simp [intOf]; omega
            · rw [if_neg (fun h => hkn h.2.2)] at hst
              have HO2 := HO
              rw [← hst] at HO2
              clear hst
              go_wp2_with fail
              go_roundw
              case rel => exact ⟨j + 1, by omega, by go_num, HO2, HB⟩
              case measure => simp [intOf]; omega
          · rw [if_neg (fun h => hk0 h.2.1)] at hst
            have HO2 := HO
            rw [← hst] at HO2
            clear hst
            go_wp2_with fail
            go_roundw
            case rel => exact ⟨j + 1, by omega, by go_num, HO2, HB⟩
            case measure => simp [intOf]; omega
        · have hb0 : bits .and .u32 ((mask : Int) / 2 ^ j) 1 = 0 := by rw [hDi, hand, show D % 2 = 0 by omega]; rfl
          rw [decide_eq_false hbit, if_neg (fun h => by cases h.1)] at hst
          have HO2 := HO
          rw [← hst] at HO2
          clear hst hand hDi
          go_wp2_with fail
          go_roundw
          case rel => exact ⟨j + 1, by omega, by go_num, HO2, HB⟩
          case measure => simp [intOf]; omega
      · obtain rfl : j = 32 := by omega
        go_wp2_with fail
        go_ret
        exact ⟨_, rfl, HO.out, HB.out⟩
end Go.Proofs.YtghjffgaebnhiaaDoor
