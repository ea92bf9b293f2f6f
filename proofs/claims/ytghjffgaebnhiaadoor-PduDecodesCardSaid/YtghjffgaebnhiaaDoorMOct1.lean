/- octet: AppendNumber, CRC, Seal. -/
import Derived.Test.YtghjffgaebnhiaaDoorMCrc
import Derived.Test.YtghjffgaebnhiaaDoorMUnion
import Derived.Test.YtghjffgaebnhiaaDoorMGrowBytes
import Derived.Test.YtghjffgaebnhiaaDoorMTypes
namespace Go.Proofs.YtghjffgaebnhiaaDoor
set_option linter.unusedVariables false
set_option linter.unusedSimpArgs false
open Go.RowKit
/-- the table, as the initialiser lays it. -/
def Tab (w : World) : Prop := ∀ i, i < 16 → w.cell? ⟨0, i, none⟩ = some (.int .u32 (tab.getD i 0 : Nat))
theorem Tab.lt {w : World} (h : Tab w) : 0 < w.heap.size := World.block_lt_of_cell? _ _ (h 0 (by decide))
theorem Tab.below {B : Nat} {w w' : World} (h : Tab w) (hb : Below B w w') (hB : 0 < B) : Tab w' := fun i hi => below_cell hb (h i hi) hB
theorem Tab.later {w w' : World} (h : Tab w) (hb : Below w.heap.size w w') : Tab w' := h.below hb h.lt
set_option maxHeartbeats 4000000 in
set_option maxRecDepth 100000 in
theorem crc_any (v : Value) (l : List UInt8) (w : World) (hb : Bs w v l) (ht : Tab w) (hl : l.length ≤ 140737488355328) :
    Calls Tryd.prog 59 #[v] w fun e w' => e = .returned (.int .u32 ((crcOf l).toNat : Int)) ∧ w' = w := by
  obtain ⟨ao, cap, rfl, _, _, hc⟩ := id hb
  obtain ⟨n, hn⟩ : ∃ n, n = l.length := ⟨_, rfl⟩
  rw [← hn] at hl ⊢
  have HN := Lib.hid hn; have HT := Lib.hid ht; have HC := Lib.hid hc
  clear hn ht hc hb
  go_enter Tryd.func59, Tryd.ntmps59
  go_wp2
  go_loopw [3, 5, 8] (fun c x i wr => ∃ (k C : Nat), k ≤ n ∧ i = .int .i64 (k : Int) ∧ C < 4294967296 ∧ c = .int .u32 (C : Int) ∧ Hid (C = (crcL crc0 (l.take k)).toNat) ∧ wr = w) (fun _ _ i _ => n - (intOf i).toNat)
  case atStart => exact ⟨0, 4294967295, Nat.zero_le _, rfl, by decide, rfl, Lib.hid rfl, rfl⟩
  case round =>
    obtain ⟨k, C, hk, rfl, hC, rfl, HE, rfl⟩ := hrel
    by_cases hlt : k < n
    · have ix : (k : Int) < (n : Int) := by omega
      obtain ⟨b, off, rfl, hcell⟩ := HC.out (fun h => by have h1 := congrArg List.length h; rw [List.length_map, List.length_nil, ← HN.out] at h1; omega)
      have hlk : k < l.length := by rw [← HN.out]; exact hlt
      have e0 := hcell k (.int .u8 (l[k].toNat : Int)) (by rw [List.getElem?_map, List.getElem?_eq_getElem hlk]; rfl)
      obtain ⟨X, hX⟩ : ∃ X, X = l[k].toNat := ⟨_, rfl⟩
      have hX8 : X < 256 := by rw [hX]; exact UInt8.toNat_lt _
      rw [← hX] at e0
      have hnext : Hid (nibN (nibN (C ^^^ X)) = (crcL crc0 (l.take (k + 1))).toNat) := Lib.hid (by rw [crcL_take l k hlk, crcB_nat, HE.out, hX])
      obtain ⟨C1, hC1⟩ : ∃ C1, C1 = C ^^^ X := ⟨_, rfl⟩
      have b1 : bits .xor .u32 (C : Int) (X : Int) = (C1 : Int) := by rw [hC1]; exact u32_xor_nat C X hC (by omega)
      have l1 : C1 < 4294967296 := by rw [hC1]; exact xor_lt32 hC (by omega)
      have wX : IntKind.u32.wrap (X : Int) = (X : Int) := by rw [IntKind.wrap_u32']; omega
      rw [← hC1] at hnext
      obtain ⟨D1, hD1⟩ : ∃ D1, D1 = C1 % 16 := ⟨_, rfl⟩
      have m1 : bits .and .u32 (C1 : Int) 15 = (D1 : Int) := by rw [hD1, ← nat_mask4]; exact u32_and_nat C1 15 l1 (by decide)
      have d1 : D1 < 16 := by omega
      obtain ⟨T1, hT1⟩ : ∃ T1, T1 = tab.getD D1 0 := ⟨_, rfl⟩
      have e1 : wr.cell? ⟨0, D1, none⟩ = some (.int .u32 (T1 : Int)) := by rw [hT1]; exact HT.out D1 d1
      have i1 : (D1 : Int) < 16 := by omega
      obtain ⟨C2, hC2⟩ : ∃ C2, C2 = nibN C1 := ⟨_, rfl⟩
      have l2 : C2 < 4294967296 := by rw [hC2]; exact nibN_lt l1
      have hT1l : T1 < 4294967296 := by rw [hT1]; exact tab_lt _
      have b2 : bits .xor .u32 (T1 : Int) ((C1 : Int) / 16) = (C2 : Int) := by
        have h : bits .xor .u32 (T1 : Int) ((C1 / 16 : Nat) : Int) = ((T1 ^^^ C1 / 16 : Nat) : Int) := u32_xor_nat T1 (C1 / 16) hT1l (by omega)
        rw [Int.natCast_ediv] at h
        rw [hC2, nibN, ← hD1, ← hT1]
        exact h
      obtain ⟨D2, hD2⟩ : ∃ D2, D2 = C2 % 16 := ⟨_, rfl⟩
      have m2 : bits .and .u32 (C2 : Int) 15 = (D2 : Int) := by rw [hD2, ← nat_mask4]; exact u32_and_nat C2 15 l2 (by decide)
      have d2 : D2 < 16 := by omega
      obtain ⟨T2, hT2⟩ : ∃ T2, T2 = tab.getD D2 0 := ⟨_, rfl⟩
      have e2 : wr.cell? ⟨0, D2, none⟩ = some (.int .u32 (T2 : Int)) := by rw [hT2]; exact HT.out D2 d2
      have i2 : (D2 : Int) < 16 := by omega
      obtain ⟨C3, hC3⟩ : ∃ C3, C3 = nibN C2 := ⟨_, rfl⟩
      have l3 : C3 < 4294967296 := by rw [hC3]; exact nibN_lt l2
      have b3 : bits .xor .u32 (T2 : Int) ((C2 : Int) / 16) = (C3 : Int) := by
        have h : bits .xor .u32 (T2 : Int) ((C2 / 16 : Nat) : Int) = ((T2 ^^^ C2 / 16 : Nat) : Int) := u32_xor_nat T2 (C2 / 16) (by rw [hT2]; exact tab_lt _) (by omega)
        rw [Int.natCast_ediv] at h
        rw [hC3, nibN, ← hD2, ← hT2]
        exact h
      rw [← hC2, ← hC3] at hnext
      have HNX := Lib.hid hnext.out
      clear hcell hX hC1 hD1 hT1 hC2 hD2 hT2 hC3 hnext
      go_wp2_with fail
      go_roundw
      case rel => exact ⟨k + 1, C3, by omega, by go_num, l3, rfl, Lib.hid HNX.out, trivial⟩
      case measure => simp [intOf]; omega
    · obtain rfl : k = n := by omega
      obtain ⟨N, hN⟩ : ∃ N, N = (crcOf l).toNat := ⟨_, rfl⟩
      have bx : bits .xor .u32 IntKind.u32.max (C : Int) = (N : Int) := by
        have h1 := HE.out
        rw [HN.out, List.take_length] at h1
        have h2 : bits .xor .u32 ((4294967295 : Nat) : Int) (C : Int) = ((4294967295 ^^^ C : Nat) : Int) := u32_xor_nat 4294967295 C (by decide) hC
        rw [hN, crcOf, xor_crc0, BitVec.toNat_xor]
        show _ = ((BitVec.toNat (crcL crc0 l) ^^^ 4294967295 : Nat) : Int)
        rw [← h1, Nat.xor_comm]
        exact h2
      have HNN := Lib.hid hN
      clear hN
      go_wp2_with fail
      go_ret
      rw [← HNN.out]
      exact ⟨rfl, rfl⟩
theorem growBytes_any (n : Nat) (w : World) (hn : n ≤ 140737488355328) :
    Calls Tryd.prog 89 #[.slice none 0 0, .int .i64 n] w fun e w' => ∃ v, e = .returned v ∧ w'.ownsRow w.heap.size 5 1 v 0 [] ∧ Below w.heap.size w w' := by
  obtain ⟨i, hi, hz, hs, hby⟩ := info_parts El.u8.inf
  by_cases h0 : n = 0
  · subst h0
    refine (Any8.slices_Grow_room Tryd.growBytes none 0 0 0 w (Nat.le_refl _) (by omega) (by omega) (Nat.le_refl _)).mono ?_
    rintro e w' ⟨rfl, h⟩
    first
      | (subst h; exact ⟨_, rfl, World.ownsRow_nil _ _ _ _, Below.refl _ _⟩)
      | (rw [h]; exact ⟨_, rfl, World.ownsRow_nil _ _ _ _, Below.refl _ _⟩)
  · refine (Any8.slices_Grow_grow Tryd.growBytes i _ hi hz (by omega) none 0 0 n [] w (Nat.le_refl _) (by omega) (by rw [hby]; omega) (by omega) (by simp) (fun _ => rfl) (fun a h => by cases h)).mono ?_
    rintro e w' ⟨rfl, rfl⟩
    have hge := grownCap_ge w (0 + n) 0 5
    refine ⟨_, rfl, ⟨rfl, .inr ⟨w.heap.size, _, _, rfl, Nat.le_refl _, heap_alloc_new w.drew _, Nat.zero_le _, grownCap_le_maxLen w (0 + n) 0 _ (by simp only [maxLen]; omega), ?_, rfl⟩⟩, ⟨rfl, rfl, rfl, by simp, fun k hk => Below.heap_alloc w.drew _ k hk⟩⟩
    have hzs : ((Value.int .u8 0 : Value).cells).size = 1 := rfl
    simp only [Array.size_append, List.size_toArray, size_zeroCells, hzs, List.length_nil]
    have hcap : Tryd.growBytes_ren.t 25 = 5 := rfl
    rw [hcap]
    omega
set_option maxHeartbeats 4000000 in
set_option maxRecDepth 100000 in
theorem concatB (b : Nat) (v u : Value) (n m : Nat) (cs ds : List Value) (w : World) (hc0 : w.cell? ⟨b, 0, none⟩ = some v) (hc1 : w.cell? ⟨b, 1, none⟩ = some u) (hv : Rd w v n cs) (hu : Rd w u m ds)
    (hcl : cs.length = n * 1) (hdl : ds.length = m * 1) (h1 : ∀ x ∈ cs, x.oneCell' = true) (h2 : ∀ x ∈ ds, x.oneCell' = true) (hnm : n + m ≤ 140737488355328) :
    Calls Tryd.prog 60 #[.slice (some ⟨b, 0, none⟩) 2 2] w fun e w' => ∃ v', e = .returned v' ∧ w'.ownsRow w.heap.size 5 1 v' (n + m) (cs ++ ds) ∧ Below w.heap.size w w' := by
  obtain ⟨vp, vc, rfl, -⟩ := id hv
  obtain ⟨up, uc, rfl, -⟩ := id hu
  have hbl := World.block_lt_of_cell? _ _ hc0
  have HV := Lib.hid hv; have HU := Lib.hid hu; have HCL := Lib.hid hcl; have HDL := Lib.hid hdl; have H1 := Lib.hid h1; have H2 := Lib.hid h2
  clear hv hu hcl hdl h1 h2
  go_enter Tryd.func60, Tryd.ntmps60
  go_wp2
  go_loopw [3, 11] (fun s i wr => (s = .int .i64 0 ∧ i = .int .i64 0 ∧ wr = w) ∨ (s = .int .i64 n ∧ i = .int .i64 1 ∧ wr = w) ∨ (s = .int .i64 (n + m : Nat) ∧ i = .int .i64 2 ∧ wr = w)) (fun _ i _ => 2 - (intOf i).toNat)
  case atStart => exact .inl ⟨rfl, rfl, rfl⟩
  case round =>
    rcases hrel with ⟨rfl, rfl, rfl⟩ | ⟨rfl, rfl, rfl⟩ | ⟨rfl, rfl, rfl⟩
    · go_wp2_with fail
      go_roundw
      case rel => exact .inr (.inl ⟨rfl, rfl, by first | rfl | trivial⟩)
      case measure => simp [intOf]
    · go_wp2_with fail
      go_roundw
      case rel => exact .inr (.inr ⟨by go_num, rfl, by first | rfl | trivial⟩)
      case measure => simp [intOf]
    · obtain ⟨wo, hwo⟩ : ∃ wo, wo = wr := ⟨_, rfl⟩
      subst hwo
      go_wp2_with fail
      refine (growBytes_any (n + m) _ (by omega)).mono ?_
      rintro e w1 ⟨v1, rfl, own1, hB1⟩
      have d0 := below_cell hB1 hc0 hbl
      have d1 := below_cell hB1 hc1 hbl
      have hz1 := hB1.size
      go_wp2_with fail
      go_loopw [6, 27] (fun G i wr => (i = .int .i64 0 ∧ wr.ownsRow wo.heap.size 5 1 G 0 [] ∧ Below wo.heap.size wo wr) ∨ (i = .int .i64 1 ∧ wr.ownsRow wo.heap.size 5 1 G n cs ∧ Below wo.heap.size wo wr) ∨
        (i = .int .i64 2 ∧ wr.ownsRow wo.heap.size 5 1 G (n + m) (cs ++ ds) ∧ Below wo.heap.size wo wr)) (fun _ i _ => 2 - (intOf i).toNat)
      case atStart => exact .inl ⟨rfl, own1, hB1⟩
      case round =>
        rcases hrel with ⟨rfl, own, hB⟩ | ⟨rfl, own, hB⟩ | ⟨rfl, own, hB⟩
        · have e0 := below_cell hB hc0 hbl
          have hz := hB.size
          go_wp2_with (at_builtin; go_loud (refine wpList_app El.u8 rfl (.tmp 31) (.tmp 32) rfl own rfl (HV.out.later hB) rfl HCL.out H1.out (by omega) hz ?_); intro v2 w2 own2 hgr2 _)
          have hB2 := hB.grown hgr2 hz (fun k hk => (own.lt k hk).1)
          clear hgr2
          rw [Nat.zero_add, List.nil_append] at own2
          go_roundw
          case rel => exact .inr (.inl ⟨rfl, own2, hB2⟩)
          case measure => simp [intOf]
        · have e0 := below_cell hB hc1 hbl
          have hz := hB.size
          go_wp2_with (at_builtin; go_loud (refine wpList_app El.u8 rfl (.tmp 31) (.tmp 32) rfl own rfl (HU.out.later hB) rfl HDL.out H2.out (by omega) hz ?_); intro v2 w2 own2 hgr2 _)
          have hB2 := hB.grown hgr2 hz (fun k hk => (own.lt k hk).1)
          clear hgr2
          go_roundw
          case rel => exact .inr (.inr ⟨rfl, own2, hB2⟩)
          case measure => simp [intOf]
        · go_wp2_with fail
          go_ret
          exact ⟨_, rfl, own, hB⟩
theorem concat_bytes (b : Nat) (v u : Value) (l m : List UInt8) (w : World) (hc0 : w.cell? ⟨b, 0, none⟩ = some v) (hc1 : w.cell? ⟨b, 1, none⟩ = some u) (hv : Bs w v l) (hu : Bs w u m) (hnm : l.length + m.length ≤ 140737488355328) :
    Calls Tryd.prog 60 #[.slice (some ⟨b, 0, none⟩) 2 2] w fun e w' => ∃ v', e = .returned v' ∧ w'.ownsRow w.heap.size 5 1 v' (l ++ m).length ((l ++ m).map ub) ∧ Below w.heap.size w w' := by
  refine (concatB b v u l.length m.length (l.map ub) (m.map ub) w hc0 hc1 hv hu (by simp) (by simp) (ub_one l) (ub_one m) hnm).mono ?_
  rintro e w' ⟨v', rfl, h, hB⟩
  exact ⟨v', rfl, by rw [List.length_append, List.map_append]; exact h, hB⟩
set_option maxHeartbeats 4000000 in
set_option maxRecDepth 100000 in
theorem seal_any (v : Value) (l : List UInt8) (w : World) (hb : Bs w v l) (ht : Tab w) (hl : l.length + 4 ≤ 140737488355328) :
    Calls Tryd.prog 21 #[v] w fun e w' => ∃ v', e = .returned v' ∧ w'.ownsRow w.heap.size 5 1 v' (l ++ sumB (crcOf l)).length ((l ++ sumB (crcOf l)).map ub) ∧ Below w.heap.size w w' := by
  obtain ⟨ao, cap, rfl, -⟩ := id hb
  obtain ⟨n, hn⟩ : ∃ n, n = l.length := ⟨_, rfl⟩
  obtain ⟨N, hN⟩ : ∃ N, N = (crcOf l).toNat := ⟨_, rfl⟩
  have hc := crc_any _ l w hb ht (by omega)
  rw [← hN, ← hn] at hc
  rw [← hn]
  have HC := Lib.hid hc; have HB : Hid (Bs w (.slice ao n cap) l) := Lib.hid (by rw [hn]; exact hb); have HN := Lib.hid hN; have Hn := Lib.hid hn; have HL := Lib.hid hl
  have HV0 : True := trivial
  have hv : Hid (#[Value.int .u8 ((N : Int) % 256), .int .u8 ((N : Int) / 256 % 256), .int .u8 ((N : Int) / 65536 % 256), .int .u8 ((N : Int) / 16777216 % 256)] = ((sumB (crcOf l)).map ub).toArray) := Lib.hid (by
    rw [hN]
    unfold sumB ub
    have e : ∀ x : Nat, ((UInt8.ofNat (x % 256)).toNat : Int) = (x : Int) % 256 := fun x => by rw [UInt8.toNat_ofNat']; omega
    simp only [List.map_cons, List.map_nil, e]
    simp)
  have HV := Lib.hid hv.out
  clear hc hb ht hN hn hl hv HV0
  go_enter Tryd.func21, Tryd.ntmps21
  go_wp2_with fail
  refine HC.out.mono ?_
  rintro e wq ⟨rfl, hw⟩
  rw [hw]
  clear hw wq
  go_wp2_with fail
  obtain ⟨W2, hW2⟩ : ∃ W2, W2 = (w.alloc (.cells #[.int .u8 ((N : Int) % 256), .int .u8 ((N : Int) / 256 % 256), .int .u8 ((N : Int) / 65536 % 256), .int .u8 ((N : Int) / 16777216 % 256)] 5)).alloc (.cells #[.slice ao n cap, .slice (some ⟨w.heap.size, 0, none⟩) 4 4] 23) := ⟨_, rfl⟩
  have hB2 : Below w.heap.size w W2 := hW2 ▸ ((Below.refl _ _).alloc (Nat.le_refl _) _).alloc (by simp) _
  have h4 : Blk W2 w.heap.size 5 ((sumB (crcOf l)).map ub) := by
    rw [hW2, HV.out]
    exact (Blk.new w _ _).alloc _
  have h2 : Blk W2 (w.heap.size + 1) 23 [.slice ao n cap, .slice (some ⟨w.heap.size, 0, none⟩) 4 4] := by
    have := Blk.new (w.alloc (.cells #[.int .u8 ((N : Int) % 256), .int .u8 ((N : Int) / 256 % 256), .int .u8 ((N : Int) / 65536 % 256), .int .u8 ((N : Int) / 16777216 % 256)] 5)) 23 [.slice ao n cap, .slice (some ⟨w.heap.size, 0, none⟩) 4 4]
    rw [show (w.alloc (.cells #[.int .u8 ((N : Int) % 256), .int .u8 ((N : Int) / 256 % 256), .int .u8 ((N : Int) / 65536 % 256), .int .u8 ((N : Int) / 16777216 % 256)] 5)).heap.size = w.heap.size + 1 by simp] at this
    exact hW2 ▸ this
  rw [← hW2]
  clear hW2
  refine (concat_bytes (w.heap.size + 1) (.slice ao n cap) (.slice (some ⟨w.heap.size, 0, none⟩) 4 4) l (sumB (crcOf l)) W2 (h2.cell_some rfl) (h2.cell_some rfl) (Rd.later HB.out hB2) (Rd.of_blk h4 (by decide) (by simp [maxLen])) (by have := HL.out; rw [sum_len]; omega)).mono ?_
  rintro e w3 ⟨v3, rfl, ho, hB3⟩
  have HO := Lib.hid (own_mono ho hB2.size); have HB3 := Lib.hid (below_trans hB2 hB3)
  clear ho hB3 h2 h4 hB2
  go_wp2_with fail
  go_ret
  exact ⟨_, rfl, HO.out, HB3.out⟩
end Go.Proofs.YtghjffgaebnhiaaDoor
