/- slices.Grow of nil, slices.Concat of two lists of ranges; pdu.Union, pdu.Add. -/
import Derived.Test.YtghjffgaebnhiaaDoorMLeast
import Derived.Test.YtghjffgaebnhiaaDoorMRefSets
import Derived.Test.YtghjffgaebnhiaaDoorMGrowRange
namespace Go.Proofs.YtghjffgaebnhiaaDoor
set_option linter.unusedVariables false
set_option linter.unusedSimpArgs false
open Go.RowKit
theorem growRange_any (n : Nat) (w : World) (hn : n ≤ 4398046511104) :
    Calls Tryd.prog 93 #[.slice none 0 0, .int .i64 n] w fun e w' => ∃ v, e = .returned v ∧ w'.ownsRow w.heap.size 57 2 v 0 [] ∧ Below w.heap.size w w' := by
  obtain ⟨i, hi, hz, hs, hby⟩ := info_parts El.range.inf
  by_cases h0 : n = 0
  · subst h0
    refine (Any8.slices_Grow_room Tryd.growRange none 0 0 0 w (Nat.le_refl _) (by omega) (by omega) (Nat.le_refl _)).mono ?_
    rintro e w' ⟨rfl, h⟩
    first
      | (subst h; exact ⟨_, rfl, World.ownsRow_nil _ _ _ _, Below.refl _ _⟩)
      | (rw [h]; exact ⟨_, rfl, World.ownsRow_nil _ _ _ _, Below.refl _ _⟩)
  · refine (Any8.slices_Grow_grow Tryd.growRange i _ hi hz (by omega) none 0 0 n [] w (Nat.le_refl _) (by omega) (by rw [hby]; omega) (by omega) (by simp) (fun _ => rfl) (fun a h => by cases h)).mono ?_
    rintro e w' ⟨rfl, rfl⟩
    have hge := grownCap_ge w (0 + n) 0 57
    refine ⟨_, rfl, ⟨rfl, .inr ⟨w.heap.size, _, _, rfl, Nat.le_refl _, heap_alloc_new w.drew _, Nat.zero_le _, grownCap_le_maxLen w (0 + n) 0 _ (by simp only [maxLen]; omega), ?_, rfl⟩⟩, ⟨rfl, rfl, rfl, by simp, fun k hk => Below.heap_alloc w.drew _ k hk⟩⟩
    have hzs : ((Value.agg #[.int .i64 0, .int .i64 0] : Value).cells).size = 2 := rfl
    simp only [Array.size_append, List.size_toArray, size_zeroCells, hzs, List.length_nil]
    have hcap : Tryd.growRange_ren.t 25 = 57 := rfl
    rw [hcap]
    omega
def pre {α : Type} (z a b : α) (k : Nat) : α := if k = 0 then z else if k = 1 then a else b
set_option maxHeartbeats 4000000 in
set_option maxRecDepth 100000 in
theorem concat2 (b : Nat) (v u : Value) (n m : Nat) (cs ds : List Value) (w : World) (hc0 : w.cell? ⟨b, 0, none⟩ = some v) (hc1 : w.cell? ⟨b, 1, none⟩ = some u) (hv : Rd w v n cs) (hu : Rd w u m ds)
    (hcl : cs.length = n * 2) (hdl : ds.length = m * 2) (h1 : ∀ x ∈ cs, x.oneCell' = true) (h2 : ∀ x ∈ ds, x.oneCell' = true) (hnm : n + m ≤ 4398046511104) :
    Calls Tryd.prog 65 #[.slice (some ⟨b, 0, none⟩) 2 2] w fun e w' => ∃ v', e = .returned v' ∧ w'.ownsRow w.heap.size 57 2 v' (n + m) (cs ++ ds) ∧ Below w.heap.size w w' := by
  obtain ⟨vp, vc, rfl, -⟩ := id hv
  obtain ⟨up, uc, rfl, -⟩ := id hu
  have hbl := World.block_lt_of_cell? _ _ hc0
  have HV := Lib.hid hv; have HU := Lib.hid hu; have HCL := Lib.hid hcl; have HDL := Lib.hid hdl; have H1 := Lib.hid h1; have H2 := Lib.hid h2
  clear hv hu hcl hdl h1 h2
  go_enter Tryd.func65, Tryd.ntmps65
  go_wp2
  go_loopw [3, 11] (fun s i wr => (s = .int .i64 0 ∧ i = .int .i64 0 ∧ wr = w) ∨ (s = .int .i64 n ∧ i = .int .i64 1 ∧ wr = w) ∨ (s = .int .i64 (n + m : Nat) ∧ i = .int .i64 2 ∧ wr = w)) (fun _ i _ => 2 - (intOf i).toNat)
  case atStart => exact .inl ⟨rfl, rfl, rfl⟩
  case round =>
    rcases hrel with ⟨rfl, rfl, rfl⟩ | ⟨rfl, rfl, rfl⟩ | ⟨rfl, rfl, rfl⟩
    · go_wp2_with fail
      go_roundw
      case rel => exact .inr (.inl ⟨rfl, rfl, by first | rfl | trivial⟩)
      case measure => simp [intOf]
    · go_wp2_with fail
      go_roundw
      case rel => exact .inr (.inr ⟨by go_num, rfl, by first | rfl | trivial⟩)
      case measure => simp [intOf]
    · obtain ⟨wo, hwo⟩ : ∃ wo, wo = wr := ⟨_, rfl⟩
      subst hwo
      go_wp2_with fail
      refine (growRange_any (n + m) _ (by omega)).mono ?_
      rintro e w1 ⟨v1, rfl, own1, hB1⟩
      have d0 := below_cell hB1 hc0 hbl
      have d1 := below_cell hB1 hc1 hbl
      have hz1 := hB1.size
      go_wp2_with fail
      go_loopw [6, 27] (fun G i wr => (i = .int .i64 0 ∧ wr.ownsRow wo.heap.size 57 2 G 0 [] ∧ Below wo.heap.size wo wr) ∨ (i = .int .i64 1 ∧ wr.ownsRow wo.heap.size 57 2 G n cs ∧ Below wo.heap.size wo wr) ∨
        (i = .int .i64 2 ∧ wr.ownsRow wo.heap.size 57 2 G (n + m) (cs ++ ds) ∧ Below wo.heap.size wo wr)) (fun _ i _ => 2 - (intOf i).toNat)
      case atStart => exact .inl ⟨rfl, own1, hB1⟩
      case round =>
        rcases hrel with ⟨rfl, own, hB⟩ | ⟨rfl, own, hB⟩ | ⟨rfl, own, hB⟩
        · have e0 := below_cell hB hc0 hbl
          have hz := hB.size
          go_wp2_with (at_builtin; go_loud (refine wpList_app El.range rfl (.tmp 31) (.tmp 32) rfl own rfl (HV.out.later hB) rfl HCL.out H1.out (by omega) hz ?_); intro v2 w2 own2 hgr2 _)
          have hB2 := hB.grown hgr2 hz (fun k hk => (own.lt k hk).1)
          clear hgr2
          rw [Nat.zero_add, List.nil_append] at own2
          go_roundw
          case rel => exact .inr (.inl ⟨rfl, own2, hB2⟩)
          case measure => simp [intOf]
        · have e0 := below_cell hB hc1 hbl
          have hz := hB.size
          go_wp2_with (at_builtin; go_loud (refine wpList_app El.range rfl (.tmp 31) (.tmp 32) rfl own rfl (HU.out.later hB) rfl HDL.out H2.out (by omega) hz ?_); intro v2 w2 own2 hgr2 _)
          have hB2 := hB.grown hgr2 hz (fun k hk => (own.lt k hk).1)
          clear hgr2
          go_roundw
          case rel => exact .inr (.inr ⟨rfl, own2, hB2⟩)
          case measure => simp [intOf]
        · go_wp2_with fail
          go_ret
          exact ⟨_, rfl, own, hB⟩
set_option maxHeartbeats 1000000 in
set_option maxRecDepth 100000 in
theorem union_any (v u : Value) (l m : List (Int × Int)) (w : World) (h : Rgs w v l) (h' : Rgs w u m) (hl : l.length + m.length ≤ 4398046511104) :
    Calls Tryd.prog 24 #[v, u] w fun e w' => ∃ v', e = .returned v' ∧ w'.ownsRow w.heap.size 57 2 v' (leastR (l ++ m)).length (rvs (leastR (l ++ m))) ∧ Below w.heap.size w w' := by
  have HV := Lib.hid h; have HU := Lib.hid h'
  obtain ⟨p, c, rfl, -⟩ := id h
  obtain ⟨q, d, rfl, -⟩ := id h'
  clear h h'
  obtain ⟨wl, hwl⟩ : ∃ wl, wl = w.alloc (.cells #[.slice p l.length c, .slice q m.length d] 24) := ⟨_, rfl⟩
  have hBl : Below w.heap.size w wl := hwl ▸ (Below.refl _ _).alloc (Nat.le_refl _) _
  have hlit : Blk wl w.heap.size 24 [.slice p l.length c, .slice q m.length d] := hwl ▸ Blk.new w _ _
  have hz := hBl.size
  have hcl := concat2 w.heap.size _ _ _ _ _ _ wl (hlit.cell_some (i := 0) rfl) (hlit.cell_some (i := 1) rfl) (HV.out.later hBl) (HU.out.later hBl) (rvs_len l) (rvs_len m) (rvs_one l) (rvs_one m) hl
  have HC := Lib.hid hcl
  clear hcl hlit
  go_enter Tryd.func24, Tryd.ntmps24
  go_wp2_with fail
  rw [← hwl]
  clear hwl
  refine HC.out.mono ?_
  rintro e w1 ⟨v1, rfl, own1, hB1⟩
  have hr : Rgs w1 v1 (l ++ m) := by
    refine Rgs.of_own (base := wl.heap.size) ?_
    rw [rvs_app, List.length_append]
    exact own1
  have hz1 := hB1.size
  clear own1
  go_wp2_with fail
  refine (least_rd _ _ _ hr (by simp; omega)).mono ?_
  rintro e w2 ⟨v2, rfl, own2, hB2⟩
  go_wp2_with fail
  go_ret
  exact ⟨_, rfl, own_mono own2 (by omega), below_trans hBl (below_trans hB1 hB2)⟩
set_option maxHeartbeats 1000000 in
set_option maxRecDepth 100000 in
theorem add_any (v : Value) (l : List (Int × Int)) (i : Int) (w : World) (h : Rgs w v l) (hl : l.length + 1 ≤ 4398046511104) (hi0 : -9223372036854775808 ≤ i) (hi1 : i ≤ 9223372036854775807) :
    Calls Tryd.prog 25 #[v, .int .i64 i] w fun e w' => ∃ v', e = .returned v' ∧ w'.ownsRow w.heap.size 57 2 v' (leastR (addR l i)).length (rvs (leastR (addR l i))) ∧ Below w.heap.size w w' := by
  have HH := Lib.hid h
  obtain ⟨p, c, rfl, -⟩ := id h
  clear h
  by_cases he : i = 9223372036854775807
  · have HT : Hid (addR l i = l) := Lib.hid (if_pos he)
    have t1 : (i == 9223372036854775807) = true := by simpa using he
    clear he
    go_enter Tryd.func25, Tryd.ntmps25
    go_wp2_with fail
    refine (least_rd _ _ _ HH.out (by omega)).mono ?_
    rintro e w3 ⟨v3, rfl, own3, hB3⟩
    go_wp2_with fail
    go_ret
    rw [HT.out]
    exact ⟨_, rfl, own3, hB3⟩
  · have HT : Hid (addR l i = l ++ [(i, i + 1)]) := Lib.hid (if_neg he)
    have t1 : (i == 9223372036854775807) = false := by simpa using he
    have hlt : i < 9223372036854775807 := by omega
    clear he
    go_enter Tryd.func25, Tryd.ntmps25
    go_wp2_with fail
    have hB1 : Below w.heap.size w (w.alloc (.cells #[.int .i64 i, .int .i64 (i + 1)] 57)) := (Below.refl _ _).alloc (Nat.le_refl _) _
    have hlit : Rgs (w.alloc (.cells #[.int .i64 i, .int .i64 (i + 1)] 57)) (.slice (some ⟨w.heap.size, 0, none⟩) 1 1) [(i, i + 1)] := Rd.new w 57 [.int .i64 i, .int .i64 (i + 1)] 1 (by simp [maxLen])
    refine (union_any _ _ l [(i, i + 1)] _ (HH.out.later hB1) hlit (by simpa using hl)).mono ?_
    rintro e w3 ⟨v3, rfl, own3, hB3⟩
    go_wp2_with fail
    go_ret
    rw [HT.out]
    exact ⟨_, rfl, own_mono own3 hB1.size, below_trans hB1 hB3⟩
end Go.Proofs.YtghjffgaebnhiaaDoor
