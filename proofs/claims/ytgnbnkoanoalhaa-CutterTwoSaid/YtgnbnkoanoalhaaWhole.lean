/- Whole: the block, if all segments are there. -/
import Derived.Test.YtgnbnkoanoalhaaPutMid
namespace Go.Proofs.Ytgnbnkoanoalhaa
set_option linter.unusedVariables false
set_option linter.unusedSimpArgs false
open Go.RowKit

theorem take_succ_getD (ps : List (List UInt8)) (k : Nat) (h : k < ps.length) : (ps.take (k + 1)).flatten = (ps.take k).flatten ++ ps.getD k [] := by
  rw [List.take_succ_eq_append_getElem h, List.flatten_append, List.getD_eq_getElem?_getD, List.getElem?_eq_getElem h]
  simp
set_option maxRecDepth 10000 in
theorem flat_le {cnt len : Nat} {ps : List (List UInt8)} (hf : Fine cnt len ps) (k : Nat) : (ps.take k).flatten.length ≤ k * 1024 := by
  induction k with
  | zero => simp
  | succ k ih =>
    by_cases h : k < ps.length
    · rw [take_succ_getD ps k h, List.length_append]
      have := hf.at k
      omega
    · rw [List.take_of_length_le (by omega)]
      rw [List.take_of_length_le (by omega)] at ih
      omega

set_option maxHeartbeats 1000000 in
set_option maxRecDepth 100000 in
theorem whole_yes (g cnt len : Nat) (ps : List (List UInt8)) (w : World) (h : BoxAt w g cnt len ps) (hf : Fine cnt len ps) (hall : ∀ i, i < cnt → ps.getD i [] ≠ []) :
    Calls Try.prog 22 #[.pointer (some ⟨g, 0, none⟩)] w fun e w' => ∃ v, e = .returned (.tuple #[v, .bool true]) ∧ w'.ownsRow w.heap.size 5 1 v (ps.take cnt).flatten.length ((ps.take cnt).flatten.map ub) ∧ Below w.heap.size w w' := by
  have c0 := h.c0
  have hcnt := hf.hi
  have hne : ((cnt : Int) == 0) = false := by rw [beq_eq_false_iff_ne]; have := hf.lo; omega
  have hg := h.blk.lt
  go_enter Try.func22, Try.ntmps22
  go_wp2
  go_loopw [4, 21] (fun o i wr => ∃ k : Nat, k ≤ cnt ∧ i = .int .i64 k ∧ wr.ownsRow w.heap.size 5 1 o (ps.take k).flatten.length ((ps.take k).flatten.map ub) ∧ Below w.heap.size w wr)
    (fun _ i _ => cnt - (intOf i).toNat)
  case atStart => exact ⟨0, Nat.zero_le _, rfl, World.ownsRow_nil _ _ _ _, Below.refl _ _⟩
  case round =>
    obtain ⟨k, hk, rfl, hown, hB⟩ := hrel
    have hz := hB.size
    by_cases hlt : k < cnt
    · have hb := h.later hB
      have cp := hb.cp (i := k) (by omega)
      obtain ⟨p, hp⟩ : ∃ p, p = ps.getD k [] := ⟨_, rfl⟩
      have hpe : p ≠ [] := hp ▸ hall k hlt
      have hpl : p.length ≤ 1024 := hp ▸ hf.at k
      have hfl := flat_le hf k
      have hts := take_succ_getD ps k (by rw [h.n]; omega)
      rw [← hp] at cp hts
      have hpem := str_some hpe
      have ix : (k : Int) < 64 := by omega
      have HP := Lib.hid hp; have HT := Lib.hid hts; clear hp hts hpe
      go_wp2_with (refine wpList_appStr rfl (.tmp 31) (.tmp 37) rfl hown rfl (l := p) rfl (by omega) hz ?_; intro v1 w1 hown1 hgr1)
      have hB1 := hB.grown hgr1 hz (fun k hk => (hown.lt k hk).1)
      clear hgr1 hown hb
      go_roundw
      case rel => exact ⟨k + 1, by omega, by go_num, by rw [HT.out, List.length_append, List.map_append]; exact hown1, hB1⟩
      case measure => simp [intOf]; omega
    · obtain rfl : k = cnt := by omega
      go_wp2
      go_ret2
      exact ⟨_, rfl, hown, hB⟩

set_option maxHeartbeats 1000000 in
set_option maxRecDepth 100000 in
theorem whole_no (g cnt len j : Nat) (ps : List (List UInt8)) (w : World) (h : BoxAt w g cnt len ps) (hf : Fine cnt len ps) (hj : j < cnt) (hnone : ps.getD j [] = []) (hall : ∀ i, i < j → ps.getD i [] ≠ []) :
    Calls Try.prog 22 #[.pointer (some ⟨g, 0, none⟩)] w fun e w' => e = .returned (.tuple #[.slice none 0 0, .bool false]) ∧ Below w.heap.size w w' := by
  have c0 := h.c0
  have hcnt := hf.hi
  have hne : ((cnt : Int) == 0) = false := by rw [beq_eq_false_iff_ne]; have := hf.lo; omega
  have hg := h.blk.lt
  go_enter Try.func22, Try.ntmps22
  go_wp2
  go_loopw [4, 21] (fun o i wr => ∃ k : Nat, k ≤ j ∧ i = .int .i64 k ∧ wr.ownsRow w.heap.size 5 1 o (ps.take k).flatten.length ((ps.take k).flatten.map ub) ∧ Below w.heap.size w wr)
    (fun _ i _ => cnt - (intOf i).toNat)
  case atStart => exact ⟨0, Nat.zero_le _, rfl, World.ownsRow_nil _ _ _ _, Below.refl _ _⟩
  case round =>
    obtain ⟨k, hk, rfl, hown, hB⟩ := hrel
    have hz := hB.size
    have hb := h.later hB
    have cp := hb.cp (i := k) (by omega)
    have ix : (k : Int) < 64 := by omega
    have hkc : k < cnt := by omega
    by_cases hlt : k < j
    · obtain ⟨p, hp⟩ : ∃ p, p = ps.getD k [] := ⟨_, rfl⟩
      have hpe : p ≠ [] := hp ▸ hall k hlt
      have hpl : p.length ≤ 1024 := hp ▸ hf.at k
      have hfl := flat_le hf k
      have hts := take_succ_getD ps k (by rw [h.n]; omega)
      rw [← hp] at cp hts
      have hpem := str_some hpe
      have HP := Lib.hid hp; have HT := Lib.hid hts; clear hp hts hpe
      go_wp2_with (refine wpList_appStr rfl (.tmp 31) (.tmp 37) rfl hown rfl (l := p) rfl (by omega) hz ?_; intro v1 w1 hown1 hgr1)
      have hB1 := hB.grown hgr1 hz (fun k hk => (hown.lt k hk).1)
      clear hgr1 hown hb
      go_roundw
      case rel => exact ⟨k + 1, by omega, by go_num, by rw [HT.out, List.length_append, List.map_append]; exact hown1, hB1⟩
      case measure => simp [intOf]; omega
    · obtain rfl : k = j := by omega
      rw [hnone] at cp
      have hem := str_none
      clear hnone
      go_wp2
      go_ret2
      exact ⟨rfl, hB⟩
end Go.Proofs.Ytgnbnkoanoalhaa
