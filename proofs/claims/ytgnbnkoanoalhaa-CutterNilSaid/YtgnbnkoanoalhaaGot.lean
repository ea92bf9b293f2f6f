/- The program's Got: the least form of the ranges of the segments that are there. -/
import Derived.Test.YtgnbnkoanoalhaaLeast
import Derived.Test.YtgnbnkoanoalhaaBox
namespace Go.Proofs.Ytgnbnkoanoalhaa
set_option linter.unusedVariables false
set_option linter.unusedSimpArgs false
open Go.RowKit
def gotL (ps : List (List UInt8)) : Nat → List (Int × Int)
  | 0 => []
  | k + 1 => gotL ps k ++ if ps.getD k [] = [] then [] else [((k : Int), (k : Int) + 1)]
theorem gotL_len (ps : List (List UInt8)) (k : Nat) : (gotL ps k).length ≤ k := by
  induction k with
  | zero => simp [gotL]
  | succ k ih =>
    rw [gotL, List.length_append]
    split <;> simp <;> omega
set_option maxHeartbeats 1000000 in
set_option maxRecDepth 100000 in
theorem got_any (g cnt len : Nat) (ps : List (List UInt8)) (w : World) (h : BoxAt w g cnt len ps) (hc : cnt ≤ 64) :
    Calls Try.prog 29 #[.pointer (some ⟨g, 0, none⟩)] w fun e w' => ∃ v, e = .returned v ∧ w'.ownsRow w.heap.size 77 2 v (leastR (gotL ps cnt)).length (rvs (leastR (gotL ps cnt))) ∧ Below w.heap.size w w' := by
  have c0 := h.c0
  have hg := h.blk.lt
  go_enter Try.func29, Try.ntmps29
  go_wp2
  go_loopw [3, 12] (fun o i wr => ∃ k : Nat, k ≤ cnt ∧ i = .int .i64 k ∧ wr.ownsRow w.heap.size 77 2 o (gotL ps k).length (rvs (gotL ps k)) ∧ Below w.heap.size w wr)
    (fun _ i _ => cnt - (intOf i).toNat)
  case atStart => exact ⟨0, Nat.zero_le _, rfl, World.ownsRow_nil _ _ _ _, Below.refl _ _⟩
  case round =>
    obtain ⟨k, hk, rfl, hown, hB⟩ := hrel
    have hz := hB.size
    by_cases hlt : k < cnt
    · have hb := h.later hB
      have cp := hb.cp (i := k) (by omega)
      have hgl := gotL_len ps k
      obtain ⟨p, hp⟩ : ∃ p, p = ps.getD k [] := ⟨_, rfl⟩
      have hts : gotL ps (k + 1) = gotL ps k ++ if p = [] then [] else [((k : Int), (k : Int) + 1)] := by rw [hp]; rfl
      rw [← hp] at cp
      have ix : (k : Int) < 64 := by omega
      have HT := Lib.hid hts
      clear hp hts hb
      obtain ⟨L, hL⟩ : ∃ L, L = gotL ps k := ⟨_, rfl⟩
      rw [← hL] at hown hgl
      have HL := Lib.hid hL; clear hL
      by_cases hpe : p = []
      · subst hpe
        have hem := str_none
        go_wp2
        go_roundw
        case rel => exact ⟨k + 1, by omega, by go_num, by rw [HT.out, if_pos rfl, List.append_nil, ← HL.out]; exact hown, hB⟩
        case measure => simp [intOf]; omega
      · have hpem := str_some hpe
        go_wp2_with (at_builtin; go_loud (refine wpList_app1 El.range rfl (.tmp 22) (.tmp 27) rfl hown rfl (cs := #[.int .i64 k, .int .i64 (k + 1)]) rfl rfl (by simp [Value.oneCell']) (by omega) (by omega) ?_); intro v1 w1 hown1 hgr1 _)
        have hB1 := hB.grown hgr1 hz (fun k hk => (hown.lt k hk).1)
        clear hgr1 hown
        go_roundw
        case rel => exact ⟨k + 1, by omega, by go_num, by rw [HT.out, if_neg hpe, List.length_append, rvs_app, ← HL.out]; exact hown1, hB1⟩
        case measure => simp [intOf]; omega
    · obtain rfl : k = cnt := by omega
      have hgl := gotL_len ps k
      go_wp2_with fail
      refine (least_rd _ _ _ (Rgs.of_own hown) (by omega)).mono ?_
      rintro e w2 ⟨v2, rfl, hown2, hB2⟩
      go_wp2_with fail
      go_ret
      exact ⟨_, rfl, own_mono hown2 hz, hB.trans (hB2.mono hz)⟩
end Go.Proofs.Ytgnbnkoanoalhaa
