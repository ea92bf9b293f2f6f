/- The reference's length: of the first segment that is there and not the last. -/
import Derived.Test.YtgnbnkoanoalhaaTypes
namespace Go.Proofs.Ytgnbnkoanoalhaa
set_option linter.unusedVariables false
set_option linter.unusedSimpArgs false
open Go.RowKit
/-- of the segments but the last, the first that is there: its length; 0: none. -/
def lenOf (ls : List (List UInt8)) : Nat := ((ls.take (ls.length - 1)).find? fun p => decide (0 < p.length)).elim 0 List.length
theorem lenOf_at {ls : List (List UInt8)} {k : Nat} (hk : k + 1 < ls.length) (h0 : ∀ j, j < k → ls.getD j [] = []) (h1 : 0 < (ls.getD k []).length) : lenOf ls = (ls.getD k []).length := by
  unfold lenOf
  have hl : k < (ls.take (ls.length - 1)).length := by rw [List.length_take]; omega
  have hf : (ls.take (ls.length - 1)).find? (fun p => decide (0 < p.length)) = some (ls.getD k []) := by
    rw [List.find?_eq_some_iff_getElem]
    refine ⟨by simpa using h1, k, hl, ?_, fun j hj => ?_⟩
    · rw [List.getElem_take, List.getD_eq_getElem?_getD, List.getElem?_eq_getElem (by omega)]; rfl
    · rw [List.getElem_take]
      have := h0 j hj
      rw [List.getD_eq_getElem?_getD, List.getElem?_eq_getElem (by omega)] at this
      simp at this
      simp [this]
  rw [hf]; rfl
theorem lenOf_none {ls : List (List UInt8)} (h0 : ∀ j, j + 1 < ls.length → ls.getD j [] = []) : lenOf ls = 0 := by
  unfold lenOf
  have hf : (ls.take (ls.length - 1)).find? (fun p => decide (0 < p.length)) = none := by
    rw [List.find?_eq_none]
    intro p hp
    obtain ⟨j, hj, rfl⟩ := List.mem_iff_getElem.1 hp
    rw [List.length_take] at hj
    have := h0 j (by omega)
    rw [List.getD_eq_getElem?_getD, List.getElem?_eq_getElem (by omega)] at this
    simp at this
    simp [List.getElem_take, this]
  rw [hf]; rfl
set_option maxHeartbeats 1000000 in
set_option maxRecDepth 100000 in
theorem refLen_any (v : Value) (ls : List (List UInt8)) (w : World) (h : Bss w v ls) (hl : ls.length ≤ 140737488355328) :
    Calls Try.prog 44 #[v] w fun e w' => e = .returned (.int .i64 (lenOf ls)) ∧ w = w' := by
  obtain ⟨vs, hvl, ⟨ao, cap, rfl, _, _, hr⟩, hin⟩ := h
  go_enter Try.func44, Try.ntmps44
  go_wp2
  go_loopw [3] (fun i wr => ∃ k : Nat, (k ≤ ls.length) ∧ i = .int .i64 k ∧ (∀ j, j < k → ls.getD j [] = []) ∧ wr = w) (fun i _ => ls.length - (intOf i).toNat)
  case atStart => exact ⟨0, Nat.zero_le _, rfl, fun j hj => by omega, rfl⟩
  case round =>
    obtain ⟨k, hk, rfl, h0, rfl⟩ := hrel
    by_cases hlt : k + 1 < ls.length
    · obtain ⟨x, hx⟩ : ∃ x, vs[k]? = some x := ⟨_, List.getElem?_eq_getElem (by omega)⟩
      obtain ⟨b, off, rfl, hc⟩ := hr (by intro h; rw [h] at hx; simp at hx)
      have e1 := hc k x hx
      have b1 := hin k x _ hx (List.getElem?_eq_getElem (by omega))
      obtain ⟨p, hp⟩ : ∃ p, p = ls[k] := ⟨_, rfl⟩
      rw [← hp] at b1
      have hpd : ls.getD k [] = p := by rw [List.getD_eq_getElem?_getD, List.getElem?_eq_getElem (by omega), hp]; rfl
      obtain ⟨xp, xc, rfl, -⟩ := id b1
      have ix : (k : Int) < ls.length := by omega
      have H0 := Lib.hid h0; have HPD := Lib.hid hpd
      clear hp hin hr hc hx h0 hpd b1
      by_cases hpz : 0 < p.length
      · go_wp2
        go_ret
        exact ⟨by rw [lenOf_at hlt H0.out (by rw [HPD.out]; exact hpz), HPD.out]; rfl, rfl⟩
      · go_wp2
        go_roundw
        case rel => exact ⟨k + 1, by omega, by go_num, fun j hj => by
          by_cases e : j = k
          · subst e; rw [HPD.out]; exact List.length_eq_zero_iff.1 (by omega)
          · exact H0.out j (by omega), by first | rfl | trivial⟩
        case measure => simp [intOf]; omega
    · have H0 := Lib.hid h0
      clear hin hr h0
      go_wp2
      go_ret
      exact ⟨by rw [lenOf_none fun j hj => H0.out j (by omega)]; rfl, rfl⟩
end Go.Proofs.Ytgnbnkoanoalhaa
