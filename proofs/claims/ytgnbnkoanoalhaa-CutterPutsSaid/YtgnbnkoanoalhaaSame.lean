/- sameLists, num and KeptBytes answer true where the lists are the same and the lent bytes were kept. -/
import Derived.Test.YtgnbnkoanoalhaaTypes
import Derived.BigQuiet
import Derived.Deep.QuietTactic
namespace Go.Proofs.Ytgnbnkoanoalhaa
set_option linter.unusedVariables false
set_option linter.unusedSimpArgs false
open Go.RowKit

set_option maxHeartbeats 400000 in
set_option maxRecDepth 100000 in
theorem sameLists_yes (v v' : Value) (ls : List (List UInt8)) (w : World) (h : Bss w v ls) (h' : Bss w v' ls) (hl : ls.length ≤ 140737488355328) :
    Calls Try.prog 17 #[v, v'] w fun e w' => e = .returned (.bool true) ∧ ∃ n, w' = w.drewN n := by
  obtain ⟨vs, hvl, ⟨ao, cap, rfl, _, _, hr⟩, hin⟩ := h
  obtain ⟨vs', hvl', ⟨ao', cap', rfl, _, _, hr'⟩, hin'⟩ := h'
  go_enter Try.func17, Try.ntmps17
  go_wp2

  go_loopw [5] (fun i wr => ∃ k : Nat, k ≤ ls.length ∧ i = .int .i64 k ∧ ∃ q, wr = w.drewN q) (fun i _ => ls.length - (intOf i).toNat)
  case atStart => exact ⟨0, Nat.zero_le _, rfl, 0, rfl⟩
  case round =>
    obtain ⟨k, hk, rfl, q, rfl⟩ := hrel
    by_cases hlt : k < ls.length
    · obtain ⟨x, hx⟩ : ∃ x, vs[k]? = some x := ⟨_, List.getElem?_eq_getElem (by omega)⟩
      obtain ⟨x', hx'⟩ : ∃ x', vs'[k]? = some x' := ⟨_, List.getElem?_eq_getElem (by omega)⟩
      obtain ⟨b, off, rfl, hc⟩ := hr (by intro h; rw [h] at hx; simp at hx)
      obtain ⟨b', off', rfl, hc'⟩ := hr' (by intro h; rw [h] at hx'; simp at hx')
      have e1 := hc k x hx
      have e2 := hc' k x' hx'
      have b1 := hin k x _ hx (List.getElem?_eq_getElem hlt)
      have b2 := hin' k x' _ hx' (List.getElem?_eq_getElem hlt)
      have k1 := fun n => run_str8 b1 (W := w.drewN n) rfl
      have k2 := fun n => run_str8 b2 (W := w.drewN n) rfl
      have hix : (k : Int) < (ls.length : Int) := by omega
      obtain ⟨xp, xn, xc, rfl⟩ : ∃ xp xn xc, x = .slice xp xn xc := by obtain ⟨a, c, h, _⟩ := b1; exact ⟨_, _, _, h⟩
      obtain ⟨yp, yn, yc, rfl⟩ : ∃ xp xn xc, x' = .slice xp xn xc := by obtain ⟨a, c, h, _⟩ := b2; exact ⟨_, _, _, h⟩
      clear hin hin' hr hr' hc hc' hx hx' b1 b2
      go_wp2
      go_quiet (fail)
      go_wp2
      go_roundw
      case rel => exact ⟨k + 1, by omega, by go_num, _, rfl⟩
      case measure => simp [intOf]; omega
    · go_wp2
      go_ret
      exact ⟨rfl, q, rfl⟩

set_option maxHeartbeats 400000 in
theorem num_any (a : Int) (w : World) : Calls Try.prog 16 #[.int .i64 a] w fun e w' => e = .returned (.int .i64 a) ∧ w = w' := by
  go_enter Try.func16, Try.ntmps16
  go_wp2
  go_ret
  exact ⟨rfl, rfl⟩

set_option maxHeartbeats 400000 in
set_option maxRecDepth 100000 in
/-- KeptBytes: the lent bytes read l, and the marks stand behind them. -/
theorem kept_any (g c : Nat) (v : Value) (l : List UInt8) (m : UInt8) (w : World) (hl : l.length ≤ 140737488351232) (hr : Bs w v l) (hc4 : l.length + 4 ≤ c)
    (hc : ∀ j u, ((l ++ List.replicate 4 m).map ub)[j]? = some u → w.cell? ⟨g, j, none⟩ = some u) :
    Calls Try.prog 18 #[.slice (some ⟨g, 0, none⟩) l.length c, v, .int .u8 (m.toNat : Int)] w fun e w' => e = .returned (.bool true) ∧ ∃ n, w' = w.drewN n := by
  obtain ⟨ao, cap, rfl, hn, hm, hr⟩ := hr
  go_enter Try.func18, Try.ntmps18
  go_wp2
  go_loopw [8] (fun i wr => ∃ k : Nat, k ≤ l.length + 4 ∧ i = .int .i64 k ∧ ∃ q, wr = w.drewN q) (fun i _ => l.length + 4 - (intOf i).toNat)
  case atStart => exact ⟨0, Nat.zero_le _, rfl, 0, rfl⟩
  case round =>
    obtain ⟨k, hk, rfl, q, rfl⟩ := hrel
    by_cases hlt : k < l.length + 4
    · have hix : (k : Int) < (l.length : Int) + 4 := by omega
      by_cases hkl : k < l.length
      · obtain ⟨b, off, rfl, hc'⟩ := hr (by intro h; simp at h; subst h; simp at hkl)
        have e1 : w.cell? ⟨g, k, none⟩ = some (.int .u8 (l[k].toNat : Int)) := hc k _ (by rw [List.map_append, List.getElem?_append_left (by simpa using hkl)]; simp [ub, hkl])
        have e2 : w.cell? ⟨b, off + k, none⟩ = some (.int .u8 (l[k].toNat : Int)) := hc' k _ (by simp [ub, hkl])
        have hix2 : (k : Int) < (l.length : Int) := by omega
        have hd : decide (k < l.length) = true := by simpa using hkl
        have hd2 : decide (l.length ≤ k) = false := by simpa using hkl
        clear hc hc' hr
        go_wp2
        go_quiet (fail)
        go_wp2
        go_roundw
        case rel => exact ⟨k + 1, by omega, by go_num, _, rfl⟩
        case measure => simp [intOf]; omega
      · have e1 : w.cell? ⟨g, k, none⟩ = some (.int .u8 (m.toNat : Int)) := hc k _ (by rw [List.map_append, List.getElem?_append_right (by simp; omega)]; simp only [List.length_map, List.map_replicate, List.getElem?_replicate]; rw [if_pos (by omega)]; rfl)
        have hd : decide (k < l.length) = false := by simpa using hkl
        have hd2 : decide (l.length ≤ k) = true := by simpa using hkl
        have hd3 : (((m.toNat : Int) != (m.toNat : Int))) = false := by simp
        clear hc hr
        go_wp2
        go_quiet (fail)
        go_wp2
        go_roundw
        case rel => exact ⟨k + 1, by omega, by go_num, _, rfl⟩
        case measure => simp [intOf]; omega
    · go_wp2
      go_ret
      exact ⟨rfl, q, rfl⟩
end Go.Proofs.Ytgnbnkoanoalhaa
