/- The reference's next, end, Has, walked. -/
import Derived.Test.YtghjffgaebnhiaaDoorMSetLaw
import Derived.Test.YtghjffgaebnhiaaDoorMElR
import Derived.Deep.RegionLaw
namespace Go.Proofs.YtghjffgaebnhiaaDoor
set_option linter.unusedVariables false
set_option linter.unusedSimpArgs false
open Go.RowKit
theorem ite_max (a b : Int) : (if a < b then b else a) = max a b := by split <;> omega
def NextPost (l : List (Int × Int)) (a : Int) (w : World) (e : Ending) (w' : World) : Prop := ∃ r, NextIs l a r ∧ e = .returned (.tuple #[.int .i64 (r.getD 0), .bool r.isSome]) ∧ ∃ q, w' = w.drewN q
set_option maxHeartbeats 2000000 in
set_option maxRecDepth 100000 in
theorem refNext_any (v : Value) (l : List (Int × Int)) (a : Int) (w : World) (h : Rgs w v l) (hl : l.length ≤ 140737488355328) :
    Calls Tryd.prog 66 #[v, .int .i64 a] w (NextPost l a w) := by
  obtain ⟨ao, cap, rfl, _, hr⟩ := h.cells
  clear h
  go_enter Tryd.func66, Tryd.ntmps66
  go_wp2
  go_loopw [6, 7, 8] (fun fd le i wr => ∃ (k : Nat) (r : Option Int), k ≤ l.length ∧ fd = .bool r.isSome ∧ le = .int .i64 (r.getD 0) ∧ i = .int .i64 k ∧ Hid (NextIs (l.take k) a r) ∧ ∃ q, wr = w.drewN q) (fun _ _ i _ => l.length - (intOf i).toNat)
  case atStart => exact ⟨0, none, Nat.zero_le _, rfl, rfl, rfl, Lib.hid next_nil, 0, rfl⟩
  case round =>
    obtain ⟨k, r, hk, rfl, rfl, rfl, hN, q, rfl⟩ := hrel
    by_cases hlt : k < l.length
    · obtain ⟨b, off, rfl, hc⟩ := hr (by omega)
      obtain ⟨c0, c1⟩ := hc k _ (List.getElem?_eq_getElem hlt)
      obtain ⟨x, hx⟩ : ∃ x, x = l[k] := ⟨_, rfl⟩
      rw [← hx] at c0 c1
      have ht : l.take (k + 1) = l.take k ++ [x] := by rw [List.take_succ_eq_append_getElem hlt, hx]
      obtain ⟨x1, x2⟩ := x
      simp only at c0 c1
      have HT := Lib.hid ht
      have ix : (k : Int) < l.length := by omega
      clear hx hc hr ht
      by_cases h1 : x2 ≤ x1
      · go_wp2_with fail
        go_quiet (fail)
        go_wp2_with fail
        go_roundw
        case rel => exact ⟨k + 1, r, by omega, rfl, rfl, by go_num, Lib.hid (by rw [HT.out]; exact next_skip hN.out (.inl h1)), _, rfl⟩
        case measure => simp [intOf]; omega
      by_cases h2 : x2 ≤ a
      · go_wp2_with fail
        go_quiet (fail)
        go_wp2_with fail
        go_roundw
        case rel => exact ⟨k + 1, r, by omega, rfl, rfl, by go_num, Lib.hid (by rw [HT.out]; exact next_skip hN.out (.inr h2)), _, rfl⟩
        case measure => simp [intOf]; omega
      have h1' : x1 < x2 := by omega
      have h2' : a < x2 := by omega
      have t1 : decide (x2 ≤ x1) = false := by simpa using h1
      have t2 : decide (x2 ≤ a) = false := by simpa using h2
      cases r with
      | none =>
        go_wp2_with fail
        go_quiet (fail)
        go_wp2_with fail
        go_roundw
        case rel => exact ⟨k + 1, some (max x1 a), by omega, rfl, congrArg _ (ite_max x1 a), by go_num, Lib.hid (by rw [HT.out]; exact next_first hN.out h1' h2'), _, rfl⟩
        case measure => simp [intOf]; omega
      | some y =>
        by_cases hf : max x1 a < y
        · have t3 : decide (max x1 a < y) = true := by simpa using hf
          go_wp2_with fail
          go_quiet (fail)
          go_wp2_with fail
          go_roundw
          case rel => exact ⟨k + 1, some (max x1 a), by omega, rfl, congrArg _ (ite_max x1 a), by go_num, Lib.hid (by rw [HT.out]; exact next_less hN.out h1' h2' hf), _, rfl⟩
          case measure => simp [intOf]; omega
        · have t3 : decide (max x1 a < y) = false := by simpa using hf
          go_wp2_with fail
          go_quiet (fail)
          go_wp2_with fail
          go_roundw
          case rel => exact ⟨k + 1, some y, by omega, rfl, rfl, by go_num, Lib.hid (by rw [HT.out]; exact next_keep hN.out (by simp only; omega)), _, rfl⟩
          case measure => simp [intOf]; omega
    · obtain rfl : k = l.length := by omega
      rw [List.take_length] at hN
      go_wp2
      go_ret2
      exact ⟨r, hN.out, rfl, q, rfl⟩
def EndPost (l : List (Int × Int)) (a : Int) (w : World) (e : Ending) (w' : World) : Prop := ∃ r, EndIs l a r ∧ r ≤ 9223372036854775807 ∧ e = .returned (.int .i64 r) ∧ w = w'
def mvd (v : Value) : Nat := match v with | .bool true => 1 | _ => 0
set_option maxHeartbeats 2000000 in
set_option maxRecDepth 100000 in
theorem refEnd_any (v : Value) (l : List (Int × Int)) (a : Int) (w : World) (h : Rgs w v l) (hl : l.length ≤ 140737488355328) (hm : Mem a l) (hi : ∀ g ∈ l, g.2 ≤ 9223372036854775807) :
    Calls Tryd.prog 67 #[v, .int .i64 a] w (EndPost l a w) := by
  obtain ⟨ao, cap, rfl, _, hr⟩ := h.cells
  have ha : a ≤ 9223372036854775807 := by obtain ⟨g, hg, h1, h2⟩ := hm; have := hi g hg; omega
  have HM := Lib.hid hm; have HI := Lib.hid hi
  clear h hm hi
  go_enter Tryd.func67, Tryd.ntmps67
  go_wp2
  go_loopw [1, 5] (fun t m wr => ∃ (b : Int) (mv : Bool), a ≤ b ∧ b ≤ 9223372036854775807 ∧ t = .int .i64 b ∧ m = .bool mv ∧ Hid (∀ x, a ≤ x → x < b → Mem x l) ∧ Hid (mv = false → ¬ Mem b l) ∧ wr = w) (fun t m _ => (9223372036854775807 - intOf t).toNat + mvd m)
  case atStart => exact ⟨a, true, Int.le_refl _, ha, rfl, rfl, Lib.hid fun x h1 h2 => by omega, Lib.hid (fun h => by cases h), rfl⟩
  case round =>
    obtain ⟨b, mv, hab, hb, rfl, rfl, hA, hN, rfl⟩ := hrel
    cases mv with
    | false =>
      have HN := Lib.hid (hN.out rfl)
      clear hN
      go_wp2
      go_ret
      refine ⟨b, ⟨?_, hA.out, HN.out⟩, hb, rfl, rfl⟩
      by_cases e : a = b
      · subst e; exact absurd HM.out HN.out
      · omega
    | true =>
      obtain ⟨wo, hwo⟩ : ∃ wo, wo = wr := ⟨_, rfl⟩
      subst hwo
      clear hN
      go_wp2
      go_loopw [1, 5, 6] (fun t m i wr => ∃ (b' : Int) (mv : Bool) (k : Nat), k ≤ l.length ∧ b ≤ b' ∧ b' ≤ 9223372036854775807 ∧ t = .int .i64 b' ∧ m = .bool mv ∧ i = .int .i64 k ∧ Hid (∀ x, a ≤ x → x < b' → Mem x l) ∧
        Hid (mv = false → b' = b ∧ ∀ j g, j < k → l[j]? = some g → ¬ (g.1 ≤ b ∧ b < g.2)) ∧ Hid (mv = true → b < b') ∧ wr = wo) (fun _ _ i _ => l.length - (intOf i).toNat)
      case atStart => exact ⟨b, false, 0, Nat.zero_le _, Int.le_refl _, hb, rfl, rfl, rfl, hA, Lib.hid fun _ => ⟨rfl, fun j g hj => absurd hj (Nat.not_lt_zero _)⟩, Lib.hid (fun h => by cases h), rfl⟩
      case round =>
        obtain ⟨b', mv, k, hk, hbb, hb', rfl, rfl, rfl, hA', hF, hT, rfl⟩ := hrel
        by_cases hlt : k < l.length
        · obtain ⟨bl, off, rfl, hc⟩ := hr (by omega)
          obtain ⟨c0, c1⟩ := hc k _ (List.getElem?_eq_getElem hlt)
          obtain ⟨x, hx⟩ : ∃ x, x = l[k] := ⟨_, rfl⟩
          rw [← hx] at c0 c1
          have hat : l[k]? = some x := by rw [List.getElem?_eq_getElem hlt, hx]
          have hx2 := HI.out x (List.mem_of_getElem? hat)
          obtain ⟨x1, x2⟩ := x
          simp only at c0 c1 hx2
          have HA := Lib.hid hat
          have ix : (k : Int) < l.length := by omega
          clear hx hc hr hat
          have keep : ¬ (x1 ≤ b' ∧ b' < x2) → Hid (mv = false → b' = b ∧ ∀ j g, j < k + 1 → l[j]? = some g → ¬ (g.1 ≤ b ∧ b < g.2)) := fun hno => Lib.hid fun hf => by
            obtain ⟨e, hh⟩ := hF.out hf
            refine ⟨e, fun j g hj hg => ?_⟩
            by_cases ej : j = k
            · subst ej; rw [HA.out] at hg; injection hg with hg; subst hg; simp only; omega
            · exact hh j g (by omega) hg
          have KEEP := Lib.hid keep
          clear keep
          by_cases h1 : x1 ≤ b'
          · by_cases h2 : b' < x2
            · go_wp2_with fail
              go_roundw
              case rel => exact ⟨x2, true, k + 1, by omega, by omega, hx2, rfl, rfl, by go_num, Lib.hid fun z hz1 hz2 => by
                by_cases hzb : z < b'
                · exact hA'.out z hz1 hzb
                · exact ⟨(x1, x2), List.mem_of_getElem? HA.out, by simp only; omega, hz2⟩, Lib.hid (fun h => by cases h), Lib.hid (fun _ => by omega), by first | rfl | trivial⟩
              case measure => simp [intOf]; omega
            · have t2 : decide (b' < x2) = false := by simpa using h2
              go_wp2_with fail
              go_roundw
              case rel => exact ⟨b', mv, k + 1, by omega, hbb, hb', rfl, rfl, by go_num, hA', KEEP.out (by omega), hT, by first | rfl | trivial⟩
              case measure => simp [intOf]; omega
          · have t1 : decide (x1 ≤ b') = false := by simpa using h1
            go_wp2_with fail
            go_roundw
            case rel => exact ⟨b', mv, k + 1, by omega, hbb, hb', rfl, rfl, by go_num, hA', KEEP.out (by omega), hT, by first | rfl | trivial⟩
            case measure => simp [intOf]; omega
        · obtain rfl : k = l.length := by omega
          go_wp2
          go_roundw
          case rel => exact ⟨b', mv, by omega, hb', rfl, rfl, hA', Lib.hid fun hf => by
            obtain ⟨e, hh⟩ := hF.out hf
            rw [e]
            exact not_mem_of fun i g hg => hh i g (List.getElem?_eq_some_iff.1 hg).1 hg, by first | rfl | trivial⟩
          case measure =>
            cases mv with
            | false => simp [intOf, mvd]; omega
            | true => have := hT.out rfl; simp [intOf, mvd]; omega
end Go.Proofs.YtghjffgaebnhiaaDoor
