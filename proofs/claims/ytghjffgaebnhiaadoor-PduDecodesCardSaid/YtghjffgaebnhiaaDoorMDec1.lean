/- slices.Clone, slices.Equal of bytes. -/
import Derived.Test.YtghjffgaebnhiaaDoorMEnc1
import Derived.Lib.SliceRun
namespace Go.Proofs.YtghjffgaebnhiaaDoor
set_option linter.unusedVariables false
set_option linter.unusedSimpArgs false
open Go.RowKit
set_option maxHeartbeats 1000000 in
set_option maxRecDepth 100000 in
theorem clone_any (v : Value) (l : List UInt8) (w : World) (hb : Bs w v l) (hl : l.length ≤ 140737488355328) :
    Calls Tryd.prog 61 #[v] w fun e w' => ∃ v', e = .returned v' ∧ w'.ownsRow w.heap.size 5 1 v' l.length (l.map ub) ∧ Below w.heap.size w w' := by
  obtain ⟨ao, cap, rfl, -⟩ := id hb
  obtain ⟨n, hn⟩ : ∃ n, n = l.length := ⟨_, rfl⟩
  have hr : Rd w (.slice ao n cap) n (l.map ub) := by rw [hn]; exact hb
  have hml : (l.map ub).length = n * 1 := by simp [hn]
  rw [← hn] at hl ⊢
  have HN := Lib.hid hn; have HR := Lib.hid hr; have HML := Lib.hid hml
  clear hn hb hr hml
  cases ao with
  | none =>
    have hn0 : n = 0 ∧ l = [] := by
      rcases l with _ | ⟨x, l⟩
      · exact ⟨HN.out, rfl⟩
      · obtain ⟨ao, c, h1, -, -, h2⟩ := HR.out
        injection h1 with h1
        obtain ⟨b, off, h3, -⟩ := h2 (by simp)
        rw [h3] at h1
        cases h1
    obtain ⟨rfl, rfl⟩ := hn0
    have ts : (binOp .eql 23 (.slice none 0 cap) (.slice none 0 0)).run Tryd.prog w = .ok (.bool true) w := Go.Lib.run_eql_slice_nil w _ 5 none 0 cap 0 0 rfl
    go_enter Tryd.func61, Tryd.ntmps61
    go_wp2_with fail
    go_ret
    exact ⟨_, rfl, World.ownsRow_nil _ _ _ _, Below.refl _ _⟩
  | some a =>
    have ts : (binOp .eql 23 (.slice (some a) n cap) (.slice none 0 0)).run Tryd.prog w = .ok (.bool false) w := Go.Lib.run_eql_slice_nil w _ 5 (some a) n cap 0 0 rfl
    have hbd : (0 + n) * 1 ≤ 140737488355328 := by omega
    go_enter Tryd.func61, Tryd.ntmps61
    go_wp2_with (at_builtin; go_loud (refine wpList_app El.u8 rfl (.tmp 5) (.tmp 6) rfl (base := w.heap.size) (n := 0) (xs := []) (own_of_blk (rest := []) (by exact Blk.new w _ []) (Nat.le_refl _) rfl (Nat.le_refl _) (by simp [maxLen]) rfl) rfl (HR.out.alloc _) rfl HML.out (ub_one l) hbd (by simp) ?_); intro v1 w1 hown1 hgr1 _; go_loud (
      have h1 : w1.ownsRow w.heap.size 5 1 v1 n (l.map ub) := by
        rw [Nat.zero_add, List.nil_append] at hown1
        exact hown1
      have hb1 : Below w.heap.size w w1 := ((Below.refl _ _).alloc (Nat.le_refl _) _).grown hgr1 (by simp) (fun q hq => by have : w.heap.size = q := Option.some.inj hq; omega)
      have H1 := Lib.hid h1
      have HB1 := Lib.hid hb1
      clear h1 hb1 hown1 hgr1))
    go_ret
    exact ⟨_, rfl, H1.out, HB1.out⟩
set_option maxHeartbeats 1000000 in
set_option maxRecDepth 100000 in
theorem equal_any (v u : Value) (l m : List UInt8) (w : World) (hb : Bs w v l) (hu : Bs w u m) :
    Calls Tryd.prog 83 #[v, u] w fun e w' => e = .returned (.bool (decide (l = m))) ∧ ∃ q, w' = w.drewN q := by
  obtain ⟨ao, cap, rfl, _, _, hc⟩ := id hb
  obtain ⟨bo, bcap, rfl, _, _, hd⟩ := id hu
  obtain ⟨n, hn⟩ : ∃ n, n = l.length := ⟨_, rfl⟩
  obtain ⟨k, hk⟩ : ∃ k, k = m.length := ⟨_, rfl⟩
  obtain ⟨R, hR⟩ : ∃ R, R = decide (l = m) := ⟨_, rfl⟩
  rw [← hn, ← hk, ← hR]
  have hnm : n ≤ 9223372036854775807 := by
    obtain ⟨_, _, h1, h2, h3, _⟩ := hb
    injection h1 with _ _ h4
    have h5 : maxLen = 9223372036854775807 := by decide
    omega
  have HN := Lib.hid hn; have HK := Lib.hid hk; have HR := Lib.hid hR; have HC := Lib.hid hc; have HD := Lib.hid hd
  clear hn hk hR hc hd hb hu
  by_cases hnk : n = k
  · subst hnk
    go_enter Tryd.func83, Tryd.ntmps83
    go_wp2_with fail
    go_loopw [5, 13] (fun _ iv wr => ∃ j q : Nat, j ≤ n ∧ iv = .int .i64 (j : Int) ∧ Hid (l.take j = m.take j) ∧ wr = w.drewN q) (fun _ iv _ => n - (intOf iv).toNat)
    case atStart => exact ⟨0, 0, Nat.zero_le _, rfl, Lib.hid rfl, rfl⟩
    case round =>
      obtain ⟨j, q, hj, rfl, HT, rfl⟩ := hrel
      by_cases hlt : j < n
      · have ix : (j : Int) < (n : Int) := by omega
        have hjl : j < l.length := by rw [← HN.out]; exact hlt
        have hjm : j < m.length := by rw [← HK.out]; exact hlt
        obtain ⟨b1, o1, rfl, h1⟩ := HC.out (fun h => by have h1 := congrArg List.length h; rw [List.length_map, List.length_nil] at h1; omega)
        obtain ⟨b2, o2, rfl, h2⟩ := HD.out (fun h => by have h1 := congrArg List.length h; rw [List.length_map, List.length_nil] at h1; omega)
        have c1 := h1 j (.int .u8 (l[j].toNat : Int)) (by rw [List.getElem?_map, List.getElem?_eq_getElem hjl]; rfl)
        have c2 := h2 j (.int .u8 (m[j].toNat : Int)) (by rw [List.getElem?_map, List.getElem?_eq_getElem hjm]; rfl)
        obtain ⟨X, hX⟩ : ∃ X, X = l[j].toNat := ⟨_, rfl⟩
        obtain ⟨Y, hY⟩ : ∃ Y, Y = m[j].toNat := ⟨_, rfl⟩
        rw [← hX] at c1
        rw [← hY] at c2
        by_cases hxy : X = Y
        · have HT2 : Hid (l.take (j + 1) = m.take (j + 1)) := Lib.hid (by
            rw [List.take_succ_eq_append_getElem hjl, List.take_succ_eq_append_getElem hjm, HT.out, UInt8.toNat_inj.1 (hX.symm.trans (hxy.trans hY))])
          have t1 : ((X : Int) != (Y : Int)) = false := by rw [hxy]; simp
          clear h1 h2 hX hY hxy
          go_wp2_with fail
          go_quiet (fail)
          go_wp2_with fail
          go_roundw
          case rel => exact ⟨j + 1, _, by omega, by go_num, HT2, rfl⟩
          case measure => simp [intOf]; omega
        · have HF : Hid (R = false) := Lib.hid (by
            rw [HR.out]
            refine decide_eq_false fun h => hxy ?_
            subst h
            rw [hX, hY])
          have t1 : ((X : Int) != (Y : Int)) = true := by simp; omega
          clear h1 h2 hX hY hxy
          go_wp2_with fail
          go_quiet (fail)
          go_wp2_with fail
          go_ret
          exact ⟨by rw [HF.out]; rfl, q + nq, by first | rfl | simp⟩
      · obtain rfl : j = n := by omega
        have HF : Hid (R = true) := Lib.hid (by
          have h := HT.out
          rw [List.take_of_length_le (by have := HN.out; omega), List.take_of_length_le (by have := HK.out; omega)] at h
          rw [HR.out, h]
          exact decide_eq_true rfl)
        go_wp2_with fail
        go_ret
        exact ⟨by rw [HF.out]; rfl, _, rfl⟩
  · have HF : Hid (R = false) := Lib.hid (by
      rw [HR.out]
      refine decide_eq_false fun h => hnk ?_
      rw [HN.out, HK.out, h])
    have t1 : ((n : Int) != (k : Int)) = true := by simp; omega
    have t2 : ¬ (n : Int) = (k : Int) := by omega
    go_enter Tryd.func83, Tryd.ntmps83
    go_wp2_with fail
    go_ret
    exact ⟨by rw [HF.out]; rfl, 0, rfl⟩
end Go.Proofs.YtghjffgaebnhiaaDoor
