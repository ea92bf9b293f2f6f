/- halyardref01: AppendNumber, AppendBytes, CRC, Seal. -/
import Derived.Test.YtghjffgaebnhiaaDoorMRef1
namespace Go.Proofs.YtghjffgaebnhiaaDoor
set_option linter.unusedVariables false
set_option linter.unusedSimpArgs false
open Go.RowKit
theorem bs_own {w : World} {base : Nat} {v : Value} {l : List UInt8} (h : w.ownsRow base 5 1 v l.length (l.map ub)) : Bs w v l := Rd.of_own h
set_option maxHeartbeats 2000000 in
set_option maxRecDepth 100000 in
theorem refAppendNumber_any (v : Value) (l : List UInt8) (n : Nat) (hn : n < 18446744073709551616) (w : World) (hb : Bs w v l) (hl : l.length + 10 ≤ 140737488355328) :
    Calls Tryd.prog 81 #[v, .int .u64 (n : Int)] w fun e w' => ∃ v', e = .returned v' ∧ w'.ownsRow w.heap.size 5 1 v' (l ++ dig n).length ((l ++ dig n).map ub) ∧ Below w.heap.size w w' := by
  obtain ⟨ao, cap, rfl, -⟩ := id hb
  obtain ⟨N, hN⟩ : ∃ N, N = l.length := ⟨_, rfl⟩
  obtain ⟨D, hD⟩ : ∃ D, D = (dig n).length := ⟨_, rfl⟩
  have hD10 : D ≤ 10 := by rw [hD]; exact dig_len hn
  have hr : Rd w (.slice ao N cap) N (l.map ub) := by rw [hN]; exact hb
  have hml : (l.map ub).length = N * 1 := by simp [hN]
  have HR := Lib.hid hr; have HML := Lib.hid hml; have HN := Lib.hid hN; have HD := Lib.hid hD
  rw [← hN] at hl ⊢
  have hbd : (0 + N) * 1 ≤ 140737488355328 := by omega
  have hbd2 : (N + D) * 1 ≤ 140737488355328 := by omega
  clear hb hr hml hN hD
  go_enter Tryd.func81, Tryd.ntmps81
  go_wp2_with (first
    | (at_builtin; refine wpList_app El.u8 rfl (.const (.slice none 0 0)) (.tmp 6) rfl (World.ownsRow_nil _ w.heap.size _ _) rfl HR.out rfl HML.out (ub_one l) hbd (Nat.le_refl _) ?_; intro v1 w1 hown1 hgr1 _; go_loud (
        have hB1 : Below w.heap.size w w1 := (Below.refl w.heap.size w).grown hgr1 (Nat.le_refl _) (by simp [Value.ownBlock])
        rw [Nat.zero_add, List.nil_append] at hown1
        obtain ⟨a1, c1, hv1, -⟩ := own_open hown1
        subst hv1
        have hz1 := hB1.size); have HO1 := Lib.hid hown1; have HB1 := Lib.hid hB1; clear hown1 hgr1 hB1)
    | fail)
  refine (refDigits_any n hn w1).mono ?_
  rintro e w2 ⟨v2, rfl, ho2, hB2⟩
  rw [← HD.out] at ho2
  obtain ⟨a2, c2, rfl, -⟩ := own_open ho2
  have HO2 := Lib.hid ho2; have HO12 := Lib.hid (own_later HO1.out hB2); have HB2 := Lib.hid (below_trans HB1.out hB2)
  have hz2 : w.heap.size ≤ w2.heap.size := HB2.out.size
  have HDL : Hid (((dig n).map ub).length = D * 1) := Lib.hid (by rw [List.length_map, HD.out, Nat.mul_one])
  clear ho2 hB2
  go_wp2_with (first
    | (at_builtin; refine wpList_app El.u8 rfl (.tmp 8) (.tmp 10) rfl HO12.out rfl (Rd.of_own HO2.out) rfl HDL.out (ub_one _) hbd2 hz2 ?_; intro v3 w3 hown3 hgr3 _; go_loud (
        have h3 : w3.ownsRow w.heap.size 5 1 v3 (l ++ dig n).length ((l ++ dig n).map ub) := by
          have e1 : (l ++ dig n).length = N + D := by rw [List.length_append, ← HN.out, ← HD.out]
          have e2 : (l ++ dig n).map ub = l.map ub ++ (dig n).map ub := by rw [List.map_append]
          rw [e1, e2]
          exact hown3
        have hb3 := HB2.out.grown hgr3 hz2 (fun q hq => (HO12.out.lt q hq).1)); have H3 := Lib.hid h3; have HB3 := Lib.hid hb3; clear hown3 hgr3 h3 hb3)
    | fail)
  go_ret
  exact ⟨_, rfl, H3.out, HB3.out⟩
set_option maxHeartbeats 2000000 in
set_option maxRecDepth 100000 in
theorem refAppendBytes_any (v u : Value) (l m : List UInt8) (w : World) (hb : Bs w v l) (hu : Bs w u m) (hl : l.length + 10 + m.length ≤ 140737488355328) :
    Calls Tryd.prog 42 #[v, u] w fun e w' => ∃ v', e = .returned v' ∧ w'.ownsRow w.heap.size 5 1 v' (l ++ (dig m.length ++ m)).length ((l ++ (dig m.length ++ m)).map ub) ∧ Below w.heap.size w w' := by
  obtain ⟨ao, cap, rfl, -⟩ := id hb
  obtain ⟨bo, bcap, rfl, -⟩ := id hu
  obtain ⟨n, hn⟩ : ∃ n, n = l.length := ⟨_, rfl⟩
  obtain ⟨k, hk⟩ : ∃ k, k = m.length := ⟨_, rfl⟩
  have hd10 : (dig m.length).length ≤ 10 := dig_len (by omega)
  have hc := refAppendNumber_any (.slice ao l.length cap) l k (by omega) w hb (by omega)
  have hcw : (k : Int) % 18446744073709551616 = (k : Int) := by omega
  have hcw2 : IntKind.u64.wrap (k : Int) = (k : Int) := by rw [IntKind.wrap_u64]; exact hcw
  rw [← hn] at hc
  rw [← hn, ← hk]
  have HC := Lib.hid hc; have HU := Lib.hid hu; have HN := Lib.hid hn; have HK := Lib.hid hk; have HL := Lib.hid hl; have H10 := Lib.hid hd10
  clear hc hb hu hn hl hd10 hk
  go_enter Tryd.func42, Tryd.ntmps42
  go_wp2_with fail
  refine HC.out.mono ?_
  rintro e w1 ⟨v1, rfl, ho, hB⟩
  have hz := hB.size
  obtain ⟨M, hM⟩ : ∃ M, M = (l ++ dig k).length := ⟨_, rfl⟩
  rw [← hM] at ho
  obtain ⟨a1, c1, rfl, -⟩ := own_open ho
  have HM := Lib.hid hM
  have HO := Lib.hid ho; have HB := Lib.hid hB; have HU1 : Hid (Rd w1 (.slice bo k bcap) k (m.map ub)) := Lib.hid (by rw [HK.out]; exact Rd.later HU.out hB)
  have hbd : (M + k) * 1 ≤ 140737488355328 := by have h1 := HL.out; have h2 := H10.out; have h3 := HK.out; rw [hM, List.length_append]; rw [← h3] at h1 h2; omega
  have hml : (m.map ub).length = k * 1 := by rw [List.length_map, HK.out, Nat.mul_one]
  have HML := Lib.hid hml
  clear ho hB hml hM
  go_wp2_with (at_builtin; go_loud (refine wpList_app El.u8 rfl (.tmp 11) (.tmp 12) rfl HO.out rfl HU1.out rfl HML.out (ub_one m) hbd hz ?_); intro v2 w2 hown2 hgr2 _; go_loud (
    have h2 : w2.ownsRow w.heap.size 5 1 v2 (l ++ (dig k ++ m)).length ((l ++ (dig k ++ m)).map ub) := by
      have e1 : (l ++ (dig k ++ m)).length = M + k := by rw [← List.append_assoc, List.length_append, HM.out, HK.out]
      have e2 : (l ++ (dig k ++ m)).map ub = (l ++ dig k).map ub ++ m.map ub := by rw [← List.append_assoc, List.map_append]
      rw [e1, e2]
      exact hown2
    have hb2 := HB.out.grown hgr2 hz (fun q hq => (HO.out.lt q hq).1)
    have H2 := Lib.hid h2
    have HB2 := Lib.hid hb2
    clear h2 hb2 hown2 hgr2))
  go_ret
  exact ⟨_, rfl, H2.out, HB2.out⟩
end Go.Proofs.YtghjffgaebnhiaaDoor
