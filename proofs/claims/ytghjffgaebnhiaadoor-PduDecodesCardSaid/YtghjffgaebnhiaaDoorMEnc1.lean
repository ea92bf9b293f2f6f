/- octet.AppendBytes, pdu.numbers. -/
import Derived.Test.YtghjffgaebnhiaaDoorMOct2
namespace Go.Proofs.YtghjffgaebnhiaaDoor
set_option linter.unusedVariables false
set_option linter.unusedSimpArgs false
open Go.RowKit
set_option maxHeartbeats 1000000 in
set_option maxRecDepth 100000 in
theorem appendBytes_any (v u : Value) (l m : List UInt8) (w : World) (hb : Bs w v l) (hu : Bs w u m) (hl : l.length + 10 + m.length ≤ 140737488355328) :
    Calls Tryd.prog 95 #[v, u] w fun e w' => ∃ v', e = .returned v' ∧ w'.ownsRow w.heap.size 5 1 v' (l ++ (dig m.length ++ m)).length ((l ++ (dig m.length ++ m)).map ub) ∧ Below w.heap.size w w' := by
  obtain ⟨ao, cap, rfl, -⟩ := id hb
  obtain ⟨bo, bcap, rfl, -⟩ := id hu
  obtain ⟨n, hn⟩ : ∃ n, n = l.length := ⟨_, rfl⟩
  obtain ⟨k, hk⟩ : ∃ k, k = m.length := ⟨_, rfl⟩
  have hd10 : (dig m.length).length ≤ 10 := dig_len (by omega)
  have hc := appendNumber_any (.slice ao l.length cap) l k (by omega) w hb (by omega)
  have hcw : (k : Int) % 18446744073709551616 = (k : Int) := by omega
  have hcw2 : IntKind.u64.wrap (k : Int) = (k : Int) := by rw [IntKind.wrap_u64]; exact hcw
  rw [← hn] at hc
  rw [← hn, ← hk]
  have HC := Lib.hid hc; have HU := Lib.hid hu; have HN := Lib.hid hn; have HK := Lib.hid hk; have HL := Lib.hid hl; have H10 := Lib.hid hd10
  clear hc hb hu hn hl hd10 hk
  go_enter Tryd.func95, Tryd.ntmps95
  go_wp2_with fail
  refine HC.out.mono ?_
  rintro e w1 ⟨v1, rfl, ho, hB⟩
  have hz := hB.size
  obtain ⟨M, hM⟩ : ∃ M, M = (l ++ dig k).length := ⟨_, rfl⟩
  rw [← hM] at ho
  obtain ⟨a1, c1, rfl, -⟩ := own_open ho
  have HM := Lib.hid hM
  have HO := Lib.hid ho; have HB := Lib.hid hB; have HU1 : Hid (Rd w1 (.slice bo k bcap) k (m.map ub)) := Lib.hid (by rw [HK.out]; exact Rd.later HU.out hB)
  have hbd : (M + k) * 1 ≤ 140737488355328 := by have h1 := HL.out; have h2 := H10.out; have h3 := HK.out; rw [hM, List.length_append]; rw [← h3] at h1 h2; omega
  have hml : (m.map ub).length = k * 1 := by rw [List.length_map, HK.out, Nat.mul_one]
  have HML := Lib.hid hml
  clear ho hB hml hM
  go_wp2_with (at_builtin; go_loud (refine wpList_app El.u8 rfl (.tmp 9) (.tmp 10) rfl HO.out rfl HU1.out rfl HML.out (ub_one m) hbd hz ?_); intro v2 w2 hown2 hgr2 _; go_loud (
    have h2 : w2.ownsRow w.heap.size 5 1 v2 (l ++ (dig k ++ m)).length ((l ++ (dig k ++ m)).map ub) := by
      have e1 : (l ++ (dig k ++ m)).length = M + k := by rw [← List.append_assoc, List.length_append, HM.out, HK.out]
      have e2 : (l ++ (dig k ++ m)).map ub = (l ++ dig k).map ub ++ m.map ub := by rw [← List.append_assoc, List.map_append]
      rw [e1, e2]
      exact hown2
    have hb2 := HB.out.grown hgr2 hz (fun q hq => (HO.out.lt q hq).1)
    have H2 := Lib.hid h2
    have HB2 := Lib.hid hb2
    clear h2 hb2 hown2 hgr2))
  go_ret
  exact ⟨_, rfl, H2.out, HB2.out⟩
def u64v (n : Nat) : Value := .int .u64 (n : Int)
/-- numbers, one behind the other. -/
def digs (ns : List Nat) : List UInt8 := ns.flatMap dig
theorem digs_len (ns : List Nat) (h : ∀ n ∈ ns, n < 18446744073709551616) : (digs ns).length ≤ ns.length * 10 := by
  induction ns with
  | nil => simp [digs]
  | cons n ns ih =>
    have h1 := dig_len (h n (List.mem_cons_self ..))
    have h2 := ih fun x hx => h x (List.mem_cons_of_mem _ hx)
    rw [digs, List.flatMap_cons, List.length_append, List.length_cons]
    unfold digs at h2
    omega
theorem digs_take (ns : List Nat) (k : Nat) (h : k < ns.length) : digs (ns.take (k + 1)) = digs (ns.take k) ++ dig ns[k] := by
  rw [digs, digs, List.take_succ_eq_append_getElem h, List.flatMap_append]
  simp
set_option maxHeartbeats 2000000 in
set_option maxRecDepth 100000 in
theorem numbers_any (v : Value) (l : List UInt8) (g k : Nat) (ns : List Nat) (w : World) (hb : Bs w v l) (hg : Blk w g 22 (ns.map u64v)) (hk : k = ns.length) (hn : ∀ n ∈ ns, n < 18446744073709551616) (hk9 : k ≤ 16) (hl : l.length + 170 ≤ 140737488355328) :
    Calls Tryd.prog 40 #[v, .slice (some ⟨g, 0, none⟩) k k] w fun e w' => ∃ v', e = .returned v' ∧ (w'.ownsRow w.heap.size 5 1 v' (l ++ digs ns).length ((l ++ digs ns).map ub) ∨ ns = [] ∧ v' = v) ∧ Below w.heap.size w w' := by
  have HB := Lib.hid hb; have HG := Lib.hid hg; have HK := Lib.hid hk; have HN := Lib.hid hn; have HL := Lib.hid hl
  obtain ⟨ao, cap, rfl, -⟩ := id hb
  obtain ⟨N, hN⟩ : ∃ N, N = l.length := ⟨_, rfl⟩
  have HNN := Lib.hid hN
  rw [← hN]
  clear hb hg hk hn hl hN
  go_enter Tryd.func40, Tryd.ntmps40
  go_wp2_with fail
  go_loopw [0, 6, 9] (fun bv _ iv wr => ∃ j : Nat, j ≤ k ∧ iv = .int .i64 (j : Int) ∧ Hid (Below w.heap.size w wr) ∧ ((j = 0 ∧ bv = .slice ao N cap) ∨ (0 < j ∧ Hid (wr.ownsRow w.heap.size 5 1 bv (l ++ digs (ns.take j)).length ((l ++ digs (ns.take j)).map ub))))) (fun _ _ iv _ => k - (intOf iv).toNat)
  case atStart => exact ⟨0, Nat.zero_le _, rfl, Lib.hid (Below.refl _ _), .inl ⟨rfl, rfl⟩⟩
  case round =>
    obtain ⟨j, hj, rfl, HW, hv⟩ := hrel
    by_cases hlt : j < k
    · have hjl : j < ns.length := by rw [← HK.out]; exact hlt
      have ix : (j : Int) < (k : Int) := by omega
      have hbv : ∃ ao1 n1 cap1, u0 = .slice ao1 n1 cap1 ∧ Bs wr (.slice ao1 n1 cap1) (l ++ digs (ns.take j)) := by
        rcases hv with ⟨rfl, rfl⟩ | ⟨h0, H⟩
        · refine ⟨ao, N, cap, rfl, ?_⟩
          rw [List.take_zero]
          show Bs _ _ (l ++ [])
          rw [List.append_nil]
          have := Rd.later HB.out HW.out
          show Rd wr (.slice ao N cap) l.length _
          rw [← HNN.out] at this ⊢
          exact this
        · obtain ⟨a1, c1, h1, -⟩ := own_open H.out
          exact ⟨a1, _, c1, h1, h1 ▸ Rd.of_own H.out⟩
      clear hv
      obtain ⟨ao1, n1, cap1, rfl, hbs⟩ := hbv
      have hx := HN.out ns[j] (List.getElem_mem hjl)
      have hlen : (l ++ digs (ns.take j)).length + 10 ≤ 140737488355328 := by
        have h1 := digs_len (ns.take j) fun n hn => HN.out n (List.mem_of_mem_take hn)
        have h2 : (ns.take j).length ≤ 16 := by rw [List.length_take, ← HK.out]; omega
        have h3 := HL.out
        rw [List.length_append]
        omega
      obtain ⟨x, hxx⟩ : ∃ x, x = ns[j] := ⟨_, rfl⟩
      have e0 := (HG.out.later HW.out).cell_some (i := j) (v := u64v x) (by rw [List.getElem?_map, List.getElem?_eq_getElem hjl, ← hxx]; rfl)
      unfold u64v at e0
      have hc := appendNumber_any _ _ x (by rw [hxx]; exact hx) wr hbs hlen
      have HC := Lib.hid hc
      have HX := Lib.hid hxx
      clear hbs hx hlen hc hxx
      go_wp2_with fail
      refine HC.out.mono ?_
      rintro e w1 ⟨v1, rfl, ho, hB⟩
      have H1 : Hid (w1.ownsRow w.heap.size 5 1 v1 (l ++ digs (ns.take (j + 1))).length ((l ++ digs (ns.take (j + 1))).map ub)) := Lib.hid (by
        rw [digs_take ns j hjl, ← List.append_assoc, ← HX.out]
        exact own_mono ho HW.out.size)
      have HB1 := Lib.hid (below_trans HW.out hB)
      clear ho hB
      go_wp2_with fail
      go_roundw
      case rel => exact ⟨j + 1, by omega, by go_num, HB1, .inr ⟨by omega, H1⟩⟩
      case measure => simp [intOf]; omega
    · obtain rfl : j = k := by omega
      go_wp2_with fail
      go_ret
      rcases hv with ⟨rfl, rfl⟩ | ⟨h0, H⟩
      · exact ⟨_, rfl, .inr ⟨List.length_eq_zero_iff.1 HK.out.symm, rfl⟩, HW.out⟩
      · refine ⟨_, rfl, .inl ?_, HW.out⟩
        have := H.out
        rw [HK.out, List.take_length] at this
        exact this
end Go.Proofs.YtghjffgaebnhiaaDoor
