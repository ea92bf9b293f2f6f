/- stays: the lent unit is as it was. -/
import Derived.Test.YtfaemjlemaclbaaGreatMILent
import Derived.IntWalk
namespace Go.Proofs.YtfaemjlemaclbaaGreat
set_option linter.unusedVariables false
set_option linter.unusedSimpArgs false
open Go.RowKit
theorem cat_marks (data : List UInt8) (hl : data.length ≤ 140737488351232) (W : World) : (binOp .add 9 (.string (str data)) (.string { data := #[11, 12, 13, 14, 15, 16, 17, 18] })).run Tryz.prog W = .ok (.string (str (data ++ marks))) W := by
  have e : str data ++ { data := #[11, 12, 13, 14, 15, 16, 17, 18] } = str (data ++ marks) := by
    apply ByteArray.ext
    simp [str, marks]
  have hs := str_size data
  simp [go_sem, Tryz.underlying9, e]
  omega
theorem cat_eq (data : List UInt8) : str data ++ { data := #[11, 12, 13, 14, 15, 16, 17, 18] } = str (data ++ marks) := by
  apply ByteArray.ext
  simp [str, marks]
theorem run_neq_rng (a : Int) (b : Int) (W : World) : (binOp .neq 63 (.agg #[.int .i64 a, .int .i64 b]) (.agg #[.int .i64 a, .int .i64 b])).run Tryz.prog W = .ok (.bool false) W := by
  simp [go_sem, Tryz.underlying63, Tryz.underlying3]
set_option maxHeartbeats 2000000 in
set_option maxRecDepth 100000 in
theorem stays_any (u : UD) (dv gv : Value) (w : World) (hd : Bs w dv u.data) (hg : Rgs w gv u.got) {base b1 c1 b2 c2 : Nat} (hL : Lends base w u b1 c1 b2 c2) (hl1 : u.data.length ≤ 140737488351232) (hl2 : u.got.length ≤ 8796093022000) :
    Calls Tryz.prog 29 #[uv u (.slice (some ⟨b1, 0, none⟩) u.data.length c1) (.slice (some ⟨b2, 0, none⟩) u.got.length c2), uv u dv gv] w fun e w' => e = .returned (.bool true) ∧ Below w.heap.size w w' := by
  obtain ⟨k1, k1', k2, k2'⟩ := hL.cap
  obtain ⟨kind, ep, ses, path, idx, cnt, data, code, got⟩ := u
  simp only at hd hg hl1 hl2 k1 k2
  obtain ⟨dp, dc, rfl, dn, dm, -⟩ := id hd
  obtain ⟨gp, gc, rfl, gn, gm, -⟩ := id hg
  simp only [uv]
  obtain ⟨W0, hW0⟩ : ∃ W0, W0 = (w.alloc (.cells #[.int .i64 kind, .int .u64 (ep.toNat : Int), .int .u64 (ses.toNat : Int), .int .i64 path, .int .i64 idx, .int .i64 cnt, .slice (some ⟨b1, 0, none⟩) data.length c1, .int .i64 code, .slice (some ⟨b2, 0, none⟩) got.length c2] 35)).alloc (.cells #[.int .i64 kind, .int .u64 (ep.toNat : Int), .int .u64 (ses.toNat : Int), .int .i64 path, .int .i64 idx, .int .i64 cnt, .slice dp data.length dc, .int .i64 code, .slice gp got.length gc] 35) := ⟨_, rfl⟩
  have hB0 : Below w.heap.size w W0 := hW0 ▸ ((Below.refl _ _).alloc (Nat.le_refl _) _).alloc (by simp) _
  have hu0 : Blk W0 w.heap.size 35 [.int .i64 kind, .int .u64 (ep.toNat : Int), .int .u64 (ses.toNat : Int), .int .i64 path, .int .i64 idx, .int .i64 cnt, .slice (some ⟨b1, 0, none⟩) data.length c1, .int .i64 code, .slice (some ⟨b2, 0, none⟩) got.length c2] := hW0 ▸ (Blk.new w _ _).alloc _
  have ha0 : Blk W0 (w.heap.size + 1) 35 [.int .i64 kind, .int .u64 (ep.toNat : Int), .int .u64 (ses.toNat : Int), .int .i64 path, .int .i64 idx, .int .i64 cnt, .slice dp data.length dc, .int .i64 code, .slice gp got.length gc] := by
    have := Blk.new (w.alloc (.cells #[.int .i64 kind, .int .u64 (ep.toNat : Int), .int .u64 (ses.toNat : Int), .int .i64 path, .int .i64 idx, .int .i64 cnt, .slice (some ⟨b1, 0, none⟩) data.length c1, .int .i64 code, .slice (some ⟨b2, 0, none⟩) got.length c2] 35)) 35 [.int .i64 kind, .int .u64 (ep.toNat : Int), .int .u64 (ses.toNat : Int), .int .i64 path, .int .i64 idx, .int .i64 cnt, .slice dp data.length dc, .int .i64 code, .slice gp got.length gc]
    rw [show (w.alloc (.cells #[.int .i64 kind, .int .u64 (ep.toNat : Int), .int .u64 (ses.toNat : Int), .int .i64 path, .int .i64 idx, .int .i64 cnt, .slice (some ⟨b1, 0, none⟩) data.length c1, .int .i64 code, .slice (some ⟨b2, 0, none⟩) got.length c2] 35)).heap.size = w.heap.size + 1 by simp] at this
    exact hW0 ▸ this
  have hL0 := hL.later hB0
  have x6 := hu0.cell_some (i := 6) rfl
  have x8 := hu0.cell_some (i := 8) rfl
  have y6 := ha0.cell_some (i := 6) rfl
  have y8 := ha0.cell_some (i := 8) rfl
  have hdat : Bs W0 (.slice (some ⟨b1, 0, none⟩) (data.length + 8) c1) (data ++ marks) := by
    have := Rd.of_own hL0.dat
    show Rd _ _ _ _
    have e : (data ++ marks).length = data.length + 8 := by simp [marks]
    rw [e]
    exact this
  have hgot := hL0.got.cells (g := b2) rfl
  simp only at hgot
  have m0 := hgot (got.length * 2) _ (by rw [List.getElem?_append_right (by rw [rvs_len]; exact Nat.le_refl _), rvs_len, Nat.sub_self]; rfl)
  have m1 := hgot (got.length * 2 + 1) _ (by rw [List.getElem?_append_right (by rw [rvs_len]; omega), rvs_len, show got.length * 2 + 1 - got.length * 2 = 1 by omega]; rfl)
  rw [Addr.add_lit, Nat.zero_add] at m0 m1
  have hrg := hL0.rgs
  have HRG := Lib.hid hrg; have HRG2 := Lib.hid (hg.later hB0); have HB0 := Lib.hid hB0
  have s1 := fun q => run_str8 hdat (W := W0.drewN q) rfl
  have s2 := fun q => run_str8 (Rd.later hd hB0) (W := W0.drewN q) rfl
  have hcat := cat_eq data
  have hsz : (str data).size ≤ 9223372036854775799 := by have := str_size data; omega
  obtain ⟨n, hn⟩ : ∃ n, n = data.length := ⟨_, rfl⟩
  obtain ⟨k, hk⟩ : ∃ k, k = got.length := ⟨_, rfl⟩
  rw [← hn] at x6 y6 s1 s2 k1 dn hl1 hW0
  rw [← hk] at x8 y8 m0 m1 k2 gn hl2 hW0
  rw [← hn, ← hk]
  have HN := Lib.hid hn; have HK := Lib.hid hk
  have ix1 : (n : Int) + 8 ≤ (c1 : Int) := by omega
  have ix2 : (k : Int) + 1 ≤ (c2 : Int) := by omega
  simp only [maxLen] at k1' k2' dm gm
  clear hd hg hL hB0 hu0 ha0 hL0 hdat hgot hrg hn hk
  go_enter Tryz.func29, Tryz.ntmps29
  go_wp2_with fail
  rw [← hW0]
  clear hW0
  have w1 : IntKind.i64.wrap ((n : Int) + 8) = (n : Int) + 8 := IntWalk.i64_in _ (by omega)
  have w2 : IntKind.i64.wrap ((k : Int) + 1) = (k : Int) + 1 := IntWalk.i64_in _ (by omega)
  have p1 : 0 ≤ (n : Int) + 8 := by omega
  have p2 : 0 ≤ (k : Int) + 1 := by omega
  have t1 : ((n : Int) + 8).toNat = n + 8 := by omega
  have t2 : ((k : Int) + 1).toNat = k + 1 := by omega
  have ix3 : (k : Int) < (k : Int) + 1 := by omega
  have ix4 : k < k + 1 := by omega
  have hne := run_neq_rng (-7) (-7)
  go_quiet (fail)
  clear w1 w2 t1 t2 hne hcat hsz s1 s2 m0 m1 ix3 ix4 p1 p2
  go_wp2_with fail
  go_loopw [5] (fun i wr => ∃ j : Nat, j ≤ k ∧ i = .int .i64 (j : Int) ∧ ∃ q, wr = W0.drewN q) (fun i _ => k - (intOf i).toNat)
  case atStart => exact ⟨0, Nat.zero_le _, rfl, _, rfl⟩
  case round =>
    obtain ⟨j, hj, rfl, q, rfl⟩ := hrel
    by_cases hlt : j < k
    · obtain ⟨ao, cap, he, _, hr⟩ := HRG.out.cells
      obtain ⟨ao', cap', he', _, hr'⟩ := HRG2.out.cells
      rw [← HK.out] at hr hr' he he'
      obtain ⟨b, off, hb, hc⟩ := hr (by omega)
      obtain ⟨b', off', hb', hc'⟩ := hr' (by omega)
      injection he with he1 he2 he3
      injection he' with he1' he2' he3'
      rw [hb] at he1
      rw [hb'] at he1'
      injection he1 with he1
      injection he1 with hx1 hx2
      subst hx1
      subst hx2
      subst he1'
      have hjg : j < got.length := by rw [← HK.out]; exact hlt
      obtain ⟨c0, c1'⟩ := hc j _ (List.getElem?_eq_getElem hjg)
      obtain ⟨d0, d1⟩ := hc' j _ (List.getElem?_eq_getElem hjg)
      rw [Nat.zero_add] at c0 c1'
      obtain ⟨z1, hz1⟩ : ∃ x, x = (got[j]).1 := ⟨_, rfl⟩
      obtain ⟨z2, hz2⟩ : ∃ x, x = (got[j]).2 := ⟨_, rfl⟩
      rw [← hz1] at c0 d0
      rw [← hz2] at c1' d1
      have hne := run_neq_rng z1 z2
      clear hz1 hz2 hc hc' hr hr' hjg hb hb' he2 he3 he2' he3' ix1
      have ix : (j : Int) < (k : Int) := by omega
      go_wp2_with fail
      go_quiet (fail)
      go_wp2_with fail
      go_roundw
      case rel => exact ⟨j + 1, by omega, by go_num, _, rfl⟩
      case measure => simp [intOf]; omega
    · obtain rfl : j = k := by omega
      go_wp2_with fail
      go_ret
      exact ⟨rfl, below_drewN HB0.out _⟩
end Go.Proofs.YtfaemjlemaclbaaGreat
