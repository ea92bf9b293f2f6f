/- slices.DeleteFunc at timers: the walk. -/
import Derived.Test.YtnnkchgkebcblaaWDel
namespace Go.Proofs.Ytnnkchgkebcblaa
set_option linter.unusedVariables false
set_option linter.unusedSimpArgs false
open Go.RowKit
theorem tvs_take (J : List Tm) (k : Nat) : (tvs J).take (k * 3) = tvs (J.take k) := by
  induction J generalizing k with
  | nil => simp [tvs]
  | cons x J ih =>
    cases k with
    | zero => simp [tvs]
    | succ k =>
      rw [List.take_succ_cons, tvs_cons, tvs_cons, ← ih k, show (k + 1) * 3 = (tv x).length + k * 3 by simp [tv]; omega, List.take_length_add_append]
def zeroTm : Value := .agg #[.int .i64 0, .int .u64 0, .int .u64 0]
theorem zero_tm (w : World) : (zeroValue 82).run Try.prog w = .ok zeroTm w := by
  rw [Try.zeroValue82]; rfl
theorem zeros_len (n : Nat) : (Builtin.zeroCells zeroTm.cells n).toList.length = n * 3 := by
  simp [Builtin.zeroCells, zeroTm, Value.cells]
  try omega
theorem zeros_one (n : Nat) : ∀ v ∈ (Builtin.zeroCells zeroTm.cells n).toList, v.oneCell' = true := by
  intro v hv
  simp only [Builtin.zeroCells, zeroTm, Value.cells] at hv
  obtain ⟨j, hj⟩ := List.getElem?_of_mem hv
  simp at hj
  obtain ⟨q, _, rfl⟩ := hj
  have : q % 3 < 3 := Nat.mod_lt _ (by decide)
  rcases (show q % 3 = 0 ∨ q % 3 = 1 ∨ q % 3 = 2 by omega) with h | h | h <;> rw [h] <;> rfl
theorem below_grown {w w' : World} {row : Option Nat} (h : Below w.heap.size w w') : w.grownBy w' row := ⟨h.os, h.tape, h.output, h.size, fun k hk _ => h.block k hk⟩
theorem grown_trans {w w' w'' : World} {row : Option Nat} (h : w.grownBy w' row) (k : w'.grownBy w'' row) : w.grownBy w'' row :=
  ⟨k.os.trans h.os, k.tape.trans h.tape, k.output.trans h.output, Nat.le_trans h.size k.size, fun i hi hn => (k.block i (Nat.lt_of_lt_of_le hi h.size) hn).trans (h.block i hi hn)⟩
set_option maxHeartbeats 4000000 in
set_option maxRecDepth 100000 in
theorem del_any (v : Value) (L : List Tm) (i : Int) (g : Nat) (w : World) (h : w.ownsRow 0 82 3 v L.length (tvs L)) (hc : w.cell? ⟨g, 0, none⟩ = some (.int .i64 i)) (hne : v.ownBlock ≠ some g) (hl : L.length < 4611686018427) :
    Calls Try.prog 44 #[v, .func (Fn.func 45) #[] #[.pointer (some ⟨g, 0, none⟩)]] w fun e w' =>
      ∃ v', e = .returned v' ∧ w'.ownsRow 0 82 3 v' (without L i).length (tvs (without L i)) ∧ w.grownBy w' v.ownBlock ∧ v'.ownBlock = v.ownBlock := by
  have hgl := World.block_lt_of_cell? _ _ hc
  have HI := idx_any v L i g w h hc hl
  go_enter Try.func44, Try.ntmps44
  go_wp2_with fail
  refine HI.mono ?_
  clear HI
  rintro e w1 ⟨⟨rfl, hall⟩ | ⟨k0, t0, ht0, he0, hn0, rfl⟩, hB1⟩
  · go_wp2_with fail
    go_ret
    have hw : without L i = L := by
      unfold without
      rw [List.filter_eq_self]
      intro u hu
      simpa using hall u hu
    exact ⟨v, rfl, by rw [hw]; exact own_later h hB1, below_grown hB1, rfl⟩
  · have hk0 := (List.getElem?_eq_some_iff.1 ht0).1
    obtain ⟨b, cap, rfl, hcap⟩ : ∃ b cap, v = .slice (some ⟨b, 0, none⟩) L.length cap ∧ L.length ≤ cap := by
      rcases h.2 with ⟨rfl, h0⟩ | ⟨b, cap, cur, rfl, _, _, h5, _⟩
      · omega
      · exact ⟨_, cap, rfl, h5⟩
    have hbg : b ≠ g := fun e => hne (by rw [e]; rfl)
    have HK := Lib.hid (Kept.start ht0 he0 hn0)
    have HO := Lib.hid (own_later h hB1)
    have HG := Lib.hid (below_grown (row := some b) hB1)
    have hneg : ((k0 : Int) == -1) = false := by simp
    clear h hn0 ht0 he0 hB1
    go_wp2_with fail
    go_loopw [5, 6] (fun a c wr => ∃ (k j : Nat) (J : List Tm), j ≤ L.length ∧ a = .int .i64 k ∧ c = .int .i64 j ∧ Hid (Kept L J i k j) ∧ Hid (wr.ownsRow 0 82 3 (.slice (some ⟨b, 0, none⟩) L.length cap) L.length (tvs J)) ∧ Hid (w.grownBy wr (some b))) (fun _ c _ => L.length - (intOf c).toNat)
    case atStart => exact ⟨k0, k0 + 1, L, by omega, rfl, by go_num, HK, HO, HG⟩
    case round =>
      obtain ⟨k, j, J, hj, rfl, rfl, hK, hO, hG⟩ := hrel
      have hkj := hK.out.le
      have hJl := hK.out.len
      by_cases hlt : j < L.length
      · obtain ⟨t, ht⟩ : ∃ t, L[j]? = some t := ⟨_, List.getElem?_eq_getElem hlt⟩
        obtain ⟨c0, c1, c2⟩ := tcells hO.out (hK.out.at.trans ht)
        have cg := hG.out.cell hc (by simpa using Ne.symm hbg)
        have hgr : g < wr.heap.size := World.block_lt_of_cell? _ _ cg
        have hbr : b < wr.heap.size := World.block_lt_of_cell? _ _ c0
        have hcon := fun W h => same_any g t i W h
        have HT := Lib.hid ht
        have ix1 : (j : Int) < (L.length : Int) := by omega
        have ix2 : (k : Int) < (L.length : Int) := by omega
        obtain ⟨s, hs⟩ : ∃ s, J[k]? = some s := ⟨_, List.getElem?_eq_getElem (by omega)⟩
        obtain ⟨s0, s1, s2⟩ := tcells hO.out hs
        obtain ⟨id, x, ord, nev⟩ := t
        simp only at c0 c1 c2 hcon
        clear ht hs
        obtain ⟨W1, hW1⟩ : ∃ W1, W1 = wr.alloc (.cells #[.int .i64 id, .int .u64 (x : Int), .int .u64 (ord : Int)] 82) := ⟨_, rfl⟩
        have hBa : Below wr.heap.size wr W1 := hW1 ▸ (Below.refl _ _).alloc (Nat.le_refl _) _
        have hTb : Blk W1 wr.heap.size 82 [.int .i64 id, .int .u64 (x : Int), .int .u64 (ord : Int)] := hW1 ▸ Blk.new wr _ _
        have hcW := hcon W1 (below_cell hBa cg hgr)
        have HBa := Lib.hid hBa; have HTb := Lib.hid hTb
        have HW1 := Lib.hid hW1
        clear hBa hTb hcon hW1
        by_cases hin : id = i
        · subst hin
          simp only [beq_self_eq_true] at hcW
          go_wp2_with fail
          rw [← HW1.out]
          refine hcW.mono ?_
          rintro e w5 ⟨rfl, hB5⟩
          go_wp2_with fail
          go_roundw
          case rel => exact ⟨k, j + 1, J, by omega, rfl, by go_num, Lib.hid (hK.out.skip HT.out rfl), Lib.hid (own_later (own_later hO.out HBa.out) hB5), Lib.hid (grown_trans hG.out (grown_trans (below_grown HBa.out) (below_grown hB5)))⟩
          case measure => simp [intOf]; omega
        · have hb : (id == i) = false := by simpa using hin
          simp only [hb] at hcW
          go_wp2_with fail
          rw [← HW1.out]
          refine hcW.mono ?_
          rintro e w5 ⟨rfl, hB5⟩
          have hT5 := HTb.out.later hB5
          have d0 := hT5.cell_some (i := 0) rfl
          have d1 := hT5.cell_some (i := 1) rfl
          have d2 := hT5.cell_some (i := 2) rfl
          have hBr : Below wr.heap.size wr w5 := below_trans HBa.out hB5
          have s0 := below_cell hBr s0 hbr
          have s1 := below_cell hBr s1 hbr
          have s2 := below_cell hBr s2 hbr
          have hO5 := own_later hO.out hBr
          have f0 := hO5.frozenAt (k * 3)
          have f1 := hO5.frozenAt (k * 3 + 1)
          have f2 := hO5.frozenAt (k * 3 + 2)
          have HO5 := Lib.hid hO5
          have HBr := Lib.hid hBr
          clear hT5 hO5 hB5 hBr cg c0 c1 c2
          go_wp2_with fail
          go_roundw
          case rel =>
            obtain ⟨o1, g1⟩ := HO5.out.stored (k * 3) (.int .i64 id)
            obtain ⟨o2, g2⟩ := o1.stored (k * 3 + 1) (.int .u64 (x : Int))
            obtain ⟨o3, g3⟩ := o2.stored (k * 3 + 2) (.int .u64 (ord : Int))
            have hset := tvs_set J k ⟨id, x, ord, nev⟩ (by omega)
            simp only at hset
            rw [hset] at o3
            exact ⟨k + 1, j + 1, J.set k ⟨id, x, ord, nev⟩, by omega, by go_num, by go_num, Lib.hid (hK.out.keep HT.out hin), Lib.hid o3, Lib.hid (grown_trans hG.out (grown_trans (below_grown HBr.out) (grown_trans g1 (grown_trans g2 g3))))⟩
          case measure => simp [intOf]; omega
      · obtain rfl : j = L.length := by omega
        have hsz := zeros_len (L.length - k)
        have hcl := fun ty => clear_run (w := wr) (P := Try.prog) (n := L.length - k) ty Try.underlying64 (zero_tm wr) b (k * 3) (cap - k) rfl
          (fun q hq => by
            rw [hsz] at hq
            obtain ⟨s, hs⟩ : ∃ s, J[k + q / 3]? = some s := ⟨_, List.getElem?_eq_getElem (by omega)⟩
            obtain ⟨s0, s1, s2⟩ := tcells hO.out hs
            rcases (show q % 3 = 0 ∨ q % 3 = 1 ∨ q % 3 = 2 by omega) with h | h | h
            · rw [show k * 3 + q = (k + q / 3) * 3 by omega, s0]; rfl
            · rw [show k * 3 + q = (k + q / 3) * 3 + 1 by omega, s1]; rfl
            · rw [show k * 3 + q = (k + q / 3) * 3 + 2 by omega, s2]; rfl)
          (fun q _ => hO.out.frozenAt _) (zeros_one _) (fun h => by have := hsz; rw [h] at this; exact List.eq_nil_of_length_eq_zero (by rw [h]; simpa using this))
        obtain ⟨zs, hzs⟩ : ∃ zs, zs = (Builtin.zeroCells zeroTm.cells (L.length - k)).toList := ⟨_, rfl⟩
        rw [← hzs] at hcl
        have HSZ := Lib.hid hsz
        clear hsz hzs
        go_wp2_with fail
        go_ret
        obtain ⟨ys, y1, y2, y3⟩ := own_setCells zs (k * 3) wr _ hO.out
        have y4 := own_prefix (n := k) y1 (by omega)
        rw [y2, tvs_take, hK.out.front, List.take_length] at y4
        have hlen : (without L i).length = k := by
          have := congrArg List.length hK.out.front
          rw [List.take_length, List.length_take] at this
          omega
        exact ⟨_, rfl, by rw [hlen]; exact y4, grown_trans hG.out y3, rfl⟩
end Go.Proofs.Ytnnkchgkebcblaa
