/- ranges: a copy of a list of ranges in new memory with three marks behind it; rest, same. -/
import Derived.Test.YtghjffgaebnhiaaDoorMElR
import Derived.Test.YtghjffgaebnhiaaDoorMAppAt
namespace Go.Proofs.YtghjffgaebnhiaaDoor
set_option linter.unusedVariables false
set_option linter.unusedSimpArgs false
open Go.RowKit
theorem run_copy_blk {P : Program} {t e : TypeId} {z : Value} {size bytes : Nat} (E : El P t e z size bytes) (ty : TypeId) {w : World} {g dLen dCap n : Nat} {tb : TypeId} {cur cs : List Value} {u : Value} (hg : Blk w g tb cur) (hr : Rd w u n cs)
    (hl : cs.length = n * size) (hn : n ≤ dLen) (hfit : cs.length ≤ cur.length) (h1 : ∀ x ∈ cs, x.oneCell' = true) :
    (Builtin.copy_ #[t, t] ty #[.slice (some ⟨g, 0, none⟩) dLen dCap, u]).run P w = .ok (.int .i64 n) (w.setRow g (cs ++ cur.drop cs.length).toArray) := by
  obtain ⟨i, hi, hz, hs, hby⟩ := info_parts E.inf
  obtain ⟨ao, cap, rfl, g1, g2, g3⟩ := hr
  have hm : Nat.min n dLen = n := Nat.min_eq_left hn
  have hf : (Builtin.firstCells i.size n (.slice ao n cap)).run P w = .ok cs.toArray w := by
    cases ao with
    | none =>
      have hc : cs = [] := by
        refine Classical.byContradiction fun h => ?_
        obtain ⟨b, off, h, _⟩ := g3 h
        cases h
      subst hc
      exact run_firstCells_none _ _ _ _ _
    | some a =>
      refine run_firstCells_some (P := P) w i.size n a n cap cs (by rw [hl, hs]) fun j v hv => ?_
      obtain ⟨b, off, h, hc⟩ := g3 (fun h => by rw [h] at hv; simp at hv)
      injection h with h
      subst h
      rw [Addr.add_lit]
      exact hc j v hv
  have hst := run_storeCells_at (P := P) g 0 tb cs 0 cur.toArray w hg (by simpa using hfit) h1
  simp only [List.take_zero, List.nil_append, Nat.add_zero, Nat.zero_add] at hst
  simp only [Builtin.copy_, Sem.run_bind, List.getElem?_toArray, List.getElem?_cons_zero, List.getElem?_cons_succ]
  simp [run_underlying E.und, sizeOf, typeInfo, hi, Builtin.lenOf, hm, hf, hst, goInt]
theorem wpList_copyB {P : Program} {t e : TypeId} {z : Value} {size bytes : Nat} {w : World} (E : El P t e z size bytes) {ops : Array Oper} {rest : List Oper} {o : Oper} {a : Act} {Q : Exit → Act → World → Prop} (hgd : o.guard = none) (d s : Operand)
    (ho : o.op = .call { callee := .builtin .copy, args := #[d, s], argTypes := #[t, t] }) {g dLen dCap n : Nat} {tb : TypeId} {cur cs : List Value} {u : Value} (hg : Blk w g tb cur) (hr : Rd w u n cs)
    (hd : a.eval d = .slice (some ⟨g, 0, none⟩) dLen dCap) (hs : a.eval s = u) (hl : cs.length = n * size) (hn : n ≤ dLen) (hfit : cs.length ≤ cur.length) (h1 : ∀ x ∈ cs, x.oneCell' = true)
    (h : wpList P ops Q rest (a.put o.dst (.int .i64 n)) (w.setRow g (cs ++ cur.drop cs.length).toArray)) : wpList P ops Q (o :: rest) a w := by
  refine wpList_plain hgd fun K hK => ?_
  have hrun := run_copy_blk (P := P) E o.type (dCap := dCap) hg hr hl hn hfit h1
  unfold Oper.wp execOp
  simp only [ho, resolve, invoke, builtin, Sem.run_bind, Sem.run_pure, Result.andThen_ok, List.map_toArray, List.map_cons, List.map_nil, hd, hs]
  rw [hrun]
  exact hK _ _ h
/-- make of a slice of any elements: a new block of so many cells. -/
theorem wpList_mkN {P : Program} {t e : TypeId} {z : Value} {size bytes : Nat} {w : World} (E : El P t e z size bytes) {ops : Array Oper} {rest : List Oper} {o : Oper} {a : Act} {Q : Exit → Act → World → Prop} (hg : o.guard = none) (l c : Operand)
    (hop : o.op = .makeSlice t l c) {kl kc : IntKind} {L C : Int} (n : Nat) (hl : a.eval l = .int kl L) (hc : a.eval c = .int kc C) (hL : L = (n : Int)) (hC : C = (n : Int)) (hb : bytes * n ≤ 281474976710656) (h63 : n ≤ maxLen)
    (hK : ∀ cur : List Value, cur.length = n * size → wpList P ops Q rest (a.put o.dst (.slice (some ⟨w.heap.size, 0, none⟩) n n)) (w.alloc (.cells cur.toArray e))) : wpList P ops Q (o :: rest) a w := by
  refine wpList_plain hg fun K hK' => ?_
  obtain ⟨i, hi, hz, hs, hby⟩ := info_parts E.inf
  have hm : n ≤ 9223372036854775807 := by simp only [maxLen] at h63; omega
  have hbi : (i.bytes : Int) * (n : Int) ≤ 281474976710656 := by
    have h : ((i.bytes * n : Nat) : Int) ≤ 281474976710656 := by rw [hby]; omega
    rwa [Int.natCast_mul] at h
  have hrun := run_make (P := P) w t e i z E.und hi hz kl kc n n (by omega) (by omega) hbi (by omega)
  simp only [Int.toNat_natCast, hs] at hrun
  subst hL
  subst hC
  have := hK (madeCells z.cells (n * size)).toList (by rw [Array.length_toList, size_madeCells])
  rw [Array.toArray_toList] at this
  unfold Oper.wp
  simp [execOp, hop, hl, hc, hrun, Result.andThen]
  exact hK' _ _ this
def marks (n : Nat) : List (Int × Int) := List.replicate n (-99, 99)
theorem marks_succ (n : Nat) : marks (n + 1) = marks n ++ [(-99, 99)] := List.replicate_succ'
set_option maxHeartbeats 1000000 in
set_option maxRecDepth 100000 in
theorem mark_any (w : World) : Calls Tryd.prog 70 #[] w fun e w' => e = .returned (.agg #[.int .i64 (-99), .int .i64 99]) ∧ Below w.heap.size w w' := by
  go_enter Tryd.func70, Tryd.ntmps70
  go_wp2
  exact bodyPost_ret (v := .agg #[.int .i64 (-99), .int .i64 99]) (by simp [results, Tryd.results70, go_sem]) rfl ⟨rfl, (Below.refl _ _).alloc (Nat.le_refl _) _⟩
/-- lent: a copy in new memory, with three marks behind it. -/
def LentR (base : Nat) (v : Value) (l : List (Int × Int)) (w : World) : Prop :=
  ∃ g, v = .slice (some ⟨g, 0, none⟩) l.length (l.length + 3) ∧ base ≤ g ∧ Blk w g 57 (rvs (l ++ marks 3))
theorem LentR.rgs {base : Nat} {v : Value} {l : List (Int × Int)} {w : World} (h : LentR base v l w) (hl : l.length ≤ 8796093022208) : Rgs w v l := by
  obtain ⟨g, rfl, _, hb⟩ := h
  refine Rd.mk (by omega) (by simp only [maxLen]; omega) fun j u hu => ?_
  rw [Nat.zero_add]
  refine hb.cell_some ?_
  rw [rvs_app, List.getElem?_append_left (List.getElem?_eq_some_iff.1 hu).1]
  exact hu
theorem LentR.later {base : Nat} {v : Value} {l : List (Int × Int)} {w w' : World} (h : LentR base v l w) (hb : Below w.heap.size w w') : LentR base v l w' := by
  obtain ⟨g, h1, h2, h3⟩ := h
  exact ⟨g, h1, h2, h3.later hb⟩
/-- one range written into a block of ranges. -/
theorem blk_range {w : World} {g : Nat} {t : TypeId} {cs rest : List Value} (k : Nat) (a b : Int) (h : Blk w g t (cs ++ rest)) (hl : cs.length = k * 2) (hr : 2 ≤ rest.length) :
    Blk ((w.setCell ⟨g, k * 2, none⟩ (.int .i64 a)).setCell ⟨g, k * 2 + 1, none⟩ (.int .i64 b)) g t ((cs ++ rv (a, b)) ++ rest.drop 2) := by
  have := (h.set (k * 2) (.int .i64 a)).set (k * 2 + 1) (.int .i64 b)
  match rest, hr with
  | x :: y :: rest, _ =>
    have e : ((cs ++ x :: y :: rest).set (k * 2) (.int .i64 a)).set (k * 2 + 1) (.int .i64 b) = (cs ++ rv (a, b)) ++ rest := by
      rw [List.set_append_right _ _ (by omega), List.set_append_right _ _ (by omega), hl, Nat.sub_self, show k * 2 + 1 - k * 2 = 1 by omega]
      simp [rv]
    rw [e] at this
    exact this
set_option maxHeartbeats 2000000 in
set_option maxRecDepth 100000 in
theorem ranges_any (v : Value) (l : List (Int × Int)) (w : World) (h : Rgs w v l) (hl : l.length ≤ 8796093022208) :
    Calls Tryd.prog 36 #[v] w fun e w' => ∃ v', e = .returned v' ∧ LentR w.heap.size v' l w' ∧ Below w.heap.size w w' := by
  have hr : Rd w v l.length (rvs l) := h
  have HH := Lib.hid h
  obtain ⟨p, c, rfl, -⟩ := id h
  have HLL := Lib.hid (rvs_len l)
  clear h
  go_enter Tryd.func36, Tryd.ntmps36
  go_wp2_with (first
    | (refine wpList_mkN El.range rfl (.tmp 7) (.tmp 7) rfl (l.length + 3) rfl rfl (by omega) (by omega) (by omega) (by simp only [maxLen]; omega) ?_; intro cur hcur; have HCUR := Lib.hid hcur; clear hcur)
    | (with_reducible refine wpList_copyB El.range rfl (.tmp 9) (.tmp 10) rfl (Blk.new w 57 cur) (hr.later ((Below.refl _ _).alloc (Nat.le_refl _) _)) rfl rfl HLL.out (by omega) (by rw [HCUR.out, HLL.out]; omega) (rvs_one l) ?_))
  have hb0 := (Blk.new w 57 cur).setRow (rvs l ++ cur.drop (rvs l).length)
  have hB0 : Below w.heap.size w ((w.alloc (.cells cur.toArray 57)).setRow w.heap.size (rvs l ++ cur.drop (rvs l).length).toArray) := below_setRow ((Below.refl _ _).alloc (Nat.le_refl _) _) (Nat.le_refl _) _
  obtain ⟨w1, hw1⟩ : ∃ w1, w1 = (w.alloc (.cells cur.toArray 57)).setRow w.heap.size (rvs l ++ cur.drop (rvs l).length).toArray := ⟨_, rfl⟩
  rw [← hw1] at hb0 hB0 ⊢
  have hrest : (cur.drop (rvs l).length).length = 6 := by rw [List.length_drop, HCUR.out, HLL.out]; omega
  obtain ⟨rest, hre⟩ : ∃ rest, rest = cur.drop (rvs l).length := ⟨_, rfl⟩
  rw [← hre] at hb0 hrest
  have HB0 := Lib.hid hb0; have HREST := Lib.hid hrest
  clear hw1 hre hb0 hrest hr
  go_loopw [4] (fun i wr => ∃ (k : Nat) (rest : List Value), k ≤ 3 ∧ i = .int .i64 (l.length + k : Nat) ∧ Hid (rest.length = (3 - k) * 2) ∧ Hid (Blk wr w.heap.size 57 (rvs (l ++ marks k) ++ rest)) ∧ Below w.heap.size w wr) (fun i _ => l.length + 3 - (intOf i).toNat)
  case atStart => exact ⟨0, rest, by omega, rfl, HREST, by simpa [marks] using HB0, hB0⟩
  case round =>
    obtain ⟨k, rest, hk, rfl, hrl, hb, hB⟩ := hrel
    by_cases hlt : k < 3
    · have ix : ((l.length + k : Nat) : Int) < (l.length : Int) + 3 := by omega
      have ix2 : (0 : Int) ≤ ((l.length + k : Nat) : Int) := by omega
      have hz := hB.size
      go_wp2_with fail
      refine (mark_any _).mono ?_
      rintro e w2 ⟨rfl, hB2⟩
      have hb2 := hb.out.later hB2
      have hg2 := hb2.lt
      have hll : (rvs (l ++ marks k)).length = (l.length + k) * 2 := by rw [rvs_len]; simp [marks]
      have hr2 : 2 ≤ rest.length := by rw [hrl.out]; omega
      have cc : ∀ j, j < (rvs (l ++ marks k) ++ rest).length → ∃ y, w2.cell? ⟨w.heap.size, j, none⟩ = some y := fun j hj => ⟨_, hb2.cell_some (List.getElem?_eq_getElem hj)⟩
      obtain ⟨y, c0⟩ := cc ((l.length + k) * 2) (by rw [List.length_append, hll]; omega)
      obtain ⟨z, c1⟩ := cc ((l.length + k) * 2 + 1) (by rw [List.length_append, hll]; omega)
      have f0 := hb2.frozen ((l.length + k) * 2)
      have f1 := hb2.frozen ((l.length + k) * 2 + 1)
      have HB3 := Lib.hid (blk_range (l.length + k) (-99) 99 hb2 hll hr2)
      have hB3 := hB.trans (hB2.mono hz)
      have HR2 := Lib.hid hr2
      clear cc hll hr2 hb2
      go_wp2_with fail
      go_roundw
      case rel =>
        refine ⟨k + 1, rest.drop 2, by omega, by go_num, Lib.hid (by rw [List.length_drop, hrl.out]; omega), Lib.hid ?_, (hB3.setCell (p := ⟨w.heap.size, _, none⟩) (Nat.le_refl _) _).setCell (p := ⟨w.heap.size, _, none⟩) (Nat.le_refl _) _⟩
        rw [marks_succ, ← List.append_assoc, rvs_app (l ++ marks k)]
        exact HB3.out
      case measure => simp [intOf]; omega
    · obtain rfl : k = 3 := by omega
      have hrn : rest = [] := List.eq_nil_of_length_eq_zero (by rw [hrl.out])
      subst hrn
      have HBB : Hid (Blk wr w.heap.size 57 (rvs (l ++ marks 3))) := Lib.hid (by simpa using hb.out)
      go_wp2_with fail
      go_ret
      exact ⟨_, rfl, ⟨_, rfl, Nat.le_refl _, HBB.out⟩, hB⟩
end Go.Proofs.YtghjffgaebnhiaaDoor
