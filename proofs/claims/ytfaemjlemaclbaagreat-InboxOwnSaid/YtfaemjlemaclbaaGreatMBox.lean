/- Box, Put, PutMid, Whole, BoxLaw, PutAll, Good, AllNe: joined. -/
import Derived.Test.YtfaemjlemaclbaaGreatMBase
import Derived.BigQuiet
import Derived.Deep.QuietTactic
import Derived.BigRegion
section
/- A box of segments (cutter.Box): how it lies in memory, and what New, Count, Length, Put, Whole do with it. -/
namespace Go.Proofs.YtfaemjlemaclbaaGreat
set_option linter.unusedVariables false
set_option linter.unusedSimpArgs false
open Go.RowKit

def strv (l : List UInt8) : Value := .string (str l)
/-- the box lies in block g: so many segments, the length of those that are not the last, and what is there. -/
structure BoxAt (w : World) (g : Nat) (cnt len : Nat) (ps : List (List UInt8)) : Prop where
  n : ps.length = 64
  blk : Blk w g 124 ([.int .i64 cnt, .int .i64 len] ++ ps.map strv)
theorem BoxAt.c0 {w : World} {g cnt len : Nat} {ps : List (List UInt8)} (h : BoxAt w g cnt len ps) : w.cell? ⟨g, 0, none⟩ = some (.int .i64 cnt) := h.blk.cell_some rfl
theorem BoxAt.c1 {w : World} {g cnt len : Nat} {ps : List (List UInt8)} (h : BoxAt w g cnt len ps) : w.cell? ⟨g, 1, none⟩ = some (.int .i64 len) := h.blk.cell_some rfl
theorem BoxAt.cp {w : World} {g cnt len : Nat} {ps : List (List UInt8)} (h : BoxAt w g cnt len ps) {i : Nat} (hi : i < 64) : w.cell? ⟨g, 2 + i, none⟩ = some (.string (str (ps.getD i []))) :=
  h.blk.cell_some (by
    rw [List.getElem?_append_right (by simp), List.getElem?_map, List.getD_eq_getElem?_getD, List.getElem?_eq_getElem (by rw [h.n]; simpa using hi)]
    have hi' : i < ps.length := by rw [h.n]; exact hi
    simp [strv, hi'])
theorem BoxAt.same {S : Nat → Prop} {w w' : World} {g cnt len : Nat} {ps : List (List UInt8)} (h : BoxAt w g cnt len ps) (hb : Same S w w') (hg : ¬ S g) : BoxAt w' g cnt len ps := ⟨h.n, h.blk.same hb hg⟩
theorem BoxAt.drewN {w : World} {g cnt len : Nat} {ps : List (List UInt8)} (h : BoxAt w g cnt len ps) (n : Nat) : BoxAt (w.drewN n) g cnt len ps := ⟨h.n, h.blk⟩
theorem boxCells (a b : Value) : (Tryz.zeroCells124.setIfInBounds 0 a).setIfInBounds 1 b = ([a, b] ++ (List.replicate 64 ([] : List UInt8)).map strv).toArray := by kernel_rfl
def leastOf (cnt len last : Nat) : Nat := if 0 < len then (cnt - 1) * len + max last 1 else cnt * last
theorem leastOf_pos {cnt len last : Nat} (h1 : 1 ≤ cnt) (h : 0 < len) : (leastOf cnt len last : Int) = ((cnt : Int) - 1) * len + max (last : Int) 1 := by
  rw [leastOf, if_pos h]
  have e : (((cnt - 1 : Nat)) : Int) = (cnt : Int) - 1 := by omega
  have e2 : ((max last 1 : Nat) : Int) = max (last : Int) 1 := by omega
  rw [Int.natCast_add, Int.natCast_mul, e, e2]
theorem leastOf_zero {cnt last : Nat} : (leastOf cnt 0 last : Int) = (cnt : Int) * last := by simp [leastOf]
theorem BoxAt.later {w w' : World} {g cnt len : Nat} {ps : List (List UInt8)} (h : BoxAt w g cnt len ps) (hb : Below w.heap.size w w') : BoxAt w' g cnt len ps := ⟨h.n, h.blk.later hb⟩

set_option maxHeartbeats 400000 in
set_option maxRecDepth 100000 in
theorem new_yes (n : Nat) (w : World) (h1 : 1 ≤ n) (h2 : n ≤ 64) :
    Calls Tryz.prog 37 #[.int .i64 n] w fun e w' => e = .returned (.tuple #[.pointer (some ⟨w.heap.size, 0, none⟩), .int .i64 0]) ∧ BoxAt w' w.heap.size n 0 (List.replicate 64 []) ∧ Below w.heap.size w w' := by
  go_enter Tryz.func37, Tryz.ntmps37
  go_wp2
  go_ret2
  refine ⟨rfl, ⟨by simp, ?_⟩, ?_⟩
  · rw [boxCells]
    exact Blk.new w _ _
  · exact (Below.refl _ _).alloc (Nat.le_refl _) _
set_option maxHeartbeats 400000 in
set_option maxRecDepth 100000 in
theorem new_no (n : Int) (w : World) (h : n < 1 ∨ 64 < n) :
    Calls Tryz.prog 37 #[.int .i64 n] w fun e w' => e = .returned (.tuple #[.pointer none, .int .i64 1]) ∧ w = w' := by
  rcases h with h | h
  · go_enter Tryz.func37, Tryz.ntmps37
    go_wp2
    go_ret2
    exact ⟨rfl, rfl⟩
  · have h' : ¬ n < 1 := by omega
    go_enter Tryz.func37, Tryz.ntmps37
    go_wp2
    go_ret2
    exact ⟨rfl, rfl⟩
set_option maxHeartbeats 400000 in
set_option maxRecDepth 100000 in
theorem count_any (g cnt len : Nat) (ps : List (List UInt8)) (w : World) (h : BoxAt w g cnt len ps) :
    Calls Tryz.prog 40 #[.pointer (some ⟨g, 0, none⟩)] w fun e w' => e = .returned (.int .i64 cnt) ∧ w = w' := by
  have c0 := h.c0
  go_enter Tryz.func40, Tryz.ntmps40
  go_wp2
  go_ret
  exact ⟨rfl, rfl⟩
set_option maxHeartbeats 400000 in
set_option maxRecDepth 100000 in
theorem least_any (cnt len last : Nat) (w : World) (h1 : 1 ≤ cnt) (h2 : cnt ≤ 64) (h3 : len ≤ 2048) (h4 : last ≤ 2048) :
    Calls Tryz.prog 57 #[.agg #[.int .i64 cnt, .int .i64 len], .int .i64 last] w fun e w' => e = .returned (.int .i64 (leastOf cnt len last)) ∧ Below w.heap.size w w' := by
  have m1 : (cnt : Int) * last ≤ 64 * 2048 := by exact_mod_cast Nat.mul_le_mul h2 h4
  have m2 : 0 ≤ (cnt : Int) * last := by exact_mod_cast Nat.zero_le _
  have m3 : ((cnt : Int) - 1) * len ≤ 64 * 2048 := by
    have : ((cnt - 1 : Nat) : Int) * len ≤ 64 * 2048 := by exact_mod_cast Nat.mul_le_mul (by omega : cnt - 1 ≤ 64) h3
    rwa [show (((cnt - 1 : Nat)) : Int) = (cnt : Int) - 1 by omega] at this
  have m4 : 0 ≤ ((cnt : Int) - 1) * len := Int.mul_nonneg (by omega) (by omega)
  by_cases hl : 0 < len
  · have e := leastOf_pos (last := last) h1 hl
    have HE := Lib.hid e; clear e
    by_cases hlast : (last : Int) < 1
    · go_enter Tryz.func57, Tryz.ntmps57
      go_wp2
      go_ret
      exact ⟨ret_congr (by rw [HE.out, Int.max_eq_right (by omega)]; rfl), (Below.refl _ _).alloc (Nat.le_refl _) _⟩
    · go_enter Tryz.func57, Tryz.ntmps57
      go_wp2
      go_ret
      exact ⟨ret_congr (by rw [HE.out, Int.max_eq_left (by omega)]; rfl), (Below.refl _ _).alloc (Nat.le_refl _) _⟩
  · obtain rfl : len = 0 := by omega
    have e := leastOf_zero (cnt := cnt) (last := last)
    have HE := Lib.hid e; clear e
    go_enter Tryz.func57, Tryz.ntmps57
    go_wp2
    go_ret
    exact ⟨ret_congr (by rw [HE.out]; rfl), (Below.refl _ _).alloc (Nat.le_refl _) _⟩
end Go.Proofs.YtfaemjlemaclbaaGreat
end
section
/- Put: the segment with that index, or why not. -/
namespace Go.Proofs.YtfaemjlemaclbaaGreat
set_option linter.unusedVariables false
set_option linter.unusedSimpArgs false
open Go.RowKit

def putLast (cnt : Nat) (ps : List (List UInt8)) (i n : Nat) : Nat := if i + 1 = cnt then n else (ps.getD (cnt - 1) []).length
def putLen (cnt len i n : Nat) : Nat := if i + 1 = cnt then len else if len = 0 then n else len
def thereErr (p seg : List UInt8) : Int := if p = seg then 3 else 120
/-- what Put answers at an index that is one, to a segment of 1 to 1024 bytes. -/
def putIn (cnt len : Nat) (ps : List (List UInt8)) (i : Nat) (seg : List UInt8) : Int :=
  if ps.getD i [] = seg then 3 else if ps.getD i [] ≠ [] then 120 else if i + 1 ≠ cnt ∧ len ≠ 0 ∧ len ≠ seg.length then 120
  else if 0 < putLen cnt len i seg.length ∧ putLen cnt len i seg.length < putLast cnt ps i seg.length ∨ 1024 < leastOf cnt (putLen cnt len i seg.length) (putLast cnt ps i seg.length) then 120 else 0
def putErr (cnt len : Nat) (ps : List (List UInt8)) (index : Int) (seg : List UInt8) : Int :=
  if index < 0 ∨ (cnt : Int) ≤ index ∨ seg.length = 0 ∨ 1024 < seg.length then 1 else putIn cnt len ps index.toNat seg
/-- a box as New and Put leave it. -/
structure Fine (cnt len : Nat) (ps : List (List UInt8)) : Prop where
  lo : 1 ≤ cnt
  hi : cnt ≤ 64
  len : len ≤ 1024
  seg : ∀ p ∈ ps, p.length ≤ 1024
theorem Fine.at {cnt len : Nat} {ps : List (List UInt8)} (h : Fine cnt len ps) (i : Nat) : (ps.getD i []).length ≤ 1024 := by
  rw [List.getD_eq_getElem?_getD]
  cases hi : ps[i]? with
  | none => simp
  | some p => exact h.seg p (List.mem_of_getElem? hi)

set_option maxHeartbeats 2000000 in
set_option maxRecDepth 100000 in
theorem put_arg (g cnt len : Nat) (ps : List (List UInt8)) (index : Int) (v : Value) (seg : List UInt8) (w : World) (h : BoxAt w g cnt len ps) (hr : Bs w v seg)
    (hc : index < 0 ∨ (cnt : Int) ≤ index ∨ seg.length = 0 ∨ 1024 < seg.length) :
    Calls Tryz.prog 38 #[.pointer (some ⟨g, 0, none⟩), .int .i64 index, v] w fun e w' => e = .returned (.int .i64 1) ∧ w = w' := by
  have c0 := h.c0
  obtain ⟨ao, cap, rfl, hn, hm, hcc⟩ := id hr
  by_cases h1 : index < 0
  · clear hc
    go_enter Tryz.func38, Tryz.ntmps38
    go_wp2
    go_ret
    exact ⟨rfl, rfl⟩
  by_cases h2 : (cnt : Int) ≤ index
  · clear hc
    go_enter Tryz.func38, Tryz.ntmps38
    go_wp2
    go_ret
    exact ⟨rfl, rfl⟩
  by_cases h3 : seg.length < 1
  · clear hc
    have hb : ((seg.length : Int) == 0) = true := by rw [beq_iff_eq]; omega
    go_enter Tryz.func38, Tryz.ntmps38
    go_wp2
    go_ret
    exact ⟨rfl, rfl⟩
  · have h4 : 1024 < seg.length := by omega
    have hb : ((seg.length : Int) == 0) = false := by rw [beq_eq_false_iff_ne]; omega
    clear hc
    go_enter Tryz.func38, Tryz.ntmps38
    go_wp2
    go_ret
    exact ⟨rfl, rfl⟩
set_option maxHeartbeats 2000000 in
set_option maxRecDepth 100000 in
theorem put_there (g cnt len i : Nat) (ps : List (List UInt8)) (p : List UInt8) (v : Value) (seg : List UInt8) (w : World) (h : BoxAt w g cnt len ps) (hr : Bs w v seg) (hf : Fine cnt len ps)
    (h1 : i < cnt) (h3 : 1 ≤ seg.length) (h4 : seg.length ≤ 1024) (hp : ps.getD i [] = p) (he : p ≠ []) :
    Calls Tryz.prog 38 #[.pointer (some ⟨g, 0, none⟩), .int .i64 i, v] w fun e w' => e = .returned (.int .i64 (thereErr p seg)) ∧ w = w' := by
  have c0 := h.c0
  have hi64 : i < 64 := by have := hf.hi; omega
  have cp := h.cp hi64
  rw [hp] at cp
  obtain ⟨ao, cap, rfl, hn, hm, hcc⟩ := id hr
  have hne : ((seg.length : Int) == 0) = false := by rw [beq_eq_false_iff_ne]; omega
  have k2 := run_str8 hr (W := w) rfl
  have hHP := Lib.hid hp; clear hp
  by_cases hps : p = seg
  · have e1 := str_beq_yes hps
    have HE := Lib.hid hps; clear hps he
    go_enter Tryz.func38, Tryz.ntmps38
    go_wp2
    go_ret
    exact ⟨by rw [thereErr, if_pos HE.out]; rfl, rfl⟩
  · have e1 := str_beq_no hps
    have e2 := str_some he
    have HE := Lib.hid hps; clear hps he
    go_enter Tryz.func38, Tryz.ntmps38
    go_wp2
    go_ret
    exact ⟨by rw [thereErr, if_neg HE.out]; rfl, rfl⟩

def PutPost (w w' : World) (g cnt len i : Nat) (ps : List (List UInt8)) (seg : List UInt8) (r : Int) : Prop :=
  Same (at1 g) w w' ∧ (r = 0 → BoxAt w' g cnt (putLen cnt len i seg.length) (ps.set i seg)) ∧ (r ≠ 0 → BoxAt w' g cnt len ps)
theorem put_facts {w w1 : World} {g cnt len L : Nat} {ps : List (List UInt8)} (h : BoxAt w g cnt len ps)
    (hb : Below (w.alloc (.cells #[.int .i64 cnt, .int .i64 L] 121)).drew.heap.size (w.alloc (.cells #[.int .i64 cnt, .int .i64 L] 121)).drew w1) :
    w1.cell? ⟨w.heap.size, 0, none⟩ = some (.int .i64 cnt) ∧ w1.cell? ⟨w.heap.size, 1, none⟩ = some (.int .i64 L) ∧ BoxAt w1 g cnt len ps ∧ Below w.heap.size w w1 := by
  have hB : Below w.heap.size w (w.alloc (.cells #[.int .i64 cnt, .int .i64 L] 121)).drew := ((Below.refl _ _).alloc (Nat.le_refl _) _).drew
  have hN : Blk (w.alloc (.cells #[.int .i64 cnt, .int .i64 L] 121)).drew w.heap.size 121 [.int .i64 cnt, .int .i64 L] := Blk.new w _ _
  have hB1 := hB.trans (hb.mono hB.size)
  exact ⟨(hN.later hb).cell_some rfl, (hN.later hb).cell_some rfl, h.later hB1, hB1⟩
theorem box_put {w : World} {g cnt len L i : Nat} {ps : List (List UInt8)} {seg : List UInt8} (h : BoxAt w g cnt len ps) (hi : i < 64) :
    BoxAt (((w.setCell ⟨g, 0, none⟩ (.int .i64 cnt)).setCell ⟨g, 1, none⟩ (.int .i64 L)).setCell ⟨g, 2 + i, none⟩ (.string (str seg))) g cnt L (ps.set i seg) := by
  refine ⟨by simp [h.n], ?_⟩
  have := ((h.blk.set 0 (.int .i64 cnt)).set 1 (.int .i64 L)).set (2 + i) (.string (str seg))
  have e : ((([Value.int .i64 cnt, .int .i64 len] ++ ps.map strv).set 0 (.int .i64 cnt)).set 1 (.int .i64 L)).set (2 + i) (.string (str seg)) = [.int .i64 cnt, .int .i64 L] ++ (ps.set i seg).map strv := by
    rw [Nat.add_comm 2 i]
    simp [List.map_set, strv]
  rwa [e] at this
/-- bytes do not lie in a box. -/
theorem bs_ne_box {w : World} {g cnt len : Nat} {ps : List (List UInt8)} (h : BoxAt w g cnt len ps) {ao : Option Addr} {n cap : Nat} {seg : List UInt8} (hr : Bs w (.slice ao n cap) seg) (h1 : 1 ≤ seg.length) :
    (Value.slice ao n cap).ownBlock ≠ some g := by
  obtain ⟨b, off, cap', hv, _, _, _, hc⟩ := hr.form (by intro h; simp at h; subst h; simp at h1)
  injection hv with e1 e2 e3
  subst e1
  intro he
  have hbg : b = g := by simpa [Value.ownBlock] using he
  subst hbg
  have h0 := hc 0 (ub seg[0]) (by rw [List.getElem?_map, List.getElem?_eq_getElem (by omega)]; rfl)
  rw [h.blk.cell] at h0
  obtain ⟨x, hx⟩ : ∃ x, x = off + 0 := ⟨_, rfl⟩
  rw [← hx] at h0
  match x, h0 with
  | 0, h0 => simp [ub] at h0
  | 1, h0 => simp [ub] at h0
  | x + 2, h0 =>
    simp only [List.cons_append, List.nil_append, List.getElem?_cons_succ, List.getElem?_map, Option.map_eq_some_iff] at h0
    obtain ⟨p, _, hp⟩ := h0
    simp [strv, ub] at hp

set_option maxHeartbeats 2000000 in
set_option maxRecDepth 100000 in
theorem put_last (g cnt len i : Nat) (ps : List (List UInt8)) (v : Value) (seg : List UInt8) (w : World) (h : BoxAt w g cnt len ps) (hr : Bs w v seg) (hf : Fine cnt len ps)
    (h1 : i + 1 = cnt) (h3 : 1 ≤ seg.length) (h4 : seg.length ≤ 1024) (hp : ps.getD i [] = []) :
    Calls Tryz.prog 38 #[.pointer (some ⟨g, 0, none⟩), .int .i64 i, v] w fun e w' => e = .returned (.int .i64 (putIn cnt len ps i seg)) ∧ PutPost w w' g cnt len i ps seg (putIn cnt len ps i seg) := by
  have c0 := h.c0
  have hi64 : i < 64 := by have := hf.hi; omega
  have cp := h.cp hi64
  rw [hp] at cp
  have c1 := h.c1
  have hcnt : cnt ≤ 64 := hf.hi
  obtain ⟨ao, cap, rfl, hn, hm, hcc⟩ := id hr
  have hne : ((seg.length : Int) == 0) = false := by rw [beq_eq_false_iff_ne]; omega
  have k2 := run_str8 hr (W := w) rfl
  have hsn : ([] : List UInt8) ≠ seg := by intro h; subst h; simp at h3
  have e1 := str_beq_no hsn
  have e2 := str_none
  have ix1 : (i : Int) < 64 := by omega
  have hci : (cnt : Int) - 1 = i := by omega
  have hwi : IntKind.i64.wrap ((cnt : Int) - 1) = i := by rw [hci]; exact IntWalk.i64_in _ (by omega)
  have hpl : putLen cnt len i seg.length = len := if_pos h1
  have hpa : putLast cnt ps i seg.length = seg.length := if_pos h1
  have hput : putIn cnt len ps i seg = if 0 < len ∧ len < seg.length ∨ 1024 < leastOf cnt len seg.length then 120 else 0 := by
    rw [putIn, hp, if_neg hsn, if_neg (by simp), if_neg (by omega), hpl, hpa]
  have HP := Lib.hid hp; have H1 := Lib.hid h1; have HU := Lib.hid hput; have HL := Lib.hid hpl; have HSN := Lib.hid hsn; clear hp hput hpl hpa hsn
  have hal := fun o => h.later ((Below.refl w.heap.size w).alloc (Nat.le_refl _) o)
  have a0 := fun o => (hal o).c0
  have a1 := fun o => (hal o).c1
  have ap := fun o => (hal o).cp hi64
  rw [HP.out] at ap
  have hg := h.blk.lt
  have hcmp : ((i : Int) == (i : Int)) = true := by simp
  by_cases hbad : 0 < len ∧ len < seg.length
  · have HB := Lib.hid hbad
    obtain ⟨hb1, hb2⟩ := hbad
    clear h1
    go_enter Tryz.func38, Tryz.ntmps38
    go_wp2
    go_region
    go_wp2
    go_ret
    have hr : putIn cnt len ps i seg = 120 := by rw [HU.out, if_pos (.inl HB.out)]
    refine ⟨by rw [hr]; rfl, ?_⟩
    rw [hr]
    exact ⟨Same.of_below (((Below.refl _ _).alloc (Nat.le_refl _) _).drew) _, fun h => by omega, fun _ => ⟨h.n, (hal _).blk⟩⟩
  · have HB := Lib.hid hbad
    by_cases hl0 : 0 < len
    · have hb' : ¬ (len < seg.length) := by omega
      clear h1
      go_enter Tryz.func38, Tryz.ntmps38
      go_wp2
      go_region
      go_wp2_with fail
      refine (least_any cnt len seg.length _ hf.lo hcnt (by have := hf.len; omega) (by omega)).mono ?_
      rintro e w1 ⟨rfl, hb1⟩
      obtain ⟨n0, n1, hx, hB1⟩ := put_facts h hb1
      have hr1 := hr.later hB1
      have hng := bs_ne_box hx hr1 h3
      have d0 := hx.c0
      have d1 := hx.c1
      have dp := hx.cp hi64
      have f0 := hx.blk.frozen 0
      have f1 := hx.blk.frozen 1
      have fp := hx.blk.frozen (2 + i)
      have hW2 := ((hr1.setCell (p := ⟨g, 0, none⟩) hng (.int .i64 cnt)).setCell (p := ⟨g, 1, none⟩) hng (.int .i64 len))
      have k3 := run_str8 hW2 (W := ((w1.setCell ⟨g, 0, none⟩ (.int .i64 cnt)).setCell ⟨g, 1, none⟩ (.int .i64 len)).drew) rfl
      have hxp := box_put (L := len) (seg := seg) hx hi64
      have hS := (((Same.of_below hB1 (at1 g)).setCell (p := ⟨g, 0, none⟩) (fun _ => rfl) (.int .i64 cnt)).setCell (p := ⟨g, 1, none⟩) (fun _ => rfl) (.int .i64 len)).setCell (p := ⟨g, 2 + i, none⟩) (fun _ => rfl) (.string (str seg))
      clear hb1 hW2
      have HL2 := Lib.hid HL.out
      by_cases hl : leastOf cnt len seg.length ≤ 1024
      · go_wp2_with fail
        go_region
        go_wp2
        go_ret
        have hr : putIn cnt len ps i seg = 0 := by rw [HU.out, if_neg (by have := HB.out; omega)]
        refine ⟨by rw [hr]; rfl, ?_⟩
        rw [hr]
        exact ⟨hS.drew, fun _ => by rw [HL2.out]; exact ⟨hxp.n, hxp.blk⟩, fun h => absurd rfl h⟩
      · go_wp2_with fail
        go_ret
        have hr : putIn cnt len ps i seg = 120 := by rw [HU.out, if_pos (by omega)]
        refine ⟨by rw [hr]; rfl, ?_⟩
        rw [hr]
        exact ⟨Same.of_below hB1 _, fun h => by omega, fun _ => hx⟩
    · have hz0 : len ≤ 0 := by omega
      clear h1
      go_enter Tryz.func38, Tryz.ntmps38
      go_wp2
      go_region
      go_wp2_with fail
      refine (least_any cnt len seg.length _ hf.lo hcnt (by have := hf.len; omega) (by omega)).mono ?_
      rintro e w1 ⟨rfl, hb1⟩
      obtain ⟨n0, n1, hx, hB1⟩ := put_facts h hb1
      have hr1 := hr.later hB1
      have hng := bs_ne_box hx hr1 h3
      have d0 := hx.c0
      have d1 := hx.c1
      have dp := hx.cp hi64
      have f0 := hx.blk.frozen 0
      have f1 := hx.blk.frozen 1
      have fp := hx.blk.frozen (2 + i)
      have hW2 := ((hr1.setCell (p := ⟨g, 0, none⟩) hng (.int .i64 cnt)).setCell (p := ⟨g, 1, none⟩) hng (.int .i64 len))
      have k3 := run_str8 hW2 (W := ((w1.setCell ⟨g, 0, none⟩ (.int .i64 cnt)).setCell ⟨g, 1, none⟩ (.int .i64 len)).drew) rfl
      have hxp := box_put (L := len) (seg := seg) hx hi64
      have hS := (((Same.of_below hB1 (at1 g)).setCell (p := ⟨g, 0, none⟩) (fun _ => rfl) (.int .i64 cnt)).setCell (p := ⟨g, 1, none⟩) (fun _ => rfl) (.int .i64 len)).setCell (p := ⟨g, 2 + i, none⟩) (fun _ => rfl) (.string (str seg))
      clear hb1 hW2
      have HL2 := Lib.hid HL.out
      by_cases hl : leastOf cnt len seg.length ≤ 1024
      · go_wp2_with fail
        go_region
        go_wp2
        go_ret
        have hr : putIn cnt len ps i seg = 0 := by rw [HU.out, if_neg (by have := HB.out; omega)]
        refine ⟨by rw [hr]; rfl, ?_⟩
        rw [hr]
        exact ⟨hS.drew, fun _ => by rw [HL2.out]; exact ⟨hxp.n, hxp.blk⟩, fun h => absurd rfl h⟩
      · go_wp2_with fail
        go_ret
        have hr : putIn cnt len ps i seg = 120 := by rw [HU.out, if_pos (by omega)]
        refine ⟨by rw [hr]; rfl, ?_⟩
        rw [hr]
        exact ⟨Same.of_below hB1 _, fun h => by omega, fun _ => hx⟩
end Go.Proofs.YtfaemjlemaclbaaGreat
end
section
/- Put of a segment that is not the last one. -/
namespace Go.Proofs.YtfaemjlemaclbaaGreat
set_option linter.unusedVariables false
set_option linter.unusedSimpArgs false
open Go.RowKit

set_option maxHeartbeats 2000000 in
set_option maxRecDepth 100000 in
theorem put_mid0 (g cnt len i m : Nat) (ps : List (List UInt8)) (q : List UInt8) (v : Value) (seg : List UInt8) (w : World) (h : BoxAt w g cnt len ps) (hr : Bs w v seg) (hf : Fine cnt len ps)
    (hm1 : cnt = m + 1) (h1 : i < m) (h3 : 1 ≤ seg.length) (h4 : seg.length ≤ 1024) (hp : ps.getD i [] = []) (hq : ps.getD m [] = q) (hl0 : len = 0) :
    Calls Tryz.prog 38 #[.pointer (some ⟨g, 0, none⟩), .int .i64 i, v] w fun e w' => e = .returned (.int .i64 (putIn cnt len ps i seg)) ∧ PutPost w w' g cnt len i ps seg (putIn cnt len ps i seg) := by
  have c0 := h.c0
  have hcnt : cnt ≤ 64 := hf.hi
  have hi64 : i < 64 := by omega
  have hm64 : m < 64 := by omega
  have cp := h.cp hi64
  have cq := h.cp hm64
  rw [hp] at cp
  rw [hq] at cq
  have c1 := h.c1
  have hql : q.length ≤ 1024 := hq ▸ hf.at m
  have hsz : (str q).size = q.length := str_size q
  obtain ⟨ao, cap, rfl, hn, hm, hcc⟩ := id hr
  have hne : ((seg.length : Int) == 0) = false := by rw [beq_eq_false_iff_ne]; omega
  have k2 := run_str8 hr (W := w) rfl
  have hsn : ([] : List UInt8) ≠ seg := by intro h; subst h; simp at h3
  have e1 := str_beq_no hsn
  have e2 := str_none
  have ix1 : (i : Int) < 64 := by omega
  have ix2 : (m : Int) < 64 := by omega
  have hci : (cnt : Int) - 1 = m := by omega
  have hwi : IntKind.i64.wrap ((cnt : Int) - 1) = m := by rw [hci]; exact IntWalk.i64_in _ (by omega)
  have hpa : putLast cnt ps i seg.length = q.length := by rw [putLast, if_neg (by omega), show cnt - 1 = m by omega, hq]
  have hpl : putLen cnt len i seg.length = seg.length := by rw [putLen, if_neg (by omega), if_pos hl0]
  have hput : putIn cnt len ps i seg = if 0 < seg.length ∧ seg.length < q.length ∨ 1024 < leastOf cnt seg.length q.length then 120 else 0 := by
    rw [putIn, hp, if_neg hsn, if_neg (by simp), if_neg (by omega), hpl, hpa]
  have HL := Lib.hid hpl; clear hpl
  have hlb : ((len : Int) == 0) = true := by rw [beq_iff_eq]; omega
  have HP := Lib.hid hp; have HQ := Lib.hid hq; have HU := Lib.hid hput; have HSN := Lib.hid hsn; have HM := Lib.hid hm1; clear hp hput hpa hsn hq
  have hBelow : ∀ o, Below w.heap.size w (w.alloc o) := fun o => (Below.refl w.heap.size w).alloc (Nat.le_refl _) o
  have hal := fun o => h.later (hBelow o)
  have a0 := fun o => (hal o).c0
  have a1 := fun o => (hal o).c1
  have ap := fun o => (hal o).cp hi64
  have aq := fun o => (hal o).cp hm64
  rw [HP.out] at ap
  rw [HQ.out] at aq
  have hg := h.blk.lt
  have hcmp : ((i : Int) == (m : Int)) = false := by rw [beq_eq_false_iff_ne]; omega
  have hcnt1 : i < cnt := by omega
  clear hm1 hl0
  by_cases hbad : 0 < seg.length ∧ seg.length < q.length
  · have HB := Lib.hid hbad
    obtain ⟨hb1, hb2⟩ := hbad
    go_enter Tryz.func38, Tryz.ntmps38
    go_wp2
    go_region
    go_wp2
    go_ret
    have hr : putIn cnt len ps i seg = 120 := by rw [HU.out, if_pos (.inl HB.out)]
    refine ⟨by rw [hr]; rfl, ?_⟩
    rw [hr]
    exact ⟨Same.of_below (hBelow _).drew _, fun h => by omega, fun _ => ⟨h.n, (hal _).blk⟩⟩
  · have HB := Lib.hid hbad
    have hb' : ¬ (seg.length < q.length) := by omega
    · go_enter Tryz.func38, Tryz.ntmps38
      go_wp2
      go_region
      go_wp2_with fail
      refine (least_any cnt seg.length q.length _ hf.lo hcnt (by have := hf.len; omega) (by omega)).mono ?_
      rintro e w1 ⟨rfl, hb1⟩
      obtain ⟨n0, n1, hx, hB1⟩ := put_facts h hb1
      have hr1 := hr.later hB1
      have hng := bs_ne_box hx hr1 h3
      have d0 := hx.c0
      have d1 := hx.c1
      have dp := hx.cp hi64
      have f0 := hx.blk.frozen 0
      have f1 := hx.blk.frozen 1
      have fp := hx.blk.frozen (2 + i)
      have hW2 := ((hr1.setCell (p := ⟨g, 0, none⟩) hng (.int .i64 cnt)).setCell (p := ⟨g, 1, none⟩) hng (.int .i64 seg.length))
      have k3 := run_str8 hW2 (W := ((w1.setCell ⟨g, 0, none⟩ (.int .i64 cnt)).setCell ⟨g, 1, none⟩ (.int .i64 seg.length)).drew) rfl
      have hxp := box_put (L := seg.length) (seg := seg) hx hi64
      have hS := (((Same.of_below hB1 (at1 g)).setCell (p := ⟨g, 0, none⟩) (fun _ => rfl) (.int .i64 cnt)).setCell (p := ⟨g, 1, none⟩) (fun _ => rfl) (.int .i64 seg.length)).setCell (p := ⟨g, 2 + i, none⟩) (fun _ => rfl) (.string (str seg))
      clear hb1 hW2
      by_cases hl : leastOf cnt seg.length q.length ≤ 1024
      · go_wp2_with fail
        go_region
        go_wp2
        go_ret
        have hr : putIn cnt len ps i seg = 0 := by rw [HU.out, if_neg (by have := HB.out; omega)]
        refine ⟨by rw [hr]; rfl, ?_⟩
        rw [hr]
        exact ⟨hS.drew, fun _ => by rw [HL.out]; exact ⟨hxp.n, hxp.blk⟩, fun h => absurd rfl h⟩
      · go_wp2_with fail
        go_ret
        have hr : putIn cnt len ps i seg = 120 := by rw [HU.out, if_pos (by omega)]
        refine ⟨by rw [hr]; rfl, ?_⟩
        rw [hr]
        exact ⟨Same.of_below hB1 _, fun h => by omega, fun _ => hx⟩
set_option maxHeartbeats 2000000 in
set_option maxRecDepth 100000 in
theorem put_midL (g cnt len i m : Nat) (ps : List (List UInt8)) (q : List UInt8) (v : Value) (seg : List UInt8) (w : World) (h : BoxAt w g cnt len ps) (hr : Bs w v seg) (hf : Fine cnt len ps)
    (hm1 : cnt = m + 1) (h1 : i < m) (h3 : 1 ≤ seg.length) (h4 : seg.length ≤ 1024) (hp : ps.getD i [] = []) (hq : ps.getD m [] = q) (hl0 : len = seg.length) :
    Calls Tryz.prog 38 #[.pointer (some ⟨g, 0, none⟩), .int .i64 i, v] w fun e w' => e = .returned (.int .i64 (putIn cnt len ps i seg)) ∧ PutPost w w' g cnt len i ps seg (putIn cnt len ps i seg) := by
  have c0 := h.c0
  have hcnt : cnt ≤ 64 := hf.hi
  have hi64 : i < 64 := by omega
  have hm64 : m < 64 := by omega
  have cp := h.cp hi64
  have cq := h.cp hm64
  rw [hp] at cp
  rw [hq] at cq
  have c1 := h.c1
  have hql : q.length ≤ 1024 := hq ▸ hf.at m
  have hsz : (str q).size = q.length := str_size q
  obtain ⟨ao, cap, rfl, hn, hm, hcc⟩ := id hr
  have hne : ((seg.length : Int) == 0) = false := by rw [beq_eq_false_iff_ne]; omega
  have k2 := run_str8 hr (W := w) rfl
  have hsn : ([] : List UInt8) ≠ seg := by intro h; subst h; simp at h3
  have e1 := str_beq_no hsn
  have e2 := str_none
  have ix1 : (i : Int) < 64 := by omega
  have ix2 : (m : Int) < 64 := by omega
  have hci : (cnt : Int) - 1 = m := by omega
  have hwi : IntKind.i64.wrap ((cnt : Int) - 1) = m := by rw [hci]; exact IntWalk.i64_in _ (by omega)
  have hpa : putLast cnt ps i seg.length = q.length := by rw [putLast, if_neg (by omega), show cnt - 1 = m by omega, hq]
  have hpl : putLen cnt len i seg.length = len := by rw [putLen, if_neg (by omega), if_neg (by omega)]
  have hput : putIn cnt len ps i seg = if 0 < len ∧ len < q.length ∨ 1024 < leastOf cnt len q.length then 120 else 0 := by
    rw [putIn, hp, if_neg hsn, if_neg (by simp), if_neg (by omega), hpl, hpa]
  have HL := Lib.hid hpl; clear hpl
  have hlb : ((len : Int) == 0) = false := by rw [beq_eq_false_iff_ne]; omega
  have hlb2 : ((len : Int) != (seg.length : Int)) = false := by rw [bne_eq_false_iff_eq]; omega
  have hlp : 0 < len := by omega
  have HP := Lib.hid hp; have HQ := Lib.hid hq; have HU := Lib.hid hput; have HSN := Lib.hid hsn; have HM := Lib.hid hm1; clear hp hput hpa hsn hq
  have hBelow : ∀ o, Below w.heap.size w (w.alloc o) := fun o => (Below.refl w.heap.size w).alloc (Nat.le_refl _) o
  have hal := fun o => h.later (hBelow o)
  have a0 := fun o => (hal o).c0
  have a1 := fun o => (hal o).c1
  have ap := fun o => (hal o).cp hi64
  have aq := fun o => (hal o).cp hm64
  rw [HP.out] at ap
  rw [HQ.out] at aq
  have hg := h.blk.lt
  have hcmp : ((i : Int) == (m : Int)) = false := by rw [beq_eq_false_iff_ne]; omega
  have hcnt1 : i < cnt := by omega
  clear hm1 hl0
  by_cases hbad : 0 < len ∧ len < q.length
  · have HB := Lib.hid hbad
    obtain ⟨hb1, hb2⟩ := hbad
    go_enter Tryz.func38, Tryz.ntmps38
    go_wp2
    go_region
    go_wp2
    go_ret
    have hr : putIn cnt len ps i seg = 120 := by rw [HU.out, if_pos (.inl HB.out)]
    refine ⟨by rw [hr]; rfl, ?_⟩
    rw [hr]
    exact ⟨Same.of_below (hBelow _).drew _, fun h => by omega, fun _ => ⟨h.n, (hal _).blk⟩⟩
  · have HB := Lib.hid hbad
    have hb' : ¬ (len < q.length) := by omega
    · go_enter Tryz.func38, Tryz.ntmps38
      go_wp2
      go_region
      go_wp2_with fail
      refine (least_any cnt len q.length _ hf.lo hcnt (by have := hf.len; omega) (by omega)).mono ?_
      rintro e w1 ⟨rfl, hb1⟩
      obtain ⟨n0, n1, hx, hB1⟩ := put_facts h hb1
      have hr1 := hr.later hB1
      have hng := bs_ne_box hx hr1 h3
      have d0 := hx.c0
      have d1 := hx.c1
      have dp := hx.cp hi64
      have f0 := hx.blk.frozen 0
      have f1 := hx.blk.frozen 1
      have fp := hx.blk.frozen (2 + i)
      have hW2 := ((hr1.setCell (p := ⟨g, 0, none⟩) hng (.int .i64 cnt)).setCell (p := ⟨g, 1, none⟩) hng (.int .i64 len))
      have k3 := run_str8 hW2 (W := ((w1.setCell ⟨g, 0, none⟩ (.int .i64 cnt)).setCell ⟨g, 1, none⟩ (.int .i64 len)).drew) rfl
      have hxp := box_put (L := len) (seg := seg) hx hi64
      have hS := (((Same.of_below hB1 (at1 g)).setCell (p := ⟨g, 0, none⟩) (fun _ => rfl) (.int .i64 cnt)).setCell (p := ⟨g, 1, none⟩) (fun _ => rfl) (.int .i64 len)).setCell (p := ⟨g, 2 + i, none⟩) (fun _ => rfl) (.string (str seg))
      clear hb1 hW2
      by_cases hl : leastOf cnt len q.length ≤ 1024
      · go_wp2_with fail
        go_region
        go_wp2
        go_ret
        have hr : putIn cnt len ps i seg = 0 := by rw [HU.out, if_neg (by have := HB.out; omega)]
        refine ⟨by rw [hr]; rfl, ?_⟩
        rw [hr]
        exact ⟨hS.drew, fun _ => by rw [HL.out]; exact ⟨hxp.n, hxp.blk⟩, fun h => absurd rfl h⟩
      · go_wp2_with fail
        go_ret
        have hr : putIn cnt len ps i seg = 120 := by rw [HU.out, if_pos (by omega)]
        refine ⟨by rw [hr]; rfl, ?_⟩
        rw [hr]
        exact ⟨Same.of_below hB1 _, fun h => by omega, fun _ => hx⟩
set_option maxHeartbeats 2000000 in
set_option maxRecDepth 100000 in
theorem put_midN (g cnt len i m : Nat) (ps : List (List UInt8)) (q : List UInt8) (v : Value) (seg : List UInt8) (w : World) (h : BoxAt w g cnt len ps) (hr : Bs w v seg) (hf : Fine cnt len ps)
    (hm1 : cnt = m + 1) (h1 : i < m) (h3 : 1 ≤ seg.length) (h4 : seg.length ≤ 1024) (hp : ps.getD i [] = []) (hq : ps.getD m [] = q) (hl0 : len ≠ 0) (hl1 : len ≠ seg.length) :
    Calls Tryz.prog 38 #[.pointer (some ⟨g, 0, none⟩), .int .i64 i, v] w fun e w' => e = .returned (.int .i64 (putIn cnt len ps i seg)) ∧ PutPost w w' g cnt len i ps seg (putIn cnt len ps i seg) := by
  have c0 := h.c0
  have hcnt : cnt ≤ 64 := hf.hi
  have hi64 : i < 64 := by omega
  have hm64 : m < 64 := by omega
  have cp := h.cp hi64
  have cq := h.cp hm64
  rw [hp] at cp
  rw [hq] at cq
  have c1 := h.c1
  have hql : q.length ≤ 1024 := hq ▸ hf.at m
  have hsz : (str q).size = q.length := str_size q
  obtain ⟨ao, cap, rfl, hn, hm, hcc⟩ := id hr
  have hne : ((seg.length : Int) == 0) = false := by rw [beq_eq_false_iff_ne]; omega
  have k2 := run_str8 hr (W := w) rfl
  have hsn : ([] : List UInt8) ≠ seg := by intro h; subst h; simp at h3
  have e1 := str_beq_no hsn
  have e2 := str_none
  have ix1 : (i : Int) < 64 := by omega
  have ix2 : (m : Int) < 64 := by omega
  have hci : (cnt : Int) - 1 = m := by omega
  have hwi : IntKind.i64.wrap ((cnt : Int) - 1) = m := by rw [hci]; exact IntWalk.i64_in _ (by omega)
  have hpa : putLast cnt ps i seg.length = q.length := by rw [putLast, if_neg (by omega), show cnt - 1 = m by omega, hq]
  have hput : putIn cnt len ps i seg = 120 := by
    rw [putIn, hp, if_neg hsn, if_neg (by simp), if_pos (by omega)]
  have hlb : ((len : Int) == 0) = false := by rw [beq_eq_false_iff_ne]; omega
  have hlb2 : ((len : Int) != (seg.length : Int)) = true := by rw [bne_iff_ne]; omega
  have HP := Lib.hid hp; have HQ := Lib.hid hq; have HU := Lib.hid hput; have HSN := Lib.hid hsn; have HM := Lib.hid hm1; clear hp hput hpa hsn hq
  have hBelow : ∀ o, Below w.heap.size w (w.alloc o) := fun o => (Below.refl w.heap.size w).alloc (Nat.le_refl _) o
  have hal := fun o => h.later (hBelow o)
  have a0 := fun o => (hal o).c0
  have a1 := fun o => (hal o).c1
  have ap := fun o => (hal o).cp hi64
  have aq := fun o => (hal o).cp hm64
  rw [HP.out] at ap
  rw [HQ.out] at aq
  have hg := h.blk.lt
  have hcmp : ((i : Int) == (m : Int)) = false := by rw [beq_eq_false_iff_ne]; omega
  have hcnt1 : i < cnt := by omega
  clear hm1 hl0 hl1
  go_enter Tryz.func38, Tryz.ntmps38
  go_wp2
  go_region
  go_wp2
  go_ret
  have hr : putIn cnt len ps i seg = 120 := HU.out
  refine ⟨by rw [hr]; rfl, ?_⟩
  rw [hr]
  exact ⟨Same.of_below (hBelow _).drew _, fun h => by omega, fun _ => ⟨h.n, (hal _).blk⟩⟩
end Go.Proofs.YtfaemjlemaclbaaGreat
end
section
/- Whole: the block, if all segments are there. -/
namespace Go.Proofs.YtfaemjlemaclbaaGreat
set_option linter.unusedVariables false
set_option linter.unusedSimpArgs false
open Go.RowKit

theorem take_succ_getD (ps : List (List UInt8)) (k : Nat) (h : k < ps.length) : (ps.take (k + 1)).flatten = (ps.take k).flatten ++ ps.getD k [] := by
  rw [List.take_succ_eq_append_getElem h, List.flatten_append, List.getD_eq_getElem?_getD, List.getElem?_eq_getElem h]
  simp
set_option maxRecDepth 10000 in
theorem flat_le {cnt len : Nat} {ps : List (List UInt8)} (hf : Fine cnt len ps) (k : Nat) : (ps.take k).flatten.length ≤ k * 1024 := by
  induction k with
  | zero => simp
  | succ k ih =>
    by_cases h : k < ps.length
    · rw [take_succ_getD ps k h, List.length_append]
      have := hf.at k
      omega
    · rw [List.take_of_length_le (by omega)]
      rw [List.take_of_length_le (by omega)] at ih
      omega

set_option maxHeartbeats 1000000 in
set_option maxRecDepth 100000 in
theorem whole_yes (g cnt len : Nat) (ps : List (List UInt8)) (w : World) (h : BoxAt w g cnt len ps) (hf : Fine cnt len ps) (hall : ∀ i, i < cnt → ps.getD i [] ≠ []) :
    Calls Tryz.prog 41 #[.pointer (some ⟨g, 0, none⟩)] w fun e w' => ∃ v, e = .returned (.tuple #[v, .bool true]) ∧ w'.ownsRow w.heap.size 5 1 v (ps.take cnt).flatten.length ((ps.take cnt).flatten.map ub) ∧ Below w.heap.size w w' := by
  have c0 := h.c0
  have hcnt := hf.hi
  have hne : ((cnt : Int) == 0) = false := by rw [beq_eq_false_iff_ne]; have := hf.lo; omega
  have hg := h.blk.lt
  go_enter Tryz.func41, Tryz.ntmps41
  go_wp2
  go_loopw [4, 21] (fun o i wr => ∃ k : Nat, k ≤ cnt ∧ i = .int .i64 k ∧ wr.ownsRow w.heap.size 5 1 o (ps.take k).flatten.length ((ps.take k).flatten.map ub) ∧ Below w.heap.size w wr)
    (fun _ i _ => cnt - (intOf i).toNat)
  case atStart => exact ⟨0, Nat.zero_le _, rfl, World.ownsRow_nil _ _ _ _, Below.refl _ _⟩
  case round =>
    obtain ⟨k, hk, rfl, hown, hB⟩ := hrel
    have hz := hB.size
    by_cases hlt : k < cnt
    · have hb := h.later hB
      have cp := hb.cp (i := k) (by omega)
      obtain ⟨p, hp⟩ : ∃ p, p = ps.getD k [] := ⟨_, rfl⟩
      have hpe : p ≠ [] := hp ▸ hall k hlt
      have hpl : p.length ≤ 1024 := hp ▸ hf.at k
      have hfl := flat_le hf k
      have hts := take_succ_getD ps k (by rw [h.n]; omega)
      rw [← hp] at cp hts
      have hpem := str_some hpe
      have ix : (k : Int) < 64 := by omega
      have HP := Lib.hid hp; have HT := Lib.hid hts; clear hp hts hpe
      go_wp2_with (refine wpList_appStr rfl (.tmp 31) (.tmp 37) rfl hown rfl (l := p) rfl (by omega) hz ?_; intro v1 w1 hown1 hgr1)
      have hB1 := hB.grown hgr1 hz (fun k hk => (hown.lt k hk).1)
      clear hgr1 hown hb
      go_roundw
      case rel => exact ⟨k + 1, by omega, by go_num, by rw [HT.out, List.length_append, List.map_append]; exact hown1, hB1⟩
      case measure => simp [intOf]; omega
    · obtain rfl : k = cnt := by omega
      go_wp2
      go_ret2
      exact ⟨_, rfl, hown, hB⟩

set_option maxHeartbeats 1000000 in
set_option maxRecDepth 100000 in
theorem whole_no (g cnt len j : Nat) (ps : List (List UInt8)) (w : World) (h : BoxAt w g cnt len ps) (hf : Fine cnt len ps) (hj : j < cnt) (hnone : ps.getD j [] = []) (hall : ∀ i, i < j → ps.getD i [] ≠ []) :
    Calls Tryz.prog 41 #[.pointer (some ⟨g, 0, none⟩)] w fun e w' => e = .returned (.tuple #[.slice none 0 0, .bool false]) ∧ Below w.heap.size w w' := by
  have c0 := h.c0
  have hcnt := hf.hi
  have hne : ((cnt : Int) == 0) = false := by rw [beq_eq_false_iff_ne]; have := hf.lo; omega
  have hg := h.blk.lt
  go_enter Tryz.func41, Tryz.ntmps41
  go_wp2
  go_loopw [4, 21] (fun o i wr => ∃ k : Nat, k ≤ j ∧ i = .int .i64 k ∧ wr.ownsRow w.heap.size 5 1 o (ps.take k).flatten.length ((ps.take k).flatten.map ub) ∧ Below w.heap.size w wr)
    (fun _ i _ => cnt - (intOf i).toNat)
  case atStart => exact ⟨0, Nat.zero_le _, rfl, World.ownsRow_nil _ _ _ _, Below.refl _ _⟩
  case round =>
    obtain ⟨k, hk, rfl, hown, hB⟩ := hrel
    have hz := hB.size
    have hb := h.later hB
    have cp := hb.cp (i := k) (by omega)
    have ix : (k : Int) < 64 := by omega
    have hkc : k < cnt := by omega
    by_cases hlt : k < j
    · obtain ⟨p, hp⟩ : ∃ p, p = ps.getD k [] := ⟨_, rfl⟩
      have hpe : p ≠ [] := hp ▸ hall k hlt
      have hpl : p.length ≤ 1024 := hp ▸ hf.at k
      have hfl := flat_le hf k
      have hts := take_succ_getD ps k (by rw [h.n]; omega)
      rw [← hp] at cp hts
      have hpem := str_some hpe
      have HP := Lib.hid hp; have HT := Lib.hid hts; clear hp hts hpe
      go_wp2_with (refine wpList_appStr rfl (.tmp 31) (.tmp 37) rfl hown rfl (l := p) rfl (by omega) hz ?_; intro v1 w1 hown1 hgr1)
      have hB1 := hB.grown hgr1 hz (fun k hk => (hown.lt k hk).1)
      clear hgr1 hown hb
      go_roundw
      case rel => exact ⟨k + 1, by omega, by go_num, by rw [HT.out, List.length_append, List.map_append]; exact hown1, hB1⟩
      case measure => simp [intOf]; omega
    · obtain rfl : k = j := by omega
      rw [hnone] at cp
      have hem := str_none
      clear hnone
      go_wp2
      go_ret2
      exact ⟨rfl, hB⟩
end Go.Proofs.YtfaemjlemaclbaaGreat
end
section
/- Plain law: the pieces of a block, put into a box in any order. -/
namespace Go.Proofs.YtfaemjlemaclbaaGreat
set_option linter.unusedVariables false
set_option linter.unusedSimpArgs false
open Go.RowKit

/-- the box after the pieces of H were put. -/
def lenH (k m : Nat) (H : Nat → Bool) : Nat := if (List.range (k - 1)).any H then m else 0
def psH (m : Nat) (l : List UInt8) (k : Nat) (H : Nat → Bool) : List (List UInt8) := (List.range 64).map fun i => if i < k ∧ H i = true then piece m l i else []
def addH (H : Nat → Bool) (i : Nat) : Nat → Bool := fun j => H j || j == i

/-- n bytes are cut into k pieces of m bytes. -/
structure Cuts (n m k : Nat) : Prop where
  k0 : 1 ≤ k
  k1 : k ≤ 64
  m0 : 1 ≤ m
  m1 : m ≤ 1024
  n1 : n ≤ 1024
  lo : (k - 1) * m < n
  hi : n ≤ k * m
theorem cuts_of {n m : Nat} (h1 : 1 ≤ m) (h2 : m ≤ 1024) (h3 : 1 ≤ n) (h4 : n ≤ 1024) (h5 : (n + m - 1) / m ≤ 64) : Cuts n m ((n + m - 1) / m) := by
  have a : m * ((n + m - 1) / m) + (n + m - 1) % m = n + m - 1 := Nat.div_add_mod _ _
  have b : (n + m - 1) % m < m := Nat.mod_lt _ (by omega)
  obtain ⟨k, hk⟩ : ∃ k, k = (n + m - 1) / m := ⟨_, rfl⟩
  rw [← hk] at a h5 ⊢
  rw [Nat.mul_comm] at a
  have k0 : 1 ≤ k := by
    rcases Nat.eq_zero_or_pos k with h | h
    · subst h; simp at a; omega
    · exact h
  obtain ⟨j, rfl⟩ : ∃ j, k = j + 1 := ⟨k - 1, by omega⟩
  rw [Nat.add_mul] at a
  refine ⟨k0, h5, h1, h2, h4, ?_, ?_⟩
  · simp only [Nat.add_sub_cancel]; omega
  · rw [Nat.add_mul]; omega
section
variable {l : List UInt8} {m k : Nat} {H : Nat → Bool}
theorem piece_len (h : Cuts l.length m k) {i : Nat} (hi : i + 1 < k) : (piece m l i).length = m := by
  have h1 : (i + 1) * m ≤ (k - 1) * m := Nat.mul_le_mul_right m (by omega)
  have := h.lo
  rw [Nat.add_mul] at h1
  simp [piece]; omega
theorem piece_last (h : Cuts l.length m k) : (piece m l (k - 1)).length = l.length - (k - 1) * m := by
  have h1 := h.hi
  have h2 : k * m = (k - 1) * m + m := by
    obtain ⟨j, hj⟩ : ∃ j, k = j + 1 := ⟨k - 1, by have := h.k0; omega⟩
    subst hj
    rw [Nat.add_mul]; simp
  simp [piece]; omega
theorem piece_pos (h : Cuts l.length m k) {i : Nat} (hi : i < k) : 1 ≤ (piece m l i).length ∧ (piece m l i).length ≤ m := by
  by_cases h1 : i + 1 < k
  · have := piece_len h h1
    have := h.m0
    omega
  · obtain rfl : i = k - 1 := by omega
    have h2 := piece_last h
    have h3 := h.lo
    have h4 : (piece m l (k - 1)).length ≤ m := by simp [piece]; omega
    omega
theorem psH_length : (psH m l k H).length = 64 := by simp [psH]
theorem psH_at (hk : k ≤ 64) {i : Nat} (hi : i < k) : (psH m l k H).getD i [] = if H i = true then piece m l i else [] := by
  have h64 : i < 64 := by omega
  simp [psH, h64, hi]
theorem psH_beyond {i : Nat} (hi : k ≤ i) : (psH m l k H).getD i [] = [] := by
  by_cases h64 : i < 64
  · simp [psH, h64, show ¬ i < k by omega]
  · simp [psH, h64]
theorem psH_set (hk : k ≤ 64) {i : Nat} (hi : i < k) : (psH m l k H).set i (piece m l i) = psH m l k (addH H i) := by
  apply List.ext_getElem
  · simp [psH]
  · intro j h1 h2
    rw [List.getElem_set]
    split
    · next e => subst e; simp [psH, addH, hi]
    · next e =>
      have hji : ¬ j = i := fun h => e h.symm
      simp [psH, addH, hji]
theorem fineH (h : Cuts l.length m k) : Fine k (lenH k m H) (psH m l k H) := by
  refine ⟨h.k0, h.k1, ?_, fun p hp => ?_⟩
  · have := h.m1; unfold lenH; split <;> omega
  · simp only [psH, List.mem_map, List.mem_range] at hp
    obtain ⟨i, _, rfl⟩ := hp
    split
    · next e => have := (piece_pos h e.1).2; have := h.m1; omega
    · simp
theorem put_again (h : Cuts l.length m k) {i : Nat} (hi : i < k) (hH : H i = true) : putIn k (lenH k m H) (psH m l k H) i (piece m l i) = 3 := by
  rw [putIn, psH_at h.k1 hi, if_pos hH, if_pos rfl]
theorem lenH_add_last : lenH k m (addH H (k - 1)) = lenH k m H := by
  have : (List.range (k - 1)).any (addH H (k - 1)) = (List.range (k - 1)).any H := by
    rw [Bool.eq_iff_iff]
    simp only [List.any_eq_true, List.mem_range, addH, Bool.or_eq_true, beq_iff_eq]
    constructor
    · rintro ⟨x, hx, h | h⟩
      · exact ⟨x, hx, h⟩
      · omega
    · rintro ⟨x, hx, h⟩
      exact ⟨x, hx, .inl h⟩
  unfold lenH
  rw [this]
theorem lenH_add {i : Nat} (hi : i + 1 < k) : lenH k m (addH H i) = m := by
  have : (List.range (k - 1)).any (addH H i) = true := by
    simp only [List.any_eq_true, List.mem_range]
    exact ⟨i, by omega, by simp [addH]⟩
  unfold lenH
  rw [if_pos this]
theorem lenH_cases : lenH k m H = 0 ∨ lenH k m H = m := by unfold lenH; split <;> simp
theorem put_fresh (h : Cuts l.length m k) {i : Nat} (hi : i < k) (hH : H i = false) :
    putIn k (lenH k m H) (psH m l k H) i (piece m l i) = 0 ∧ putLen k (lenH k m H) i (piece m l i).length = lenH k m (addH H i) := by
  have hp := piece_pos h hi
  have hne : ([] : List UInt8) ≠ piece m l i := by intro e; rw [← e] at hp; simp at hp
  have hlo := h.lo
  have hm0 := h.m0
  have hn1 := h.n1
  have hlast := piece_last h
  have hlp := piece_pos h (i := k - 1) (by omega)
  have hkm : k * m = (k - 1) * m + m := by
    obtain ⟨j, hj⟩ : ∃ j, k = j + 1 := ⟨k - 1, by have := h.k0; omega⟩
    subst hj
    rw [Nat.add_mul]; simp
  have hL : putLen k (lenH k m H) i (piece m l i).length = lenH k m (addH H i) := by
    by_cases h1 : i + 1 = k
    · rw [putLen, if_pos h1, show i = k - 1 by omega, lenH_add_last]
    · rw [putLen, if_neg h1, lenH_add (by omega), piece_len h (by omega)]
      rcases lenH_cases (k := k) (m := m) (H := H) with e | e
      · rw [if_pos e]
      · rw [e, if_neg (by omega)]
  have hA : putLast k (psH m l k H) i (piece m l i).length ≤ (piece m l (k - 1)).length := by
    by_cases h1 : i + 1 = k
    · rw [putLast, if_pos h1, show i = k - 1 by omega]; exact Nat.le_refl _
    · rw [putLast, if_neg h1, psH_at h.k1 (by omega)]
      split <;> simp
  refine ⟨?_, hL⟩
  rw [putIn, psH_at h.k1 hi, if_neg (by rw [hH]; simpa using hne), if_neg (by rw [hH]; simp), if_neg, hL, if_neg]
  · intro hh
    generalize hal : putLast k (psH m l k H) i (piece m l i).length = al at hA hh
    by_cases h0 : lenH k m (addH H i) = 0
    · rw [h0] at hh
      have : leastOf k 0 al ≤ 1024 := by
        rw [leastOf, if_neg (by omega)]
        have e1 : k * al ≤ k * (piece m l (k - 1)).length := Nat.mul_le_mul_left k hA
        have e2 : (k - 1) * (piece m l (k - 1)).length ≤ (k - 1) * m := Nat.mul_le_mul_left _ hlp.2
        have e3 : k * (piece m l (k - 1)).length = (k - 1) * (piece m l (k - 1)).length + (piece m l (k - 1)).length := by
          obtain ⟨j, hj⟩ : ∃ j, k = j + 1 := ⟨k - 1, by have := h.k0; omega⟩
          subst hj
          rw [Nat.add_mul]; simp
        omega
      omega
    · have e := (lenH_cases (k := k) (m := m) (H := addH H i)).resolve_left h0
      rw [e] at hh
      have : leastOf k m al ≤ 1024 := by
        rw [leastOf, if_pos (by omega)]
        have : max al 1 ≤ (piece m l (k - 1)).length := by omega
        omega
      omega
  · rintro ⟨h1, h2, h3⟩
    rw [piece_len h (by omega)] at h3
    rcases lenH_cases (k := k) (m := m) (H := H) with e | e <;> omega
/-- the pieces together are the block. -/
theorem pieces_flat (h : Cuts l.length m k) : ∀ j, j ≤ k → ((List.range j).map (piece m l)).flatten = l.take (j * m) := by
  intro j
  induction j with
  | zero => intro _; simp
  | succ j ih =>
    intro hj
    rw [List.range_succ, List.map_append, List.flatten_append, ih (by omega)]
    simp only [List.map_cons, List.map_nil, List.flatten_cons, List.flatten_nil, List.append_nil]
    rw [piece, Nat.add_mul, Nat.one_mul, List.take_add]
theorem psH_all (h : Cuts l.length m k) (hH : ∀ i, i < k → H i = true) : ((psH m l k H).take k).flatten = l := by
  have e : (psH m l k H).take k = (List.range k).map (piece m l) := by
    apply List.ext_getElem
    · have := h.k1; simp [psH]; omega
    · intro i h1 h2
      have hi : i < k := by simpa using h2
      simp [psH, hi, hH i hi]
  rw [e, pieces_flat h k (Nat.le_refl _), List.take_of_length_le h.hi]
theorem psH_none : psH m l k (fun _ => false) = List.replicate 64 [] := by
  simp [psH]
  rfl
theorem lenH_none : lenH k m (fun _ => false) = 0 := by simp [lenH]
end
end Go.Proofs.YtfaemjlemaclbaaGreat
end
section
/- Put, whatever it is handed. -/
namespace Go.Proofs.YtfaemjlemaclbaaGreat
set_option linter.unusedVariables false
set_option linter.unusedSimpArgs false
open Go.RowKit

theorem put_in (g cnt len i : Nat) (ps : List (List UInt8)) (v : Value) (seg : List UInt8) (w : World) (h : BoxAt w g cnt len ps) (hr : Bs w v seg) (hf : Fine cnt len ps)
    (h1 : i < cnt) (h3 : 1 ≤ seg.length) (h4 : seg.length ≤ 1024) :
    Calls Tryz.prog 38 #[.pointer (some ⟨g, 0, none⟩), .int .i64 i, v] w fun e w' => e = .returned (.int .i64 (putIn cnt len ps i seg)) ∧ PutPost w w' g cnt len i ps seg (putIn cnt len ps i seg) := by
  by_cases hp : ps.getD i [] = []
  · by_cases hl : i + 1 = cnt
    · exact put_last g cnt len i ps v seg w h hr hf hl h3 h4 hp
    · by_cases h0 : len = 0
      · exact put_mid0 g cnt len i (cnt - 1) ps _ v seg w h hr hf (by omega) (by omega) h3 h4 hp rfl h0
      · by_cases h5 : len = seg.length
        · exact put_midL g cnt len i (cnt - 1) ps _ v seg w h hr hf (by omega) (by omega) h3 h4 hp rfl h5
        · exact put_midN g cnt len i (cnt - 1) ps _ v seg w h hr hf (by omega) (by omega) h3 h4 hp rfl h0 h5
  · refine (put_there g cnt len i ps _ v seg w h hr hf h1 h3 h4 rfl hp).mono ?_
    rintro e w' ⟨rfl, rfl⟩
    have : putIn cnt len ps i seg = thereErr (ps.getD i []) seg := by
      rw [putIn, thereErr]
      by_cases hs : ps.getD i [] = seg
      · rw [if_pos hs, if_pos hs]
      · rw [if_neg hs, if_neg hs, if_pos hp]
    rw [this]
    refine ⟨rfl, Same.refl _ _, fun h0 => ?_, fun _ => h⟩
    rw [thereErr] at h0
    split at h0 <;> omega

/-- A box, as the mind has it. -/
structure BoxS where
  cnt : Nat
  len : Nat
  ps : List (List UInt8)
def BoxS.put (b : BoxS) (index : Int) (seg : List UInt8) : BoxS :=
  if putErr b.cnt b.len b.ps index seg = 0 then ⟨b.cnt, putLen b.cnt b.len index.toNat seg.length, b.ps.set index.toNat seg⟩ else b
def BoxS.at (b : BoxS) (w : World) (g : Nat) : Prop := BoxAt w g b.cnt b.len b.ps
def BoxS.fine (b : BoxS) : Prop := Fine b.cnt b.len b.ps
theorem putErr_in {cnt len : Nat} {ps : List (List UInt8)} {index : Int} {seg : List UInt8} (h : ¬ (index < 0 ∨ (cnt : Int) ≤ index ∨ seg.length = 0 ∨ 1024 < seg.length)) : putErr cnt len ps index seg = putIn cnt len ps index.toNat seg := if_neg h
theorem putErr_arg {cnt len : Nat} {ps : List (List UInt8)} {index : Int} {seg : List UInt8} (h : index < 0 ∨ (cnt : Int) ≤ index ∨ seg.length = 0 ∨ 1024 < seg.length) : putErr cnt len ps index seg = 1 := if_pos h
theorem BoxS.fine_put (b : BoxS) (hf : b.fine) (index : Int) (seg : List UInt8) : (b.put index seg).fine := by
  unfold BoxS.put
  split
  · next h0 =>
    by_cases hc : index < 0 ∨ (b.cnt : Int) ≤ index ∨ seg.length = 0 ∨ 1024 < seg.length
    · rw [putErr_arg hc] at h0; omega
    · refine ⟨hf.lo, hf.hi, ?_, fun p hp => ?_⟩
      · have := hf.len
        simp only [putLen]
        split
        · exact this
        · split <;> omega
      · rcases List.mem_or_eq_of_mem_set hp with h | h
        · exact hf.seg p h
        · subst h; omega
  · exact hf
theorem put_any (g : Nat) (b : BoxS) (index : Int) (v : Value) (seg : List UInt8) (w : World) (h : b.at w g) (hr : Bs w v seg) (hf : b.fine) :
    Calls Tryz.prog 38 #[.pointer (some ⟨g, 0, none⟩), .int .i64 index, v] w fun e w' =>
      e = .returned (.int .i64 (putErr b.cnt b.len b.ps index seg)) ∧ (b.put index seg).at w' g ∧ Same (at1 g) w w' := by
  by_cases hc : index < 0 ∨ (b.cnt : Int) ≤ index ∨ seg.length = 0 ∨ 1024 < seg.length
  · refine (put_arg g b.cnt b.len b.ps index v seg w h hr hc).mono ?_
    rintro e w' ⟨rfl, rfl⟩
    rw [putErr_arg hc]
    refine ⟨rfl, ?_, Same.refl _ _⟩
    rw [BoxS.put, putErr_arg hc, if_neg (by omega)]
    exact h
  · obtain ⟨i, rfl⟩ := Int.eq_ofNat_of_zero_le (show 0 ≤ index by omega)
    refine (put_in g b.cnt b.len i b.ps v seg w h hr hf (by omega) (by omega) (by omega)).mono ?_
    rintro e w' ⟨rfl, hS, hy, hn⟩
    have e := putErr_in (len := b.len) (ps := b.ps) hc
    simp only [Int.toNat_natCast] at e
    rw [e]
    refine ⟨rfl, ?_, hS⟩
    rw [BoxS.put, e]
    simp only [Int.toNat_natCast]
    split
    · next h0 => exact hy h0
    · next h0 => exact hn h0
def BoxS.ofH (k m : Nat) (l : List UInt8) (H : Nat → Bool) : BoxS := ⟨k, lenH k m H, psH m l k H⟩
theorem ofH_fine {l : List UInt8} {k m : Nat} {H : Nat → Bool} (h : Cuts l.length m k) : (BoxS.ofH k m l H).fine := fineH h
theorem ofH_err {l : List UInt8} {k m i : Nat} {H : Nat → Bool} (h : Cuts l.length m k) (hi : i < k) : putErr k (lenH k m H) (psH m l k H) (i : Int) (piece m l i) = if H i = true then 3 else 0 := by
  have hp := piece_pos h hi
  have hm := h.m1
  rw [putErr_in (by omega), Int.toNat_natCast]
  cases hH : H i with
  | true => rw [put_again h hi hH]; rfl
  | false => rw [(put_fresh h hi hH).1]; rfl
theorem addH_same {H : Nat → Bool} {i : Nat} (h : H i = true) : addH H i = H := by
  funext j
  unfold addH
  by_cases hj : j = i
  · subst hj; simp [h]
  · simp [hj]
theorem ofH_put {l : List UInt8} {k m i : Nat} {H : Nat → Bool} (h : Cuts l.length m k) (hi : i < k) : (BoxS.ofH k m l H).put (i : Int) (piece m l i) = BoxS.ofH k m l (addH H i) := by
  unfold BoxS.put BoxS.ofH
  simp only [ofH_err h hi, Int.toNat_natCast]
  cases hH : H i with
  | true => simp [addH_same hH]
  | false => simp [(put_fresh h hi hH).2, psH_set h.k1 hi]
theorem ofH_none {l : List UInt8} {k m : Nat} : BoxS.ofH k m l (fun _ => false) = ⟨k, 0, List.replicate 64 []⟩ := by
  simp only [BoxS.ofH, lenH_none, psH_none]
end Go.Proofs.YtfaemjlemaclbaaGreat
end
section
/- Plain law: a box that is whole holds the pieces of its block. -/
namespace Go.Proofs.YtfaemjlemaclbaaGreat
set_option linter.unusedVariables false
set_option linter.unusedSimpArgs false
open Go.RowKit

structure Good (b : BoxS) : Prop where
  fine : b.fine
  n : b.ps.length = 64
  eqs : ∀ i, i + 1 < b.cnt → b.ps.getD i [] = [] ∨ (b.ps.getD i []).length = b.len
  last : 0 < b.len → (b.ps.getD (b.cnt - 1) []).length ≤ b.len
  fit : leastOf b.cnt b.len (b.ps.getD (b.cnt - 1) []).length ≤ 1024
theorem good_new (n : Nat) (h1 : 1 ≤ n) (h2 : n ≤ 64) : Good ⟨n, 0, List.replicate 64 []⟩ := by
  have h : ∀ i, (List.replicate 64 ([] : List UInt8)).getD i [] = [] := fun i => by
    rw [List.getD_eq_getElem?_getD, List.getElem?_replicate]; split <;> rfl
  refine ⟨⟨h1, h2, Nat.zero_le _, fun p hp => by have := List.eq_of_mem_replicate hp; subst this; simp⟩, by simp, fun i _ => .inl (h i), fun h => by simp at h, ?_⟩
  simp only [h]
  simp [leastOf]
theorem getD_set {α : Type} (l : List α) (i j : Nat) (a d : α) (hi : i < l.length) : (l.set i a).getD j d = if j = i then a else l.getD j d := by
  rw [List.getD_eq_getElem?_getD, List.getElem?_set]
  by_cases h : i = j
  · subst h; simp [hi]
  · rw [if_neg h, if_neg (fun e => h e.symm), List.getD_eq_getElem?_getD]
theorem good_put (b : BoxS) (h : Good b) (index : Int) (seg : List UInt8) : Good (b.put index seg) := by
  have hfp := BoxS.fine_put b h.fine index seg
  unfold BoxS.put at hfp ⊢
  split at hfp
  · next h0 =>
    rw [if_pos h0]
    by_cases hc : index < 0 ∨ (b.cnt : Int) ≤ index ∨ seg.length = 0 ∨ 1024 < seg.length
    · rw [putErr_arg hc] at h0; omega
    rw [putErr_in hc] at h0
    obtain ⟨i, hi⟩ : ∃ i, index.toNat = i := ⟨_, rfl⟩
    rw [hi] at h0 hfp ⊢
    have hic : i < b.cnt := by omega
    have h64 := h.fine.hi
    have hil : i < b.ps.length := by rw [h.n]; omega
    unfold putIn at h0
    split at h0
    · omega
    split at h0
    · omega
    split at h0
    · omega
    next h3 =>
    split at h0
    · omega
    next h4 =>
    rw [not_or] at h4
    have hl : putLast b.cnt b.ps i seg.length = ((b.ps.set i seg).getD (b.cnt - 1) []).length := by
      rw [getD_set _ _ _ _ _ hil, putLast]
      by_cases hc1 : i + 1 = b.cnt
      · rw [if_pos hc1, if_pos (by omega)]
      · rw [if_neg hc1, if_neg (by omega)]
    rw [hl] at h4
    refine ⟨hfp, by simp [h.n], fun j hj => ?_, fun hp => by have := h4.1; simp only at hp ⊢; omega, by have := h4.2; simp only; omega⟩
    simp only at hj ⊢
    rw [getD_set _ _ _ _ _ hil]
    by_cases hji : j = i
    · rw [if_pos hji]
      right
      rw [putLen, if_neg (by omega)]
      split
      · rfl
      · omega
    · rw [if_neg hji]
      rcases h.eqs j hj with e | e
      · exact .inl e
      · by_cases h0' : b.ps.getD j [] = []
        · exact .inl h0'
        · right
          rw [e]
          have : 0 < b.len := by
            rw [← e]
            exact List.length_pos_iff.2 h0'
          rw [putLen]
          split
          · rfl
          · rw [if_neg (by omega)]
  · next h0 => rw [if_neg h0]; exact h
theorem flatten_len {m : Nat} : ∀ (L : List (List UInt8)), (∀ (i : Nat) (x : List UInt8), i + 1 < L.length → L[i]? = some x → x.length = m) → ∀ y, L.getLast? = some y → L.flatten.length = (L.length - 1) * m + y.length := by
  intro L
  induction L with
  | nil => intro _ y hy; simp at hy
  | cons x xs ih =>
    intro h y hy
    cases xs with
    | nil => simp at hy; subst hy; simp
    | cons z zs =>
      have hx := h 0 x (by simp) rfl
      have := ih (fun i x hi hx => h (i + 1) x (by simpa using hi) (by simpa using hx)) y (by simpa using hy)
      rw [List.flatten_cons, List.length_append, this, hx]
      simp only [List.length_cons, Nat.add_sub_cancel]
      rw [Nat.add_mul]
      omega
theorem piece_flatten {m : Nat} : ∀ (L : List (List UInt8)), (∀ (i : Nat) (x : List UInt8), i + 1 < L.length → L[i]? = some x → x.length = m) → (∀ y, L.getLast? = some y → y.length ≤ m) → ∀ i, i < L.length → piece m L.flatten i = L.getD i [] := by
  intro L
  induction L with
  | nil => intro _ _ i hi; simp at hi
  | cons x xs ih =>
    intro h hl i hi
    cases xs with
    | nil =>
      have := hl x (by simp)
      obtain rfl : i = 0 := by simp at hi; omega
      simp [piece, List.take_of_length_le this]
    | cons z zs =>
      have hx := h 0 x (by simp) rfl
      cases i with
      | zero =>
        rw [List.flatten_cons, piece, Nat.zero_mul, List.drop_zero, ← hx, List.take_left]
        rfl
      | succ i =>
        have := ih (fun i x hi hx => h (i + 1) x (by simpa using hi) (by simpa using hx)) (fun y hy => hl y (by simpa using hy)) i (by simpa using hi)
        have e : piece m (x ++ (z :: zs).flatten) (i + 1) = piece m (z :: zs).flatten i := by
          rw [piece, piece, Nat.add_mul, Nat.one_mul, Nat.add_comm (i * m) m, ← List.drop_drop, ← hx, List.drop_left]
        rw [List.flatten_cons, e, this]
        rfl
/-- THE LAW: what is whole is cut into its segments again. -/
theorem good_whole (b : BoxS) (h : Good b) (hall : ∀ i, i < b.cnt → b.ps.getD i [] ≠ []) (mtu : Nat)
    (hm : mtu = if 1 < b.cnt then (b.ps.getD 0 []).length else (b.ps.take b.cnt).flatten.length) :
    cutErr (b.ps.take b.cnt).flatten.length mtu = 0 ∧ cutOf (b.ps.take b.cnt).flatten mtu = b.ps.take b.cnt ∧ (b.ps.take b.cnt).flatten.length ≤ 1024 := by
  have hlo := h.fine.lo
  have hhi := h.fine.hi
  obtain ⟨c, hc⟩ : ∃ c, b.cnt = c + 1 := ⟨b.cnt - 1, by omega⟩
  have hLl : (b.ps.take b.cnt).length = b.cnt := by rw [List.length_take, h.n]; omega
  have hLg : ∀ i, i < b.cnt → (b.ps.take b.cnt).getD i [] = b.ps.getD i [] := fun i hi => by
    rw [List.getD_eq_getElem?_getD, List.getD_eq_getElem?_getD, List.getElem?_take_of_lt hi]
  have hLx : ∀ i, i < b.cnt → (b.ps.take b.cnt)[i]? = some (b.ps.getD i []) := fun i hi => by
    rw [List.getElem?_take_of_lt hi, List.getD_eq_getElem?_getD, List.getElem?_eq_getElem (by rw [h.n]; omega)]; rfl
  have hlast : (b.ps.take b.cnt).getLast? = some (b.ps.getD c []) := by
    rw [List.getLast?_eq_getElem?, hLl, hc]
    have := hLx c (by omega)
    rwa [hc] at this
  have hl1 : 1 ≤ (b.ps.getD c []).length := by
    have := List.length_pos_iff.2 (hall c (by omega))
    omega
  have hfit := h.fit
  have hla := h.last
  rw [show b.cnt - 1 = c by omega] at hfit hla
  -- the common length
  obtain ⟨m, hm1, hmm, hml, hmt⟩ : ∃ m, mtu = m ∧ (∀ (i : Nat) (x : List UInt8), i + 1 < (b.ps.take b.cnt).length → (b.ps.take b.cnt)[i]? = some x → x.length = m) ∧ (b.ps.getD c []).length ≤ m ∧ c * m + (b.ps.getD c []).length ≤ 1024 := by
    by_cases h1 : 1 < b.cnt
    · rw [if_pos h1] at hm
      have e0 : (b.ps.getD 0 []).length = b.len := (h.eqs 0 (by omega)).resolve_left (hall 0 (by omega))
      have hp : 0 < b.len := by rw [← e0]; exact List.length_pos_iff.2 (hall 0 (by omega))
      refine ⟨b.len, by omega, fun i x hi hx => ?_, hla hp, ?_⟩
      · rw [hLl] at hi
        rw [hLx i (by omega)] at hx
        injection hx with hx
        rw [← hx]
        exact (h.eqs i hi).resolve_left (hall i (by omega))
      · rw [leastOf, if_pos hp, show b.cnt - 1 = c by omega] at hfit
        omega
    · rw [if_neg h1] at hm
      have hc0 : c = 0 := by omega
      subst hc0
      have hfl := flatten_len (m := 0) (b.ps.take b.cnt) (fun i x hi _ => by rw [hLl] at hi; omega) _ hlast
      rw [Nat.mul_zero, Nat.zero_add] at hfl
      refine ⟨(b.ps.getD 0 []).length, by omega, fun i x hi _ => by rw [hLl] at hi; omega, Nat.le_refl _, ?_⟩
      have : (b.ps.getD 0 []).length ≤ 1024 := h.fine.at 0
      omega
  subst hm1
  have hflen := flatten_len (b.ps.take b.cnt) hmm _ hlast
  rw [hLl, show b.cnt - 1 = c by omega] at hflen
  have hk : ((b.ps.take b.cnt).flatten.length + mtu - 1) / mtu = b.cnt := by
    rw [hflen, hc]
    exact Nat.div_eq_of_lt_le (by rw [Nat.add_mul]; omega) (by rw [Nat.add_mul, Nat.add_mul]; omega)
  have hcm : c * 1 ≤ c * mtu := Nat.mul_le_mul_left c (by omega)
  have hmtu : mtu ≤ 1024 := by
    by_cases h1 : c = 0
    · rw [hm] at *
      rw [if_neg (by omega)] at *
      subst h1
      omega
    · have : 1 * mtu ≤ c * mtu := Nat.mul_le_mul_right mtu (by omega)
      omega
  have he : cutErr (b.ps.take b.cnt).flatten.length mtu = 0 := by
    refine cutErr_0 (by omega) (by omega) ?_
    have : ((((b.ps.take b.cnt).flatten.length + mtu - 1) / mtu : Nat) : Int) = b.cnt := by rw [hk]
    rw [Int.natCast_ediv, Int.ofNat_sub (by omega)] at this
    simp only [Int.natCast_add] at this
    rw [show ((1 : Nat) : Int) = 1 from rfl] at this
    rw [this]
    omega
  refine ⟨he, ?_, by omega⟩
  rw [cutOf, if_pos he, Int.toNat_natCast, hk]
  apply List.ext_getElem?
  intro i
  by_cases hi : i < b.cnt
  · rw [hLx i hi, pieces, List.getElem?_map, List.getElem?_range hi, Option.map_some, piece_flatten _ hmm (fun y hy => by rw [hlast] at hy; injection hy with hy; subst hy; exact hml) i (by rw [hLl]; exact hi), hLg i hi]
  · rw [List.getElem?_eq_none (by simp [pieces]; omega), List.getElem?_eq_none (by rw [hLl]; omega)]
end Go.Proofs.YtfaemjlemaclbaaGreat
end
section
/- Whole of any box: whether all segments are there, and the block. -/
namespace Go.Proofs.YtfaemjlemaclbaaGreat
set_option linter.unusedVariables false
set_option linter.unusedSimpArgs false
open Go.RowKit
def allNe (ps : List (List UInt8)) (k : Nat) : Bool := (ps.take k).all fun p => decide (0 < p.length)
theorem allNe_succ (ps : List (List UInt8)) (k : Nat) (h : k < ps.length) : allNe ps (k + 1) = (allNe ps k && decide (0 < (ps.getD k []).length)) := by
  unfold allNe
  rw [List.take_succ_eq_append_getElem h, List.all_append, List.getD_eq_getElem?_getD, List.getElem?_eq_getElem h]
  simp
theorem allNe_yes {ps : List (List UInt8)} {k : Nat} (h : allNe ps k = true) : ∀ i, i < k → i < ps.length → ps.getD i [] ≠ [] := by
  intro i hi hl he
  unfold allNe at h
  rw [List.all_eq_true] at h
  have := h ps[i] (by rw [List.mem_take_iff_getElem]; exact ⟨i, by omega, rfl⟩)
  rw [List.getD_eq_getElem?_getD, List.getElem?_eq_getElem hl] at he
  simp at he
  simp [he] at this
theorem allNe_no {ps : List (List UInt8)} : ∀ {k : Nat}, k ≤ ps.length → allNe ps k = false → ∃ j, j < k ∧ ps.getD j [] = [] ∧ ∀ i, i < j → ps.getD i [] ≠ [] := by
  intro k
  induction k with
  | zero => intro _ h; simp [allNe] at h
  | succ k ih =>
    intro hl h
    cases hk : allNe ps k with
    | false =>
      obtain ⟨j, h1, h2, h3⟩ := ih (by omega) hk
      exact ⟨j, by omega, h2, h3⟩
    | true =>
      rw [allNe_succ ps k (by omega), hk] at h
      refine ⟨k, by omega, ?_, fun i hi => allNe_yes hk i hi (by omega)⟩
      simp at h
      simpa [List.getD_eq_getElem?_getD] using h

/-- the block of a box: nothing, if one is lacking. -/
def blockOf (b : BoxS) : List UInt8 := if allNe b.ps b.cnt = true then (b.ps.take b.cnt).flatten else []
theorem whole_any (g : Nat) (b : BoxS) (w : World) (h : b.at w g) (hf : b.fine) (hn : b.ps.length = 64) :
    Calls Tryz.prog 41 #[.pointer (some ⟨g, 0, none⟩)] w fun e w' => ∃ v, e = .returned (.tuple #[v, .bool (allNe b.ps b.cnt)]) ∧ w'.ownsRow w.heap.size 5 1 v (blockOf b).length ((blockOf b).map ub) ∧ Below w.heap.size w w' := by
  have hhi := hf.hi
  cases hc : allNe b.ps b.cnt
  · obtain ⟨j, hj, hjn, hja⟩ := allNe_no (by omega) hc
    refine (whole_no g b.cnt b.len j b.ps w h hf hj hjn hja).mono ?_
    rintro e w' ⟨rfl, hB⟩
    refine ⟨_, rfl, ?_, hB⟩
    have : blockOf b = [] := by unfold blockOf; rw [if_neg (by rw [hc]; decide)]
    rw [this]
    exact World.ownsRow_nil _ _ _ _
  · refine (whole_yes g b.cnt b.len b.ps w h hf (fun i hi => allNe_yes hc i hi (by omega))).mono ?_
    rintro e w' ⟨v, rfl, hown, hB⟩
    refine ⟨v, rfl, ?_, hB⟩
    have : blockOf b = (b.ps.take b.cnt).flatten := by unfold blockOf; rw [if_pos hc]
    rw [this]
    exact hown
end Go.Proofs.YtfaemjlemaclbaaGreat
end
