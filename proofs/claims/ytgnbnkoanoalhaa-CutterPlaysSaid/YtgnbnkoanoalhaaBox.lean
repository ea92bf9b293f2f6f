/- A box of segments (cutter.Box): how it lies in memory, and what New, Count, Length, Put, Whole do with it. -/
import Derived.Test.YtgnbnkoanoalhaaTypes
import Derived.BigQuiet
import Derived.Deep.QuietTactic
import Derived.BigRegion
namespace Go.Proofs.Ytgnbnkoanoalhaa
set_option linter.unusedVariables false
set_option linter.unusedSimpArgs false
open Go.RowKit

def strv (l : List UInt8) : Value := .string (str l)
/-- the box lies in block g: so many segments, the length of those that are not the last, and what is there. -/
structure BoxAt (w : World) (g : Nat) (cnt len : Nat) (ps : List (List UInt8)) : Prop where
  n : ps.length = 64
  blk : Blk w g 66 ([.int .i64 cnt, .int .i64 len] ++ ps.map strv)
theorem BoxAt.c0 {w : World} {g cnt len : Nat} {ps : List (List UInt8)} (h : BoxAt w g cnt len ps) : w.cell? ⟨g, 0, none⟩ = some (.int .i64 cnt) := h.blk.cell_some rfl
theorem BoxAt.c1 {w : World} {g cnt len : Nat} {ps : List (List UInt8)} (h : BoxAt w g cnt len ps) : w.cell? ⟨g, 1, none⟩ = some (.int .i64 len) := h.blk.cell_some rfl
theorem BoxAt.cp {w : World} {g cnt len : Nat} {ps : List (List UInt8)} (h : BoxAt w g cnt len ps) {i : Nat} (hi : i < 64) : w.cell? ⟨g, 2 + i, none⟩ = some (.string (str (ps.getD i []))) :=
  h.blk.cell_some (by
    rw [List.getElem?_append_right (by simp), List.getElem?_map, List.getD_eq_getElem?_getD, List.getElem?_eq_getElem (by rw [h.n]; simpa using hi)]
    have hi' : i < ps.length := by rw [h.n]; exact hi
    simp [strv, hi'])
theorem BoxAt.same {S : Nat → Prop} {w w' : World} {g cnt len : Nat} {ps : List (List UInt8)} (h : BoxAt w g cnt len ps) (hb : Same S w w') (hg : ¬ S g) : BoxAt w' g cnt len ps := ⟨h.n, h.blk.same hb hg⟩
theorem BoxAt.drewN {w : World} {g cnt len : Nat} {ps : List (List UInt8)} (h : BoxAt w g cnt len ps) (n : Nat) : BoxAt (w.drewN n) g cnt len ps := ⟨h.n, h.blk⟩
theorem boxCells (a b : Value) : (Try.zeroCells66.setIfInBounds 0 a).setIfInBounds 1 b = ([a, b] ++ (List.replicate 64 ([] : List UInt8)).map strv).toArray := by kernel_rfl
def leastOf (cnt len last : Nat) : Nat := if 0 < len then (cnt - 1) * len + max last 1 else cnt * last
theorem leastOf_pos {cnt len last : Nat} (h1 : 1 ≤ cnt) (h : 0 < len) : (leastOf cnt len last : Int) = ((cnt : Int) - 1) * len + max (last : Int) 1 := by
  rw [leastOf, if_pos h]
  have e : (((cnt - 1 : Nat)) : Int) = (cnt : Int) - 1 := by omega
  have e2 : ((max last 1 : Nat) : Int) = max (last : Int) 1 := by omega
  rw [Int.natCast_add, Int.natCast_mul, e, e2]
theorem leastOf_zero {cnt last : Nat} : (leastOf cnt 0 last : Int) = (cnt : Int) * last := by simp [leastOf]
theorem BoxAt.later {w w' : World} {g cnt len : Nat} {ps : List (List UInt8)} (h : BoxAt w g cnt len ps) (hb : Below w.heap.size w w') : BoxAt w' g cnt len ps := ⟨h.n, h.blk.later hb⟩

set_option maxHeartbeats 400000 in
set_option maxRecDepth 100000 in
theorem new_yes (n : Nat) (w : World) (h1 : 1 ≤ n) (h2 : n ≤ 64) :
    Calls Try.prog 20 #[.int .i64 n] w fun e w' => e = .returned (.tuple #[.pointer (some ⟨w.heap.size, 0, none⟩), .int .i64 0]) ∧ BoxAt w' w.heap.size n 0 (List.replicate 64 []) ∧ Below w.heap.size w w' := by
  go_enter Try.func20, Try.ntmps20
  go_wp2
  go_ret2
  refine ⟨rfl, ⟨by simp, ?_⟩, ?_⟩
  · rw [boxCells]
    exact Blk.new w _ _
  · exact (Below.refl _ _).alloc (Nat.le_refl _) _
set_option maxHeartbeats 400000 in
set_option maxRecDepth 100000 in
theorem new_no (n : Int) (w : World) (h : n < 1 ∨ 64 < n) :
    Calls Try.prog 20 #[.int .i64 n] w fun e w' => e = .returned (.tuple #[.pointer none, .int .i64 1]) ∧ w = w' := by
  rcases h with h | h
  · go_enter Try.func20, Try.ntmps20
    go_wp2
    go_ret2
    exact ⟨rfl, rfl⟩
  · have h' : ¬ n < 1 := by omega
    go_enter Try.func20, Try.ntmps20
    go_wp2
    go_ret2
    exact ⟨rfl, rfl⟩
set_option maxHeartbeats 400000 in
set_option maxRecDepth 100000 in
theorem count_any (g cnt len : Nat) (ps : List (List UInt8)) (w : World) (h : BoxAt w g cnt len ps) :
    Calls Try.prog 25 #[.pointer (some ⟨g, 0, none⟩)] w fun e w' => e = .returned (.int .i64 cnt) ∧ w = w' := by
  have c0 := h.c0
  go_enter Try.func25, Try.ntmps25
  go_wp2
  go_ret
  exact ⟨rfl, rfl⟩
set_option maxHeartbeats 400000 in
set_option maxRecDepth 100000 in
theorem length_any (g cnt len : Nat) (ps : List (List UInt8)) (w : World) (h : BoxAt w g cnt len ps) :
    Calls Try.prog 24 #[.pointer (some ⟨g, 0, none⟩)] w fun e w' => e = .returned (.tuple #[.int .i64 len, .bool (decide (0 < len))]) ∧ ∃ n, w' = w.drewN n := by
  have c1 := h.c1
  go_enter Try.func24, Try.ntmps24
  go_wp2
  go_quiet (fail)
  go_wp2
  go_ret2
  exact ⟨rfl, _, rfl⟩
set_option maxHeartbeats 400000 in
set_option maxRecDepth 100000 in
theorem least_any (cnt len last : Nat) (w : World) (h1 : 1 ≤ cnt) (h2 : cnt ≤ 64) (h3 : len ≤ 2048) (h4 : last ≤ 2048) :
    Calls Try.prog 33 #[.agg #[.int .i64 cnt, .int .i64 len], .int .i64 last] w fun e w' => e = .returned (.int .i64 (leastOf cnt len last)) ∧ Below w.heap.size w w' := by
  have m1 : (cnt : Int) * last ≤ 64 * 2048 := by exact_mod_cast Nat.mul_le_mul h2 h4
  have m2 : 0 ≤ (cnt : Int) * last := by exact_mod_cast Nat.zero_le _
  have m3 : ((cnt : Int) - 1) * len ≤ 64 * 2048 := by
    have : ((cnt - 1 : Nat) : Int) * len ≤ 64 * 2048 := by exact_mod_cast Nat.mul_le_mul (by omega : cnt - 1 ≤ 64) h3
    rwa [show (((cnt - 1 : Nat)) : Int) = (cnt : Int) - 1 by omega] at this
  have m4 : 0 ≤ ((cnt : Int) - 1) * len := Int.mul_nonneg (by omega) (by omega)
  by_cases hl : 0 < len
  · have e := leastOf_pos (last := last) h1 hl
    have HE := Lib.hid e; clear e
    by_cases hlast : (last : Int) < 1
    · go_enter Try.func33, Try.ntmps33
      go_wp2
      go_ret
      exact ⟨ret_congr (by rw [HE.out, Int.max_eq_right (by omega)]; rfl), (Below.refl _ _).alloc (Nat.le_refl _) _⟩
    · go_enter Try.func33, Try.ntmps33
      go_wp2
      go_ret
      exact ⟨ret_congr (by rw [HE.out, Int.max_eq_left (by omega)]; rfl), (Below.refl _ _).alloc (Nat.le_refl _) _⟩
  · obtain rfl : len = 0 := by omega
    have e := leastOf_zero (cnt := cnt) (last := last)
    have HE := Lib.hid e; clear e
    go_enter Try.func33, Try.ntmps33
    go_wp2
    go_ret
    exact ⟨ret_congr (by rw [HE.out]; rfl), (Below.refl _ _).alloc (Nat.le_refl _) _⟩
end Go.Proofs.Ytgnbnkoanoalhaa
