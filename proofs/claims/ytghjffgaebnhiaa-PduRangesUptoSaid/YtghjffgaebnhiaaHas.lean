/- pdu.Has, by slices.ContainsFunc and a function that holds the number. -/
import Derived.Test.YtghjffgaebnhiaaRgs
import Derived.Test.YtghjffgaebnhiaaSetLaw2
namespace Go.Proofs.Ytghjffgaebnhiaa
set_option linter.unusedVariables false
set_option linter.unusedSimpArgs false
open Go.RowKit
set_option maxHeartbeats 1000000 in
set_option maxRecDepth 100000 in
theorem hasFn_yes (g : Nat) (x1 x2 i : Int) (w : World) (hc : w.cell? ⟨g, 0, none⟩ = some (.int .i64 i)) (h1 : x1 ≤ i) (h2 : i < x2) :
    Calls Try.prog 27 #[.agg #[.int .i64 x1, .int .i64 x2], .pointer (some ⟨g, 0, none⟩)] w fun e w' => e = .returned (.bool true) ∧ Below w.heap.size w w' := by
  have hg := World.block_lt_of_cell? _ _ hc
  go_enter Try.func27, Try.ntmps27
  go_wp2_with fail
  go_ret
  exact ⟨rfl, (Below.refl _ _).alloc (Nat.le_refl _) _⟩
set_option maxHeartbeats 1000000 in
set_option maxRecDepth 100000 in
theorem hasFn_no (g : Nat) (x1 x2 i : Int) (w : World) (hc : w.cell? ⟨g, 0, none⟩ = some (.int .i64 i)) (h : ¬ (x1 ≤ i ∧ i < x2)) :
    Calls Try.prog 27 #[.agg #[.int .i64 x1, .int .i64 x2], .pointer (some ⟨g, 0, none⟩)] w fun e w' => e = .returned (.bool false) ∧ Below w.heap.size w w' := by
  have hg := World.block_lt_of_cell? _ _ hc
  by_cases h1 : x1 ≤ i
  · have h2 : ¬ i < x2 := fun hh => h ⟨h1, hh⟩
    have t2 : decide (i < x2) = false := by simpa using h2
    clear h
    go_enter Try.func27, Try.ntmps27
    go_wp2_with fail
    go_ret
    exact ⟨rfl, (Below.refl _ _).alloc (Nat.le_refl _) _⟩
  · have t1 : decide (x1 ≤ i) = false := by simpa using h1
    clear h
    go_enter Try.func27, Try.ntmps27
    go_wp2_with fail
    go_ret
    exact ⟨rfl, (Below.refl _ _).alloc (Nat.le_refl _) _⟩
def IdxPost (l : List (Int × Int)) (a : Int) (w : World) (e : Ending) (w' : World) : Prop := ∃ r : Int, (0 ≤ r ↔ Mem a l) ∧ e = .returned (.int .i64 r) ∧ Below w.heap.size w w'
set_option maxHeartbeats 2000000 in
set_option maxRecDepth 100000 in
theorem idx_any (v : Value) (l : List (Int × Int)) (a : Int) (g : Nat) (w : World) (h : Rgs w v l) (hc : w.cell? ⟨g, 0, none⟩ = some (.int .i64 a)) (hl : l.length ≤ 4398046511104) :
    Calls Try.prog 32 #[v, .func (Fn.func 27) #[] #[.pointer (some ⟨g, 0, none⟩)]] w (IdxPost l a w) := by
  obtain ⟨ao, cap, rfl, _, hr⟩ := h.cells
  have hgl := World.block_lt_of_cell? _ _ hc
  clear h
  go_enter Try.func32, Try.ntmps32
  go_wp2
  go_loopw [8] (fun i wr => ∃ (k : Nat), k ≤ l.length ∧ i = .int .i64 k ∧ Hid (∀ j g, j < k → l[j]? = some g → ¬ (g.1 ≤ a ∧ a < g.2)) ∧ Below w.heap.size w wr) (fun i _ => l.length - (intOf i).toNat)
  case atStart => exact ⟨0, Nat.zero_le _, rfl, Lib.hid fun j g hj => absurd hj (Nat.not_lt_zero _), Below.refl _ _⟩
  case round =>
    obtain ⟨k, hk, rfl, hN, hB⟩ := hrel
    by_cases hlt : k < l.length
    · obtain ⟨b, off, rfl, hcc⟩ := hr (by omega)
      obtain ⟨c0, c1⟩ := hcc k _ (List.getElem?_eq_getElem hlt)
      have c0 := below_cell hB c0 (World.block_lt_of_cell? _ _ c0)
      have c1 := below_cell hB c1 (World.block_lt_of_cell? _ _ c1)
      have c2 := below_cell hB hc hgl
      obtain ⟨x, hx⟩ : ∃ x, x = l[k] := ⟨_, rfl⟩
      rw [← hx] at c0 c1
      have hat : l[k]? = some x := by rw [List.getElem?_eq_getElem hlt, hx]
      obtain ⟨x1, x2⟩ := x
      simp only at c0 c1
      have HA := Lib.hid hat
      have ix : (k : Int) < l.length := by omega
      clear hx hcc hr hat
      by_cases hin : x1 ≤ a ∧ a < x2
      · go_wp2_with fail
        refine (hasFn_yes g x1 x2 a _ c2 hin.1 hin.2).mono ?_
        rintro e w5 ⟨rfl, hB5⟩
        go_wp2_with fail
        go_ret
        exact ⟨k, ⟨fun _ => ⟨(x1, x2), List.mem_of_getElem? HA.out, hin⟩, fun _ => by omega⟩, rfl, hB.trans (hB5.mono hB.size)⟩
      · go_wp2_with fail
        refine (hasFn_no g x1 x2 a _ c2 hin).mono ?_
        rintro e w5 ⟨rfl, hB5⟩
        have hB6 := hB.trans (hB5.mono hB.size)
        go_wp2_with fail
        go_roundw
        case rel => exact ⟨k + 1, by omega, by go_num, Lib.hid fun j g hj hg => by
          by_cases e : j = k
          · subst e; rw [HA.out] at hg; injection hg with hg; subst hg; exact hin
          · exact hN.out j g (by omega) hg, hB6⟩
        case measure => simp [intOf]; omega
    · obtain rfl : k = l.length := by omega
      go_wp2_with fail
      go_ret
      exact ⟨-1, ⟨fun h => by omega, fun h => absurd h (not_mem_of fun i g hg => hN.out i g (List.getElem?_eq_some_iff.1 hg).1 hg)⟩, rfl, hB⟩
set_option maxHeartbeats 1000000 in
set_option maxRecDepth 100000 in
theorem contains_any (v : Value) (l : List (Int × Int)) (a : Int) (B : Bool) (g : Nat) (w : World) (h : Rgs w v l) (hc : w.cell? ⟨g, 0, none⟩ = some (.int .i64 a)) (hl : l.length ≤ 4398046511104) (hB : Hid (B = true ↔ Mem a l)) :
    Calls Try.prog 26 #[v, .func (Fn.func 27) #[] #[.pointer (some ⟨g, 0, none⟩)]] w fun e w' => e = .returned (.bool B) ∧ Below w.heap.size w w' := by
  have HI := Lib.hid (idx_any v l a g w h hc hl)
  obtain ⟨p, c, rfl, -⟩ := id h
  clear h hc
  go_enter Try.func26, Try.ntmps26
  go_wp2_with fail
  refine HI.out.mono ?_
  rintro e w1 ⟨r, hr, rfl, hB1⟩
  have hd : decide (0 ≤ r) = B := by
    rw [Bool.eq_iff_iff, decide_eq_true_iff, hr]
    exact hB.out.symm
  have HD := Lib.hid hd
  clear hr hd
  go_wp2_with fail
  go_ret
  exact ⟨by rw [← HD.out]; rfl, hB1⟩
set_option maxHeartbeats 1000000 in
set_option maxRecDepth 100000 in
theorem has_any (v : Value) (l : List (Int × Int)) (a : Int) (B : Bool) (w : World) (h : Rgs w v l) (hl : l.length ≤ 4398046511104) (hB : Hid (B = true ↔ Mem a l)) :
    Calls Try.prog 12 #[v, .int .i64 a] w fun e w' => e = .returned (.bool B) ∧ Below w.heap.size w w' := by
  have HH := Lib.hid h
  obtain ⟨p, c, rfl, -⟩ := id h
  clear h
  obtain ⟨wl, hwl⟩ : ∃ wl, wl = w.alloc (.cells #[.int .i64 a] 3) := ⟨_, rfl⟩
  have hBl : Below w.heap.size w wl := hwl ▸ (Below.refl _ _).alloc (Nat.le_refl _) _
  have hlit : Blk wl w.heap.size 3 [.int .i64 a] := hwl ▸ Blk.new w _ _
  have hc := hlit.cell_some (i := 0) rfl
  clear hlit
  go_enter Try.func12, Try.ntmps12
  go_wp2_with fail
  rw [← hwl]
  clear hwl
  refine (contains_any _ l a B w.heap.size _ (HH.out.later hBl) hc hl hB).mono ?_
  rintro e w1 ⟨rfl, hB1⟩
  go_wp2_with fail
  go_ret
  exact ⟨rfl, below_trans hBl hB1⟩
end Go.Proofs.Ytghjffgaebnhiaa
