/- rest and same: a lent list is as it was lent; lists that read alike are the same. -/
import Derived.Test.YtghjffgaebnhiaaDoorMLendR
namespace Go.Proofs.YtghjffgaebnhiaaDoor
set_option linter.unusedVariables false
set_option linter.unusedSimpArgs false
open Go.RowKit
set_option maxHeartbeats 1000000 in
set_option maxRecDepth 100000 in
theorem same03_yes (v v' : Value) (l : List (Int × Int)) (w : World) (h : Rgs w v l) (h' : Rgs w v' l) (hl : l.length ≤ 140737488355328) :
    Calls Tryd.prog 31 #[v, v'] w fun e w' => e = .returned (.bool true) ∧ ∃ n, w' = w.drewN n := by
  obtain ⟨ao, cap, rfl, _, hr⟩ := h.cells
  obtain ⟨ao', cap', rfl, _, hr'⟩ := h'.cells
  clear h h'
  go_enter Tryd.func31, Tryd.ntmps31
  go_wp2
  go_loopw [5] (fun i wr => ∃ k : Nat, k ≤ l.length ∧ i = .int .i64 k ∧ ∃ q, wr = w.drewN q) (fun i _ => l.length - (intOf i).toNat)
  case atStart => exact ⟨0, Nat.zero_le _, rfl, 0, rfl⟩
  case round =>
    obtain ⟨k, hk, rfl, q, rfl⟩ := hrel
    by_cases hlt : k < l.length
    · obtain ⟨b, off, rfl, hc⟩ := hr (by omega)
      obtain ⟨b', off', rfl, hc'⟩ := hr' (by omega)
      obtain ⟨c0, c1⟩ := hc k _ (List.getElem?_eq_getElem hlt)
      obtain ⟨d0, d1⟩ := hc' k _ (List.getElem?_eq_getElem hlt)
      obtain ⟨x1, hx1⟩ : ∃ x, x = (l[k]).1 := ⟨_, rfl⟩
      obtain ⟨x2, hx2⟩ : ∃ x, x = (l[k]).2 := ⟨_, rfl⟩
      rw [← hx1] at c0 d0
      rw [← hx2] at c1 d1
      clear hx1 hx2 hc hc' hr hr'
      have ix : (k : Int) < l.length := by omega
      go_wp2
      go_quiet (fail)
      go_wp2
      go_roundw
      case rel => exact ⟨k + 1, by omega, by go_num, _, rfl⟩
      case measure => simp [intOf]; omega
    · obtain rfl : k = l.length := by omega
      go_wp2
      go_ret
      exact ⟨rfl, _, rfl⟩
set_option maxHeartbeats 4000000 in
set_option maxRecDepth 100000 in
theorem rest_any (base : Nat) (v u : Value) (l : List (Int × Int)) (w : World) (h : LentR base v l w) (hu : Rgs w u l) (hl : l.length ≤ 8796093022208) :
    Calls Tryd.prog 45 #[v, u] w fun e w' => e = .returned (.bool true) ∧ Below w.heap.size w w' := by
  obtain ⟨g, rfl, hbg, hblk⟩ := h
  obtain ⟨ao, cap, rfl, _, hr⟩ := hu.cells
  have hgl := hblk.lt
  have HBL := Lib.hid hblk
  clear hu hblk
  go_enter Tryd.func45, Tryd.ntmps45
  go_wp2
  go_loopw [6] (fun i wr => ∃ (k : Nat), k ≤ l.length + 3 ∧ i = .int .i64 k ∧ Below w.heap.size w wr) (fun i _ => l.length + 3 - (intOf i).toNat)
  case atStart => exact ⟨0, Nat.zero_le _, rfl, Below.refl _ _⟩
  case round =>
    obtain ⟨k, hk, rfl, hB⟩ := hrel
    by_cases hlt : k < l.length + 3
    · have ix : (k : Int) < (l.length : Int) + 3 := by omega
      by_cases hkl : k < l.length
      · obtain ⟨b, off, rfl, hc⟩ := hr (by omega)
        obtain ⟨d0, d1⟩ := hc k _ (List.getElem?_eq_getElem hkl)
        have hxa : (l ++ marks 3)[k]? = some l[k] := by rw [List.getElem?_append_left hkl, List.getElem?_eq_getElem hkl]
        obtain ⟨e0, e1⟩ := rvs_at _ k _ hxa
        have c0 := HBL.out.cell_some e0
        have c1 := HBL.out.cell_some e1
        obtain ⟨x, hx⟩ : ∃ x, x = l[k] := ⟨_, rfl⟩
        rw [← hx] at c0 c1 d0 d1
        obtain ⟨x1, x2⟩ := x
        simp only at c0 c1 d0 d1
        have hbl := World.block_lt_of_cell? _ _ d0
        have HK := Lib.hid (fun (w' : World) (h : Below w.heap.size w w') => show w'.cell? ⟨g, k * 2, none⟩ = some (.int .i64 x1) ∧ w'.cell? ⟨g, k * 2 + 1, none⟩ = some (.int .i64 x2) ∧ w'.cell? ⟨b, off + k * 2, none⟩ = some (.int .i64 x1) ∧ w'.cell? ⟨b, off + k * 2 + 1, none⟩ = some (.int .i64 x2) ∧ Below w.heap.size w w' from
          ⟨below_cell h c0 hgl, below_cell h c1 hgl, below_cell h d0 hbl, below_cell h d1 hbl, h⟩)
        have ix2 : (k : Int) < l.length := by omega
        have t1 : decide (k < l.length) = true := by simpa using hkl
        have t2 : decide (l.length ≤ k) = false := by simpa using hkl
        clear hc hr hxa e0 e1 hx c0 c1 d0 d1
        go_wp2_with fail
        refine region_class (C := fun w' => w'.cell? ⟨g, k * 2, none⟩ = some (.int .i64 x1) ∧ w'.cell? ⟨g, k * 2 + 1, none⟩ = some (.int .i64 x2) ∧ w'.cell? ⟨b, off + k * 2, none⟩ = some (.int .i64 x1) ∧ w'.cell? ⟨b, off + k * 2 + 1, none⟩ = some (.int .i64 x2) ∧ Below w.heap.size w w') (by kernel_rfl) (by kernel_rfl) (HK.out _ (below_drew hB)) ?_
        skip
        repeat (first
          | go_big_quiet_skip
          | (go_big_quiet_want
             rename_i K hK
             apply Exists.intro
             refine ⟨fun w' hw' => ?_, hK _ ?_⟩
             obtain ⟨r1, r2, r3, r4, r7⟩ := hw'
             go_simp
             first
               | (go_at_call 70
                  refine (mark_any _).mono ?_
                  rintro e w5 ⟨rfl, hb5⟩
                  exact ⟨rfl, HK.out _ (below_trans r7 hb5)⟩)
               | with_reducible rfl
             clear hK K
             simp only [Act.put, List.setIfInBounds_toArray, List.set_cons_zero, List.set_cons_succ]))
        refine wpQuiet_nil ?_
        rintro w5 ⟨-, -, -, -, HB5⟩
        go_wp2_with fail
        go_roundw
        case rel => exact ⟨k + 1, by omega, by go_num, HB5⟩
        case measure => simp [intOf]; omega
      · have hxa : (l ++ marks 3)[k]? = some (-99, 99) := by
          rw [List.getElem?_append_right (by omega), marks, List.getElem?_replicate, if_pos (by omega)]
        obtain ⟨e0, e1⟩ := rvs_at _ k _ hxa
        have c0 := HBL.out.cell_some e0
        have c1 := HBL.out.cell_some e1
        simp only at c0 c1
        have HK := Lib.hid (fun (w' : World) (h : Below w.heap.size w w') => show w'.cell? ⟨g, k * 2, none⟩ = some (.int .i64 (-99)) ∧ w'.cell? ⟨g, k * 2 + 1, none⟩ = some (.int .i64 99) ∧ Below w.heap.size w w' from
          ⟨below_cell h c0 hgl, below_cell h c1 hgl, h⟩)
        have t1 : decide (k < l.length) = false := by simpa using hkl
        have t2 : decide (l.length ≤ k) = true := by simpa using hkl
        clear hr hxa e0 e1 c0 c1
        go_wp2_with fail
        refine region_class (C := fun w' => w'.cell? ⟨g, k * 2, none⟩ = some (.int .i64 (-99)) ∧ w'.cell? ⟨g, k * 2 + 1, none⟩ = some (.int .i64 99) ∧ Below w.heap.size w w') (by kernel_rfl) (by kernel_rfl) (HK.out _ (below_drew hB)) ?_
        skip
        repeat (first
          | go_big_quiet_skip
          | (go_big_quiet_want
             rename_i K hK
             apply Exists.intro
             refine ⟨fun w' hw' => ?_, hK _ ?_⟩
             obtain ⟨r1, r2, r7⟩ := hw'
             go_simp
             first
               | (go_at_call 70
                  refine (mark_any _).mono ?_
                  rintro e w5 ⟨rfl, hb5⟩
                  exact ⟨rfl, HK.out _ (below_trans r7 hb5)⟩)
               | with_reducible rfl
             clear hK K
             simp only [Act.put, List.setIfInBounds_toArray, List.set_cons_zero, List.set_cons_succ]))
        refine wpQuiet_nil ?_
        rintro w5 ⟨-, -, HB5⟩
        go_wp2_with fail
        go_roundw
        case rel => exact ⟨k + 1, by omega, by go_num, HB5⟩
        case measure => simp [intOf]; omega
    · go_wp2_with fail
      go_ret
      exact ⟨rfl, hB⟩
end Go.Proofs.YtghjffgaebnhiaaDoor
