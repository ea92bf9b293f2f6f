/- Dec3, Dec4, Dec5: joined. -/
import Derived.Test.YtghjffgaebnhiaaDoorMDec2
section
/- octet.Reader: bad, Fail, Err, Left. -/
namespace Go.Proofs.YtghjffgaebnhiaaDoor
set_option linter.unusedVariables false
set_option linter.unusedSimpArgs false
open Go.RowKit
/-- a reader's cells: bytes, place, made, fault. -/
def RdrAt (w : World) (g : Nat) (v : Value) (at_ f : Nat) : Prop := Blk w g 108 [v, .int .i64 (at_ : Int), .bool true, .int .i64 (f : Int)]
set_option maxHeartbeats 1000000 in
set_option maxRecDepth 100000 in
theorem bad_any (g : Nat) (v : Value) (at_ f : Nat) (w : World) (h : RdrAt w g v at_ f) :
    Calls Tryd.prog 86 #[.pointer (some ⟨g, 0, none⟩)] w fun e w' => e = .returned (.bool (f != 0)) ∧ w' = w := by
  have z2 := h.cell_some (i := 2) rfl
  have z3 := h.cell_some (i := 3) rfl
  by_cases hf : f = 0
  · subst hf
    go_enter Tryd.func86, Tryd.ntmps86
    go_wp2_with fail
    go_ret
    exact ⟨rfl, rfl⟩
  · have hb : (f != 0) = true := by simp [hf]
    have hi : ((f : Int) != 0) = true := by simp [hf]
    rw [hb]
    go_enter Tryd.func86, Tryd.ntmps86
    go_wp2_with fail
    go_ret
    exact ⟨rfl, rfl⟩
set_option maxHeartbeats 1000000 in
set_option maxRecDepth 100000 in
theorem rerr_any (g : Nat) (v : Value) (at_ f : Nat) (w : World) (h : RdrAt w g v at_ f) :
    Calls Tryd.prog 49 #[.pointer (some ⟨g, 0, none⟩)] w fun e w' => e = .returned (.int .i64 (f : Int)) ∧ w' = w := by
  have z2 := h.cell_some (i := 2) rfl
  have z3 := h.cell_some (i := 3) rfl
  go_enter Tryd.func49, Tryd.ntmps49
  go_wp2_with fail
  go_ret
  exact ⟨rfl, rfl⟩
set_option maxHeartbeats 1000000 in
set_option maxRecDepth 100000 in
theorem rfail_any (g : Nat) (v : Value) (at_ f k : Nat) (w : World) (h : RdrAt w g v at_ f) :
    Calls Tryd.prog 85 #[.pointer (some ⟨g, 0, none⟩), .int .i64 (k : Int)] w fun e w' => e = .returned (.tuple #[]) ∧ RdrAt w' g v at_ (if f = 0 then k else f) ∧ (w' = w ∨ w' = w.setCell ⟨g, 3, none⟩ (.int .i64 (k : Int))) := by
  have z3 := h.cell_some (i := 3) rfl
  have fr := h.frozen 3
  have h3 := h.set 3 (.int .i64 (k : Int))
  have H3 := Lib.hid h3
  have hbad := bad_any g v at_ f w h
  have HA := Lib.hid h
  clear h3
  clear h
  by_cases hf : f = 0
  · subst hf
    have HBAD := Lib.hid hbad
    clear hbad
    go_enter Tryd.func85, Tryd.ntmps85
    go_wp2_with fail
    refine HBAD.out.mono ?_
    rintro e w1 ⟨rfl, rfl⟩
    go_wp2_with fail
    go_end0
    exact ⟨rfl, H3.out, .inr rfl⟩
  · have hb : (f != 0) = true := by simp [hf]
    rw [hb] at hbad
    rw [if_neg hf]
    have HBAD := Lib.hid hbad
    clear hbad
    go_enter Tryd.func85, Tryd.ntmps85
    go_wp2_with fail
    refine HBAD.out.mono ?_
    rintro e w1 ⟨rfl, rfl⟩
    go_wp2_with fail
    go_end0
    exact ⟨rfl, HA.out, .inl rfl⟩
set_option maxHeartbeats 1000000 in
set_option maxRecDepth 100000 in
theorem rleft_any (g N cap : Nat) (ao : Option Addr) (at_ f : Nat) (w : World) (h : RdrAt w g (.slice ao N cap) at_ f) (ha : at_ ≤ N) (hN : N ≤ 140737488355328) :
    Calls Tryd.prog 87 #[.pointer (some ⟨g, 0, none⟩)] w fun e w' => e = .returned (.int .i64 ((N - at_ : Nat) : Int)) ∧ w' = w.drew := by
  have hw : wrap64 ((N : Int) - (at_ : Int)) = ((N - at_ : Nat) : Int) := by unfold wrap64; omega
  have hw3 : IntKind.i64.wrap ((N : Int) - (at_ : Int)) = ((N - at_ : Nat) : Int) := by
    first
      | (rw [IntKind.wrap_i64]; exact hw)
      | (rw [IntKind.wrap_i64]; omega)
      | exact hw
  go_enter Tryd.func87, Tryd.ntmps87
  go_wp2_with fail
  refine region_mix (fun w' => RdrAt w' g (.slice ao N cap) at_ f) (fun _ => false) [0, 1, 2, 3, 4, 5, 6, 7, 8, 9, 10] (by kernel_rfl) (by kernel_rfl) h.drew ?_
  repeat (first
    | (refine mix_pure rfl rfl (by kernel_rfl) ?_
       apply Exists.intro
       refine ⟨fun w' hw' => ?_, ?_⟩
       · have z0 := hw'.cell_some (i := 0) rfl
         have z1 := hw'.cell_some (i := 1) rfl
         go_simp
         with_reducible rfl
       simp only [List.getElem_toArray, List.getElem_cons_zero, List.getElem_cons_succ, Act.put, List.setIfInBounds_toArray, List.set_cons_zero, List.set_cons_succ])
    | fail)
  refine mix_nil ?_
  go_wp2_with fail
  go_ret
  exact ⟨rfl, rfl⟩
end Go.Proofs.YtghjffgaebnhiaaDoor
end
section
/- octet.New. -/
namespace Go.Proofs.YtghjffgaebnhiaaDoor
set_option linter.unusedVariables false
set_option linter.unusedSimpArgs false
open Go.RowKit
set_option maxHeartbeats 1000000 in
set_option maxRecDepth 100000 in
theorem rnew_any (v : Value) (l : List UInt8) (w : World) (hb : Bs w v l) (hl : l.length ≤ 140737488355328) :
    Calls Tryd.prog 47 #[v] w fun e w' => ∃ g v', e = .returned (.pointer (some ⟨g, 0, none⟩)) ∧ w.heap.size ≤ g ∧ RdrAt w' g v' 0 0 ∧ Bs w' v' l ∧ (∀ b, v'.ownBlock = some b → b < g) ∧ Below w.heap.size w w' := by
  have hc := clone_any v l w hb hl
  have HC := Lib.hid hc
  obtain ⟨ao, cap, rfl, -⟩ := id hb
  clear hc hb
  go_enter Tryd.func47, Tryd.ntmps47
  go_wp2_with fail
  refine HC.out.mono ?_
  rintro e w1 ⟨v1, rfl, ho, hB⟩
  have hr := Rd.of_own ho
  obtain ⟨a1, c1, rfl, -⟩ := own_open ho
  have HV := Lib.hid (fun b hb => (ho.lt b hb).2)
  have HR := Lib.hid hr; have HB := Lib.hid hB
  clear ho hB hr
  go_wp2_with fail
  go_ret
  exact ⟨_, _, rfl, HB.out.size, Blk.new w1 _ _, HR.out.alloc _, HV.out, HB.out.alloc HB.out.size _⟩
end Go.Proofs.YtghjffgaebnhiaaDoor
end
section
/- octet.Reader: Take (the ways that fail). -/
namespace Go.Proofs.YtghjffgaebnhiaaDoor
set_option linter.unusedVariables false
set_option linter.unusedSimpArgs false
open Go.RowKit
set_option maxHeartbeats 1000000 in
set_option maxRecDepth 100000 in
theorem rtake_bad (g : Nat) (v : Value) (at_ f n : Nat) (w : World) (h : RdrAt w g v at_ f) (hf : f ≠ 0) :
    Calls Tryd.prog 110 #[.pointer (some ⟨g, 0, none⟩), .int .i64 (n : Int)] w fun e w' => e = .returned (.slice none 0 0) ∧ w' = w := by
  have hbad := bad_any g v at_ f w h
  have hb : (f != 0) = true := by simp [hf]
  rw [hb] at hbad
  have HBAD := Lib.hid hbad
  clear hbad
  go_enter Tryd.func110, Tryd.ntmps110
  go_wp2_with fail
  refine HBAD.out.mono ?_
  rintro e w1 ⟨rfl, rfl⟩
  go_wp2_with fail
  go_ret
  exact ⟨rfl, rfl⟩
set_option maxHeartbeats 1000000 in
set_option maxRecDepth 100000 in
theorem rtake_short (g N cap : Nat) (ao : Option Addr) (at_ n : Nat) (w : World) (h : RdrAt w g (.slice ao N cap) at_ 0) (ha : at_ ≤ N) (hN : N ≤ 140737488355328) (hn : N - at_ < n) (hn2 : n < 9223372036854775808) :
    Calls Tryd.prog 110 #[.pointer (some ⟨g, 0, none⟩), .int .i64 (n : Int)] w fun e w' => e = .returned (.slice none 0 0) ∧ w' = w.drew.setCell ⟨g, 3, none⟩ (.int .i64 10) := by
  have hbad := bad_any g _ at_ 0 w h
  have HBAD := Lib.hid hbad
  have hw : wrap64 ((N : Int) - (at_ : Int)) = ((N - at_ : Nat) : Int) := by unfold wrap64; omega
  have hw3 : IntKind.i64.wrap ((N : Int) - (at_ : Int)) = ((N - at_ : Nat) : Int) := by
    first
      | (rw [IntKind.wrap_i64]; omega)
      | exact hw
  have hlt : ((N - at_ : Nat) : Int) < (n : Int) := by omega
  have h0 : ¬ (n : Int) < 0 := by omega
  have fr := h.frozen 3
  have z3 := h.cell_some (i := 3) rfl
  clear hbad
  go_enter Tryd.func110, Tryd.ntmps110
  go_wp2_with fail
  refine HBAD.out.mono ?_
  rintro e w1 ⟨rfl, rfl⟩
  go_wp2_with fail
  refine region_mix (fun w' => RdrAt w' g (.slice ao N cap) at_ 0) (fun _ => false) [0, 1, 2, 3, 4, 5, 6, 7, 8, 9, 10, 11, 12] (by kernel_rfl) (by kernel_rfl) h.drew ?_
  repeat (first
    | (refine mix_pure rfl rfl (by kernel_rfl) ?_
       apply Exists.intro
       refine ⟨fun w' hw' => ?_, ?_⟩
       · have z0 := hw'.cell_some (i := 0) rfl
         have z1 := hw'.cell_some (i := 1) rfl
         go_simp
         with_reducible rfl
       simp only [List.getElem_toArray, List.getElem_cons_zero, List.getElem_cons_succ, Act.put, List.setIfInBounds_toArray, List.set_cons_zero, List.set_cons_succ])
    | fail)
  refine mix_nil ?_
  go_wp2_with fail
  go_ret
  exact ⟨rfl, rfl⟩
end Go.Proofs.YtghjffgaebnhiaaDoor
end
