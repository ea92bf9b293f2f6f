/- InboxNil returns true. -/
import Derived.Test.YtfaemjlemaclbaaMINil
import Derived.Test.YtfaemjlemaclbaaMIKnows
namespace Go.Proofs.Ytfaemjlemaclbaa
set_option linter.unusedVariables false
set_option linter.unusedSimpArgs false
open Go.RowKit Go.Maps
set_option maxHeartbeats 2000000 in
set_option maxRecDepth 100000 in
theorem inil_in (u : UD) (dp gp : Option Addr) (dc gc : Nat) (w : World) :
    Calls Try.prog 8 #[uv u (.slice dp u.data.length dc) (.slice gp u.got.length gc)] w fun e w' => e = .returned (.bool true) ∧ Below w.heap.size w w' := by
  have c0 := fun (v : Value) (W : World) (h : NoI W v) => inothing_any v u dp gp dc gc W h
  obtain ⟨kind, ep, ses, path, idx, cnt, data, code, got⟩ := u
  simp only [uv] at c0 ⊢
  obtain ⟨W0, hW0⟩ : ∃ W0, W0 = w.alloc (.cells #[.int .i64 kind, .int .u64 (ep.toNat : Int), .int .u64 (ses.toNat : Int), .int .i64 path, .int .i64 idx, .int .i64 cnt, .slice dp data.length dc, .int .i64 code, .slice gp got.length gc] 41) := ⟨_, rfl⟩
  have hB0 : Below w.heap.size w W0 := hW0 ▸ ((Below.refl _ _).alloc (Nat.le_refl _) _)
  have hu : Blk W0 w.heap.size 41 [.int .i64 kind, .int .u64 (ep.toNat : Int), .int .u64 (ses.toNat : Int), .int .i64 path, .int .i64 idx, .int .i64 cnt, .slice dp data.length dc, .int .i64 code, .slice gp got.length gc] := hW0 ▸ Blk.new w _ _
  have C0 := Lib.hid c0; have HB0 := Lib.hid hB0; have HU := Lib.hid hu
  clear c0 hB0 hu
  go_enter Try.func8, Try.ntmps8
  go_wp2_with fail
  rw [← hW0]
  clear hW0
  refine (knows_any W0).mono ?_
  rintro e w1 ⟨rfl, hB1⟩
  have hu1 := HU.out.later hB1
  have u0 := hu1.cell_some (i := 0) rfl
  have u1 := hu1.cell_some (i := 1) rfl
  have u2 := hu1.cell_some (i := 2) rfl
  have u3 := hu1.cell_some (i := 3) rfl
  have u4 := hu1.cell_some (i := 4) rfl
  have u5 := hu1.cell_some (i := 5) rfl
  have u6 := hu1.cell_some (i := 6) rfl
  have u7 := hu1.cell_some (i := 7) rfl
  have u8 := hu1.cell_some (i := 8) rfl
  have HU1 := Lib.hid hu1; have HB1 := Lib.hid (below_trans HB0.out hB1)
  clear hB1 hu1 HU HB0
  go_wp2_with fail
  refine (C0.out _ w1 (.inl rfl)).mono ?_
  rintro e w2 ⟨rfl, hB2⟩
  have hu2 := HU1.out.later hB2
  have HB2 := Lib.hid (below_trans HB1.out hB2)
  obtain ⟨W3, hW3⟩ : ∃ W3, W3 = w2.alloc (.cells #[.int .i64 0, .int .i64 0, .int .u64 0, .map none, .map none, .int .i64 0] 74) := ⟨_, rfl⟩
  have hB3 : Below w2.heap.size w2 W3 := hW3 ▸ (Below.refl _ _).alloc (Nat.le_refl _) _
  have hx : Blk W3 w2.heap.size 74 [.int .i64 0, .int .i64 0, .int .u64 0, .map none, .map none, .int .i64 0] := hW3 ▸ Blk.new w2 _ _
  have hu3 := hu2.later hB3
  have u0 := hu3.cell_some (i := 0) rfl
  have u1 := hu3.cell_some (i := 1) rfl
  have u2 := hu3.cell_some (i := 2) rfl
  have u3 := hu3.cell_some (i := 3) rfl
  have u4 := hu3.cell_some (i := 4) rfl
  have u5 := hu3.cell_some (i := 5) rfl
  have u6 := hu3.cell_some (i := 6) rfl
  have u7 := hu3.cell_some (i := 7) rfl
  have u8 := hu3.cell_some (i := 8) rfl
  rw [hW3] at u0 u1 u2 u3 u4 u5 u6 u7 u8
  have HX := Lib.hid hx; have HB3 := Lib.hid (below_trans HB2.out hB3)
  clear hB2 hB3 hx hu2 hu3 HU1 HB1 HB2
  go_wp2_with fail
  rw [← hW3]
  refine (C0.out _ W3 (.inr ⟨_, rfl, HX.out⟩)).mono ?_
  rintro e w4 ⟨rfl, hB4⟩
  have HB4 := Lib.hid (below_trans HB3.out hB4)
  clear hB4 hW3 u0 u1 u2 u3 u4 u5 u6 u7 u8
  go_wp2_with fail
  go_ret
  exact ⟨rfl, HB4.out⟩
theorem inil_walk (W : World) (cs0 : Array Value) (x0 : UT) (h0 : cUnit.rep W cs0.toList x0) :
    Calls Try.prog 8 #[.agg cs0] W fun e w' => e = .returned (.bool true) ∧ Below W.heap.size W w' := by
  obtain ⟨dv, gv, hcs, hu⟩ := cUnit_rd h0
  obtain ⟨dp, dc, rfl, -⟩ := id hu.dat
  obtain ⟨gp, gc, rfl, -⟩ := id hu.got
  have e : cs0 = (ucells (udT x0) (.slice dp (udT x0).data.length dc) (.slice gp (udT x0).got.length gc)).toArray := by rw [← hcs]
  rw [e]
  exact inil_in (udT x0) dp gp dc gc W
end Go.Proofs.Ytfaemjlemaclbaa
