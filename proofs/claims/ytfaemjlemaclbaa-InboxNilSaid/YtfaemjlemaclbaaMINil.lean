/- InboxNil returns true. -/
import Derived.Test.YtfaemjlemaclbaaMIAt
import Derived.Test.YtfaemjlemaclbaaMIScript
namespace Go.Proofs.Ytfaemjlemaclbaa
set_option linter.unusedVariables false
set_option linter.unusedSimpArgs false
open Go.RowKit Go.Maps
/-- an inbox that is none: nil, or one that New did not make. -/
def NoI (w : World) (v : Value) : Prop := v = .pointer none ∨ ∃ g, v = .pointer (some ⟨g, 0, none⟩) ∧ Blk w g 74 [.int .i64 0, .int .i64 0, .int .u64 0, .map none, .map none, .int .i64 0]
theorem NoI.later {w w' : World} {v : Value} (h : NoI w v) (hb : Below w.heap.size w w') : NoI w' v := by
  rcases h with rfl | ⟨g, rfl, hc⟩
  · exact .inl rfl
  · exact .inr ⟨g, rfl, hc.later hb⟩
set_option maxHeartbeats 1000000 in
set_option maxRecDepth 100000 in
theorem nnone (v : Value) (w : World) (h : NoI w v) : Calls Try.prog 29 #[v] w fun e w' => e = .returned (.bool true) ∧ w' = w := by
  rcases h with rfl | ⟨g, rfl, hb⟩
  · go_enter Try.func29, Try.ntmps29
    go_wp2_with fail
    go_ret
    exact ⟨rfl, rfl⟩
  · have c3 := hb.cell_some (i := 3) rfl
    have qT : ∀ W : World, (binOp .eql 71 (.map none) (.map none)).run Try.prog W = .ok (.bool true) W := fun W => run_eql_map_nil W _ _ _ none Try.underlying71
    go_enter Try.func29, Try.ntmps29
    go_wp2
    go_ret
    exact ⟨rfl, rfl⟩
set_option maxHeartbeats 1000000 in
set_option maxRecDepth 100000 in
theorem nTake (v : Value) (u : UD) (dp gp : Option Addr) (dc gc : Nat) (w : World) (h : NoI w v) : Calls Try.prog 15 #[v, uv u (.slice dp u.data.length dc) (.slice gp u.got.length gc)] w fun e w' => e = .returned (.agg #[.int .i64 0, .int .i64 0, .slice none 0 0, .slice none 0 0]) ∧ Below w.heap.size w w' := by
  obtain ⟨kind, ep, ses, path, idx, cnt, data, code, got⟩ := u
  simp only [uv]
  obtain ⟨W0, hW0⟩ : ∃ W0, W0 = (w.alloc (.cells #[.int .i64 kind, .int .u64 (ep.toNat : Int), .int .u64 (ses.toNat : Int), .int .i64 path, .int .i64 idx, .int .i64 cnt, .slice dp data.length dc, .int .i64 code, .slice gp got.length gc] 41)).alloc (.cells #[.int .i64 0, .int .i64 0, .slice none 0 0, .slice none 0 0] 44) := ⟨_, rfl⟩
  have hB0 : Below w.heap.size w W0 := hW0 ▸ ((Below.refl _ _).alloc (Nat.le_refl _) _).alloc (by simp) _
  have ha0 : Blk W0 (w.heap.size + 1) 44 [.int .i64 0, .int .i64 0, .slice none 0 0, .slice none 0 0] := by
    have := Blk.new (w.alloc (.cells #[.int .i64 kind, .int .u64 (ep.toNat : Int), .int .u64 (ses.toNat : Int), .int .i64 path, .int .i64 idx, .int .i64 cnt, .slice dp data.length dc, .int .i64 code, .slice gp got.length gc] 41)) 44 [.int .i64 0, .int .i64 0, .slice none 0 0, .slice none 0 0]
    rw [show (w.alloc (.cells #[.int .i64 kind, .int .u64 (ep.toNat : Int), .int .u64 (ses.toNat : Int), .int .i64 path, .int .i64 idx, .int .i64 cnt, .slice dp data.length dc, .int .i64 code, .slice gp got.length gc] 41)).heap.size = w.heap.size + 1 by simp] at this
    exact hW0 ▸ this
  have c := nnone v W0 (h.later hB0)
  have b0 := ha0.cell_some (i := 0) rfl
  have b1 := ha0.cell_some (i := 1) rfl
  have b2 := ha0.cell_some (i := 2) rfl
  have b3 := ha0.cell_some (i := 3) rfl
  have HC := Lib.hid c; have HB0 := Lib.hid hB0
  have HA0 := Lib.hid ha0
  clear c hB0 ha0
  go_enter Try.func15, Try.ntmps15
  go_wp2_with fail
  rw [← hW0]
  refine HC.out.mono ?_
  rintro e w1 ⟨rfl, hw⟩
  rw [hw]
  clear hw w1
  go_wp2_with fail
  subst hW0
  refine bodyPost_ret (v := .agg #[.int .i64 0, .int .i64 0, .slice none 0 0, .slice none 0 0]) (results_cell_row rfl _ _ (w.heap.size + 1) _ _ _ _ rfl HA0.out Try.underlying44 rfl (by kernel_rfl)) rfl ?_
  exact ⟨rfl, HB0.out⟩
set_option maxHeartbeats 1000000 in
set_option maxRecDepth 100000 in
theorem nDec (v : Value) (code : Int) (w : World) (h : NoI w v) : Calls Try.prog 28 #[v, .agg #[.int .u64 1, .int .u64 1], .int .i64 code] w fun e w' => e = .returned (.int .i64 1) ∧ Below w.heap.size w w' := by
  obtain ⟨W0, hW0⟩ : ∃ W0, W0 = w.alloc (.cells #[.int .u64 1, .int .u64 1] 60) := ⟨_, rfl⟩
  have hB0 : Below w.heap.size w W0 := hW0 ▸ ((Below.refl _ _).alloc (Nat.le_refl _) _)
  have c := nnone v W0 (h.later hB0)
  have HC := Lib.hid c; have HB0 := Lib.hid hB0
  clear c hB0
  go_enter Try.func28, Try.ntmps28
  go_wp2_with fail
  rw [← hW0]
  refine HC.out.mono ?_
  rintro e w1 ⟨rfl, hw⟩
  rw [hw]
  clear hw w1
  go_wp2_with fail
  go_ret
  exact ⟨rfl, hW0 ▸ HB0.out⟩
set_option maxHeartbeats 1000000 in
set_option maxRecDepth 100000 in
theorem nDrop (v : Value) (w : World) (h : NoI w v) : Calls Try.prog 41 #[v, .agg #[.int .u64 1, .int .u64 1]] w fun e w' => e = .returned (.bool false) ∧ Below w.heap.size w w' := by
  have H := Lib.hid h
  clear h
  go_enter Try.func41, Try.ntmps41
  go_wp2_with fail
  have hB : Below w.heap.size w (w.alloc (.cells #[.int .u64 1, .int .u64 1] 60)) := (Below.refl _ _).alloc (Nat.le_refl _) _
  have hb := Blk.new w 60 [.int .u64 1, .int .u64 1]
  refine region_class (C := fun w' => Hid (Below w.heap.size w w')) (by kernel_rfl) (by kernel_rfl) (Lib.hid (hB.drew)) ?_
  clear hB hb
  repeat
    (first
     | go_big_quiet_skip
     | (go_big_quiet_want
        rename_i K hK
        apply Exists.intro
        refine ⟨fun w' hw' => ?_, hK _ ?_⟩
        · have hB := hw'
          go_simp
          first
          | (go_at_call 29
             refine (nnone v w' (H.out.later hB.out)).mono ?_
             rintro e w1 ⟨rfl, rfl⟩
             exact ⟨rfl, hB⟩)
          | with_reducible rfl
        clear hK K
        simp only [Act.put, List.setIfInBounds_toArray, List.set_cons_zero, List.set_cons_succ]))
  refine wpQuiet_nil ?_
  rintro w5 hB
  go_wp2_with fail
  go_ret
  exact ⟨rfl, hB.out⟩
set_option maxHeartbeats 1000000 in
set_option maxRecDepth 100000 in
theorem nEpoch (v : Value) (w : World) (h : NoI w v) : Calls Try.prog 25 #[v] w fun e w' => e = .returned (.int .u64 0) ∧ w' = w := by
  rcases h with rfl | ⟨g, rfl, hb⟩
  · go_enter Try.func25, Try.ntmps25
    go_wp2_with fail
    go_ret
    exact ⟨rfl, rfl⟩
  · have c2 := hb.cell_some (i := 2) rfl
    go_enter Try.func25, Try.ntmps25
    go_wp2_with fail
    go_ret
    exact ⟨rfl, rfl⟩
set_option maxHeartbeats 1000000 in
set_option maxRecDepth 100000 in
theorem nOpen (v : Value) (w : World) (h : NoI w v) : Calls Try.prog 17 #[v] w fun e w' => e = .returned (.slice none 0 0) ∧ w' = w := by
  have c := nnone v w h
  have HC := Lib.hid c
  clear c
  go_enter Try.func17, Try.ntmps17
  go_wp2_with fail
  refine HC.out.mono ?_
  rintro e w1 ⟨rfl, hw⟩
  rw [hw]
  clear hw w1
  go_wp2_with fail
  go_ret
  exact ⟨rfl, rfl⟩
set_option maxHeartbeats 1000000 in
set_option maxRecDepth 100000 in
theorem nDecided (v : Value) (w : World) (h : NoI w v) : Calls Try.prog 21 #[v] w fun e w' => e = .returned (.slice none 0 0) ∧ w' = w := by
  have c := nnone v w h
  have HC := Lib.hid c
  clear c
  go_enter Try.func21, Try.ntmps21
  go_wp2_with fail
  refine HC.out.mono ?_
  rintro e w1 ⟨rfl, hw⟩
  rw [hw]
  clear hw w1
  go_wp2_with fail
  go_ret
  exact ⟨rfl, rfl⟩
set_option maxHeartbeats 2000000 in
set_option maxRecDepth 100000 in
theorem inothing_any (v : Value) (u : UD) (dp gp : Option Addr) (dc gc : Nat) (w : World) (h : NoI w v) :
    Calls Try.prog 26 #[v, uv u (.slice dp u.data.length dc) (.slice gp u.got.length gc)] w fun e w' => e = .returned (.bool true) ∧ Below w.heap.size w w' := by
  have H := Lib.hid h
  clear h
  obtain ⟨kind, ep, ses, path, idx, cnt, data, code, got⟩ := u
  simp only [uv]
  obtain ⟨W0, hW0⟩ : ∃ W0, W0 = w.alloc (.cells #[.int .i64 kind, .int .u64 (ep.toNat : Int), .int .u64 (ses.toNat : Int), .int .i64 path, .int .i64 idx, .int .i64 cnt, .slice dp data.length dc, .int .i64 code, .slice gp got.length gc] 41) := ⟨_, rfl⟩
  have hB0 : Below w.heap.size w W0 := hW0 ▸ ((Below.refl _ _).alloc (Nat.le_refl _) _)
  have c := nTake v ⟨kind, ep, ses, path, idx, cnt, data, code, got⟩ dp gp dc gc W0 (H.out.later hB0)
  have HC := Lib.hid c; have HB0 := Lib.hid hB0
  clear c hB0
  simp only [uv] at HC
  go_enter Try.func26, Try.ntmps26
  go_wp2_with fail
  rw [← hW0]
  refine HC.out.mono ?_
  rintro e w1 ⟨rfl, hB1⟩
  clear HC
  have HB1 := Lib.hid (below_trans HB0.out hB1)
  clear hB1 hW0
  go_wp2_with fail
  obtain ⟨W2, hW2⟩ : ∃ W2, W2 = (w1.alloc (.cells #[.int .i64 0, .int .i64 0, .slice none 0 0, .slice none 0 0] 44)).alloc (.cells #[.int .u64 1, .int .u64 1] 60) := ⟨_, rfl⟩
  have hB2 : Below w1.heap.size w1 W2 := hW2 ▸ ((Below.refl _ _).alloc (Nat.le_refl _) _).alloc (by simp) _
  have hs : Blk W2 (w1.heap.size + 1) 60 [.int .u64 1, .int .u64 1] := by
    have := Blk.new (w1.alloc (.cells #[.int .i64 0, .int .i64 0, .slice none 0 0, .slice none 0 0] 44)) 60 [.int .u64 1, .int .u64 1]
    rw [show (w1.alloc (.cells #[.int .i64 0, .int .i64 0, .slice none 0 0, .slice none 0 0] 44)).heap.size = w1.heap.size + 1 by simp] at this
    exact hW2 ▸ this
  have HS := Lib.hid hs; have HB2 := Lib.hid (below_trans HB1.out hB2)
  have d0 := hs.cell_some (i := 0) rfl
  have d1 := hs.cell_some (i := 1) rfl
  rw [← hW2]
  clear hs hB2 hW2 HB1
  refine (nDec v 1 W2 (H.out.later HB2.out)).mono ?_
  rintro e w3 ⟨rfl, hB3⟩
  have hs3 := HS.out.later hB3
  have d0 := hs3.cell_some (i := 0) rfl
  have d1 := hs3.cell_some (i := 1) rfl
  have HS3 := Lib.hid hs3; have HB3 := Lib.hid (below_trans HB2.out hB3)
  clear hs3 hB3 HB2 HS
  go_wp2_with fail
  refine (nDec v 0 w3 (H.out.later HB3.out)).mono ?_
  rintro e w4 ⟨rfl, hB4⟩
  have hs4 := HS3.out.later hB4
  have d0 := hs4.cell_some (i := 0) rfl
  have d1 := hs4.cell_some (i := 1) rfl
  have HB4 := Lib.hid (below_trans HB3.out hB4)
  clear hs4 hB4 HB3 HS3
  go_wp2_with fail
  refine (nDrop v w4 (H.out.later HB4.out)).mono ?_
  rintro e w5 ⟨rfl, hB5⟩
  have HB5 := Lib.hid (below_trans HB4.out hB5)
  clear hB5 HB4
  go_wp2_with fail
  refine (nEpoch v w5 (H.out.later HB5.out)).mono ?_
  rintro e w6 ⟨rfl, hw⟩
  rw [hw]
  clear hw w6
  go_wp2_with fail
  refine (nOpen v w5 (H.out.later HB5.out)).mono ?_
  rintro e w6 ⟨rfl, hw⟩
  rw [hw]
  clear hw w6
  go_wp2_with fail
  refine (nDecided v w5 (H.out.later HB5.out)).mono ?_
  rintro e w6 ⟨rfl, hw⟩
  rw [hw]
  clear hw w6
  go_wp2_with fail
  go_ret
  exact ⟨rfl, HB5.out⟩
end Go.Proofs.Ytfaemjlemaclbaa
