/- halyardlaw03: sameUnit, kept. -/
import Derived.Test.YtghjffgaebnhiaaDoorMLaw03
namespace Go.Proofs.YtghjffgaebnhiaaDoor
set_option linter.unusedVariables false
set_option linter.unusedSimpArgs false
open Go.RowKit
set_option maxHeartbeats 2000000 in
set_option maxRecDepth 100000 in
theorem sameUnit_yes (u : UD) (dv gv dv' gv' : Value) (w : World) (hd : Bs w dv u.data) (hg : Rgs w gv u.got) (hd' : Bs w dv' u.data) (hg' : Rgs w gv' u.got) (hl2 : u.got.length ≤ 140737488355328) :
    Calls Tryd.prog 18 #[uv u dv gv, uv u dv' gv'] w fun e w' => e = .returned (.bool true) ∧ Below w.heap.size w w' := by
  obtain ⟨kind, ep, ses, path, idx, cnt, data, code, got⟩ := u
  simp only at *
  obtain ⟨dp, dc, rfl, -⟩ := id hd
  obtain ⟨gp, gc, rfl, -⟩ := id hg
  obtain ⟨dq, dd, rfl, -⟩ := id hd'
  obtain ⟨gq, gd, rfl, -⟩ := id hg'
  simp only [uv] at *
  obtain ⟨n, hn⟩ : ∃ n, n = data.length := ⟨_, rfl⟩
  obtain ⟨k, hk⟩ : ∃ k, k = got.length := ⟨_, rfl⟩
  obtain ⟨e1, he1⟩ : ∃ e1, e1 = ep.toNat := ⟨_, rfl⟩
  obtain ⟨e2, he2⟩ : ∃ e2, e2 = ses.toNat := ⟨_, rfl⟩
  obtain ⟨W0, hW0⟩ : ∃ W0, W0 = (w.alloc (.cells #[.int .i64 kind, .int .u64 (e1 : Int), .int .u64 (e2 : Int), .int .i64 path, .int .i64 idx, .int .i64 cnt, .slice dp n dc, .int .i64 code, .slice gp k gc] 26)).alloc (.cells #[.int .i64 kind, .int .u64 (e1 : Int), .int .u64 (e2 : Int), .int .i64 path, .int .i64 idx, .int .i64 cnt, .slice dq n dd, .int .i64 code, .slice gq k gd] 26) := ⟨_, rfl⟩
  have hB0 : Below w.heap.size w W0 := hW0 ▸ ((Below.refl _ _).alloc (Nat.le_refl _) _).alloc (by simp) _
  have hu0 : Blk W0 w.heap.size 26 [.int .i64 kind, .int .u64 (e1 : Int), .int .u64 (e2 : Int), .int .i64 path, .int .i64 idx, .int .i64 cnt, .slice dp n dc, .int .i64 code, .slice gp k gc] := hW0 ▸ (Blk.new w _ _).alloc _
  have ha0 : Blk W0 (w.heap.size + 1) 26 [.int .i64 kind, .int .u64 (e1 : Int), .int .u64 (e2 : Int), .int .i64 path, .int .i64 idx, .int .i64 cnt, .slice dq n dd, .int .i64 code, .slice gq k gd] := by
    have := Blk.new (w.alloc (.cells #[.int .i64 kind, .int .u64 (e1 : Int), .int .u64 (e2 : Int), .int .i64 path, .int .i64 idx, .int .i64 cnt, .slice dp n dc, .int .i64 code, .slice gp k gc] 26)) 26 [.int .i64 kind, .int .u64 (e1 : Int), .int .u64 (e2 : Int), .int .i64 path, .int .i64 idx, .int .i64 cnt, .slice dq n dd, .int .i64 code, .slice gq k gd]
    rw [show (w.alloc (.cells #[.int .i64 kind, .int .u64 (e1 : Int), .int .u64 (e2 : Int), .int .i64 path, .int .i64 idx, .int .i64 cnt, .slice dp n dc, .int .i64 code, .slice gp k gc] 26)).heap.size = w.heap.size + 1 by simp] at this
    exact hW0 ▸ this
  have x0 := hu0.cell_some (i := 0) rfl
  have x1 := hu0.cell_some (i := 1) rfl
  have x2 := hu0.cell_some (i := 2) rfl
  have x3 := hu0.cell_some (i := 3) rfl
  have x4 := hu0.cell_some (i := 4) rfl
  have x5 := hu0.cell_some (i := 5) rfl
  have x6 := hu0.cell_some (i := 6) rfl
  have x7 := hu0.cell_some (i := 7) rfl
  have x8 := hu0.cell_some (i := 8) rfl
  have y0 := ha0.cell_some (i := 0) rfl
  have y1 := ha0.cell_some (i := 1) rfl
  have y2 := ha0.cell_some (i := 2) rfl
  have y3 := ha0.cell_some (i := 3) rfl
  have y4 := ha0.cell_some (i := 4) rfl
  have y5 := ha0.cell_some (i := 5) rfl
  have y6 := ha0.cell_some (i := 6) rfl
  have y7 := ha0.cell_some (i := 7) rfl
  have y8 := ha0.cell_some (i := 8) rfl
  have cv1 := run_str8 (W := W0) (Rd.later hd hB0) rfl
  have cv2 := run_str8 (W := W0) (Rd.later hd' hB0) rfl
  have hsm := same03_yes _ _ got W0 (hg.later hB0) (hg'.later hB0) hl2
  obtain ⟨sl, hsl⟩ : ∃ sl, sl = str data := ⟨_, rfl⟩
  rw [← hn, ← hsl] at cv1 cv2
  rw [← hk] at hsm
  rw [hW0] at x0 y0 x1 y1 x2 y2 x3 y3 x4 y4 x5 y5 x6 y6 x7 y7 x8 y8 cv1 cv2
  have HSM := Lib.hid hsm; have HB0 := Lib.hid hB0
  rw [← hn, ← hk, ← he1, ← he2]
  clear hsm hB0 hu0 ha0 hd hg hd' hg' hl2 hsl hn hk he1 he2
  go_enter Tryd.func18, Tryd.ntmps18
  go_wp2_with fail
  rw [← hW0]
  refine HSM.out.mono ?_
  rintro e w1 ⟨rfl, q, rfl⟩
  have HB1 := Lib.hid (below_drewN HB0.out q)
  clear x0 y0 x1 y1 x2 y2 x3 y3 x4 y4 x5 y5 x6 y6 x7 y7 x8 y8 cv1 cv2 hW0
  go_wp2_with fail
  go_ret
  exact ⟨rfl, HB1.out⟩
set_option maxHeartbeats 2000000 in
set_option maxRecDepth 100000 in
theorem kept_yes (base : Nat) (u : UD) (dv gv dv' gv' : Value) (w : World) (hl : LentB base dv u.data w) (hl' : LentR base gv u.got w) (hd' : Bs w dv' u.data) (hg' : Rgs w gv' u.got) (hl1 : u.data.length ≤ 140737488355328) (hl2 : u.got.length ≤ 8796093022208) :
    Calls Tryd.prog 14 #[uv u dv gv, uv u dv' gv'] w fun e w' => e = .returned (.bool true) ∧ Below w.heap.size w w' := by
  have hd := hl.bs hl1
  have hg := hl'.rgs hl2
  have hsu := fun (W : World) (hB : Below w.heap.size w W) => sameUnit_yes u dv gv dv' gv' W (Rd.later hd hB) (hg.later hB) (Rd.later hd' hB) (hg'.later hB) (by omega)
  have hst := fun (W : World) (hB : Below w.heap.size w W) => stays_any base dv dv' u.data W (hl.later hB) (Rd.later hd' hB) hl1
  have hre := fun (W : World) (hB : Below w.heap.size w W) => rest_any base gv gv' u.got W (hl'.later hB) (hg'.later hB) hl2
  obtain ⟨kind, ep, ses, path, idx, cnt, data, code, got⟩ := u
  simp only at *
  obtain ⟨dp, dc, rfl, -⟩ := id hd
  obtain ⟨gp, gc, rfl, -⟩ := id hg
  obtain ⟨dq, dd, rfl, -⟩ := id hd'
  obtain ⟨gq, gd, rfl, -⟩ := id hg'
  simp only [uv] at *
  obtain ⟨n, hn⟩ : ∃ n, n = data.length := ⟨_, rfl⟩
  obtain ⟨k, hk⟩ : ∃ k, k = got.length := ⟨_, rfl⟩
  obtain ⟨e1, he1⟩ : ∃ e1, e1 = ep.toNat := ⟨_, rfl⟩
  obtain ⟨e2, he2⟩ : ∃ e2, e2 = ses.toNat := ⟨_, rfl⟩
  obtain ⟨W0, hW0⟩ : ∃ W0, W0 = (w.alloc (.cells #[.int .i64 kind, .int .u64 (e1 : Int), .int .u64 (e2 : Int), .int .i64 path, .int .i64 idx, .int .i64 cnt, .slice dp n dc, .int .i64 code, .slice gp k gc] 26)).alloc (.cells #[.int .i64 kind, .int .u64 (e1 : Int), .int .u64 (e2 : Int), .int .i64 path, .int .i64 idx, .int .i64 cnt, .slice dq n dd, .int .i64 code, .slice gq k gd] 26) := ⟨_, rfl⟩
  have hB0 : Below w.heap.size w W0 := hW0 ▸ ((Below.refl _ _).alloc (Nat.le_refl _) _).alloc (by simp) _
  have hu0 : Blk W0 w.heap.size 26 [.int .i64 kind, .int .u64 (e1 : Int), .int .u64 (e2 : Int), .int .i64 path, .int .i64 idx, .int .i64 cnt, .slice dp n dc, .int .i64 code, .slice gp k gc] := hW0 ▸ (Blk.new w _ _).alloc _
  have ha0 : Blk W0 (w.heap.size + 1) 26 [.int .i64 kind, .int .u64 (e1 : Int), .int .u64 (e2 : Int), .int .i64 path, .int .i64 idx, .int .i64 cnt, .slice dq n dd, .int .i64 code, .slice gq k gd] := by
    have := Blk.new (w.alloc (.cells #[.int .i64 kind, .int .u64 (e1 : Int), .int .u64 (e2 : Int), .int .i64 path, .int .i64 idx, .int .i64 cnt, .slice dp n dc, .int .i64 code, .slice gp k gc] 26)) 26 [.int .i64 kind, .int .u64 (e1 : Int), .int .u64 (e2 : Int), .int .i64 path, .int .i64 idx, .int .i64 cnt, .slice dq n dd, .int .i64 code, .slice gq k gd]
    rw [show (w.alloc (.cells #[.int .i64 kind, .int .u64 (e1 : Int), .int .u64 (e2 : Int), .int .i64 path, .int .i64 idx, .int .i64 cnt, .slice dp n dc, .int .i64 code, .slice gp k gc] 26)).heap.size = w.heap.size + 1 by simp] at this
    exact hW0 ▸ this
  have x0 := hu0.cell_some (i := 0) rfl
  have x1 := hu0.cell_some (i := 1) rfl
  have x2 := hu0.cell_some (i := 2) rfl
  have x3 := hu0.cell_some (i := 3) rfl
  have x4 := hu0.cell_some (i := 4) rfl
  have x5 := hu0.cell_some (i := 5) rfl
  have x6 := hu0.cell_some (i := 6) rfl
  have x7 := hu0.cell_some (i := 7) rfl
  have x8 := hu0.cell_some (i := 8) rfl
  have y0 := ha0.cell_some (i := 0) rfl
  have y1 := ha0.cell_some (i := 1) rfl
  have y2 := ha0.cell_some (i := 2) rfl
  have y3 := ha0.cell_some (i := 3) rfl
  have y4 := ha0.cell_some (i := 4) rfl
  have y5 := ha0.cell_some (i := 5) rfl
  have y6 := ha0.cell_some (i := 6) rfl
  have y7 := ha0.cell_some (i := 7) rfl
  have y8 := ha0.cell_some (i := 8) rfl
  rw [hW0] at x0 y0 x1 y1 x2 y2 x3 y3 x4 y4 x5 y5 x6 y6 x7 y7 x8 y8
  rw [← hn, ← hk, ← he1, ← he2] at hsu
  rw [← hn] at hst
  rw [← hk] at hre
  rw [← hn, ← hk, ← he1, ← he2]
  have HSU := Lib.hid hsu; have HST := Lib.hid hst; have HRE := Lib.hid hre; have HB0 := Lib.hid hB0; have HU0 := Lib.hid hu0; have HA0 := Lib.hid ha0
  clear hsu hst hre hB0 hu0 ha0 hd hg hd' hg' hl hl' hl1 hl2 hn hk he1 he2
  go_enter Tryd.func14, Tryd.ntmps14
  go_wp2_with fail
  rw [← hW0]
  refine (HSU.out W0 HB0.out).mono ?_
  rintro e w1 ⟨rfl, hB1⟩
  have HB1 := Lib.hid (below_trans HB0.out hB1)
  have HU1 := Lib.hid (HU0.out.later hB1); have HA1 := Lib.hid (HA0.out.later hB1)
  have p6 := HU1.out.cell_some (i := 6) rfl
  have q6 := HA1.out.cell_some (i := 6) rfl
  clear x0 y0 x1 y1 x2 y2 x3 y3 x4 y4 x5 y5 x6 y6 x7 y7 x8 y8 hW0 hB1
  go_wp2_with fail
  refine (HST.out w1 HB1.out).mono ?_
  rintro e w2 ⟨rfl, hB2⟩
  have HB2 := Lib.hid (below_trans HB1.out hB2)
  have p8 := (HU1.out.later hB2).cell_some (i := 8) rfl
  have q8 := (HA1.out.later hB2).cell_some (i := 8) rfl
  clear hB2 p6 q6
  go_wp2_with fail
  refine (HRE.out w2 HB2.out).mono ?_
  rintro e w3 ⟨rfl, hB3⟩
  have HB3 := Lib.hid (below_trans HB2.out hB3)
  clear hB3 p8 q8
  go_wp2_with fail
  go_ret
  exact ⟨rfl, HB3.out⟩
end Go.Proofs.YtghjffgaebnhiaaDoor
