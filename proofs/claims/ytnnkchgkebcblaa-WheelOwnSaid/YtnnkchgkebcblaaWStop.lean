/- Stop. -/
import Derived.Test.YtnnkchgkebcblaaWDel2
import Derived.Test.YtnnkchgkebcblaaWLay
namespace Go.Proofs.Ytnnkchgkebcblaa
set_option linter.unusedVariables false
set_option linter.unusedSimpArgs false
open Go.RowKit Go.Maps
theorem zeroPl_run (w : World) : (zeroValue 89).run Try.prog w = .ok (Pl.val ⟨0, 0, false⟩) w := zeroPl w
def PlOk (p : Pl) : Prop := p.lev < 8 ∧ p.slot < 64
def rowsDel (R : Nat → List Tm) (p : Pl) (i : Int) : Nat → List Tm := if p.nev then R else upd R (p.lev * 64 + p.slot) (without (R (p.lev * 64 + p.slot)) i)
theorem look_no {W : World} {mb N : Nat} {D : DataW Unit} {i : Int} (h : OwnsM W mb N D) (hid : (key i).wf = true) (hhas : has D (key i) = false) :
    (Instr.lookup 67 (.map (some mb)) (.int .i64 i) true).run Try.prog W = .ok (.tuple #[.agg #[.int .i64 0, .int .i64 0, .bool false], .bool false]) W := by
  obtain ⟨v, ps, hrun0, hv⟩ := h.look_ok keyed Try.underlying67 (zeroPl W) (plR_mk ⟨0, 0, false⟩) (keyOf_int_mk Try.underlying3 hid)
  have hv' : v = Pl.val ⟨0, 0, false⟩ := plR_inv (ps := ps) (by rw [hv]; exact congrArg (fun d => some (d, ps)) (atKey_of_not_has hhas _))
  subst hv'
  rw [show has D (Lit.int .i64 i) = false from hhas] at hrun0
  exact hrun0
theorem look_yes {W : World} {mb N : Nat} {D : DataW Unit} {i : Int} {p : Pl} (h : OwnsM W mb N D) (hid : (key i).wf = true) (hhas : has D (key i) = true) (hat : ∀ z, D.atKey (key i) z = p.dat) :
    (Instr.lookup 67 (.map (some mb)) (.int .i64 i) true).run Try.prog W = .ok (.tuple #[.agg #[.int .i64 (p.lev : Int), .int .i64 (p.slot : Int), .bool p.nev], .bool true]) W := by
  obtain ⟨v, ps, hrun0, hv⟩ := h.look_ok keyed Try.underlying67 (zeroPl W) (plR_mk ⟨0, 0, false⟩) (keyOf_int_mk Try.underlying3 hid)
  have hv' : v = Pl.val p := plR_inv (ps := ps) (by rw [hv]; exact congrArg (fun d => some (d, ps)) (hat _))
  subst hv'
  rw [show has D (Lit.int .i64 i) = true from hhas] at hrun0
  exact hrun0
theorem delete_run {W : World} {mb N : Nat} {D : DataW Unit} {i : Int} (h : OwnsM W mb N D) (hid : (key i).wf = true) :
    ∃ W', (∀ ty, (Builtin.delete_ #[67, 3] ty #[.map (some mb), .int .i64 i]).run Try.prog W = .ok (.tuple #[]) W') ∧ OwnsM W' mb N (D.del (key i)) ∧ Same (at1 mb) W W' := by
  obtain ⟨W', h1, h2, h3⟩ := h.drop keyed Try.underlying67 (keyOf_int_mk Try.underlying3 hid) 0
  exact ⟨W', fun ty => h1, h2, mapTurned_same h3⟩
/-- delete, as one step of a region that draws its order. -/
theorem step_delete {ops : Array Oper} {o : Oper} {a : Act} {W W' : World} {K : Act → World → Prop} {Q : Exit → Act → World → Prop} {F : Prop} (hgd : o.guard = none) (m x : Operand)
    (ho : o.op = .call { callee := .builtin .delete, args := #[m, x], argTypes := #[67, 3] }) {mb : Nat} {i : Int} (hm : a.eval m = .map (some mb)) (hx : a.eval x = .int .i64 i)
    (hrun : ∀ ty, (Builtin.delete_ #[67, 3] ty #[.map (some mb), .int .i64 i]).run Try.prog W = .ok (.tuple #[]) W') (h : K (a.put o.dst (.tuple #[])) W') :
    if Region.wanted o (yielded ops a.tmps) = true then Oper.wp Try.prog o a W K Q else F := by
  have hw : Region.wanted o (yielded ops a.tmps) = true := by simp [Region.wanted, hgd]
  rw [if_pos hw]
  unfold Oper.wp
  simp [execOp, ho, resolve, invoke, builtin, hm, hx, hrun, Result.andThen]
  exact h
set_option maxHeartbeats 4000000 in
set_option maxRecDepth 100000 in
theorem stop_no (g mb : Nat) (sl : List Value) (now sets : Nat) (R : Nat → List Tm) (m : Int → Option Pl) (N : Nat) (w : World) (h : WAt w g mb sl now sets R m N) (i : Int) (hid : (key i).wf = true) (hm : m i = none) :
    Calls Try.prog 31 #[.pointer (some ⟨g, 0, none⟩), .int .i64 i] w fun e w' => e = .returned (.bool false) ∧ Below w.heap.size w w' := by
  have c0 := h.c0
  have c515 := h.c515
  have hgl := h.blk.lt
  have HW := Lib.hid h
  clear h
  go_enter Try.func31, Try.ntmps31
  go_wp2_with fail
  obtain ⟨w0, hw0⟩ : ∃ w0, w0 = w.alloc (.cells #[.int .i64 i] 3) := ⟨_, rfl⟩
  have hI : Blk w0 w.heap.size 3 [.int .i64 i] := hw0 ▸ Blk.new w _ _
  have hB0 : Below w.heap.size w w0 := hw0 ▸ (Below.refl _ _).alloc (Nat.le_refl _) _
  rw [← hw0]
  clear hw0
  have c515 := below_cell hB0 c515 hgl
  have d0 := hI.cell_some (i := 0) rfl
  have hW0 := HW.out.later hB0
  obtain ⟨D, q1, q2, q3, q4⟩ := hW0.map.ex
  have look : ∀ W, OwnsM W mb N D → (Instr.lookup 67 (.map (some mb)) (.int .i64 i) true).run Try.prog W = .ok (.tuple #[.agg #[.int .i64 0, .int .i64 0, .bool false], .bool false]) W := fun W hW => look_no hW hid (by rw [q3 i hid, hm]; rfl)
  have hrun := look w0.drew q1
  have hrun2 := look (w0.alloc (.cells #[.int .i64 0, .int .i64 0, .bool false] 89)).drew (q1.alloc _)
  have hib : w.heap.size < w0.heap.size := hI.lt
  have hgl0 : g < w0.heap.size := Nat.lt_trans hgl hib
  clear q1 q2 q3 q4 hW0 hI look
  go_region
  all_goals
    go_wp2_with fail
    go_ret
    refine ⟨rfl, ?_⟩
    first
    | exact (hB0.drew.alloc hB0.size _)
    | exact ((hB0.alloc hB0.size _).drew)
    | trace_state
set_option maxHeartbeats 4000000 in
set_option maxRecDepth 100000 in
theorem stop_yes (g mb : Nat) (sl : List Value) (now sets : Nat) (R : Nat → List Tm) (m : Int → Option Pl) (N : Nat) (w : World) (h : WAt w g mb sl now sets R m N) (i : Int) (hid : (key i).wf = true) (p : Pl) (hm : m i = some p) (hp : PlOk p)
    (hR : (R (p.lev * 64 + p.slot)).length < 4611686018427) :
    Calls Try.prog 31 #[.pointer (some ⟨g, 0, none⟩), .int .i64 i] w fun e w' => e = .returned (.bool true) ∧
      ∃ sl', WAt w' g mb sl' now sets (rowsDel R p i) (mdel m i) (cntd m i N) ∧ Same (WF g mb sl) w w' ∧ ∀ b, WF g mb sl' b → WF g mb sl b ∨ w.heap.size ≤ b := by
  have c0 := h.c0
  have c515 := h.c515
  have hgl := h.blk.lt
  have HW := Lib.hid h
  clear h
  go_enter Try.func31, Try.ntmps31
  go_wp2_with fail
  obtain ⟨w0, hw0⟩ : ∃ w0, w0 = w.alloc (.cells #[.int .i64 i] 3) := ⟨_, rfl⟩
  have hI : Blk w0 w.heap.size 3 [.int .i64 i] := hw0 ▸ Blk.new w _ _
  have hB0 : Below w.heap.size w w0 := hw0 ▸ (Below.refl _ _).alloc (Nat.le_refl _) _
  rw [← hw0]
  clear hw0
  have c515 := below_cell hB0 c515 hgl
  have d0 := hI.cell_some (i := 0) rfl
  have hW0 := HW.out.later hB0
  obtain ⟨D, q1, q2, q3, q4⟩ := hW0.map.ex
  have look : ∀ W, OwnsM W mb N D → (Instr.lookup 67 (.map (some mb)) (.int .i64 i) true).run Try.prog W = .ok (.tuple #[.agg #[.int .i64 (p.lev : Int), .int .i64 (p.slot : Int), .bool p.nev], .bool true]) W := fun W hW => look_yes hW hid (by rw [q3 i hid, hm]; rfl) (q4 i p hid hm)
  have hrun := look w0.drew q1
  have hrun2 := look (w0.alloc (.cells #[.int .i64 0, .int .i64 0, .bool false] 89)).drew (q1.alloc _)
  have hib : w.heap.size < w0.heap.size := hI.lt
  have hgl0 : g < w0.heap.size := Nat.lt_trans hgl hib
  have HQ2 := Lib.hid q2; have HQ3 := Lib.hid q3; have HQ4 := Lib.hid q4; have HI := Lib.hid hI; have HQ1 := Lib.hid q1; have HB0 := Lib.hid hB0
  clear q1 q2 q3 q4 hW0 hI look hB0
  go_region
  all_goals
    go_wp2_with fail
    first
    | (obtain ⟨W1, hW1⟩ : ∃ W1, W1 = (w0.alloc (.cells #[.int .i64 (p.lev : Int), .int .i64 (p.slot : Int), .bool p.nev] 89)).drew := ⟨_, rfl⟩
       rw [← hW1]
       have hT1 : Blk W1 w0.heap.size 89 [.int .i64 (p.lev : Int), .int .i64 (p.slot : Int), .bool p.nev] := hW1 ▸ (Blk.new w0 _ _).drew
       have hB1 : Below w0.heap.size w0 W1 := hW1 ▸ ((Below.refl _ _).alloc (Nat.le_refl _) _).drew
       clear hW1)
    | (obtain ⟨W1, hW1⟩ : ∃ W1, W1 = w0.drew.alloc (.cells #[.int .i64 (p.lev : Int), .int .i64 (p.slot : Int), .bool p.nev] 89) := ⟨_, rfl⟩
       rw [← hW1]
       have hT1 : Blk W1 w0.heap.size 89 [.int .i64 (p.lev : Int), .int .i64 (p.slot : Int), .bool p.nev] := hW1 ▸ Blk.new w0.drew _ _
       have hB1 : Below w0.heap.size w0 W1 := hW1 ▸ (Below.refl w0.heap.size w0).drew.alloc (Nat.le_refl _) _
       clear hW1)
    have c515 := below_cell hB1 c515 hgl0
    have d0 := below_cell hB1 d0 hib
    have hQW : OwnsM W1 mb N D := owns_same (S := no) HQ1.out (Same.of_below hB1 no) (fun h => h)
    obtain ⟨W2, hdel, q5, hS⟩ := delete_run (show OwnsM W1.drew mb N D from hQW) hid
    have HW1 := Lib.hid (HW.out.later (below_trans HB0.out hB1))
    have hS2 : Same (at1 mb) W1 W2 := ⟨hS.os, hS.tape, hS.output, hS.size, hS.block⟩
    have HS2 := Lib.hid hS2
    have hT2 := hT1.same hS2 (fun e => HW1.out.map.ne hT1 e.symm)
    have hI2 := (HI.out.later hB1).same hS2 (fun e => HW1.out.map.ne (HI.out.later hB1) e.symm)
    have HW2 := Lib.hid (HW1.out.mapped hS2 (MapIs.del (w := W1) hid hQW HQ2.out HQ3.out HQ4.out q5))
    have HB1 := Lib.hid (below_trans HB0.out hB1)
    have p0 := hT2.cell_some (i := 0) rfl
    have p1 := hT2.cell_some (i := 1) rfl
    have p2 := hT2.cell_some (i := 2) rfl
    have e0 := hI2.cell_some (i := 0) rfl
    obtain ⟨pb, hpb⟩ : ∃ pb, pb = w0.heap.size := ⟨_, rfl⟩
    obtain ⟨ib, hibe⟩ : ∃ ib, ib = w.heap.size := ⟨_, rfl⟩
    rw [← hibe] at e0 d0 hI2
    rw [← hpb] at p0 p1 p2
    have HPB := Lib.hid hpb; have HIB := Lib.hid hibe; have HI2 := Lib.hid hI2
    clear hrun hrun2 hT1 hB1 hT2 hI2 hS hS2 q5 c0
    rw [← hpb, ← hibe]
    clear hpb hibe
    go_region_law (go_loud (refine step_delete rfl (.tmp 31) (.tmp 32) rfl rfl rfl hdel ?_))
    all_goals
      have hl1 := hp.1
      have hl2 := hp.2
      cases hnv : p.nev with
      | true =>
        rw [hnv] at p2
        go_wp2_with fail
        go_ret
        refine ⟨rfl, sl, ?_, ?_, fun b hb => .inl hb⟩
        · rw [show rowsDel R p i = R by unfold rowsDel; rw [hnv]; rfl]
          exact HW2.out
        · exact (Same.of_below HB1.out (WF g mb sl)).trans HS2.out (fun _ _ h => .inr (.inl h))
      | false =>
        rw [hnv] at p2
        obtain ⟨v, hv, hc, hown⟩ := HW2.out.at (k := p.lev * 64 + p.slot) (by omega)
        have hcg : W2.cell? ⟨g, 3 + p.lev * 64 + p.slot, none⟩ = some v := by rw [Nat.add_assoc]; exact hc
        have hfg : W2.frozen? ⟨g, 3 + p.lev * 64 + p.slot, none⟩ = false := HW2.out.fz _
        have hvg : v.ownBlock ≠ some g := own_blk_ne hown HW2.out.blk (by decide)
        have hvi : v.ownBlock ≠ some ib := own_blk_ne hown HI2.out (by decide)
        have hgl2 : g < W2.heap.size := HW2.out.blk.lt
        have hi1 : ((p.lev : Int) < 8) := by omega
        have hi2 : ((p.slot : Int) < 64) := by omega
        have hcon := del_any v (R (p.lev * 64 + p.slot)) i ib W2.drew hown.drew e0 hvi hR
        obtain ⟨n, hn⟩ : ∃ n, n = (R (p.lev * 64 + p.slot)).length := ⟨_, rfl⟩
        obtain ⟨vp, vc, hve⟩ : ∃ vp vc, v = Value.slice vp n vc := by
          rw [hn]
          rcases hown.2 with ⟨h, h'⟩ | ⟨g', c', _, h, _⟩
          · exact ⟨none, 0, by rw [h, h']⟩
          · exact ⟨_, _, h⟩
        have HO := Lib.hid hown; have HV := Lib.hid hv; have HN := Lib.hid hn
        clear hown hv hc hn
        subst hve
        go_wp2_with fail
        go_region
        all_goals
          go_wp2_with fail
          refine hcon.mono ?_
          rintro e W4 ⟨v', rfl, hown4, hg4, hb4⟩
          have hg4' : W2.grownBy W4 (Value.slice vp n vc).ownBlock := ⟨hg4.os, hg4.tape, hg4.output, hg4.size, hg4.block⟩
          have hcg4 := hg4'.cell (a := ⟨g, 3 + p.lev * 64 + p.slot, none⟩) hcg (Ne.symm hvg)
          have hfg4 := (World.frozen?_of_block (a := ⟨g, 3 + p.lev * 64 + p.slot, none⟩) (hg4'.block g hgl2 (Ne.symm hvg))).trans hfg
          obtain ⟨vp', n', vc', rfl⟩ : ∃ vp' n' vc', v' = Value.slice vp' n' vc' := by
            rcases hown4.2 with ⟨h, _⟩ | ⟨g', c', _, h, _⟩
            · exact ⟨_, _, _, h⟩
            · exact ⟨_, _, _, h⟩
          have hpush := HW2.out.push (k := p.lev * 64 + p.slot) (by omega) HV.out hown4 hg4' (.inr (.inl hb4))
          have HP := Lib.hid hpush
          clear hpush hown4 hg4 hg4' hb4 hcg e0 p0 p1 p2
          go_wp2_with fail
          go_ret
          obtain ⟨u1, u2, u3⟩ := HP.out
          rw [← Nat.add_assoc] at u1 u2
          refine ⟨rfl, sl.set (p.lev * 64 + p.slot) (Value.slice vp' n' vc'), ?_, ?_, fun b hb => ?_⟩
          · rw [show rowsDel R p i = upd R (p.lev * 64 + p.slot) (without (R (p.lev * 64 + p.slot)) i) by unfold rowsDel; rw [hnv]; rfl]
            exact u1
          · exact ((Same.of_below HB1.out (WF g mb sl)).trans HS2.out (fun _ _ h => .inr (.inl h))).trans u2 (fun _ _ h => h)
          · rcases u3 b hb with h | h
            · exact .inl h
            · exact .inr (Nat.le_trans (Nat.le_trans HB1.out.size HS2.out.size) h)
end Go.Proofs.Ytnnkchgkebcblaa
