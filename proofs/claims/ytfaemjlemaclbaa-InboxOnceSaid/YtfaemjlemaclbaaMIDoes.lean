/- within, does: what the plain statements of chapter 13 call. -/
import Derived.Test.YtfaemjlemaclbaaMIOps
import Derived.Test.YtfaemjlemaclbaaMIPlay
import Derived.Test.YtfaemjlemaclbaaMAppAt
import Derived.Laws.ResultCell
namespace Go.Proofs.Ytfaemjlemaclbaa
set_option linter.unusedVariables false
set_option linter.unusedSimpArgs false
open Go.RowKit Go.Maps
def WithinPost (w : World) (m : Nat) (e : Ending) (w' : World) : Prop := ∃ k : Nat, k < m ∧ e = .returned (.int .i64 (k : Int)) ∧ w' = w
set_option maxHeartbeats 1000000 in
set_option maxRecDepth 100000 in
theorem within_any (n : Int) (m : Nat) (w : World) (h0 : 0 < m) (h1 : m ≤ 4611686018427) :
    Calls Try.prog 13 #[.int .i64 n, .int .i64 (m : Int)] w fun e w' => WithinPost w m e w' := by
  have hm0 : ((m : Int) == 0) = false := by simp; omega
  have ht1 : Int.tmod n m < m := by have := Int.tmod_lt_of_pos n (b := (m : Int)) (by omega); omega
  have ht2 : -(m : Int) < Int.tmod n m := by
    have := Int.tmod_lt_of_pos (-n) (b := (m : Int)) (by omega)
    rw [Int.neg_tmod] at this
    omega
  obtain ⟨k, hk⟩ : ∃ k, k = Int.tmod n m := ⟨_, rfl⟩
  rw [← hk] at ht1 ht2
  have hk' := hk.symm
  clear hk
  by_cases hn : k < 0
  · go_enter Try.func13, Try.ntmps13
    go_wp2_with fail
    go_ret
    exact ⟨(k + m).toNat, by omega, by rw [Int.toNat_of_nonneg (by omega)]; rfl, rfl⟩
  · go_enter Try.func13, Try.ntmps13
    go_wp2_with fail
    go_ret
    exact ⟨k.toNat, by omega, by rw [Int.toNat_of_nonneg (by omega)]; rfl, rfl⟩
theorem in_take' {w : World} {x n : Nat} {S : Nat → Prop} {m : IM} (h : In w x S n m) (u : UD) (dp gp : Option Addr) (dc gc : Nat) (hd : Bs w (.slice dp u.data.length dc) u.data) (hdn : u.data ≠ [] → ∀ b, (Value.slice dp u.data.length dc).ownBlock = some b → ¬ S b) (hn : n < 4611686018427387904) :
    Calls Try.prog 15 #[.pointer (some ⟨x, 0, none⟩), uv u (.slice dp u.data.length dc) (.slice gp u.got.length gc)] w fun e w' => Answers w w' x (n + 1) S (m.take u).1 (m.take u).2 e := by
  by_cases he : u.data = []
  · have hdat : ¬ u.isData := fun h => by
      have := h.2.2.2.2.2.2.2.2.1
      rw [he] at this
      simp at this
    have hI := h
    obtain ⟨⟨bo, bd, t, O, C, hA, ht, hf⟩, hr⟩ := h
    have e1 : m.take u = (m, ⟨2, 0, [], []⟩) := by rw [IM.take, if_pos hdat]
    rw [e1]
    by_cases hk : u.kind = 1
    · refine (take_bad hA u dp gp dc gc hk hdat).mono ?_
      rintro e w' ⟨rfl, hB⟩
      exact answers_none ⟨S, (hI.later hB).mono (Nat.le_succ n), Turn.of_below hB S⟩
    · refine (take_kind hA u dp gp dc gc hk).mono ?_
      rintro e w' ⟨rfl, hB⟩
      exact answers_none ⟨S, (hI.later hB).mono (Nat.le_succ n), Turn.of_below hB S⟩
  · exact in_take h u dp gp dc gc hd (hdn he) hn
theorem results_cr {P : Program} {fn : Func} {p u : Tmp} {ty : TypeId} (h : fn.results = #[.cell p ty, .tmp u]) (tmps : Array Value) (w : World) (g : Nat) (t : TypeId) (cs : Array Value) (fr : Nat × Nat) (d : TypeDesc)
    (hp : tmps.getD p undef = .pointer (some ⟨g, 0, none⟩)) (hg : w.heap[g]? = some (.cells cs t fr))
    (hu : P.underlying ty = some d) (hd : (match d with | .struct _ | .array _ _ => true | _ => false) = true) (hi : (P.info? ty).map (·.size) = some cs.size) :
    (results fn tmps).run P w = .ok (.tuple #[.agg cs, tmps.getD u undef]) w := by
  rw [results_cell_tmp h, hp]
  simp [asAddr, run_loadVar_row w g t ty cs fr d hg hu hd hi]
theorem does_ans {w W : World} {x n g : Nat} {S S' : Nat → Prop} {m' : IM} {cs : List Value} (h : In W x S' n m') (ht : Turn S S' w W) (hg : Blk W g 44 cs) (hgw : w.heap.size ≤ g) (a b c d : Value) :
    ∃ S'', In ((((W.setCell ⟨g, 0, none⟩ a).setCell ⟨g, 1, none⟩ b).setCell ⟨g, 2, none⟩ c).setCell ⟨g, 3, none⟩ d) x S'' n m' ∧ Turn S S'' w ((((W.setCell ⟨g, 0, none⟩ a).setCell ⟨g, 1, none⟩ b).setCell ⟨g, 2, none⟩ c).setCell ⟨g, 3, none⟩ d) := by
  have hS8 : Same (at1 g) W ((((W.setCell ⟨g, 0, none⟩ a).setCell ⟨g, 1, none⟩ b).setCell ⟨g, 2, none⟩ c).setCell ⟨g, 3, none⟩ d) :=
    ((((Same.refl (at1 g) W).setCell (p := ⟨g, 0, none⟩) (fun _ => rfl) a).setCell (p := ⟨g, 1, none⟩) (fun _ => rfl) b).setCell (p := ⟨g, 2, none⟩) (fun _ => rfl) c).setCell (p := ⟨g, 3, none⟩) (fun _ => rfl) d
  refine ⟨S', h.same hS8 fun k hk e => h.ne hk hg (by decide) (by decide) (by decide) (by decide) e, ht.same.trans hS8 fun i hi e => ?_, ht.foot⟩
  have : i = g := e
  omega
/-- what does answers. -/
def Does (w w' : World) (x n : Nat) (S : Nat → Prop) (m : IM) (o : OpI) (e : Ending) : Prop :=
  ∃ st cd er ga gn gc ba bn bc, e = .returned (.tuple #[.agg #[.int .i64 st, .int .i64 cd, .slice ga gn gc, .slice ba bn bc], .int .i64 er]) ∧ (o.kind = 1 → st = (m.take o.u).2.st ∧ cd = (m.take o.u).2.code) ∧ (o.kind = 2 → er = (m.dec (o.ep, o.num) o.code).2) ∧
    ∃ S', In w' x S' (n + 1) (m.play o) ∧ Turn S S' w w'
set_option maxHeartbeats 4000000 in
set_option maxRecDepth 100000 in
theorem does_any {w : World} {x n : Nat} {S : Nat → Prop} {m : IM} (h : In w x S n m) (o : OpI) (dp gp : Option Addr) (dc gc : Nat) (hd : Bs w (.slice dp o.u.data.length dc) o.u.data) (hdn : o.u.data ≠ [] → ∀ b, (Value.slice dp o.u.data.length dc).ownBlock = some b → ¬ S b) (hn : n < 4611686018427387904) :
    Calls Try.prog 22 #[.pointer (some ⟨x, 0, none⟩), opv o (.slice dp o.u.data.length dc) (.slice gp o.u.got.length gc)] w fun e w' => Does w w' x n S m o e := by
  obtain ⟨W0, hW0⟩ : ∃ W0, W0 = (w.alloc (.cells #[.int .i64 o.kind, .int .i64 o.u.kind, .int .u64 (o.u.ep.toNat : Int), .int .u64 (o.u.ses.toNat : Int), .int .i64 o.u.path, .int .i64 o.u.idx, .int .i64 o.u.cnt, .slice dp o.u.data.length dc, .int .i64 o.u.code, .slice gp o.u.got.length gc, .int .u64 (o.ep.toNat : Int), .int .u64 (o.num.toNat : Int), .int .i64 o.code] 58)).alloc (.cells #[.int .i64 0, .int .i64 0, .slice none 0 0, .slice none 0 0] 44) := ⟨_, rfl⟩
  have hB0 : Below w.heap.size w W0 := hW0 ▸ ((Below.refl _ _).alloc (Nat.le_refl _) _).alloc (by simp) _
  have hO : Blk W0 w.heap.size 58 [.int .i64 o.kind, .int .i64 o.u.kind, .int .u64 (o.u.ep.toNat : Int), .int .u64 (o.u.ses.toNat : Int), .int .i64 o.u.path, .int .i64 o.u.idx, .int .i64 o.u.cnt, .slice dp o.u.data.length dc, .int .i64 o.u.code, .slice gp o.u.got.length gc, .int .u64 (o.ep.toNat : Int), .int .u64 (o.num.toNat : Int), .int .i64 o.code] := hW0 ▸ (Blk.new w _ _).alloc _
  have hA : Blk W0 (w.heap.size + 1) 44 [.int .i64 0, .int .i64 0, .slice none 0 0, .slice none 0 0] := by
    have := Blk.new (w.alloc (.cells #[.int .i64 o.kind, .int .i64 o.u.kind, .int .u64 (o.u.ep.toNat : Int), .int .u64 (o.u.ses.toNat : Int), .int .i64 o.u.path, .int .i64 o.u.idx, .int .i64 o.u.cnt, .slice dp o.u.data.length dc, .int .i64 o.u.code, .slice gp o.u.got.length gc, .int .u64 (o.ep.toNat : Int), .int .u64 (o.num.toNat : Int), .int .i64 o.code] 58)) 44 [.int .i64 0, .int .i64 0, .slice none 0 0, .slice none 0 0]
    rw [show (w.alloc (.cells #[.int .i64 o.kind, .int .i64 o.u.kind, .int .u64 (o.u.ep.toNat : Int), .int .u64 (o.u.ses.toNat : Int), .int .i64 o.u.path, .int .i64 o.u.idx, .int .i64 o.u.cnt, .slice dp o.u.data.length dc, .int .i64 o.u.code, .slice gp o.u.got.length gc, .int .u64 (o.ep.toNat : Int), .int .u64 (o.num.toNat : Int), .int .i64 o.code] 58)).heap.size = w.heap.size + 1 by simp] at this
    exact hW0 ▸ this
  have hnA : ¬ S (w.heap.size + 1) := fun e => by have := h.lt e; omega
  have h0 := h.later hB0
  have hnS : ¬ S w.heap.size := fun e => by have := h.lt e; omega
  have ct := in_take' h0 o.u dp gp dc gc (Rd.later hd hB0) hdn hn
  have cd := in_dec h0 (o.ep, o.num) o.code hn
  have cr := in_drop h0 (o.ep, o.num)
  have T0 := Turn.of_below hB0 S
  have e0 := hO.cell_some (i := 0) rfl
  have e1 := hO.cell_some (i := 1) rfl
  have e2 := hO.cell_some (i := 2) rfl
  have e3 := hO.cell_some (i := 3) rfl
  have e4 := hO.cell_some (i := 4) rfl
  have e5 := hO.cell_some (i := 5) rfl
  have e6 := hO.cell_some (i := 6) rfl
  have e7 := hO.cell_some (i := 7) rfl
  have e8 := hO.cell_some (i := 8) rfl
  have e9 := hO.cell_some (i := 9) rfl
  have e10 := hO.cell_some (i := 10) rfl
  have e11 := hO.cell_some (i := 11) rfl
  have e12 := hO.cell_some (i := 12) rfl
  have H0 := Lib.hid h0; have CT := Lib.hid ct; have CD := Lib.hid cd; have CR := Lib.hid cr; have HT0 := Lib.hid T0; have HO := Lib.hid hO; have HA := Lib.hid hA
  obtain ⟨okind, ⟨ukind, uep, uses, path, idx, cnt, data, ucode, got⟩, oep, onum, ocode⟩ := o
  simp only [uv] at CT
  simp only [opv] at *
  have HW0 := Lib.hid hW0
  clear ct cd cr T0 hO hA h0 hB0 h hd hdn
  rw [hW0] at e0 e1 e2 e3 e4 e5 e6 e7 e8 e9 e10 e11 e12
  clear hW0
  by_cases k1 : okind = 1
  · subst k1
    go_enter Try.func22, Try.ntmps22
    go_wp2_with fail
    rw [← HW0.out]
    refine CT.out.mono ?_
    rintro e w1 ⟨gv, bv, rfl, hg, hb, S', h1, t1, -⟩
    obtain ⟨ga, gcap, rfl, -⟩ := own_open hg
    obtain ⟨ba, bcap, rfl, -⟩ := own_open hb
    have H1 := Lib.hid h1; have HT1 := Lib.hid (HT0.out.trans t1)
    have hA1 := HA.out.same t1.same hnA
    have a0 := hA1.cell_some (i := 0) rfl
    have a1 := hA1.cell_some (i := 1) rfl
    have a2 := hA1.cell_some (i := 2) rfl
    have a3 := hA1.cell_some (i := 3) rfl
    have f0 := hA1.frozen 0
    have f1 := hA1.frozen 1
    have f2 := hA1.frozen 2
    have f3 := hA1.frozen 3
    have HA1 := Lib.hid hA1
    obtain ⟨gl, hgl⟩ : ∃ gl, gl = (m.take ⟨ukind, uep, uses, path, idx, cnt, data, ucode, got⟩).2.got.length := ⟨_, rfl⟩
    obtain ⟨bl, hbl⟩ : ∃ bl, bl = (m.take ⟨ukind, uep, uses, path, idx, cnt, data, ucode, got⟩).2.blk.length := ⟨_, rfl⟩
    rw [← hgl, ← hbl]
    clear hgl hbl hA1
    clear hg hb h1 t1 e0 e1 e2 e3 e4 e5 e6 e7 e8 e9 e10 e11 e12 CT CD CR
    go_wp2_with fail
    refine bodyPost_ret (results_cr rfl _ _ (w.heap.size + 1) _ _ _ _ rfl ((((HA1.out.set 0 (.int .i64 (m.take ⟨ukind, uep, uses, path, idx, cnt, data, ucode, got⟩).2.st)).set 1 (.int .i64 (m.take ⟨ukind, uep, uses, path, idx, cnt, data, ucode, got⟩).2.code)).set 2 (.slice ga gl gcap)).set 3 (.slice ba bl bcap)) Try.underlying44 rfl (by kernel_rfl)) rfl ?_
    obtain ⟨S2, h2, t2⟩ := does_ans H1.out HT1.out HA1.out (Nat.le_succ _) (.int .i64 (m.take ⟨ukind, uep, uses, path, idx, cnt, data, ucode, got⟩).2.st) (.int .i64 (m.take ⟨ukind, uep, uses, path, idx, cnt, data, ucode, got⟩).2.code) (.slice ga gl gcap) (.slice ba bl bcap)
    exact ⟨_, _, _, _, _, _, _, _, _, rfl, fun _ => ⟨rfl, rfl⟩, fun h => absurd h (show ¬ (1 : Int) = 2 by decide), S2, by rw [IM.play, if_pos rfl]; exact h2, t2⟩
  · have b1 : (okind == 1) = false := by simpa using k1
    by_cases k2 : okind = 2
    · subst k2
      go_enter Try.func22, Try.ntmps22
      go_wp2_with fail
      rw [← HW0.out]
      refine CD.out.mono ?_
      rintro e w1 ⟨rfl, S', h1, t1⟩
      have H1 := Lib.hid h1; have HT1 := Lib.hid (HT0.out.trans t1)
      have hA1 := HA.out.same t1.same hnA
      have a0 := hA1.cell_some (i := 0) rfl
      have a1 := hA1.cell_some (i := 1) rfl
      have a2 := hA1.cell_some (i := 2) rfl
      have a3 := hA1.cell_some (i := 3) rfl
      have f0 := hA1.frozen 0
      have f1 := hA1.frozen 1
      have f2 := hA1.frozen 2
      have f3 := hA1.frozen 3
      have HA1 := Lib.hid hA1
      clear h1 t1 hA1 e0 e1 e2 e3 e4 e5 e6 e7 e8 e9 e10 e11 e12 CT CD CR
      go_wp2_with fail
      refine bodyPost_ret (results_cr rfl _ _ (w.heap.size + 1) _ _ _ _ rfl ((((HA1.out.set 0 (.int .i64 0)).set 1 (.int .i64 0)).set 2 (.slice none 0 0)).set 3 (.slice none 0 0)) Try.underlying44 rfl (by kernel_rfl)) rfl ?_
      obtain ⟨S2, h2, t2⟩ := does_ans H1.out HT1.out HA1.out (Nat.le_succ _) (.int .i64 0) (.int .i64 0) (.slice none 0 0) (.slice none 0 0)
      exact ⟨_, _, _, _, _, _, _, _, _, rfl, fun h => absurd h k1, fun _ => rfl, S2, by rw [IM.play, if_neg k1, if_pos rfl]; exact h2, t2⟩
    · have b2 : (okind == 2) = false := by simpa using k2
      by_cases k3 : okind = 3
      · subst k3
        go_enter Try.func22, Try.ntmps22
        go_wp2_with fail
        rw [← HW0.out]
        refine CR.out.mono ?_
        rintro e w1 ⟨rfl, S', h1, t1⟩
        have H1 := Lib.hid h1; have HT1 := Lib.hid (HT0.out.trans t1)
        have hA1 := HA.out.same t1.same hnA
        have a0 := hA1.cell_some (i := 0) rfl
        have a1 := hA1.cell_some (i := 1) rfl
        have a2 := hA1.cell_some (i := 2) rfl
        have a3 := hA1.cell_some (i := 3) rfl
        have f0 := hA1.frozen 0
        have f1 := hA1.frozen 1
        have f2 := hA1.frozen 2
        have f3 := hA1.frozen 3
        have HA1 := Lib.hid hA1
        clear h1 t1 hA1 e0 e1 e2 e3 e4 e5 e6 e7 e8 e9 e10 e11 e12 CT CD CR
        go_wp2_with fail
        refine bodyPost_ret (results_cr rfl _ _ (w.heap.size + 1) _ _ _ _ rfl ((((HA1.out.set 0 (.int .i64 0)).set 1 (.int .i64 0)).set 2 (.slice none 0 0)).set 3 (.slice none 0 0)) Try.underlying44 rfl (by kernel_rfl)) rfl ?_
        obtain ⟨S2, h2, t2⟩ := does_ans H1.out HT1.out HA1.out (Nat.le_succ _) (.int .i64 0) (.int .i64 0) (.slice none 0 0) (.slice none 0 0)
        exact ⟨_, _, _, _, _, _, _, _, _, rfl, fun h => absurd h k1, fun h => absurd h k2, S2, by rw [IM.play, if_neg k1, if_neg k2, if_pos rfl]; exact h2.mono (Nat.le_succ n), t2⟩
      · have b3 : (okind == 3) = false := by simpa using k3
        go_enter Try.func22, Try.ntmps22
        go_wp2_with fail
        have hw := HW0.out
        subst hw
        refine bodyPost_ret (results_cr rfl _ _ (w.heap.size + 1) _ _ _ _ rfl HA.out Try.underlying44 rfl (by kernel_rfl)) rfl ?_
        exact ⟨_, _, _, _, _, _, _, _, _, rfl, fun h => absurd h k1, fun h => absurd h k2, S, by rw [IM.play, if_neg k1, if_neg k2, if_neg k3]; exact H0.out.mono (Nat.le_succ n), HT0.out⟩
end Go.Proofs.Ytfaemjlemaclbaa
