/- pdu.readData. -/
import Derived.Test.YtghjffgaebnhiaaDoorMDRdr
namespace Go.Proofs.YtghjffgaebnhiaaDoor
set_option linter.unusedVariables false
set_option linter.unusedSimpArgs false
open Go.RowKit
def at2 (a b : Nat) : Nat → Prop := fun k => k = a ∨ k = b
/-- a unit's block: its cells, its two lists. -/
structure UAt (w : World) (q : Nat) (u : UD) (dv gv : Value) (base : Nat) : Prop where
  blk : Blk w q 26 [.int .i64 u.kind, .int .u64 (u.ep.toNat : Int), .int .u64 (u.ses.toNat : Int), .int .i64 u.path, .int .i64 u.idx, .int .i64 u.cnt, dv, .int .i64 u.code, gv]
  dat : w.ownsRow base 5 1 dv u.data.length (u.data.map ub)
  got : w.ownsRow base 57 2 gv u.got.length (rvs u.got)
/-- a store into the unit's block. -/
theorem Rdr.store {w : World} {g q : Nat} {v : Value} {l : List UInt8} {s : RS} (h : Rdr w g v l s) (hq : q ≠ g) (hv : v.ownBlock ≠ some q) (k : Nat) (u : Value) : Rdr (w.setCell ⟨q, k, none⟩ u) g v l s :=
  h.same (at1_set w q k u) (fun e => hq e.symm) (fun b hb e => hv (by rw [hb]; exact congrArg some e))
theorem same2_store {w w' : World} {g q : Nat} (h : Same (at2 g q) w w') (k : Nat) (u : Value) : Same (at2 g q) w (w'.setCell ⟨q, k, none⟩ u) := h.setCell (p := ⟨q, k, none⟩) (fun _ => .inr rfl) u
theorem same2_g {w w' w'' : World} {g q : Nat} (h : Same (at2 g q) w w') (h2 : Same (at1 g) w' w'') : Same (at2 g q) w w'' := h.trans h2 (fun _ _ h => .inl h)
theorem rfail_rdr (g : Nat) (v : Value) (l : List UInt8) (s : RS) (k : Nat) (w : World) (h : Rdr w g v l s) :
    Calls Tryd.prog 85 #[.pointer (some ⟨g, 0, none⟩), .int .i64 (k : Int)] w fun e w' => e = .returned (.tuple #[]) ∧ Rdr w' g v l (failS k s) ∧ Same (at1 g) w w' := by
  refine (rfail_any g v s.at_ s.f k w h.cells).mono ?_
  rintro e w' ⟨rfl, hr, hd⟩
  have hc : RdrAt w' g v (failS k s).at_ (failS k s).f := by
    unfold failS
    by_cases h0 : s.f = 0
    · rw [if_pos h0] at hr ⊢; exact hr
    · rw [if_neg h0] at hr ⊢; exact hr
  rcases hd with rfl | rfl
  · exact ⟨rfl, ⟨hc, h.bs, h.far, by rw [failS_at]; exact h.le, h.len⟩, Same.refl _ _⟩
  · exact ⟨rfl, ⟨hc, Rd.setCell h.bs (fun e => h.far e) _, h.far, by rw [failS_at]; exact h.le, h.len⟩, at1_set _ _ _ _⟩
def ReadPost (g q base : Nat) (v : Value) (l : List UInt8) (p : UD × RS) (w : World) (e : Ending) (w' : World) : Prop :=
  ∃ dv gv, e = .returned (.tuple #[]) ∧ Rdr w' g v l p.2 ∧ UAt w' q p.1 dv gv base ∧ Same (at2 g q) w w'
theorem UAt.same {S : Nat → Prop} {w w' : World} {q base : Nat} {u : UD} {dv gv : Value} (h : UAt w q u dv gv base) (hs : Same S w w') (hq : ¬ S q) (hd : ∀ b, dv.ownBlock = some b → ¬ S b) (hg : ∀ b, gv.ownBlock = some b → ¬ S b) : UAt w' q u dv gv base :=
  ⟨h.blk.same hs hq, own_same h.dat hs hd, own_same h.got hs hg⟩
set_option maxHeartbeats 4000000 in
set_option maxRecDepth 100000 in
theorem readData_any (g q base : Nat) (v : Value) (l : List UInt8) (s : RS) (u : UD) (w : World) (h : Rdr w g v l s) (hu : UAt w q u (.slice none 0 0) (.slice none 0 0) base) (hq : q ≠ g) (hv : v.ownBlock ≠ some q) (hbase : base ≤ w.heap.size) :
    Calls Tryd.prog 73 #[.pointer (some ⟨g, 0, none⟩), .pointer (some ⟨q, 0, none⟩)] w (ReadPost g q base v l (dataS l u s) w) := by
  obtain ⟨hblk, hd0, hg0⟩ := hu
  have hdn : u.data = [] := by
    have := hd0.1
    rcases hd0.2 with ⟨_, h⟩ | ⟨_, _, _, h, _⟩
    · exact List.eq_nil_of_length_eq_zero h
    · cases h
  have hgn : u.got = [] := by
    rcases hg0.2 with ⟨_, h⟩ | ⟨_, _, _, h, _⟩
    · exact List.eq_nil_of_length_eq_zero h
    · cases h
  obtain ⟨kind, ep, ses, path, idx, cnt, data, code, got⟩ := u
  simp only at hdn hgn hblk hd0 hg0
  subst hdn
  subst hgn
  unfold dataS dataS2 dataS3 dataS4 dataS5
  simp only
  have hc1 := numb_any g v l s 1 2 w h (by decide) (by decide)
  have hl1 := numbS_lt (l := l) (a := 1) (b := 2) (s := s)
  generalize numbS l 1 2 s = p1 at *
  obtain ⟨n1, s1⟩ := p1
  have hc2 := fun (w' : World) (hh : Rdr w' g v l s1) => numb_any g v l s1 0 63 w' hh (by decide) (by decide)
  have hl2 := numbS_lt (l := l) (a := 0) (b := 63) (s := s1)
  simp only
  generalize numbS l 0 63 s1 = p2 at *
  obtain ⟨n2, s2⟩ := p2
  simp only at hl1 hl2 ⊢
  have hc3 := fun (w' : World) (hh : Rdr w' g v l s2) => numb_any g v l s2 (n2 + 1) 64 w' hh (by omega) (by decide)
  have hl3 := numbS_lt (l := l) (a := n2 + 1) (b := 64) (s := s2)
  generalize numbS l (n2 + 1) 64 s2 = p3 at *
  obtain ⟨n3, s3⟩ := p3
  simp only at hl3 ⊢
  have hc4 := fun (w' : World) (hh : Rdr w' g v l s3) => rbytes_any g v l s3 1024 w' hh (by decide)
  generalize bytesS l 1024 s3 = p4 at *
  obtain ⟨x, s4⟩ := p4
  simp only
  have w1 : wrap64 (n1 : Int) = (n1 : Int) := by unfold wrap64; omega
  have w2 : wrap64 (n2 : Int) = (n2 : Int) := by unfold wrap64; omega
  have w3 : wrap64 (n3 : Int) = (n3 : Int) := by unfold wrap64; omega
  have w4 : (n2 : Int) % 18446744073709551616 = (n2 : Int) := by omega
  have w5 : ((n2 : Int) + 1) % 18446744073709551616 = ((n2 + 1 : Nat) : Int) := by omega
  obtain ⟨e1, he1⟩ : ∃ e1, e1 = ep.toNat := ⟨_, rfl⟩
  obtain ⟨e2, he2⟩ : ∃ e2, e2 = ses.toNat := ⟨_, rfl⟩
  rw [← he1, ← he2] at hblk
  have HC1 := Lib.hid hc1; have HC2 := Lib.hid hc2; have HC3 := Lib.hid hc3; have HC4 := Lib.hid hc4; have HB := Lib.hid hblk
  have HE1 := Lib.hid he1; have HE2 := Lib.hid he2
  clear hc1 hc2 hc3 hc4 h hblk he1 he2 hl1 hl2 hl3 hd0 hg0
  obtain ⟨P, hPQ⟩ : ∃ P, P = ((⟨kind, ep, ses, n1, n2, n3, x, code, []⟩ : UD), if x.length = 0 then failS 30 s4 else s4) := ⟨_, rfl⟩
  rw [← hPQ]
  have HPQ := Lib.hid hPQ
  clear hPQ
  go_enter Tryd.func73, Tryd.ntmps73
  go_wp2_with fail
  refine HC1.out.mono ?_
  rintro e wa ⟨rfl, hr1, hs1⟩
  simp only at hr1 ⊢
  have hb1 := HB.out.same hs1 hq
  have z := hb1.cell_some (i := 3) rfl
  have f := hb1.frozen 3
  have hb2 := hb1.set 3 (.int .i64 (n1 : Int))
  simp only [List.set_cons_zero, List.set_cons_succ] at hb2
  have HBA := Lib.hid hb2; have HRA := Lib.hid (hr1.store hq hv 3 (.int .i64 (n1 : Int))); have HSA := Lib.hid (same2_store (q := q) (same2_g (Same.refl _ w) hs1) 3 (.int .i64 (n1 : Int)))
  clear hb1 hb2 hr1 hs1
  go_wp2_with fail
  refine (HC2.out _ HRA.out).mono ?_
  rintro e wb ⟨rfl, hr1, hs1⟩
  simp only at hr1 ⊢
  have hb1 := HBA.out.same hs1 hq
  have z := hb1.cell_some (i := 4) rfl
  have f := hb1.frozen 4
  have hb2 := hb1.set 4 (.int .i64 (n2 : Int))
  simp only [List.set_cons_zero, List.set_cons_succ] at hb2
  have HBB := Lib.hid hb2; have HRB := Lib.hid (hr1.store hq hv 4 (.int .i64 (n2 : Int))); have HSB := Lib.hid (same2_store (q := q) (same2_g HSA.out hs1) 4 (.int .i64 (n2 : Int)))
  have z4 := HBB.out.cell_some (i := 4) rfl
  clear hb1 hb2 hr1 hs1
  go_wp2_with fail
  refine (HC3.out _ HRB.out).mono ?_
  rintro e wc ⟨rfl, hr1, hs1⟩
  simp only at hr1 ⊢
  clear z4
  have hb1 := HBB.out.same hs1 hq
  have z := hb1.cell_some (i := 5) rfl
  have f := hb1.frozen 5
  have hb2 := hb1.set 5 (.int .i64 (n3 : Int))
  simp only [List.set_cons_zero, List.set_cons_succ] at hb2
  have HBC := Lib.hid hb2; have HRC := Lib.hid (hr1.store hq hv 5 (.int .i64 (n3 : Int))); have HSC := Lib.hid (same2_store (q := q) (same2_g HSB.out hs1) 5 (.int .i64 (n3 : Int)))
  clear hb1 hb2 hr1 hs1
  go_wp2_with fail
  refine (HC4.out _ HRC.out).mono ?_
  rintro e wd ⟨xv, rfl, ho, hr1, hs1⟩
  simp only at hr1 ho ⊢
  clear z f
  have hb1 := HBC.out.same hs1 hq
  have z := hb1.cell_some (i := 6) rfl
  have f := hb1.frozen 6
  have hb2 := hb1.set 6 (xv)
  simp only [List.set_cons_zero, List.set_cons_succ] at hb2
  have HBD := Lib.hid hb2; have HRD := Lib.hid (hr1.store hq hv 6 (xv)); have HSD := Lib.hid (same2_store (q := q) (same2_g HSC.out hs1) 6 (xv))
  have HOD := Lib.hid (own_same (own_mono ho (Nat.le_trans hbase HSC.out.size)) (at1_set wd q 6 xv) (fun b hb e => by
    have e' : b = q := e
    subst e'
    exact own_blk_ne ho hb1 (by decide) hb))
  clear ho hb1 hb2 hr1 hs1
  obtain ⟨xa, xc, rfl, -⟩ := own_open HOD.out
  have z6 := HBD.out.cell_some (i := 6) rfl
  have hf := fun (w' : World) (hh : Rdr w' g v l s4) => rfail_rdr g v l s4 30 w' hh
  have HF := Lib.hid hf
  obtain ⟨N, hN⟩ : ∃ N, N = x.length := ⟨_, rfl⟩
  have hua : UAt (wd.setCell ⟨q, 6, none⟩ (.slice xa x.length xc)) q ⟨kind, ep, ses, n1, n2, n3, x, code, []⟩ (.slice xa x.length xc) (.slice none 0 0) base :=
    ⟨by rw [← HE1.out, ← HE2.out]; exact HBD.out, HOD.out, World.ownsRow_nil _ _ _ _⟩
  have hP := HPQ.out
  rw [← hN] at HOD HBD z6 HRD HSD hua hP ⊢
  have HNN := Lib.hid hN; have HPP := Lib.hid hP; have HUA := Lib.hid hua
  clear hf hN hP hua HPQ
  by_cases hx : N = 0
  · subst hx
    go_wp2_with fail
    refine (HF.out _ HRD.out).mono ?_
    rintro e we ⟨rfl, hrf, hd⟩
    have hoo : ∀ b, (Value.slice xa 0 xc).ownBlock = some b → ¬ at1 g b := fun b hb e => by
      have e' : b = g := e
      subst e'
      exact own_blk_ne HUA.out.dat HRD.out.cells (by decide) hb
    have hu2 := HUA.out.same hd (fun e => hq e) hoo (fun b hb => by cases hb)
    have HU2 := Lib.hid hu2; have HRF := Lib.hid hrf; have HS2 := Lib.hid (same2_g HSD.out hd)
    clear hrf hd hoo hu2
    go_wp2_with fail
    go_end0
    unfold ReadPost
    rw [HPP.out, if_pos trivial]
    exact ⟨_, _, rfl, HRF.out, HU2.out, HS2.out⟩
  · have i1 : ((N : Int) == 0) = false := by simp; omega
    have i2 : ¬ (N : Int) = 0 := by omega
    go_wp2_with fail
    go_end0
    unfold ReadPost
    rw [HPP.out, if_neg hx]
    exact ⟨_, _, rfl, HRD.out, HUA.out, HSD.out⟩
end Go.Proofs.YtghjffgaebnhiaaDoor
