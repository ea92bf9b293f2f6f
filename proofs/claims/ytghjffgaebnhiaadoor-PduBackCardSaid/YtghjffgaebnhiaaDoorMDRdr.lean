/- octet.Reader: Number. -/
import Derived.Test.YtghjffgaebnhiaaDoorMDec3
import Derived.Test.YtghjffgaebnhiaaDoorMDNum
namespace Go.Proofs.YtghjffgaebnhiaaDoor
set_option linter.unusedVariables false
set_option linter.unusedSimpArgs false
open Go.RowKit
/-- a reader: its cells, its bytes. -/
structure Rdr (w : World) (g : Nat) (v : Value) (l : List UInt8) (s : RS) : Prop where
  cells : RdrAt w g v s.at_ s.f
  bs : Bs w v l
  far : v.ownBlock ≠ some g
  le : s.at_ ≤ l.length
  len : l.length ≤ 140737488355328
theorem Rdr.same {S : Nat → Prop} {w w' : World} {g : Nat} {v : Value} {l : List UInt8} {s : RS} (h : Rdr w g v l s) (hs : Same S w w') (hg : ¬ S g) (hv : ∀ b, v.ownBlock = some b → ¬ S b) : Rdr w' g v l s :=
  ⟨h.cells.same hs hg, Rd.same h.bs hs hv, h.far, h.le, h.len⟩
theorem Rdr.later {w w' : World} {g : Nat} {v : Value} {l : List UInt8} {s : RS} (h : Rdr w g v l s) (hs : Below w.heap.size w w') : Rdr w' g v l s :=
  ⟨Blk.later h.cells hs, Rd.later h.bs hs, h.far, h.le, h.len⟩
theorem Rdr.drew {w : World} {g : Nat} {v : Value} {l : List UInt8} {s : RS} (h : Rdr w g v l s) : Rdr w.drew g v l s := ⟨h.cells, h.bs, h.far, h.le, h.len⟩
theorem Rdr.fault {w : World} {g : Nat} {v : Value} {l : List UInt8} {s : RS} (h : Rdr w g v l s) (k : Nat) : Rdr (w.setCell ⟨g, 3, none⟩ (.int .i64 (k : Int))) g v l ⟨s.at_, k⟩ :=
  ⟨Blk.set h.cells 3 _, Rd.setCell h.bs (fun e => h.far e) _, h.far, h.le, h.len⟩
theorem Rdr.place {w : World} {g : Nat} {v : Value} {l : List UInt8} {s : RS} (h : Rdr w g v l s) (k : Nat) (hk : k ≤ l.length) : Rdr (w.setCell ⟨g, 1, none⟩ (.int .i64 (k : Int))) g v l ⟨k, s.f⟩ :=
  ⟨Blk.set h.cells 1 _, Rd.setCell h.bs (fun e => h.far e) _, h.far, hk, h.len⟩
theorem at1_set (w : World) (g k : Nat) (u : Value) : Same (at1 g) w (w.setCell ⟨g, k, none⟩ u) := (Same.refl (at1 g) w).setCell (p := ⟨g, k, none⟩) (fun _ => rfl) u
theorem bs_from {w : World} {ao : Option Addr} {cap N : Nat} {l : List UInt8} (h : Bs w (.slice ao l.length cap) l) (k : Nat) (hk : k ≤ l.length) (hN : N = l.length) : Bs w (.slice (if cap = k then ao else Option.map (fun x => x.add k) ao) (N - k) (cap - k)) (l.drop k) := by
  subst hN
  obtain ⟨a', c', he, h1, h2, h3⟩ := id h
  injection he with e1 e2 e3
  subst e1; subst e3
  refine ⟨_, _, by rw [List.length_drop], by rw [List.length_drop]; omega, by omega, fun hne => ?_⟩
  have hlt : k < l.length := by
    rcases Nat.lt_or_ge k l.length with h | h
    · exact h
    · exact absurd (by rw [List.drop_eq_nil_of_le h]; rfl) hne
  obtain ⟨b', o', hb, hc⟩ := h3 (fun h => by have := congrArg List.length h; rw [List.length_map, List.length_nil] at this; omega)
  subst hb
  rw [if_neg (by omega)]
  refine ⟨b', o' + k, by rw [Option.map_some, Addr.add_lit], fun j v hj => ?_⟩
  rw [List.map_drop, List.getElem?_drop] at hj
  rw [Nat.add_assoc]
  exact hc _ v hj
def RNumPost (g : Nat) (v : Value) (l : List UInt8) (p : Nat × RS) (w : World) (e : Ending) (w' : World) : Prop := e = .returned (.int .u64 (p.1 : Int)) ∧ Rdr w' g v l p.2 ∧ Same (at1 g) w w'
set_option maxHeartbeats 2000000 in
set_option maxRecDepth 100000 in
theorem rnum_any (g : Nat) (v : Value) (l : List UInt8) (s : RS) (most : Nat) (w : World) (h : Rdr w g v l s) (hm : most < 18446744073709551616) :
    Calls Tryd.prog 84 #[.pointer (some ⟨g, 0, none⟩), .int .u64 (most : Int)] w (RNumPost g v l (numS l most s) w) := by
  have hbad := bad_any g v s.at_ s.f w h.cells
  obtain ⟨at_, f⟩ := s
  by_cases hf : f = 0
  · subst hf
    have HBAD := Lib.hid hbad
    have hle := h.le
    simp only at hle
    obtain ⟨ao, cap, rfl, hc1, hc2, hne⟩ := id h.bs
    obtain ⟨N, hN⟩ : ∃ N, N = l.length := ⟨_, rfl⟩
    have hp := numP_f (l.drop at_)
    have hpk := numP_ok (l := l.drop at_)
    have hnumS : numS l most ⟨at_, 0⟩ = if (numP (l.drop at_)).2.2 ≠ 0 then (0, ⟨at_, (numP (l.drop at_)).2.2⟩) else if most < (numP (l.drop at_)).1 then (0, ⟨at_, 12⟩) else ((numP (l.drop at_)).1, ⟨at_ + (numP (l.drop at_)).2.1, 0⟩) := by rw [numS]; simp
    have hcall := number_any _ _ w.drew (Rd.drew (bs_from h.bs at_ hle hN))
    unfold numVal at hcall
    generalize hV : Value.slice (if cap = at_ then ao else Option.map (fun x => x.add at_) ao) (N - at_) (cap - at_) = V at hcall
    have HV := Lib.hid hV
    clear hV
    generalize numP (l.drop at_) = P at *
    obtain ⟨n, k, e⟩ := P
    simp only at hp hpk hnumS hcall
    have hh := h
    rw [← hN] at hh
    have HCALL := Lib.hid hcall; have HH := Lib.hid hh
    clear hh
    have hc0 := h.cells
    rw [← hN] at hc0
    have HC := Lib.hid hc0
    have ix1 : (at_ : Int) ≤ (N : Int) := by omega
    have HNN := Lib.hid hN
    have HLE := Lib.hid hle
    clear hc0
    have z3 := HC.out.cell_some (i := 3) rfl
    have fr3 := HC.out.frozen 3
    obtain ⟨PR, hPR⟩ : ∃ PR, PR = numS l most ⟨at_, 0⟩ := ⟨_, rfl⟩
    rw [← hPR, ← hN]
    rw [hnumS] at hPR
    have HPR := Lib.hid hPR
    clear hPR hcall h hc1 hc2 hne hbad hN hle hnumS
    go_enter Tryd.func84, Tryd.ntmps84
    go_wp2_with fail
    refine HBAD.out.mono ?_
    rintro e' w1 ⟨rfl, rfl⟩
    go_wp2_with fail
    refine region_mix (fun w' => RdrAt w' g (.slice ao N cap) at_ 0) (fun i => i == 9) [0, 1, 2, 3, 4, 5, 6, 7, 8, 9, 10, 11, 12, 13, 14, 15, 16] (by kernel_rfl) (by kernel_rfl) HC.out.drew ?_
    repeat (first
      | (refine mix_pure rfl rfl (by kernel_rfl) ?_
         apply Exists.intro
         refine ⟨fun w' hw' => ?_, ?_⟩
         · have z0 := hw'.cell_some (i := 0) rfl
           have z1 := hw'.cell_some (i := 1) rfl
           go_simp
           with_reducible rfl
         simp only [List.getElem_toArray, List.getElem_cons_zero, List.getElem_cons_succ, Act.put, List.setIfInBounds_toArray, List.set_cons_zero, List.set_cons_succ])
      | fail)
    rw [HV.out]
    refine mix_eff rfl rfl (by kernel_rfl) ?_
    unfold effAt
    go_simp
    simp only [effUpon, List.getElem_toArray, List.getElem_cons_zero, List.getElem_cons_succ, Act.put, List.setIfInBounds_toArray, List.set_cons_zero, List.set_cons_succ]
    refine HCALL.out.mono ?_
    rintro e' w2 ⟨rfl, rfl⟩
    refine ⟨_, rfl, HC.out.drew, ?_⟩
    repeat (first
      | (refine mix_pure rfl rfl (by kernel_rfl) ?_
         apply Exists.intro
         refine ⟨fun w' hw' => ?_, ?_⟩
         · go_simp
           with_reducible rfl
         simp only [List.getElem_toArray, List.getElem_cons_zero, List.getElem_cons_succ, Act.put, List.setIfInBounds_toArray, List.set_cons_zero, List.set_cons_succ])
      | fail)
    refine mix_nil ?_
    have hdr : Same (at1 g) w1 w1.drew := (Same.refl _ _).drew
    have hcd := HC.out.drew
    have hhd := HH.out.drew
    generalize w1.drew = W at *
    have HDR := Lib.hid hdr; have HCD := Lib.hid hcd; have HHD := Lib.hid hhd
    have z3 := HCD.out.cell_some (i := 3) rfl
    have fr3 := HCD.out.frozen 3
    clear hdr HCALL hcd hhd
    by_cases he : e = 0
    · subst he
      obtain ⟨q1, q2, q3, q4⟩ := hpk rfl
      rw [List.length_drop] at q2
      clear hpk q4
      by_cases hn : most < n
      · have hn1 : (most : Int) < (n : Int) := by omega
        have HF := Lib.hid (HHD.out.fault 12)
        go_wp2_with fail
        go_ret
        have h := HPR.out
        rw [if_neg (by simp), if_pos hn] at h
        unfold RNumPost
        rw [h]
        exact ⟨rfl, HF.out, HDR.out.trans (at1_set _ _ _ _) (fun _ _ h => h)⟩
      · have hn1 : ¬ (most : Int) < (n : Int) := by omega
        have hR0 := HHD.out.fault 0
        have hR1 := hR0.place (at_ + k) (by have := HLE.out; show _ ≤ _; omega)
        have HR1 := Lib.hid hR1
        have c1 := Blk.cell_some (i := 1) (Blk.set HCD.out 3 (.int .i64 0)) rfl
        have f1 := Blk.frozen (Blk.set HCD.out 3 (.int .i64 0)) 1
        have c3 := Blk.cell_some (i := 3) (Blk.set HCD.out 3 (.int .i64 0)) rfl
        have hw : wrap64 ((at_ : Int) + (k : Int)) = ((at_ + k : Nat) : Int) := by have := HH.out.len; have := HLE.out; unfold wrap64; omega
        clear hR0 hR1
        go_wp2_with fail
        go_ret
        have h := HPR.out
        rw [if_neg (by simp), if_neg hn] at h
        unfold RNumPost
        rw [h]
        exact ⟨rfl, HR1.out, (HDR.out.trans (at1_set _ _ _ _) (fun _ _ h => h)).trans (at1_set _ _ _ _) (fun _ _ h => h)⟩
    · have he1 : ((e : Int) == 0) = false := by simp; omega
      have he2 : ((e : Int) != 0) = true := by simp; omega
      have he3 : ¬ (e : Int) = 0 := by omega
      have HF := Lib.hid (HHD.out.fault e)
      clear hpk
      have c3 := Blk.cell_some (i := 3) (Blk.set HCD.out 3 (.int .i64 (e : Int))) rfl
      go_wp2_with fail
      go_ret
      have h := HPR.out
      rw [if_pos he] at h
      unfold RNumPost
      rw [h]
      exact ⟨rfl, HF.out, HDR.out.trans (at1_set _ _ _ _) (fun _ _ h => h)⟩
  · have hb : (f != 0) = true := by simp [hf]
    rw [numS_bad (by exact hf)]
    rw [hb] at hbad
    have HBAD := Lib.hid hbad
    have HA := Lib.hid h
    unfold RNumPost
    clear hbad h
    go_enter Tryd.func84, Tryd.ntmps84
    go_wp2_with fail
    refine HBAD.out.mono ?_
    rintro e w1 ⟨rfl, rfl⟩
    go_wp2_with fail
    go_ret
    exact ⟨rfl, HA.out, Same.refl _ _⟩
end Go.Proofs.YtghjffgaebnhiaaDoor
