/- DRdr, DRdr2, DRdr3: joined. -/
import Derived.Test.YtghjffgaebnhiaaDoorMDec3
import Derived.Test.YtghjffgaebnhiaaDoorMDNum
section
/- octet.Reader: Number. -/
namespace Go.Proofs.YtghjffgaebnhiaaDoor
set_option linter.unusedVariables false
set_option linter.unusedSimpArgs false
open Go.RowKit
/-- a reader: its cells, its bytes. -/
structure Rdr (w : World) (g : Nat) (v : Value) (l : List UInt8) (s : RS) : Prop where
  cells : RdrAt w g v s.at_ s.f
  bs : Bs w v l
  far : v.ownBlock ≠ some g
  le : s.at_ ≤ l.length
  len : l.length ≤ 140737488355328
theorem Rdr.same {S : Nat → Prop} {w w' : World} {g : Nat} {v : Value} {l : List UInt8} {s : RS} (h : Rdr w g v l s) (hs : Same S w w') (hg : ¬ S g) (hv : ∀ b, v.ownBlock = some b → ¬ S b) : Rdr w' g v l s :=
  ⟨h.cells.same hs hg, Rd.same h.bs hs hv, h.far, h.le, h.len⟩
theorem Rdr.later {w w' : World} {g : Nat} {v : Value} {l : List UInt8} {s : RS} (h : Rdr w g v l s) (hs : Below w.heap.size w w') : Rdr w' g v l s :=
  ⟨Blk.later h.cells hs, Rd.later h.bs hs, h.far, h.le, h.len⟩
theorem Rdr.drew {w : World} {g : Nat} {v : Value} {l : List UInt8} {s : RS} (h : Rdr w g v l s) : Rdr w.drew g v l s := ⟨h.cells, h.bs, h.far, h.le, h.len⟩
theorem Rdr.fault {w : World} {g : Nat} {v : Value} {l : List UInt8} {s : RS} (h : Rdr w g v l s) (k : Nat) : Rdr (w.setCell ⟨g, 3, none⟩ (.int .i64 (k : Int))) g v l ⟨s.at_, k⟩ :=
  ⟨Blk.set h.cells 3 _, Rd.setCell h.bs (fun e => h.far e) _, h.far, h.le, h.len⟩
theorem Rdr.place {w : World} {g : Nat} {v : Value} {l : List UInt8} {s : RS} (h : Rdr w g v l s) (k : Nat) (hk : k ≤ l.length) : Rdr (w.setCell ⟨g, 1, none⟩ (.int .i64 (k : Int))) g v l ⟨k, s.f⟩ :=
  ⟨Blk.set h.cells 1 _, Rd.setCell h.bs (fun e => h.far e) _, h.far, hk, h.len⟩
theorem at1_set (w : World) (g k : Nat) (u : Value) : Same (at1 g) w (w.setCell ⟨g, k, none⟩ u) := (Same.refl (at1 g) w).setCell (p := ⟨g, k, none⟩) (fun _ => rfl) u
theorem bs_from {w : World} {ao : Option Addr} {cap N : Nat} {l : List UInt8} (h : Bs w (.slice ao l.length cap) l) (k : Nat) (hk : k ≤ l.length) (hN : N = l.length) : Bs w (.slice (if cap = k then ao else Option.map (fun x => x.add k) ao) (N - k) (cap - k)) (l.drop k) := by
  subst hN
  obtain ⟨a', c', he, h1, h2, h3⟩ := id h
  injection he with e1 e2 e3
  subst e1; subst e3
  refine ⟨_, _, by rw [List.length_drop], by rw [List.length_drop]; omega, by omega, fun hne => ?_⟩
  have hlt : k < l.length := by
    rcases Nat.lt_or_ge k l.length with h | h
    · exact h
    · exact absurd (by rw [List.drop_eq_nil_of_le h]; rfl) hne
  obtain ⟨b', o', hb, hc⟩ := h3 (fun h => by have := congrArg List.length h; rw [List.length_map, List.length_nil] at this; omega)
  subst hb
  rw [if_neg (by omega)]
  refine ⟨b', o' + k, by rw [Option.map_some, Addr.add_lit], fun j v hj => ?_⟩
  rw [List.map_drop, List.getElem?_drop] at hj
  rw [Nat.add_assoc]
  exact hc _ v hj
def RNumPost (g : Nat) (v : Value) (l : List UInt8) (p : Nat × RS) (w : World) (e : Ending) (w' : World) : Prop := e = .returned (.int .u64 (p.1 : Int)) ∧ Rdr w' g v l p.2 ∧ Same (at1 g) w w'
set_option maxHeartbeats 2000000 in
set_option maxRecDepth 100000 in
theorem rnum_any (g : Nat) (v : Value) (l : List UInt8) (s : RS) (most : Nat) (w : World) (h : Rdr w g v l s) (hm : most < 18446744073709551616) :
    Calls Tryd.prog 84 #[.pointer (some ⟨g, 0, none⟩), .int .u64 (most : Int)] w (RNumPost g v l (numS l most s) w) := by
  have hbad := bad_any g v s.at_ s.f w h.cells
  obtain ⟨at_, f⟩ := s
  by_cases hf : f = 0
  · subst hf
    have HBAD := Lib.hid hbad
    have hle := h.le
    simp only at hle
    obtain ⟨ao, cap, rfl, hc1, hc2, hne⟩ := id h.bs
    obtain ⟨N, hN⟩ : ∃ N, N = l.length := ⟨_, rfl⟩
    have hp := numP_f (l.drop at_)
    have hpk := numP_ok (l := l.drop at_)
    have hnumS : numS l most ⟨at_, 0⟩ = if (numP (l.drop at_)).2.2 ≠ 0 then (0, ⟨at_, (numP (l.drop at_)).2.2⟩) else if most < (numP (l.drop at_)).1 then (0, ⟨at_, 12⟩) else ((numP (l.drop at_)).1, ⟨at_ + (numP (l.drop at_)).2.1, 0⟩) := by rw [numS]; simp
    have hcall := number_any _ _ w.drew (Rd.drew (bs_from h.bs at_ hle hN))
    unfold numVal at hcall
    generalize hV : Value.slice (if cap = at_ then ao else Option.map (fun x => x.add at_) ao) (N - at_) (cap - at_) = V at hcall
    have HV := Lib.hid hV
    clear hV
    generalize numP (l.drop at_) = P at *
    obtain ⟨n, k, e⟩ := P
    simp only at hp hpk hnumS hcall
    have hh := h
    rw [← hN] at hh
    have HCALL := Lib.hid hcall; have HH := Lib.hid hh
    clear hh
    have hc0 := h.cells
    rw [← hN] at hc0
    have HC := Lib.hid hc0
    have ix1 : (at_ : Int) ≤ (N : Int) := by omega
    have HNN := Lib.hid hN
    have HLE := Lib.hid hle
    clear hc0
    have z3 := HC.out.cell_some (i := 3) rfl
    have fr3 := HC.out.frozen 3
    obtain ⟨PR, hPR⟩ : ∃ PR, PR = numS l most ⟨at_, 0⟩ := ⟨_, rfl⟩
    rw [← hPR, ← hN]
    rw [hnumS] at hPR
    have HPR := Lib.hid hPR
    clear hPR hcall h hc1 hc2 hne hbad hN hle hnumS
    go_enter Tryd.func84, Tryd.ntmps84
    go_wp2_with fail
    refine HBAD.out.mono ?_
    rintro e' w1 ⟨rfl, rfl⟩
    go_wp2_with fail
    refine region_mix (fun w' => RdrAt w' g (.slice ao N cap) at_ 0) (fun i => i == 9) [0, 1, 2, 3, 4, 5, 6, 7, 8, 9, 10, 11, 12, 13, 14, 15, 16] (by kernel_rfl) (by kernel_rfl) HC.out.drew ?_
    repeat (first
      | (refine mix_pure rfl rfl (by kernel_rfl) ?_
         apply Exists.intro
         refine ⟨fun w' hw' => ?_, ?_⟩
         · have z0 := hw'.cell_some (i := 0) rfl
           have z1 := hw'.cell_some (i := 1) rfl
           go_simp
           with_reducible rfl
         simp only [List.getElem_toArray, List.getElem_cons_zero, List.getElem_cons_succ, Act.put, List.setIfInBounds_toArray, List.set_cons_zero, List.set_cons_succ])
      | fail)
    rw [HV.out]
    refine mix_eff rfl rfl (by kernel_rfl) ?_
    unfold effAt
    go_simp
    simp only [effUpon, List.getElem_toArray, List.getElem_cons_zero, List.getElem_cons_succ, Act.put, List.setIfInBounds_toArray, List.set_cons_zero, List.set_cons_succ]
    refine HCALL.out.mono ?_
    rintro e' w2 ⟨rfl, rfl⟩
    refine ⟨_, rfl, HC.out.drew, ?_⟩
    repeat (first
      | (refine mix_pure rfl rfl (by kernel_rfl) ?_
         apply Exists.intro
         refine ⟨fun w' hw' => ?_, ?_⟩
         · go_simp
           with_reducible rfl
         simp only [List.getElem_toArray, List.getElem_cons_zero, List.getElem_cons_succ, Act.put, List.setIfInBounds_toArray, List.set_cons_zero, List.set_cons_succ])
      | fail)
    refine mix_nil ?_
    have hdr : Same (at1 g) w1 w1.drew := (Same.refl _ _).drew
    have hcd := HC.out.drew
    have hhd := HH.out.drew
    generalize w1.drew = W at *
    have HDR := Lib.hid hdr; have HCD := Lib.hid hcd; have HHD := Lib.hid hhd
    have z3 := HCD.out.cell_some (i := 3) rfl
    have fr3 := HCD.out.frozen 3
    clear hdr HCALL hcd hhd
    by_cases he : e = 0
    · subst he
      obtain ⟨q1, q2, q3, q4⟩ := hpk rfl
      rw [List.length_drop] at q2
      clear hpk q4
      by_cases hn : most < n
      · have hn1 : (most : Int) < (n : Int) := by omega
        have HF := Lib.hid (HHD.out.fault 12)
        go_wp2_with fail
        go_ret
        have h := HPR.out
        rw [if_neg (by simp), if_pos hn] at h
        unfold RNumPost
        rw [h]
        exact ⟨rfl, HF.out, HDR.out.trans (at1_set _ _ _ _) (fun _ _ h => h)⟩
      · have hn1 : ¬ (most : Int) < (n : Int) := by omega
        have hR0 := HHD.out.fault 0
        have hR1 := hR0.place (at_ + k) (by have := HLE.out; show _ ≤ _; omega)
        have HR1 := Lib.hid hR1
        have c1 := Blk.cell_some (i := 1) (Blk.set HCD.out 3 (.int .i64 0)) rfl
        have f1 := Blk.frozen (Blk.set HCD.out 3 (.int .i64 0)) 1
        have c3 := Blk.cell_some (i := 3) (Blk.set HCD.out 3 (.int .i64 0)) rfl
        have hw : wrap64 ((at_ : Int) + (k : Int)) = ((at_ + k : Nat) : Int) := by have := HH.out.len; have := HLE.out; unfold wrap64; omega
        clear hR0 hR1
        go_wp2_with fail
        go_ret
        have h := HPR.out
        rw [if_neg (by simp), if_neg hn] at h
        unfold RNumPost
        rw [h]
        exact ⟨rfl, HR1.out, (HDR.out.trans (at1_set _ _ _ _) (fun _ _ h => h)).trans (at1_set _ _ _ _) (fun _ _ h => h)⟩
    · have he1 : ((e : Int) == 0) = false := by simp; omega
      have he2 : ((e : Int) != 0) = true := by simp; omega
      have he3 : ¬ (e : Int) = 0 := by omega
      have HF := Lib.hid (HHD.out.fault e)
      clear hpk
      have c3 := Blk.cell_some (i := 3) (Blk.set HCD.out 3 (.int .i64 (e : Int))) rfl
      go_wp2_with fail
      go_ret
      have h := HPR.out
      rw [if_pos he] at h
      unfold RNumPost
      rw [h]
      exact ⟨rfl, HF.out, HDR.out.trans (at1_set _ _ _ _) (fun _ _ h => h)⟩
  · have hb : (f != 0) = true := by simp [hf]
    rw [numS_bad (by exact hf)]
    rw [hb] at hbad
    have HBAD := Lib.hid hbad
    have HA := Lib.hid h
    unfold RNumPost
    clear hbad h
    go_enter Tryd.func84, Tryd.ntmps84
    go_wp2_with fail
    refine HBAD.out.mono ?_
    rintro e w1 ⟨rfl, rfl⟩
    go_wp2_with fail
    go_ret
    exact ⟨rfl, HA.out, Same.refl _ _⟩
end Go.Proofs.YtghjffgaebnhiaaDoor
end
section
/- octet.Reader: Take, Bytes, End; pdu.number. -/
namespace Go.Proofs.YtghjffgaebnhiaaDoor
set_option linter.unusedVariables false
set_option linter.unusedSimpArgs false
open Go.RowKit
set_option maxHeartbeats 2000000 in
set_option maxRecDepth 100000 in
theorem numb_any (g : Nat) (v : Value) (l : List UInt8) (s : RS) (a b : Nat) (w : World) (h : Rdr w g v l s) (ha : a < 18446744073709551616) (hb : b < 18446744073709551616) :
    Calls Tryd.prog 48 #[.pointer (some ⟨g, 0, none⟩), .int .u64 (a : Int), .int .u64 (b : Int)] w (RNumPost g v l (numbS l a b s) w) := by
  have hc := rnum_any g v l s maxN w h (by decide)
  have hlt := numS_lt (l := l) (m := maxN) (s := s) (by decide)
  have hN : numbS l a b s = ((numS l maxN s).1, if (numS l maxN s).2.f = 0 ∧ ((numS l maxN s).1 < a ∨ b < (numS l maxN s).1) then ⟨(numS l maxN s).2.at_, 30⟩ else (numS l maxN s).2) := rfl
  obtain ⟨R, hR⟩ : ∃ R, R = numbS l a b s := ⟨_, rfl⟩
  rw [← hR]
  rw [hN] at hR
  generalize numS l maxN s = p at *
  obtain ⟨n, at_, f⟩ := p
  simp only at hR hlt hc
  have hlt2 : n ≤ 281474976710655 := hlt
  have HC : Hid (Calls Tryd.prog 84 #[.pointer (some ⟨g, 0, none⟩), .int .u64 281474976710655] w (RNumPost g v l (n, ⟨at_, f⟩) w)) := Lib.hid hc
  have HR := Lib.hid hR
  clear hc hR hlt h hN
  go_enter Tryd.func48, Tryd.ntmps48
  go_wp2_with fail
  refine HC.out.mono ?_
  rintro e w1 ⟨rfl, hr, hs⟩
  simp only at hr ⊢
  have he := rerr_any g v at_ f w1 hr.cells
  have hf := rfail_any g v at_ f 30 w1 hr.cells
  have HE := Lib.hid he; have HF := Lib.hid hf; have HH := Lib.hid hr; have HS := Lib.hid hs
  clear he hf hr hs HC
  by_cases h0 : f = 0
  · subst h0
    by_cases hbad : n < a ∨ b < n
    · have HRR : Hid (R = (n, ⟨at_, 30⟩)) := Lib.hid (by rw [HR.out, if_pos ⟨rfl, hbad⟩])
      have hfin : ∀ w', (w' = w1 ∨ w' = w1.setCell ⟨g, 3, none⟩ (.int .i64 ((30 : Nat) : Int))) → RdrAt w' g v at_ 30 → Rdr w' g v l ⟨at_, 30⟩ ∧ Same (at1 g) w w' := by
        rintro w' (rfl | rfl) hw
        · exact ⟨⟨hw, HH.out.bs, HH.out.far, HH.out.le, HH.out.len⟩, HS.out⟩
        · exact ⟨HH.out.fault 30, HS.out.trans (at1_set _ _ _ _) (fun _ _ h => h)⟩
      have HFIN := Lib.hid hfin
      clear hfin
      by_cases h1 : n < a
      · have i1 : (n : Int) < (a : Int) := by omega
        go_wp2_with fail
        refine HE.out.mono ?_
        rintro e w2 ⟨rfl, rfl⟩
        go_wp2_with fail
        refine HF.out.mono ?_
        rintro e w3 ⟨rfl, hw, hd⟩
        have HFI := Lib.hid (HFIN.out w3 hd hw)
        clear hw hd
        go_wp2_with fail
        go_ret
        unfold RNumPost
        rw [HRR.out]
        exact ⟨rfl, HFI.out.1, HFI.out.2⟩
      · have i1 : ¬ (n : Int) < (a : Int) := by omega
        have i2 : (b : Int) < (n : Int) := by omega
        go_wp2_with fail
        refine HE.out.mono ?_
        rintro e w2 ⟨rfl, rfl⟩
        go_wp2_with fail
        refine HF.out.mono ?_
        rintro e w3 ⟨rfl, hw, hd⟩
        have HFI := Lib.hid (HFIN.out w3 hd hw)
        clear hw hd
        go_wp2_with fail
        go_ret
        unfold RNumPost
        rw [HRR.out]
        exact ⟨rfl, HFI.out.1, HFI.out.2⟩
    · have HRR : Hid (R = (n, ⟨at_, 0⟩)) := Lib.hid (by rw [HR.out, if_neg (fun h => hbad h.2)])
      have i1 : ¬ (n : Int) < (a : Int) := by omega
      have i2 : ¬ (b : Int) < (n : Int) := by omega
      go_wp2_with fail
      refine HE.out.mono ?_
      rintro e w2 ⟨rfl, rfl⟩
      go_wp2_with fail
      go_ret
      unfold RNumPost
      rw [HRR.out]
      exact ⟨rfl, HH.out, HS.out⟩
  · have HRR : Hid (R = (n, ⟨at_, f⟩)) := Lib.hid (by rw [HR.out, if_neg (fun h => h0 h.1)])
    have i1 : ((f : Int) == 0) = false := by simp; omega
    have i2 : ¬ (f : Int) = 0 := by omega
    go_wp2_with fail
    refine HE.out.mono ?_
    rintro e w2 ⟨rfl, rfl⟩
    go_wp2_with fail
    go_ret
    unfold RNumPost
    rw [HRR.out]
    exact ⟨rfl, HH.out, HS.out⟩
set_option maxHeartbeats 1000000 in
set_option maxRecDepth 100000 in
theorem rend_any (g : Nat) (v : Value) (l : List UInt8) (s : RS) (w : World) (h : Rdr w g v l s) :
    Calls Tryd.prog 50 #[.pointer (some ⟨g, 0, none⟩)] w fun e w' => e = .returned (.int .i64 (endS l s : Int)) ∧ Same (at1 g) w w' := by
  obtain ⟨at_, f⟩ := s
  have hbad := bad_any g v at_ f w h.cells
  have hle := h.le
  have hlen := h.len
  simp only at hle
  obtain ⟨ao, cap, rfl, -⟩ := id h.bs
  have hleft := fun (hf : f = 0) => rleft_any g l.length cap ao at_ f w h.cells hle hlen
  have herr := rerr_any g _ at_ f w h.cells
  obtain ⟨E, hE⟩ : ∃ E, E = endS l ⟨at_, f⟩ := ⟨_, rfl⟩
  rw [← hE]
  unfold endS at hE
  simp only at hE
  obtain ⟨N, hN⟩ : ∃ N, N = l.length := ⟨_, rfl⟩
  have hc := h.cells
  simp only [← hN] at hle hlen hleft herr hE hc hbad
  have HB := Lib.hid hbad; have HL := Lib.hid hleft; have HR := Lib.hid herr; have HE := Lib.hid hE; have HC := Lib.hid hc
  clear hbad hleft herr hE hc h hN
  by_cases h0 : f = 0
  · subst h0
    have HL2 := Lib.hid (HL.out rfl)
    clear HL
    by_cases hlt : at_ < N
    · have HEE : Hid (E = 11) := Lib.hid (by rw [HE.out, if_pos ⟨rfl, hlt⟩])
      have i1 : (0 : Int) < ((N - at_ : Nat) : Int) := by omega
      obtain ⟨D, hD⟩ : ∃ D : Nat, D = N - at_ := ⟨_, rfl⟩
      rw [← hD] at HL2 i1
      clear hD
      have hs0 : Same (at1 g) w w.drew := (Same.refl _ _).drew
      have HCD := Lib.hid HC.out.drew
      go_enter Tryd.func50, Tryd.ntmps50
      go_wp2_with fail
      refine HB.out.mono ?_
      rintro e w1 ⟨rfl, rfl⟩
      go_wp2_with fail
      refine HL2.out.mono ?_
      rintro e w2 ⟨rfl, hw2⟩
      rw [← hw2] at hs0 HCD
      clear hw2 HL2
      have z3 := HCD.out.cell_some (i := 3) rfl
      have fr3 := HCD.out.frozen 3
      have he2 := rerr_any g _ at_ 11 _ (Blk.set HCD.out 3 (.int .i64 ((11 : Nat) : Int)))
      have HE2 := Lib.hid he2
      have HS := Lib.hid hs0
      clear he2 hs0
      go_wp2_with fail
      refine HE2.out.mono ?_
      rintro e w3 ⟨rfl, rfl⟩
      go_wp2_with fail
      go_ret
      rw [HEE.out]
      exact ⟨rfl, HS.out.trans (at1_set _ _ _ _) (fun _ _ h => h)⟩
    · have HEE : Hid (E = 0) := Lib.hid (by rw [HE.out, if_neg (fun h => hlt h.2)])
      have hz : N - at_ = 0 := by omega
      rw [hz] at HL2
      have hs0 : Same (at1 g) w w.drew := (Same.refl _ _).drew
      have HCD := Lib.hid HC.out.drew
      go_enter Tryd.func50, Tryd.ntmps50
      go_wp2_with fail
      refine HB.out.mono ?_
      rintro e w1 ⟨rfl, rfl⟩
      go_wp2_with fail
      refine HL2.out.mono ?_
      rintro e w2 ⟨rfl, hw2⟩
      rw [← hw2] at hs0 HCD
      clear hw2 HL2
      have he2 := rerr_any g _ at_ 0 _ HCD.out
      have HE2 := Lib.hid he2
      have HS := Lib.hid hs0
      clear he2 hs0
      go_wp2_with fail
      refine HE2.out.mono ?_
      rintro e w3 ⟨rfl, rfl⟩
      go_wp2_with fail
      go_ret
      rw [HEE.out]
      exact ⟨rfl, HS.out⟩
  · have HEE : Hid (E = f) := Lib.hid (by rw [HE.out, if_neg (fun h => h0 h.1)])
    have hb : (f != 0) = true := by simp [h0]
    rw [hb] at HB
    go_enter Tryd.func50, Tryd.ntmps50
    go_wp2_with fail
    refine HB.out.mono ?_
    rintro e w1 ⟨rfl, rfl⟩
    go_wp2_with fail
    refine HR.out.mono ?_
    rintro e w2 ⟨rfl, rfl⟩
    go_wp2_with fail
    go_ret
    rw [HEE.out]
    exact ⟨rfl, Same.refl _ _⟩
end Go.Proofs.YtghjffgaebnhiaaDoor
end
section
/- octet.Reader: Take, Bytes. -/
namespace Go.Proofs.YtghjffgaebnhiaaDoor
set_option linter.unusedVariables false
set_option linter.unusedSimpArgs false
open Go.RowKit
def takeS (l : List UInt8) (n : Nat) (s : RS) : List UInt8 × RS := if s.f ≠ 0 then ([], s) else if l.length - s.at_ < n then ([], ⟨s.at_, 10⟩) else ((l.drop s.at_).take n, ⟨s.at_ + n, 0⟩)
theorem bytesS_take (l : List UInt8) (m : Nat) (s : RS) (hs : s.f = 0) : bytesS l m s = ((takeS l (numS l m s).1 (numS l m s).2).1, if (takeS l (numS l m s).1 (numS l m s).2).2.f ≠ 0 then ⟨s.at_, (takeS l (numS l m s).1 (numS l m s).2).2.f⟩ else (takeS l (numS l m s).1 (numS l m s).2).2) := by
  unfold bytesS takeS
  rw [if_neg (by omega)]
  by_cases h : (numS l m s).2.f ≠ 0
  · simp only [if_pos h]
  · simp only [if_neg h]
    by_cases h2 : l.length - (numS l m s).2.at_ < (numS l m s).1
    · simp only [if_pos h2]
      rfl
    · simp only [if_neg h2]
      rfl
def RTakePost (g : Nat) (v : Value) (l : List UInt8) (p : List UInt8 × RS) (w : World) (e : Ending) (w' : World) : Prop :=
  ∃ v', e = .returned v' ∧ w'.ownsRow w.heap.size 5 1 v' p.1.length (p.1.map ub) ∧ Rdr w' g v l p.2 ∧ Same (at1 g) w w'
theorem bs_cut {w : World} {ao : Option Addr} {cap : Nat} {l : List UInt8} (h : Bs w (.slice ao l.length cap) l) (a n : Nat) (hk : a + n ≤ l.length) : Bs w (.slice (if cap = a then ao else Option.map (fun x => x.add a) ao) n (cap - a)) ((l.drop a).take n) := by
  have h1 := bs_from h a (by omega) rfl
  have e : l.length - a = (l.drop a).length := by rw [List.length_drop]
  rw [e] at h1
  exact bs_take h1 n (by rw [List.length_drop]; omega)
set_option maxHeartbeats 2000000 in
set_option maxRecDepth 100000 in
theorem rtake_good (g : Nat) (v : Value) (l : List UInt8) (at_ n : Nat) (w : World) (h : Rdr w g v l ⟨at_, 0⟩) (hn : n ≤ l.length - at_) :
    Calls Tryd.prog 110 #[.pointer (some ⟨g, 0, none⟩), .int .i64 (n : Int)] w (RTakePost g v l ((l.drop at_).take n, ⟨at_ + n, 0⟩) w) := by
  obtain ⟨M, hM⟩ : ∃ M, M = at_ + n := ⟨_, rfl⟩
  rw [← hM]
  have hbad := bad_any g _ at_ 0 w h.cells
  have hle := h.le
  have hlen := h.len
  simp only at hle
  obtain ⟨ao, cap, rfl, hc1, hc2, -⟩ := id h.bs
  obtain ⟨N, hN⟩ : ∃ N, N = l.length := ⟨_, rfl⟩
  have hdn : Rdr w.drew g (.slice ao l.length cap) l ⟨at_, 0⟩ := h.drew
  have hsd : Same (at1 g) w w.drew := (Same.refl _ _).drew
  generalize hW : w.drew = W at hdn hsd
  have hdn2 := hdn.place M (by omega)
  simp only at hdn2
  have hs2 : Same (at1 g) w (W.setCell ⟨g, 1, none⟩ (.int .i64 (M : Int))) := hsd.trans (at1_set W g 1 _) (fun _ _ h => h)
  generalize hW2 : W.setCell ⟨g, 1, none⟩ (.int .i64 (M : Int)) = W2 at hdn2 hs2
  have hcut := bs_cut hdn2.bs at_ n (by omega)
  have hcl := clone_any _ _ W2.drew (Rd.drew hcut) (by rw [List.length_take, List.length_drop]; omega)
  have hcr := h.cells
  have hcd := hdn.cells
  have hcd2 := hdn2.cells
  simp only [← hN] at hcr hcd hcd2 hcl hle hlen hdn hdn2
  generalize hV : Value.slice (if cap = at_ then ao else Option.map (fun x => x.add at_) ao) n (cap - at_) = V at hcl
  have HV := Lib.hid hV
  generalize hT : (l.drop at_).take n = T at hcl
  have HT := Lib.hid hT
  have ix0 : (at_ : Int) ≤ (M : Int) := by omega
  have ix3 : (M : Int) ≤ (cap : Int) := by omega
  have wn : IntKind.i64.wrap ((M : Int) - (n : Int)) = (at_ : Int) := by rw [IntKind.wrap_i64]; omega
  have ix4 : at_ ≤ M := by omega
  have ix5 : M ≤ cap := by omega
  have ix6 : M - at_ = n := by omega
  have hw : wrap64 ((N : Int) - (at_ : Int)) = ((N - at_ : Nat) : Int) := by unfold wrap64; omega
  have hw3 : IntKind.i64.wrap ((N : Int) - (at_ : Int)) = ((N - at_ : Nat) : Int) := by rw [IntKind.wrap_i64]; omega
  have hlt : ¬ ((N - at_ : Nat) : Int) < (n : Int) := by omega
  have h0 : ¬ (n : Int) < 0 := by omega
  have hw4 : wrap64 ((at_ : Int) + (n : Int)) = (M : Int) := by unfold wrap64; omega
  have z1 := hcd.cell_some (i := 1) rfl
  have fr1 := hcd.frozen 1
  have HBAD := Lib.hid hbad; have HCR := Lib.hid hcr; have HCD := Lib.hid hcd; have HD2 := Lib.hid hdn2; have HC2 := Lib.hid hcd2; have HCL := Lib.hid hcl; have HS2 := Lib.hid hs2; have HW := Lib.hid hW; have HW2 := Lib.hid hW2
  have HLE := Lib.hid hle; have HNN := Lib.hid hN
  clear hbad hcr hcd hdn hdn2 hcd2 hcl hs2 hW hW2 hV hT hsd h hcut hle hc1 hc2 hN hM
  rw [← HNN.out]
  go_enter Tryd.func110, Tryd.ntmps110
  go_wp2_with fail
  refine HBAD.out.mono ?_
  rintro e w1 ⟨rfl, rfl⟩
  go_wp2_with fail
  refine region_mix (fun w' => RdrAt w' g (.slice ao N cap) at_ 0) (fun _ => false) [0, 1, 2, 3, 4, 5, 6, 7, 8, 9, 10, 11, 12] (by kernel_rfl) (by kernel_rfl) HCR.out.drew ?_
  repeat (first
    | (refine mix_pure rfl rfl (by kernel_rfl) ?_
       apply Exists.intro
       refine ⟨fun w' hw' => ?_, ?_⟩
       · have z0 := hw'.cell_some (i := 0) rfl
         have z1 := hw'.cell_some (i := 1) rfl
         go_simp
         with_reducible rfl
       simp only [List.getElem_toArray, List.getElem_cons_zero, List.getElem_cons_succ, Act.put, List.setIfInBounds_toArray, List.set_cons_zero, List.set_cons_succ])
    | fail)
  refine mix_nil ?_
  rw [HW.out]
  go_wp2_with fail
  rw [HW2.out]
  refine region_mix (fun w' => RdrAt w' g (.slice ao N cap) M 0) (fun i => i == 15) [0, 1, 2, 3, 4, 5, 6, 7, 8, 9, 10, 11, 12, 13, 14, 15, 16] (by kernel_rfl) (by kernel_rfl) HC2.out.drew ?_
  repeat (first
    | (refine mix_pure rfl rfl (by kernel_rfl) ?_
       apply Exists.intro
       refine ⟨fun w' hw' => ?_, ?_⟩
       · have z0 := hw'.cell_some (i := 0) rfl
         have z1 := hw'.cell_some (i := 1) rfl
         go_simp
         with_reducible rfl
       simp only [List.getElem_toArray, List.getElem_cons_zero, List.getElem_cons_succ, Act.put, List.setIfInBounds_toArray, List.set_cons_zero, List.set_cons_succ])
    | fail)
  rw [HV.out]
  refine mix_eff rfl rfl (by kernel_rfl) ?_
  unfold effAt
  go_simp
  simp only [effUpon, List.getElem_toArray, List.getElem_cons_zero, List.getElem_cons_succ, Act.put, List.setIfInBounds_toArray, List.set_cons_zero, List.set_cons_succ]
  refine HCL.out.mono ?_
  rintro e' w2 ⟨v2, rfl, ho, hB⟩
  have hr2 := HD2.out.drew.later (w' := w2) hB
  have HO := Lib.hid (own_mono ho HS2.out.size); have HR2 := Lib.hid hr2
  have HS3 := Lib.hid (HS2.out.drew.trans (Same.of_below (w := W2.drew) hB no) (fun _ _ h => absurd h (fun h => h)))
  refine ⟨_, rfl, hr2.cells, ?_⟩
  clear ho hB hr2
  repeat (first
    | (refine mix_pure rfl rfl (by kernel_rfl) ?_
       apply Exists.intro
       refine ⟨fun w' hw' => ?_, ?_⟩
       · go_simp
         with_reducible rfl
       simp only [List.getElem_toArray, List.getElem_cons_zero, List.getElem_cons_succ, Act.put, List.setIfInBounds_toArray, List.set_cons_zero, List.set_cons_succ])
    | fail)
  refine mix_nil ?_
  go_wp2_with fail
  go_ret
  exact ⟨_, rfl, HO.out, HR2.out, HS3.out⟩
set_option maxHeartbeats 1000000 in
set_option maxRecDepth 100000 in
theorem rtake_any (g : Nat) (v : Value) (l : List UInt8) (s : RS) (n : Nat) (w : World) (h : Rdr w g v l s) (hn : n < 9223372036854775808) :
    Calls Tryd.prog 110 #[.pointer (some ⟨g, 0, none⟩), .int .i64 (n : Int)] w (RTakePost g v l (takeS l n s) w) := by
  obtain ⟨at_, f⟩ := s
  by_cases hf : f = 0
  · subst hf
    by_cases hlt : l.length - at_ < n
    · have e : takeS l n ⟨at_, 0⟩ = ([], ⟨at_, 10⟩) := by unfold takeS; rw [if_neg (by simp), if_pos hlt]
      rw [e]
      obtain ⟨ao, cap, rfl, -⟩ := id h.bs
      refine (rtake_short g l.length cap ao at_ n w h.cells h.le h.len hlt hn).mono ?_
      rintro e w' ⟨rfl, rfl⟩
      exact ⟨_, rfl, World.ownsRow_nil _ _ _ _, h.drew.fault 10, (Same.refl (at1 g) w).drew.trans (at1_set _ _ _ _) (fun _ _ h => h)⟩
    · have e : takeS l n ⟨at_, 0⟩ = ((l.drop at_).take n, ⟨at_ + n, 0⟩) := by unfold takeS; rw [if_neg (by simp), if_neg hlt]
      rw [e]
      exact rtake_good g v l at_ n w h (by omega)
  · have e : takeS l n ⟨at_, f⟩ = ([], ⟨at_, f⟩) := by unfold takeS; rw [if_pos (by exact hf)]
    rw [e]
    refine (rtake_bad g v at_ f n w h.cells hf).mono ?_
    rintro e w' ⟨rfl, rfl⟩
    exact ⟨_, rfl, World.ownsRow_nil _ _ _ _, h, Same.refl _ _⟩
set_option maxHeartbeats 2000000 in
set_option maxRecDepth 100000 in
theorem rbytes_any (g : Nat) (v : Value) (l : List UInt8) (s : RS) (most : Nat) (w : World) (h : Rdr w g v l s) (hm : most < 9223372036854775808) :
    Calls Tryd.prog 96 #[.pointer (some ⟨g, 0, none⟩), .int .i64 (most : Int)] w (RTakePost g v l (bytesS l most s) w) := by
  have hbad := bad_any g v s.at_ s.f w h.cells
  by_cases hf : s.f = 0
  · have hB := bytesS_take l most s hf
    obtain ⟨R, hR⟩ : ∃ R, R = bytesS l most s := ⟨_, rfl⟩
    rw [← hR]
    rw [hB] at hR
    clear hB
    have hnum := rnum_any g v l s most w h (by omega)
    have hnl := numS_lt (l := l) (m := most) (s := s) (by omega)
    have htk := fun (w' : World) (hh : Rdr w' g v l (numS l most s).2) => rtake_any g v l (numS l most s).2 (numS l most s).1 w' hh (by omega)
    generalize numS l most s = p at *
    obtain ⟨n, s1⟩ := p
    simp only at hR hnum hnl htk
    generalize takeS l n s1 = q at *
    obtain ⟨x, at2, f2⟩ := q
    simp only at hR
    obtain ⟨at_, f⟩ := s
    simp only at hf hbad hR
    subst hf
    have z1 := Blk.cell_some (i := 1) h.cells rfl
    have wm : IntKind.u64.wrap (most : Int) = (most : Int) := by rw [IntKind.wrap_u64]; omega
    have wn : wrap64 (n : Int) = (n : Int) := by unfold wrap64; omega
    have wm2 : (most : Int) % 18446744073709551616 = (most : Int) := by omega
    have h0 : ¬ (most : Int) < 0 := by omega
    have hle := h.le
    have HBAD := Lib.hid hbad; have HR := Lib.hid hR; have HNUM := Lib.hid hnum; have HTK := Lib.hid htk; have HLE := Lib.hid hle
    clear hbad hR hnum htk hle h hnl
    go_enter Tryd.func96, Tryd.ntmps96
    go_wp2_with fail
    refine HBAD.out.mono ?_
    rintro e' w1 ⟨rfl, rfl⟩
    go_wp2_with fail
    refine HNUM.out.mono ?_
    rintro e' w2 ⟨rfl, hr2, hs2⟩
    have HT2 := Lib.hid (HTK.out w2 hr2)
    have HS2 := Lib.hid hs2
    simp only
    clear hr2 hs2 HNUM HTK
    go_wp2_with fail
    refine HT2.out.mono ?_
    rintro e' w3 ⟨v3, rfl, ho3, hr3, hs3⟩
    simp only at ho3 hr3
    have HO3 := Lib.hid (own_mono ho3 HS2.out.size); have HR3 := Lib.hid hr3; have HS3 := Lib.hid (HS2.out.trans hs3 (fun _ _ h => h))
    have z3 := Blk.cell_some (i := 3) hr3.cells rfl
    have fr1 := Blk.frozen hr3.cells 1
    have c1 := Blk.cell_some (i := 1) hr3.cells rfl
    clear ho3 hr3 hs3 HT2 z1
    by_cases hf2 : f2 = 0
    · subst hf2
      have HRR : Hid (R = (x, ⟨at2, 0⟩)) := Lib.hid (by rw [HR.out, if_neg (by simp)])
      go_wp2_with fail
      go_ret
      unfold RTakePost
      rw [HRR.out]
      exact ⟨_, rfl, HO3.out, HR3.out, HS3.out⟩
    · have HRR : Hid (R = (x, ⟨at_, f2⟩)) := Lib.hid (by rw [HR.out, if_pos hf2])
      have i1 : ((f2 : Int) != 0) = true := by simp; omega
      have i2 : ¬ (f2 : Int) = 0 := by omega
      have HP := Lib.hid (HR3.out.place at_ HLE.out)
      have HOS := Lib.hid (own_same HO3.out (at1_set w3 g 1 (.int .i64 (at_ : Int))) (fun b hb hs => by
        have hs' : b = g := hs
        subst hs'
        exact own_blk_ne HO3.out HR3.out.cells (by decide) hb))
      go_wp2_with fail
      go_ret
      unfold RTakePost
      rw [HRR.out]
      exact ⟨_, rfl, HOS.out, HP.out, HS3.out.trans (at1_set _ _ _ _) (fun _ _ h => h)⟩
  · have hb : (s.f != 0) = true := by simp [hf]
    have e : bytesS l most s = ([], s) := by unfold bytesS; rw [if_pos hf]
    rw [e]
    rw [hb] at hbad
    have HBAD := Lib.hid hbad
    have HA := Lib.hid h
    clear hbad h
    go_enter Tryd.func96, Tryd.ntmps96
    go_wp2_with fail
    refine HBAD.out.mono ?_
    rintro e' w1 ⟨rfl, rfl⟩
    go_wp2_with fail
    go_ret
    exact ⟨_, rfl, World.ownsRow_nil _ _ _ _, HA.out, Same.refl _ _⟩
end Go.Proofs.YtghjffgaebnhiaaDoor
end
