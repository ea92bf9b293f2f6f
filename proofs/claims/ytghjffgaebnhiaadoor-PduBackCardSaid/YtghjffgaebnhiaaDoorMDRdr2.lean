/- octet.Reader: Take, Bytes, End; pdu.number. -/
import Derived.Test.YtghjffgaebnhiaaDoorMDRdr
namespace Go.Proofs.YtghjffgaebnhiaaDoor
set_option linter.unusedVariables false
set_option linter.unusedSimpArgs false
open Go.RowKit
set_option maxHeartbeats 2000000 in
set_option maxRecDepth 100000 in
theorem numb_any (g : Nat) (v : Value) (l : List UInt8) (s : RS) (a b : Nat) (w : World) (h : Rdr w g v l s) (ha : a < 18446744073709551616) (hb : b < 18446744073709551616) :
    Calls Tryd.prog 48 #[.pointer (some ⟨g, 0, none⟩), .int .u64 (a : Int), .int .u64 (b : Int)] w (RNumPost g v l (numbS l a b s) w) := by
  have hc := rnum_any g v l s maxN w h (by decide)
  have hlt := numS_lt (l := l) (m := maxN) (s := s) (by decide)
  have hN : numbS l a b s = ((numS l maxN s).1, if (numS l maxN s).2.f = 0 ∧ ((numS l maxN s).1 < a ∨ b < (numS l maxN s).1) then ⟨(numS l maxN s).2.at_, 30⟩ else (numS l maxN s).2) := rfl
  obtain ⟨R, hR⟩ : ∃ R, R = numbS l a b s := ⟨_, rfl⟩
  rw [← hR]
  rw [hN] at hR
  generalize numS l maxN s = p at *
  obtain ⟨n, at_, f⟩ := p
  simp only at hR hlt hc
  have hlt2 : n ≤ 281474976710655 := hlt
  have HC : Hid (Calls Tryd.prog 84 #[.pointer (some ⟨g, 0, none⟩), .int .u64 281474976710655] w (RNumPost g v l (n, ⟨at_, f⟩) w)) := Lib.hid hc
  have HR := Lib.hid hR
  clear hc hR hlt h hN
  go_enter Tryd.func48, Tryd.ntmps48
  go_wp2_with fail
  refine HC.out.mono ?_
  rintro e w1 ⟨rfl, hr, hs⟩
  simp only at hr ⊢
  have he := rerr_any g v at_ f w1 hr.cells
  have hf := rfail_any g v at_ f 30 w1 hr.cells
  have HE := Lib.hid he; have HF := Lib.hid hf; have HH := Lib.hid hr; have HS := Lib.hid hs
  clear he hf hr hs HC
  by_cases h0 : f = 0
  · subst h0
    by_cases hbad : n < a ∨ b < n
    · have HRR : Hid (R = (n, ⟨at_, 30⟩)) := Lib.hid (by rw [HR.out, if_pos ⟨rfl, hbad⟩])
      have hfin : ∀ w', (w' = w1 ∨ w' = w1.setCell ⟨g, 3, none⟩ (.int .i64 ((30 : Nat) : Int))) → RdrAt w' g v at_ 30 → Rdr w' g v l ⟨at_, 30⟩ ∧ Same (at1 g) w w' := by
        rintro w' (rfl | rfl) hw
        · exact ⟨⟨hw, HH.out.bs, HH.out.far, HH.out.le, HH.out.len⟩, HS.out⟩
        · exact ⟨HH.out.fault 30, HS.out.trans (at1_set _ _ _ _) (fun _ _ h => h)⟩
      have HFIN := Lib.hid hfin
      clear hfin
      by_cases h1 : n < a
      · have i1 : (n : Int) < (a : Int) := by omega
        go_wp2_with fail
        refine HE.out.mono ?_
        rintro e w2 ⟨rfl, rfl⟩
        go_wp2_with fail
        refine HF.out.mono ?_
        rintro e w3 ⟨rfl, hw, hd⟩
        have HFI := Lib.hid (HFIN.out w3 hd hw)
        clear hw hd
        go_wp2_with fail
        go_ret
        unfold RNumPost
        rw [HRR.out]
        exact ⟨rfl, HFI.out.1, HFI.out.2⟩
      · have i1 : ¬ (n : Int) < (a : Int) := by omega
        have i2 : (b : Int) < (n : Int) := by omega
        go_wp2_with fail
        refine HE.out.mono ?_
        rintro e w2 ⟨rfl, rfl⟩
        go_wp2_with fail
        refine HF.out.mono ?_
        rintro e w3 ⟨rfl, hw, hd⟩
        have HFI := Lib.hid (HFIN.out w3 hd hw)
        clear hw hd
        go_wp2_with fail
        go_ret
        unfold RNumPost
        rw [HRR.out]
        exact ⟨rfl, HFI.out.1, HFI.out.2⟩
    · have HRR : Hid (R = (n, ⟨at_, 0⟩)) := Lib.hid (by rw [HR.out, if_neg (fun h => hbad h.2)])
      have i1 : ¬ (n : Int) < (a : Int) := by omega
      have i2 : ¬ (b : Int) < (n : Int) := by omega
      go_wp2_with fail
      refine HE.out.mono ?_
      rintro e w2 ⟨rfl, rfl⟩
      go_wp2_with fail
      go_ret
      unfold RNumPost
      rw [HRR.out]
      exact ⟨rfl, HH.out, HS.out⟩
  · have HRR : Hid (R = (n, ⟨at_, f⟩)) := Lib.hid (by rw [HR.out, if_neg (fun h => h0 h.1)])
    have i1 : ((f : Int) == 0) = false := by simp; omega
    have i2 : ¬ (f : Int) = 0 := by omega
    go_wp2_with fail
    refine HE.out.mono ?_
    rintro e w2 ⟨rfl, rfl⟩
    go_wp2_with fail
    go_ret
    unfold RNumPost
    rw [HRR.out]
    exact ⟨rfl, HH.out, HS.out⟩
set_option maxHeartbeats 1000000 in
set_option maxRecDepth 100000 in
theorem rend_any (g : Nat) (v : Value) (l : List UInt8) (s : RS) (w : World) (h : Rdr w g v l s) :
    Calls Tryd.prog 50 #[.pointer (some ⟨g, 0, none⟩)] w fun e w' => e = .returned (.int .i64 (endS l s : Int)) ∧ Same (at1 g) w w' := by
  obtain ⟨at_, f⟩ := s
  have hbad := bad_any g v at_ f w h.cells
  have hle := h.le
  have hlen := h.len
  simp only at hle
  obtain ⟨ao, cap, rfl, -⟩ := id h.bs
  have hleft := fun (hf : f = 0) => rleft_any g l.length cap ao at_ f w h.cells hle hlen
  have herr := rerr_any g _ at_ f w h.cells
  obtain ⟨E, hE⟩ : ∃ E, E = endS l ⟨at_, f⟩ := ⟨_, rfl⟩
  rw [← hE]
  unfold endS at hE
  simp only at hE
  obtain ⟨N, hN⟩ : ∃ N, N = l.length := ⟨_, rfl⟩
  have hc := h.cells
  simp only [← hN] at hle hlen hleft herr hE hc hbad
  have HB := Lib.hid hbad; have HL := Lib.hid hleft; have HR := Lib.hid herr; have HE := Lib.hid hE; have HC := Lib.hid hc
  clear hbad hleft herr hE hc h hN
  by_cases h0 : f = 0
  · subst h0
    have HL2 := Lib.hid (HL.out rfl)
    clear HL
    by_cases hlt : at_ < N
    · have HEE : Hid (E = 11) := Lib.hid (by rw [HE.out, if_pos ⟨rfl, hlt⟩])
      have i1 : (0 : Int) < ((N - at_ : Nat) : Int) := by omega
      obtain ⟨D, hD⟩ : ∃ D : Nat, D = N - at_ := ⟨_, rfl⟩
      rw [← hD] at HL2 i1
      clear hD
      have hs0 : Same (at1 g) w w.drew := (Same.refl _ _).drew
      have HCD := Lib.hid HC.out.drew
      go_enter Tryd.func50, Tryd.ntmps50
      go_wp2_with fail
      refine HB.out.mono ?_
      rintro e w1 ⟨rfl, rfl⟩
      go_wp2_with fail
      refine HL2.out.mono ?_
      rintro e w2 ⟨rfl, hw2⟩
      rw [← hw2] at hs0 HCD
      clear hw2 HL2
      have z3 := HCD.out.cell_some (i := 3) rfl
      have fr3 := HCD.out.frozen 3
      have he2 := rerr_any g _ at_ 11 _ (Blk.set HCD.out 3 (.int .i64 ((11 : Nat) : Int)))
      have HE2 := Lib.hid he2
      have HS := Lib.hid hs0
      clear he2 hs0
      go_wp2_with fail
      refine HE2.out.mono ?_
      rintro e w3 ⟨rfl, rfl⟩
      go_wp2_with fail
      go_ret
      rw [HEE.out]
      exact ⟨rfl, HS.out.trans (at1_set _ _ _ _) (fun _ _ h => h)⟩
    · have HEE : Hid (E = 0) := Lib.hid (by rw [HE.out, if_neg (fun h => hlt h.2)])
      have hz : N - at_ = 0 := by omega
      rw [hz] at HL2
      have hs0 : Same (at1 g) w w.drew := (Same.refl _ _).drew
      have HCD := Lib.hid HC.out.drew
      go_enter Tryd.func50, Tryd.ntmps50
      go_wp2_with fail
      refine HB.out.mono ?_
      rintro e w1 ⟨rfl, rfl⟩
      go_wp2_with fail
      refine HL2.out.mono ?_
      rintro e w2 ⟨rfl, hw2⟩
      rw [← hw2] at hs0 HCD
      clear hw2 HL2
      have he2 := rerr_any g _ at_ 0 _ HCD.out
      have HE2 := Lib.hid he2
      have HS := Lib.hid hs0
      clear he2 hs0
      go_wp2_with fail
      refine HE2.out.mono ?_
      rintro e w3 ⟨rfl, rfl⟩
      go_wp2_with fail
      go_ret
      rw [HEE.out]
      exact ⟨rfl, HS.out⟩
  · have HEE : Hid (E = f) := Lib.hid (by rw [HE.out, if_neg (fun h => h0 h.1)])
    have hb : (f != 0) = true := by simp [h0]
    rw [hb] at HB
    go_enter Tryd.func50, Tryd.ntmps50
    go_wp2_with fail
    refine HB.out.mono ?_
    rintro e w1 ⟨rfl, rfl⟩
    go_wp2_with fail
    refine HR.out.mono ?_
    rintro e w2 ⟨rfl, rfl⟩
    go_wp2_with fail
    go_ret
    rw [HEE.out]
    exact ⟨rfl, Same.refl _ _⟩
end Go.Proofs.YtghjffgaebnhiaaDoor
