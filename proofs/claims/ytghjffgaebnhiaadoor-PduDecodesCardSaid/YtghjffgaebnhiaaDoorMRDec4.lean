/- The reference's Bytes. -/
import Derived.Test.YtghjffgaebnhiaaDoorMRDec3
namespace Go.Proofs.YtghjffgaebnhiaaDoor
set_option linter.unusedVariables false
set_option linter.unusedSimpArgs false
open Go.RowKit
theorem bytesS_num (l : List UInt8) (most at_ n k e : Nat) (hP : numP (l.drop at_) = (n, k, e)) : bytesS l most ⟨at_, 0⟩ = if e ≠ 0 then ([], ⟨at_, e⟩) else if most < n then ([], ⟨at_, 12⟩) else if l.length - (at_ + k) < n then ([], ⟨at_, 10⟩) else ((l.drop (at_ + k)).take n, ⟨at_ + k + n, 0⟩) := by
  have hN : numS l most ⟨at_, 0⟩ = if e ≠ 0 then (0, ⟨at_, e⟩) else if most < n then (0, ⟨at_, 12⟩) else (n, ⟨at_ + k, 0⟩) := by rw [numS]; simp [hP]
  unfold bytesS
  rw [if_neg (by simp), hN]
  by_cases he : e = 0
  · subst he
    by_cases hm : most < n
    · simp [hm]
    · simp [hm]
  · simp [he]
def RRTPost (g : Nat) (B : Option Nat) (l : List UInt8) (p : List UInt8 × RS) (w : World) (e : Ending) (w' : World) : Prop :=
  ∃ v', e = .returned v' ∧ w'.ownsRow w.heap.size 5 1 v' p.1.length (p.1.map ub) ∧ RRd w' g B l p.2 ∧ Same (at1 g) w w'
theorem own_slice {ao : Option Addr} (N cap k m c : Nat) : (Value.slice (if cap = k then ao else Option.map (fun x => x.add k) ao) m c).ownBlock = (Value.slice ao N cap).ownBlock := by
  split
  · cases ao <;> rfl
  · cases ao with
    | none => rfl
    | some a => simp only [Option.map_some, Value.ownBlock, Addr.add]; split <;> rfl
set_option maxHeartbeats 4000000 in
set_option maxRecDepth 100000 in
theorem rrbytes_any (g : Nat) (B : Option Nat) (l : List UInt8) (s : RS) (most : Nat) (w : World) (h : RRd w g B l s) (hm : most < 9223372036854775808) :
    Calls Tryd.prog 56 #[.pointer (some ⟨g, 0, none⟩), .int .i64 (most : Int)] w (RRTPost g B l (bytesS l most s) w) := by
  obtain ⟨v, hv, hb, hr⟩ := h.ex
  have z1 := hb.cell_some (i := 1) rfl
  obtain ⟨at_, f⟩ := s
  by_cases hf : f = 0
  · subst hf
    have hle := h.le
    have hlen := h.len
    simp only at hle hr
    have hcall := rnumber_any v (l.drop at_) w hr (by rw [List.length_drop]; omega)
    have hp := numP_f (l.drop at_)
    have hpk := numP_ok (l := l.drop at_)
    have hbS := fun n k e hP => bytesS_num l most at_ n k e hP
    unfold numVal at hcall
    generalize numP (l.drop at_) = P at *
    obtain ⟨n, k, e⟩ := P
    simp only at hp hpk hcall
    have hfail := fun (w' : World) (hh : RRd w' g B l ⟨at_, 0⟩) (q : Nat) => rrfail_any g B l ⟨at_, 0⟩ q w' hh
    simp only [failS, if_true] at hfail
    obtain ⟨PR, hPR⟩ : ∃ PR, PR = bytesS l most ⟨at_, 0⟩ := ⟨_, rfl⟩
    rw [← hPR]
    rw [hbS n k e rfl] at hPR
    have HPR := Lib.hid hPR; have HCALL := Lib.hid hcall; have HFAIL := Lib.hid hfail; have HH := Lib.hid h; have HR := Lib.hid hr; have HB := Lib.hid hb; have HV := Lib.hid hv
    have z0 := hb.cell_some (i := 0) rfl
    have f0 := hb.frozen 0
    obtain ⟨ao, cap, rfl, hc1, hc2, -⟩ := id hr
    obtain ⟨N, hN⟩ : ∃ N, N = (l.drop at_).length := ⟨_, rfl⟩
    simp only [← hN] at z0 HCALL HB HR hc1 HV
    have HNN := Lib.hid hN
    have HNL : Hid (N = l.length - at_) := Lib.hid (by rw [hN, List.length_drop])
    have hm1 : (most : Int) % 18446744073709551616 = (most : Int) := by omega
    have hm0 : ¬ (most : Int) < 0 := by omega
    clear hPR hcall hfail h hr hb hv hbS hN
    by_cases he : e = 0
    · subst he
      obtain ⟨q1, q2, q3, q4⟩ := hpk rfl
      rw [List.length_drop] at q2
      clear hpk q4
      by_cases hn : most < n
      · have hn1 : (most : Int) < (n : Int) := by omega
        have HF := Lib.hid (HFAIL.out w HH.out 12)
        clear HFAIL
        go_enter Tryd.func56, Tryd.ntmps56
        go_wp2_with fail
        refine HCALL.out.mono ?_
        rintro e' w1 ⟨rfl, rfl⟩
        go_wp2_with fail
        refine HF.out.mono ?_
        rintro e' w2 ⟨rfl, hr2, hs2⟩
        have HR2 := Lib.hid hr2; have HS2 := Lib.hid hs2
        clear hr2 hs2
        go_wp2_with fail
        go_ret
        have h := HPR.out
        rw [if_neg (by simp), if_pos hn] at h
        unfold RRTPost
        rw [h]
        exact ⟨_, rfl, World.ownsRow_nil _ _ _ _, HR2.out, HS2.out⟩
      · have hn1 : ¬ (most : Int) < (n : Int) := by omega
        have ik : (k : Int) ≤ (N : Int) := by have := HNL.out; omega
        have hNb : N ≤ 140737488355328 := by have := HNL.out; omega
        by_cases hd : N - k < n
        · have hd1 : (N : Int) - (k : Int) < (n : Int) := by omega
          have HF := Lib.hid (HFAIL.out w HH.out 10)
          have HDD : Hid (l.length - (at_ + k) < n) := Lib.hid (by have := HNL.out; omega)
          clear HFAIL hd
          go_enter Tryd.func56, Tryd.ntmps56
          go_wp2_with fail
          refine HCALL.out.mono ?_
          rintro e' w1 ⟨rfl, rfl⟩
          go_wp2_with fail
          refine HF.out.mono ?_
          rintro e' w2 ⟨rfl, hr2, hs2⟩
          have HR2 := Lib.hid hr2; have HS2 := Lib.hid hs2
          clear hr2 hs2
          go_wp2_with fail
          go_ret
          have h := HPR.out
          rw [if_neg (by simp), if_neg hn, if_pos HDD.out] at h
          unfold RRTPost
          rw [h]
          exact ⟨_, rfl, World.ownsRow_nil _ _ _ _, HR2.out, HS2.out⟩
        · have hd1 : ¬ (N : Int) - (k : Int) < (n : Int) := by omega
          have HDD : Hid (¬ l.length - (at_ + k) < n) := Lib.hid (by have := HNL.out; omega)
          have hNl := HNL.out
          have m3 : (k : Int) + (n : Int) ≤ (N : Int) := by omega
          have m2 : (k : Int) + (n : Int) ≤ (cap : Int) := by omega
          have m5 : k + n ≤ cap := by omega
          have m7 : k + n ≤ N := by omega
          have hn47 : n ≤ 140737488355328 := by omega
          obtain ⟨A1, hA1⟩ : ∃ A1, A1 = (if cap = k then ao else Option.map (fun x => x.add k) ao) := ⟨_, rfl⟩
          obtain ⟨A2, hA2⟩ : ∃ A2, A2 = (if cap = (k + n) then ao else Option.map (fun x => x.add (k + n)) ao) := ⟨_, rfl⟩
          have hr0 : Bs w (.slice ao (l.drop at_).length cap) (l.drop at_) := by have h := HR.out; rw [HNN.out] at h; exact h
          have hsrc := bs_cut hr0 k n (by rw [List.length_drop]; omega)
          rw [← hA1] at hsrc
          have hrst := bs_from hr0 (k + n) (by rw [List.length_drop]; omega) HNN.out
          rw [← hA2] at hrst
          have hown2 : (Value.slice A2 (N - (k + n)) (cap - (k + n))).ownBlock = B := by rw [hA2, own_slice N cap, HV.out]
          have hxl : (((l.drop at_).drop k).take n).length = n := by rw [List.length_take, List.length_drop, List.length_drop]; omega
          have hsr : Rd w (.slice A1 n (cap - k)) n ((((l.drop at_).drop k).take n).map ub) := by have h : Rd w _ (((l.drop at_).drop k).take n).length _ := hsrc; rw [hxl] at h; exact h
          have hml : ((((l.drop at_).drop k).take n).map ub).length = n * 1 := by rw [List.length_map, hxl, Nat.mul_one]
          have hX : ((l.drop at_).drop k).take n = (l.drop (at_ + k)).take n := by rw [List.drop_drop]
          rw [hX] at hsr hml hxl
          have hRst : (l.drop at_).drop (k + n) = l.drop (at_ + k + n) := by rw [List.drop_drop, Nat.add_assoc]
          rw [hRst] at hrst
          have hbd : (0 + n) * 1 ≤ 140737488355328 := by omega
          have hle2 : at_ + k + n ≤ l.length := by omega
          generalize (l.drop (at_ + k)).take n = X at *
          have hkn : k + n - k = n := by omega
          have hsr2 : Rd w (.slice A1 (k + n - k) (cap - k)) n (X.map ub) := by rw [hkn]; exact hsr
          clear hkn
          have HSR := Lib.hid hsr2; have HML := Lib.hid hml; have HRS := Lib.hid hrst; have HOW := Lib.hid hown2; have HXL := Lib.hid hxl; have HLE := Lib.hid hle2
          have hA1s := hA1.symm
          have hA2s := hA2.symm
          have key : ∀ w2, Below w.heap.size w w2 → RRd (w2.setCell ⟨g, 0, none⟩ (.slice A2 (N - (k + n)) (cap - (k + n)))) g B l ⟨at_ + k + n, 0⟩ := fun w2 hB => by
            have hset := (HB.out.later hB).set 0 (.slice A2 (N - (k + n)) (cap - (k + n)))
            simp only [List.set_cons_zero] at hset
            exact ⟨⟨_, HOW.out, hset, Rd.setCell (Rd.later HRS.out hB) (fun e => HH.out.far (HOW.out ▸ e)) _⟩, HH.out.far, HLE.out, HH.out.len⟩
          have KEY := Lib.hid key
          clear hsr hsr2 hml hrst hown2 hxl hle2 hA1 hA2 key hX hRst hr0 hsrc HFAIL hNl hd
          go_enter Tryd.func56, Tryd.ntmps56
          go_wp2_with fail
          refine HCALL.out.mono ?_
          rintro e' w1 ⟨rfl, rfl⟩
          go_wp2_with (at_builtin; refine wpList_app El.u8 rfl (.const (.slice none 0 0)) (.tmp 63) rfl (World.ownsRow_nil _ w1.heap.size _ _) rfl HSR.out rfl HML.out (ub_one _) hbd (Nat.le_refl _) ?_; intro v2 w2 hown2 hgr2 _; go_loud (
            have h2 : w2.ownsRow w1.heap.size 5 1 v2 n (X.map ub) := by rw [Nat.zero_add, List.nil_append] at hown2; exact hown2
            have hb2 : Below w1.heap.size w1 w2 := (Below.refl _ _).grown hgr2 (Nat.le_refl _) (fun q hq => by cases hq)
            have z0' := (HB.out.later hb2).cell_some (i := 0) rfl
            have f0' := (HB.out.later hb2).frozen 0
            have H2 := Lib.hid h2
            have HB2 := Lib.hid hb2
            have HBB := Lib.hid (HB.out.later hb2)
            clear h2 hb2 hown2 hgr2))
          all_goals (
            go_ret
            have h := HPR.out
            rw [if_neg (by simp), if_neg hn, if_neg HDD.out] at h
            unfold RRTPost
            rw [h]
            have hk := KEY.out w2 HB2.out
            try rw [show cap - (k + n) = 0 by omega] at hk
            refine ⟨_, rfl, ?_, hk, (Same.of_below HB2.out (at1 g)).trans (at1_set _ _ _ _) (fun _ _ h => h)⟩
            rw [HXL.out]
            exact own_same H2.out (at1_set w2 g 0 _) (fun b hb e => by
              have e' : b = g := e
              subst e'
              exact own_blk_ne H2.out HBB.out (by decide) hb))
    · have he1 : ((e : Int) == 0) = false := by simp; omega
      have he2 : ((e : Int) != 0) = true := by simp; omega
      have he3 : ¬ (e : Int) = 0 := by omega
      have HF := Lib.hid (HFAIL.out w HH.out e)
      clear hpk HFAIL
      go_enter Tryd.func56, Tryd.ntmps56
      go_wp2_with fail
      refine HCALL.out.mono ?_
      rintro e' w1 ⟨rfl, rfl⟩
      go_wp2_with fail
      refine HF.out.mono ?_
      rintro e' w2 ⟨rfl, hr2, hs2⟩
      have HR2 := Lib.hid hr2; have HS2 := Lib.hid hs2
      clear hr2 hs2
      go_wp2_with fail
      go_ret
      have h := HPR.out
      rw [if_pos he] at h
      unfold RRTPost
      rw [h]
      exact ⟨_, rfl, World.ownsRow_nil _ _ _ _, HR2.out, HS2.out⟩
  · have e : bytesS l most ⟨at_, f⟩ = ([], ⟨at_, f⟩) := by unfold bytesS; rw [if_pos (by exact hf)]
    rw [e]
    have HH := Lib.hid h
    have i1 : ((f : Int) != 0) = true := by simp; omega
    have i2 : ¬ (f : Int) = 0 := by omega
    clear h hb hr hv
    go_enter Tryd.func56, Tryd.ntmps56
    go_wp2_with fail
    go_ret
    exact ⟨_, rfl, World.ownsRow_nil _ _ _ _, HH.out, Same.refl _ _⟩
end Go.Proofs.YtghjffgaebnhiaaDoor
