/- The reference's reader: Fail, want, Number, small. -/
import Derived.Test.YtghjffgaebnhiaaDoorMRDNum
import Derived.Test.YtghjffgaebnhiaaDoorMDRdr
import Derived.Test.YtghjffgaebnhiaaDoorMTypes
namespace Go.Proofs.YtghjffgaebnhiaaDoor
set_option linter.unusedVariables false
set_option linter.unusedSimpArgs false
open Go.RowKit
/-- the reference's reader: what is left, the fault. -/
structure RRd (w : World) (g : Nat) (B : Option Nat) (l : List UInt8) (s : RS) : Prop where
  ex : ∃ v : Value, v.ownBlock = B ∧ Blk w g 88 [v, .int .i64 (s.f : Int)] ∧ Bs w v (l.drop s.at_)
  far : B ≠ some g
  le : s.at_ ≤ l.length
  len : l.length ≤ 140737488355328
theorem RRd.lt {w : World} {g : Nat} {B : Option Nat} {l : List UInt8} {s : RS} (h : RRd w g B l s) : g < w.heap.size := by obtain ⟨v, _, h1, _⟩ := h.ex; exact h1.lt
theorem RRd.same {S : Nat → Prop} {w w' : World} {g : Nat} {B : Option Nat} {l : List UInt8} {s : RS} (h : RRd w g B l s) (hs : Same S w w') (hg : ¬ S g) (hv : ∀ b, B = some b → ¬ S b) : RRd w' g B l s := by
  obtain ⟨v, h1, h2, h3⟩ := h.ex
  exact ⟨⟨v, h1, h2.same hs hg, Rd.same h3 hs (fun b hb => hv b (h1 ▸ hb))⟩, h.far, h.le, h.len⟩
theorem RRd.later {w w' : World} {g : Nat} {B : Option Nat} {l : List UInt8} {s : RS} (h : RRd w g B l s) (hs : Below w.heap.size w w') : RRd w' g B l s := by
  obtain ⟨v, h1, h2, h3⟩ := h.ex
  exact ⟨⟨v, h1, h2.later hs, Rd.later h3 hs⟩, h.far, h.le, h.len⟩
theorem RRd.store {w : World} {g q : Nat} {B : Option Nat} {l : List UInt8} {s : RS} (h : RRd w g B l s) (hq : q ≠ g) (hv : B ≠ some q) (k : Nat) (u : Value) : RRd (w.setCell ⟨q, k, none⟩ u) g B l s :=
  h.same (at1_set w q k u) (fun e => hq e.symm) (fun b hb e => hv (by rw [hb]; exact congrArg some e))
def RRPost (g : Nat) (B : Option Nat) (l : List UInt8) (p : Nat × RS) (w : World) (e : Ending) (w' : World) : Prop := e = .returned (.int .u64 (p.1 : Int)) ∧ RRd w' g B l p.2 ∧ Same (at1 g) w w'
set_option maxHeartbeats 1000000 in
set_option maxRecDepth 100000 in
theorem rrfail_any (g : Nat) (B : Option Nat) (l : List UInt8) (s : RS) (k : Nat) (w : World) (h : RRd w g B l s) :
    Calls Tryd.prog 58 #[.pointer (some ⟨g, 0, none⟩), .int .i64 (k : Int)] w fun e w' => e = .returned (.tuple #[]) ∧ RRd w' g B l (failS k s) ∧ Same (at1 g) w w' := by
  obtain ⟨v, hv, hb, hr⟩ := h.ex
  have z1 := hb.cell_some (i := 1) rfl
  have f1 := hb.frozen 1
  have hset := hb.set 1 (.int .i64 (k : Int))
  simp only [List.set_cons_zero, List.set_cons_succ] at hset
  have hfar := h.far
  obtain ⟨at_, f⟩ := s
  by_cases hf : f = 0
  · subst hf
    have HF : Hid (RRd (w.setCell ⟨g, 1, none⟩ (.int .i64 (k : Int))) g B l ⟨at_, k⟩) := Lib.hid ⟨⟨v, hv, hset, Rd.setCell hr (fun e => hfar (hv ▸ e)) _⟩, h.far, h.le, h.len⟩
    clear hset hr hb h hfar
    go_enter Tryd.func58, Tryd.ntmps58
    go_wp2_with fail
    go_end0
    refine ⟨rfl, ?_, at1_set _ _ _ _⟩
    rw [failS, if_pos rfl]
    exact HF.out
  · have HH := Lib.hid h
    have i1 : ((f : Int) == 0) = false := by simp; omega
    have i2 : ¬ (f : Int) = 0 := by omega
    clear hset hr hb h hfar
    go_enter Tryd.func58, Tryd.ntmps58
    go_wp2_with fail
    go_end0
    refine ⟨rfl, ?_, Same.refl _ _⟩
    rw [failS, if_neg (by exact hf)]
    exact HH.out
set_option maxHeartbeats 1000000 in
set_option maxRecDepth 100000 in
theorem want_any (g : Nat) (B : Option Nat) (l : List UInt8) (s : RS) (ok : Bool) (w : World) (h : RRd w g B l s) :
    Calls Tryd.prog 55 #[.pointer (some ⟨g, 0, none⟩), .bool ok] w fun e w' => e = .returned (.tuple #[]) ∧ RRd w' g B l (if ok then s else failS 30 s) ∧ Same (at1 g) w w' := by
  have HF := Lib.hid (rrfail_any g B l s 30 w h)
  have HH := Lib.hid h
  clear h
  cases ok with
  | true =>
    go_enter Tryd.func55, Tryd.ntmps55
    go_wp2_with fail
    go_end0
    exact ⟨rfl, HH.out, Same.refl _ _⟩
  | false =>
    go_enter Tryd.func55, Tryd.ntmps55
    go_wp2_with fail
    refine HF.out.mono ?_
    rintro e w1 ⟨rfl, hr, hs⟩
    have HR := Lib.hid hr; have HS := Lib.hid hs
    clear hr hs
    go_wp2_with fail
    go_end0
    exact ⟨rfl, HR.out, HS.out⟩
set_option maxHeartbeats 2000000 in
set_option maxRecDepth 100000 in
theorem rrnum_any (g : Nat) (B : Option Nat) (l : List UInt8) (s : RS) (most : Nat) (w : World) (h : RRd w g B l s) (hm : most < 18446744073709551616) :
    Calls Tryd.prog 54 #[.pointer (some ⟨g, 0, none⟩), .int .u64 (most : Int)] w (RRPost g B l (numS l most s) w) := by
  obtain ⟨v, hv, hb, hr⟩ := h.ex
  have z1 := hb.cell_some (i := 1) rfl
  obtain ⟨at_, f⟩ := s
  by_cases hf : f = 0
  · subst hf
    have hle := h.le
    have hlen := h.len
    simp only at hle hr
    have hcall := rnumber_any v (l.drop at_) w hr (by rw [List.length_drop]; omega)
    have hp := numP_f (l.drop at_)
    have hpk := numP_ok (l := l.drop at_)
    have hnumS : numS l most ⟨at_, 0⟩ = if (numP (l.drop at_)).2.2 ≠ 0 then (0, ⟨at_, (numP (l.drop at_)).2.2⟩) else if most < (numP (l.drop at_)).1 then (0, ⟨at_, 12⟩) else ((numP (l.drop at_)).1, ⟨at_ + (numP (l.drop at_)).2.1, 0⟩) := by rw [numS]; simp
    unfold numVal at hcall
    generalize numP (l.drop at_) = P at *
    obtain ⟨n, k, e⟩ := P
    simp only at hp hpk hnumS hcall
    have hfail := fun (w' : World) (hh : RRd w' g B l ⟨at_, 0⟩) (q : Nat) => rrfail_any g B l ⟨at_, 0⟩ q w' hh
    simp only [failS, if_true] at hfail
    obtain ⟨PR, hPR⟩ : ∃ PR, PR = numS l most ⟨at_, 0⟩ := ⟨_, rfl⟩
    rw [← hPR]
    rw [hnumS] at hPR
    have HPR := Lib.hid hPR; have HCALL := Lib.hid hcall; have HFAIL := Lib.hid hfail; have HH := Lib.hid h; have HR := Lib.hid hr; have HB := Lib.hid hb; have HV := Lib.hid hv
    have z0 := hb.cell_some (i := 0) rfl
    have f0 := hb.frozen 0
    obtain ⟨ao, cap, rfl, hc1, hc2, -⟩ := id hr
    obtain ⟨N, hN⟩ : ∃ N, N = (l.drop at_).length := ⟨_, rfl⟩
    simp only [← hN] at z0 HCALL HB HR hc1 HV
    have HNN := Lib.hid hN
    have HNL : Hid (N = l.length - at_) := Lib.hid (by rw [hN, List.length_drop])
    clear hPR hcall hfail h hr hb hv hnumS hN
    by_cases he : e = 0
    · subst he
      obtain ⟨q1, q2, q3, q4⟩ := hpk rfl
      rw [List.length_drop] at q2
      clear hpk q4
      by_cases hn : most < n
      · have hn1 : (most : Int) < (n : Int) := by omega
        have HF := Lib.hid (HFAIL.out w HH.out 12)
        clear HFAIL
        go_enter Tryd.func54, Tryd.ntmps54
        go_wp2_with fail
        refine HCALL.out.mono ?_
        rintro e' w1 ⟨rfl, rfl⟩
        go_wp2_with fail
        refine HF.out.mono ?_
        rintro e' w2 ⟨rfl, hr2, hs2⟩
        have HR2 := Lib.hid hr2; have HS2 := Lib.hid hs2
        clear hr2 hs2
        go_wp2_with fail
        go_ret
        have h := HPR.out
        rw [if_neg (by simp), if_pos hn] at h
        unfold RRPost
        rw [h]
        exact ⟨rfl, HR2.out, HS2.out⟩
      · have hn1 : ¬ (most : Int) < (n : Int) := by omega
        have ik : (k : Int) ≤ (N : Int) := by have := HNL.out; omega
        obtain ⟨A2, hA2⟩ : ∃ A2, A2 = (if cap = k then ao else Option.map (fun x => x.add k) ao) := ⟨_, rfl⟩
        obtain ⟨V2, hV2⟩ : ∃ V2, V2 = Value.slice A2 (N - k) (cap - k) := ⟨_, rfl⟩
        have hbs2 : Bs w V2 ((l.drop at_).drop k) := by
          rw [hV2, hA2]
          have h := HR.out
          rw [HNN.out] at h
          exact bs_from h k (by rw [List.length_drop]; omega) HNN.out
        have hown2 : V2.ownBlock = B := by
          rw [hV2, hA2, ← HV.out]
          split
          · cases ao <;> rfl
          · cases ao with
            | none => rfl
            | some a => simp only [Option.map_some, Value.ownBlock, Addr.add]; split <;> rfl
        have hset := HB.out.set 0 V2
        simp only [List.set_cons_zero] at hset
        have hfin : RRd (w.setCell ⟨g, 0, none⟩ V2) g B l ⟨at_ + k, 0⟩ := ⟨⟨V2, hown2, hset, by
          rw [List.drop_drop] at hbs2
          exact Rd.setCell hbs2 (fun e => HH.out.far (hown2 ▸ e)) _⟩, HH.out.far, by simp only; omega, HH.out.len⟩
        subst hV2
        have HFIN := Lib.hid hfin
        have hA3 := hA2.symm
        clear hbs2 hown2 hset hfin hA2 HFAIL
        go_enter Tryd.func54, Tryd.ntmps54
        go_wp2_with fail
        refine HCALL.out.mono ?_
        rintro e' w1 ⟨rfl, rfl⟩
        go_wp2_with fail
        go_ret
        have h := HPR.out
        rw [if_neg (by simp), if_neg hn] at h
        unfold RRPost
        rw [h]
        refine ⟨rfl, ?_, ?_⟩
        · exact HFIN.out
        · exact at1_set _ _ _ _
    · have he1 : ((e : Int) == 0) = false := by simp; omega
      have he2 : ((e : Int) != 0) = true := by simp; omega
      have he3 : ¬ (e : Int) = 0 := by omega
      have HF := Lib.hid (HFAIL.out w HH.out e)
      clear hpk HFAIL
      go_enter Tryd.func54, Tryd.ntmps54
      go_wp2_with fail
      refine HCALL.out.mono ?_
      rintro e' w1 ⟨rfl, rfl⟩
      go_wp2_with fail
      refine HF.out.mono ?_
      rintro e' w2 ⟨rfl, hr2, hs2⟩
      have HR2 := Lib.hid hr2; have HS2 := Lib.hid hs2
      clear hr2 hs2
      go_wp2_with fail
      go_ret
      have h := HPR.out
      rw [if_pos he] at h
      unfold RRPost
      rw [h]
      exact ⟨rfl, HR2.out, HS2.out⟩
  · rw [numS_bad (by exact hf)]
    have HH := Lib.hid h
    have i1 : ((f : Int) != 0) = true := by simp; omega
    have i2 : ¬ (f : Int) = 0 := by omega
    clear h hb hr hv
    go_enter Tryd.func54, Tryd.ntmps54
    go_wp2_with fail
    go_ret
    exact ⟨rfl, HH.out, Same.refl _ _⟩
set_option maxHeartbeats 2000000 in
set_option maxRecDepth 100000 in
theorem rsmall_any (g : Nat) (B : Option Nat) (l : List UInt8) (s : RS) (a b : Nat) (w : World) (h : RRd w g B l s) (ha : a ≤ 281474976710656) (hb : b ≤ 281474976710656) :
    Calls Tryd.prog 53 #[.pointer (some ⟨g, 0, none⟩), .int .i64 (a : Int), .int .i64 (b : Int)] w fun e w' => e = .returned (.int .i64 (if (numbS l a b s).2.f = 0 then ((numbS l a b s).1 : Int) else 0)) ∧ RRd w' g B l (numbS l a b s).2 ∧ Same (at1 g) w w' := by
  have hc := rrnum_any g B l s maxN w h (by decide)
  have hlt := numS_lt (l := l) (m := maxN) (s := s) (by decide)
  have hN : numbS l a b s = ((numS l maxN s).1, if (numS l maxN s).2.f = 0 ∧ ((numS l maxN s).1 < a ∨ b < (numS l maxN s).1) then ⟨(numS l maxN s).2.at_, 30⟩ else (numS l maxN s).2) := rfl
  rw [hN]
  generalize numS l maxN s = p at *
  obtain ⟨n, s1⟩ := p
  simp only at hlt hc ⊢
  have hlt2 : n ≤ 281474976710655 := hlt
  have HC : Hid (Calls Tryd.prog 54 #[.pointer (some ⟨g, 0, none⟩), .int .u64 281474976710655] w (RRPost g B l (n, s1) w)) := Lib.hid hc
  obtain ⟨ok, hok⟩ : ∃ ok : Bool, ok = decide (a ≤ n ∧ n ≤ b) := ⟨_, rfl⟩
  have hs2 : (if s1.f = 0 ∧ (n < a ∨ b < n) then (⟨s1.at_, 30⟩ : RS) else s1) = if ok then s1 else failS 30 s1 := by
    unfold failS
    by_cases h1 : a ≤ n ∧ n ≤ b
    · rw [hok, decide_eq_true h1, if_neg (by omega), if_pos rfl]
    · rw [hok, decide_eq_false h1]
      simp only [Bool.false_eq_true, if_false]
      by_cases h2 : s1.f = 0
      · rw [if_pos ⟨h2, by omega⟩, if_pos h2]
      · rw [if_neg (fun h => h2 h.1), if_neg h2]
  rw [hs2]
  have wa : (a : Int) % 18446744073709551616 = (a : Int) := by omega
  have wb : (b : Int) % 18446744073709551616 = (b : Int) := by omega
  have wn : wrap64 (n : Int) = (n : Int) := by unfold wrap64; omega
  have hw := fun (w' : World) (hh : RRd w' g B l s1) => want_any g B l s1 ok w' hh
  generalize hS2 : (if ok then s1 else failS 30 s1) = S2 at *
  have HW := Lib.hid hw; have HOK := Lib.hid hok
  clear hc h hN hlt hs2 hS2 hw hok
  go_enter Tryd.func53, Tryd.ntmps53
  go_wp2_with fail
  refine HC.out.mono ?_
  rintro e w1 ⟨rfl, hr, hs⟩
  simp only at hr ⊢
  have HW1 := Lib.hid (HW.out _ hr); have HS := Lib.hid hs
  clear hr hs HC HW
  have hfin : ∀ w2, RRd w2 g B l S2 → Same (at1 g) w1 w2 → True := fun _ _ _ => trivial
  clear hfin
  by_cases h1 : a ≤ n
  · have i1 : (a : Int) ≤ (n : Int) := by omega
    by_cases h2 : n ≤ b
    · have hok : ok = true := by rw [HOK.out]; exact decide_eq_true ⟨h1, h2⟩
      subst hok
      have i2 : (n : Int) ≤ (b : Int) := by omega
      go_wp2_with fail
      refine HW1.out.mono ?_
      rintro e w2 ⟨rfl, hr2, hs2⟩
      have HR2 := Lib.hid hr2; have HS2 := Lib.hid (HS.out.trans hs2 (fun _ _ h => h))
      obtain ⟨v2, -, hb2, -⟩ := hr2.ex
      have z1 := hb2.cell_some (i := 1) rfl
      obtain ⟨at2, f2⟩ := S2
      simp only at z1 ⊢
      clear hr2 hs2 hb2 HW1
      by_cases hf : f2 = 0
      · subst hf
        go_wp2_with fail
        go_ret
        exact ⟨rfl, HR2.out, HS2.out⟩
      · have j1 : ((f2 : Int) != 0) = true := by simp; omega
        have j2 : ¬ (f2 : Int) = 0 := by omega
        go_wp2_with fail
        go_ret
        refine ⟨?_, HR2.out, HS2.out⟩
        first | rfl | (rw [if_neg hf]; rfl) | simp [hf]
    · have hok : ok = false := by rw [HOK.out]; exact decide_eq_false (fun h => h2 h.2)
      subst hok
      have i2 : ¬ (n : Int) ≤ (b : Int) := by omega
      go_wp2_with fail
      refine HW1.out.mono ?_
      rintro e w2 ⟨rfl, hr2, hs2⟩
      have HR2 := Lib.hid hr2; have HS2 := Lib.hid (HS.out.trans hs2 (fun _ _ h => h))
      obtain ⟨v2, -, hb2, -⟩ := hr2.ex
      have z1 := hb2.cell_some (i := 1) rfl
      obtain ⟨at2, f2⟩ := S2
      simp only at z1 ⊢
      clear hr2 hs2 hb2 HW1
      by_cases hf : f2 = 0
      · subst hf
        go_wp2_with fail
        go_ret
        exact ⟨rfl, HR2.out, HS2.out⟩
      · have j1 : ((f2 : Int) != 0) = true := by simp; omega
        have j2 : ¬ (f2 : Int) = 0 := by omega
        go_wp2_with fail
        go_ret
        refine ⟨?_, HR2.out, HS2.out⟩
        first | rfl | (rw [if_neg hf]; rfl) | simp [hf]
  · have hok : ok = false := by rw [HOK.out]; exact decide_eq_false (fun h => h1 h.1)
    subst hok
    have i1 : ¬ (a : Int) ≤ (n : Int) := by omega
    go_wp2_with fail
    refine HW1.out.mono ?_
    rintro e w2 ⟨rfl, hr2, hs2⟩
    have HR2 := Lib.hid hr2; have HS2 := Lib.hid (HS.out.trans hs2 (fun _ _ h => h))
    obtain ⟨v2, -, hb2, -⟩ := hr2.ex
    have z1 := hb2.cell_some (i := 1) rfl
    obtain ⟨at2, f2⟩ := S2
    simp only at z1 ⊢
    clear hr2 hs2 hb2 HW1
    by_cases hf : f2 = 0
    · subst hf
      go_wp2_with fail
      go_ret
      exact ⟨rfl, HR2.out, HS2.out⟩
    · have j1 : ((f2 : Int) != 0) = true := by simp; omega
      have j2 : ¬ (f2 : Int) = 0 := by omega
      go_wp2_with fail
      go_ret
      refine ⟨?_, HR2.out, HS2.out⟩
      first | rfl | (rw [if_neg hf]; rfl) | simp [hf]
end Go.Proofs.YtghjffgaebnhiaaDoor
