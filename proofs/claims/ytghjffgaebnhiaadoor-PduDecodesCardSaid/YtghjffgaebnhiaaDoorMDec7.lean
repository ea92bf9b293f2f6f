/- pdu.readReport. -/
import Derived.Test.YtghjffgaebnhiaaDoorMDec6
import Derived.Test.YtghjffgaebnhiaaDoorMParseLaw
namespace Go.Proofs.YtghjffgaebnhiaaDoor
set_option linter.unusedVariables false
set_option linter.unusedSimpArgs false
open Go.RowKit
theorem rangesS_bad {l : List UInt8} {k e : Nat} {first : Bool} {s : RS} {got : List (Int × Int)} (h : s.f ≠ 0) : rangesS l k first e s got = (got, s) := by
  cases k with
  | zero => rfl
  | succ k => rw [rangesS, if_pos h]
set_option maxHeartbeats 8000000 in
set_option maxRecDepth 100000 in
theorem readReport_any (g q : Nat) (v : Value) (l : List UInt8) (s : RS) (u : UD) (w : World) (h : Rdr w g v l s) (hu : UAt w q u (.slice none 0 0) (.slice none 0 0) w.heap.size) (hq : q ≠ g) (hv : v.ownBlock ≠ some q) (hvl : ∀ b, v.ownBlock = some b → b < w.heap.size) :
    Calls Tryd.prog 76 #[.pointer (some ⟨g, 0, none⟩), .pointer (some ⟨q, 0, none⟩)] w (ReadPost g q w.heap.size v l (reportS l u s) w) := by
  have hgl : g < w.heap.size := Blk.lt h.cells
  have hql : q < w.heap.size := hu.blk.lt
  obtain ⟨hblk, hd0, hg0⟩ := hu
  have hdn : u.data = [] := by
    have := hd0.1
    rcases hd0.2 with ⟨_, h⟩ | ⟨_, _, _, h, _⟩
    · exact List.eq_nil_of_length_eq_zero h
    · cases h
  have hgn : u.got = [] := by
    rcases hg0.2 with ⟨_, h⟩ | ⟨_, _, _, h, _⟩
    · exact List.eq_nil_of_length_eq_zero h
    · cases h
  obtain ⟨kind, ep, ses, path, idx, cnt, data, code, got⟩ := u
  simp only at hdn hgn hblk hd0 hg0
  subst hdn
  subst hgn
  obtain ⟨P, hPQ⟩ : ∃ P, P = reportS l ⟨kind, ep, ses, path, idx, cnt, [], code, []⟩ s := ⟨_, rfl⟩
  rw [← hPQ]
  unfold reportS reportS2 reportS3 at hPQ
  have hc1 := numb_any g v l s 0 7 w h (by decide) (by decide)
  have hl1 := numbS_lt (l := l) (a := 0) (b := 7) (s := s)
  generalize numbS l 0 7 s = p1 at *
  obtain ⟨c, s1⟩ := p1
  have hc2 := fun (w' : World) (hh : Rdr w' g v l s1) => numb_any g v l s1 0 32 w' hh (by decide) (by decide)
  have hl2 := numbS_lt (l := l) (a := 0) (b := 32) (s := s1)
  simp only at hPQ hl1
  generalize numbS l 0 32 s1 = p2 at *
  obtain ⟨n, s2⟩ := p2
  simp only at hPQ hl2
  have w1 : wrap64 (c : Int) = (c : Int) := by unfold wrap64; omega
  obtain ⟨e1, he1⟩ : ∃ e1, e1 = ep.toNat := ⟨_, rfl⟩
  obtain ⟨e2, he2⟩ : ∃ e2, e2 = ses.toNat := ⟨_, rfl⟩
  rw [← he1, ← he2] at hblk
  have HC1 := Lib.hid hc1; have HC2 := Lib.hid hc2; have HB := Lib.hid hblk; have HPQ := Lib.hid hPQ
  have HE1 := Lib.hid he1; have HE2 := Lib.hid he2; have HVL := Lib.hid hvl; have HQL := Lib.hid hql; have HGL := Lib.hid hgl
  clear hc1 hc2 h hblk he1 he2 hl1 hd0 hg0 hPQ hvl hql hgl
  go_enter Tryd.func76, Tryd.ntmps76
  go_wp2_with fail
  refine HC1.out.mono ?_
  rintro e wa ⟨rfl, hr1, hs1⟩
  simp only at hr1 ⊢
  have hb1 := HB.out.same hs1 hq
  have z := hb1.cell_some (i := 7) rfl
  have f := hb1.frozen 7
  have hb2 := hb1.set 7 (.int .i64 (c : Int))
  simp only [List.set_cons_zero, List.set_cons_succ] at hb2
  have hra := hr1.store hq hv 7 (.int .i64 (c : Int))
  have hsa := same2_store (q := q) (same2_g (Same.refl _ w) hs1) 7 (.int .i64 (c : Int))
  generalize hWA : wa.setCell ⟨q, 7, none⟩ (.int .i64 (c : Int)) = WA at hb2 hra hsa
  have HWA := Lib.hid hWA
  have herr := rerr_any g v s1.at_ s1.f WA hra.cells
  have HER := Lib.hid herr
  have HBA := Lib.hid hb2; have HRA := Lib.hid hra; have HSA := Lib.hid hsa
  clear hb1 hb2 hr1 hs1 hra hsa herr hWA
  go_wp2_with fail
  rw [HWA.out]
  obtain ⟨at1_, f1⟩ := s1
  simp only at HER ⊢
  have z7 := HBA.out.cell_some (i := 7) rfl
  refine HER.out.mono ?_
  rintro e wb ⟨rfl, rfl⟩
  simp only at *
  by_cases hf1 : f1 ≠ 0 ∨ c ≠ 0
  · have HPP : Hid (P = (withCode ⟨kind, ep, ses, path, idx, cnt, [], code, []⟩ c [], ⟨at1_, f1⟩)) := Lib.hid (by rw [HPQ.out, if_pos hf1])
    have HUA : Hid (UAt wb q (withCode ⟨kind, ep, ses, path, idx, cnt, [], code, []⟩ c []) (.slice none 0 0) (.slice none 0 0) w.heap.size) := Lib.hid ⟨by
      unfold withCode
      rw [← HE1.out, ← HE2.out]
      exact HBA.out, World.ownsRow_nil _ _ _ _, World.ownsRow_nil _ _ _ _⟩
    by_cases h1 : f1 = 0
    · subst h1
      have hc0 : c ≠ 0 := by omega
      have i1 : ((c : Int) != 0) = true := by simp; omega
      have i2 : ¬ (c : Int) = 0 := by omega
      clear hf1
      go_wp2_with fail
      go_end0
      unfold ReadPost
      rw [HPP.out]
      exact ⟨_, _, rfl, HRA.out, HUA.out, HSA.out⟩
    · have i1 : ((f1 : Int) != 0) = true := by simp; omega
      have i2 : ¬ (f1 : Int) = 0 := by omega
      clear hf1
      go_wp2_with fail
      go_end0
      unfold ReadPost
      rw [HPP.out]
      exact ⟨_, _, rfl, HRA.out, HUA.out, HSA.out⟩
  · have h1 : f1 = 0 := by omega
    have h2 : c = 0 := by omega
    subst h1
    subst h2
    have HPP : Hid (P = (withCode ⟨kind, ep, ses, path, idx, cnt, [], code, []⟩ 0 (rangesS l n true 0 s2 []).1, (rangesS l n true 0 s2 []).2)) := Lib.hid (by rw [HPQ.out, if_neg hf1])
    clear hf1
    go_wp2_with fail
    refine (HC2.out _ HRA.out).mono ?_
    rintro e wc ⟨rfl, hr2, hs2⟩
    simp only at hr2 ⊢
    have HR2 := Lib.hid hr2; have HS2 := Lib.hid (same2_g HSA.out hs2); have HB2 := Lib.hid (HBA.out.same hs2 hq)
    clear hr2 hs2 z7
    go_wp2_with fail
    simp only [Int.natCast_zero, Int.ofNat_zero]
    go_loopw [5, 6, 7, 8] (fun ev iv _ _ wr => ∃ (i e : Nat) (s : RS) (got : List (Int × Int)) (gv : Value), iv = .int .u64 (i : Int) ∧ ev = .int .u64 (e : Int) ∧ i ≤ n ∧ e ≤ 64 ∧ got.length ≤ e ∧ Hid (rangesS l (n - i) (decide (i = 0)) e s got = rangesS l n true 0 s2 []) ∧ Hid (Rdr wr g v l s) ∧ Hid (Blk wr q 26 [.int .i64 kind, .int .u64 (e1 : Int), .int .u64 (e2 : Int), .int .i64 path, .int .i64 idx, .int .i64 cnt, .slice none 0 0, .int .i64 0, gv]) ∧ Hid (wr.ownsRow w.heap.size 57 2 gv got.length (rvs got)) ∧ Hid (Same (at2 g q) w wr)) (fun _ iv _ _ _ => n - (intOf iv).toNat)
    case atStart => exact ⟨0, 0, s2, [], .slice none 0 0, rfl, rfl, Nat.zero_le _, by omega, Nat.zero_le _, Lib.hid (by rw [Nat.sub_zero]; rfl), HR2, HB2, Lib.hid (World.ownsRow_nil _ _ _ _), HS2⟩
    case round =>
      clear HR2 HB2 HS2 HC2 HRA HBA HSA HB HC1 HER HWA
      obtain ⟨i, e, s, got, gv, rfl, rfl, hin, he64, hge, HT, HR, HBK, HO, HS⟩ := hrel
      obtain ⟨at_, f⟩ := s
      have HER := Lib.hid (rerr_any g v at_ f wr HR.out.cells)
      have hfin : rangesS l n true 0 s2 [] = (got, ⟨at_, f⟩) → ReadPost g q w.heap.size v l P w (.returned (.tuple #[])) wr := fun hh => by
        unfold ReadPost
        rw [HPP.out, hh]
        exact ⟨_, _, rfl, HR.out, ⟨by unfold withCode; rw [← HE1.out, ← HE2.out]; exact HBK.out, World.ownsRow_nil _ _ _ _, HO.out⟩, HS.out⟩
      have HFIN := Lib.hid hfin
      clear hfin
      by_cases hlt : i < n
      · have ix : (i : Int) < (n : Int) := by omega
        obtain ⟨k, hk⟩ : ∃ k, n - i = k + 1 := ⟨n - i - 1, by omega⟩
        rw [hk] at HT
        by_cases hf : f = 0
        · subst hf
          have hc1 := rnum_any g v l ⟨at_, 0⟩ maxN wr HR.out (by decide)
          have hl1 := numS_lt (l := l) (m := maxN) (s := ⟨at_, 0⟩) (by decide)
          have hT := HT.out
          rw [rangesS, if_neg (by simp)] at hT
          generalize numS l maxN ⟨at_, 0⟩ = p1 at *
          obtain ⟨a, s3⟩ := p1
          have hc2 := fun (w' : World) (hh : Rdr w' g v l s3) => rnum_any g v l s3 maxN w' hh (by decide)
          have hl2 := numS_lt (l := l) (m := maxN) (s := s3) (by decide)
          simp only at hT hl1 hc1
          generalize numS l maxN s3 = p2 at *
          obtain ⟨b, s4⟩ := p2
          simp only at hT hl2
          have hc1' : Calls Tryd.prog 84 #[.pointer (some ⟨g, 0, none⟩), .int .u64 281474976710655] wr (RNumPost g v l (a, s3) wr) := hc1
          have hc2' : ∀ w', Rdr w' g v l s3 → Calls Tryd.prog 84 #[.pointer (some ⟨g, 0, none⟩), .int .u64 281474976710655] w' (RNumPost g v l (b, s4) w') := hc2
          have hl1' : a ≤ 281474976710655 := hl1
          have hl2' : b ≤ 281474976710655 := hl2
          have HC1 := Lib.hid hc1'; have HC2 := Lib.hid hc2'; have HTT := Lib.hid hT
          clear hc1 hc2 hc1' hc2' hl1 hl2 hT HFIN
          go_wp2_with fail
          refine HER.out.mono ?_
          rintro e' w5 ⟨rfl, rfl⟩
          go_wp2_with fail
          refine HC1.out.mono ?_
          rintro e' w6 ⟨rfl, hr6, hs6⟩
          simp only at hr6 ⊢
          have HC26 := Lib.hid (HC2.out _ hr6)
          have HS6 := Lib.hid (same2_g HS.out hs6); have HB6 := Lib.hid (HBK.out.same hs6 hq)
          have HO6 := Lib.hid (own_same HO.out hs6 (fun b' hb' h => by
            have h' : b' = g := h
            subst h'
            exact own_blk_ne HO.out HR.out.cells (by decide) hb'))
          clear hr6 hs6 HC1 HC2
          go_wp2_with fail
          refine HC26.out.mono ?_
          rintro e' w7 ⟨rfl, hr7, hs7⟩
          simp only at hr7 ⊢
          have HS7 := Lib.hid (same2_g HS6.out hs7); have HB7 := Lib.hid (HB6.out.same hs7 hq)
          have HO7 := Lib.hid (own_same HO6.out hs7 (fun b' hb' h => by
            have h' : b' = g := h
            subst h'
            exact own_blk_ne HO.out HR.out.cells (by decide) hb'))
          have HR7 := Lib.hid hr7
          have HER7 := Lib.hid (rerr_any g v s4.at_ s4.f w7 hr7.cells)
          have HF7 := Lib.hid (rfail_rdr g v l s4 30 w7 hr7)
          clear hr7 hs7 HC26 HS6 HB6 HO6
          have hfin7 : ∀ w' s', rangesS l n true 0 s2 [] = (got, s') → Rdr w' g v l s' → Same (at1 g) w7 w' → ReadPost g q w.heap.size v l P w (.returned (.tuple #[])) w' := fun w' s' hh hr hs => by
            unfold ReadPost
            rw [HPP.out, hh]
            exact ⟨_, _, rfl, hr, ⟨by unfold withCode; rw [← HE1.out, ← HE2.out]; exact HB7.out.same hs hq, World.ownsRow_nil _ _ _ _, own_same HO7.out hs (fun b' hb' h => by
              have h' : b' = g := h
              subst h'
              exact own_blk_ne HO7.out HR7.out.cells (by decide) hb')⟩, same2_g HS7.out hs⟩
          have HFIN := Lib.hid hfin7
          clear hfin7
          obtain ⟨at4, f4⟩ := s4
          simp only at HER7 HTT HF7 HFIN
          go_wp2_with fail
          refine HER7.out.mono ?_
          rintro e' w8 ⟨rfl, rfl⟩
          by_cases hf4 : f4 = 0
          · subst hf4
            have hTT := HTT.out
            rw [if_neg (by simp)] at hTT
            by_cases hbad : (a = 0 ∧ decide (i = 0) = false) ∨ b = 0 ∨ 64 < e + a + b
            · rw [if_pos hbad] at hTT
              have HTB := Lib.hid (hTT.symm)
              have hbad' : (a = 0 ∧ 0 < i) ∨ b = 0 ∨ 64 < e + a + b := by
                rcases hbad with ⟨h1, h2⟩ | h | h
                · exact .inl ⟨h1, by simp at h2; omega⟩
                · exact .inr (.inl h)
                · exact .inr (.inr h)
              have HBAD := Lib.hid hbad'
              clear hTT hbad hbad' HTT
              go_wp2_with fail
              all_goals first
                | (refine HF7.out.mono ?_
                   rintro e' w9 ⟨rfl, hr9, hs9⟩
                   have HFI := Lib.hid (HFIN.out w9 _ HTB.out (by rw [failS, if_pos rfl] at hr9; exact hr9) hs9)
                   clear hr9 hs9
                   go_wp2_with fail
                   go_end0
                   exact HFI.out)
                | (exfalso; have := HBAD.out; omega)
            · rw [if_neg hbad] at hTT
              obtain ⟨B, hB⟩ : ∃ B, B = e + a + b := ⟨_, rfl⟩
              have hxy : (((e + a : Nat) : Int), ((e + a + b : Nat) : Int)) = ((e : Int) + (a : Int), (e : Int) + (a : Int) + (b : Int)) := by rw [Int.natCast_add, Int.natCast_add, Int.natCast_add]
              rw [hxy, ← hB] at hTT
              have HTB := Lib.hid hTT
              have hok : ¬ (a = 0 ∧ 0 < i) ∧ b ≠ 0 ∧ B ≤ 64 := by
                refine ⟨fun h => hbad (.inl ⟨h.1, by simp; omega⟩), fun h => hbad (.inr (.inl h)), ?_⟩
                rcases Nat.lt_or_ge 64 B with h | h
                · exact absurd (.inr (.inr (by omega))) hbad
                · exact h
              obtain ⟨k1, k2, k3⟩ := hok
              have hb0 : ((b : Int) == 0) = false := by simp; omega
              have hb1 : ¬ (b : Int) = 0 := by omega
              have hB64 : ¬ (64 : Int) < (e : Int) + (a : Int) + (b : Int) := by omega
              have HEV : Hid ((e : Int) + ((a : Int) + (b : Int)) = (B : Int)) := Lib.hid (by omega)
              have HK1 : Hid (n - (i + 1) = k) := Lib.hid (by omega)
              obtain ⟨ga, gc, rfl, -⟩ := own_open HO7.out
              have z8 := HB7.out.cell_some (i := 8) rfl
              have f8 := HB7.out.frozen 8
              have hgeB : got.length + 1 ≤ B := by omega
              obtain ⟨G, hG⟩ : ∃ G, G = got.length := ⟨_, rfl⟩
              have hG16 : (G + 1) * 16 ≤ 140737488355328 := by omega
              have ho8 := HO7.out
              rw [← hG] at ho8 z8
              have HGG := Lib.hid hG
              have hsz : w.heap.size ≤ w8.heap.size := HS7.out.size
              have hqs : q < w8.heap.size := HB7.out.lt
              have HO8 := Lib.hid ho8
              have HGB := Lib.hid hgeB
              have HIT : i + 1 ≤ n := by omega
              have HB64 : Hid (B ≤ 64) := Lib.hid k3
              have hab : a ≤ 64 ∧ b ≤ 64 := by omega
              obtain ⟨ha64, hb64⟩ := hab
              clear hTT hbad HTT hB ho8 hG HF7 HFIN HER7 hge hxy k3 hgeB
              have key : ∀ (X Y : Int) (va : Option Addr) (vc : Nat) (w9 : World), w9.ownsRow w.heap.size 57 2 (.slice va (G + 1) vc) (G + 1) (rvs got ++ [.int .i64 X, .int .i64 Y]) → w8.grownBy w9 (Value.slice ga G gc).ownBlock →
                  Hid (Rdr (w9.setCell ⟨q, 8, none⟩ (.slice va (G + 1) vc)) g v l ⟨at4, 0⟩) ∧ Hid (Blk (w9.setCell ⟨q, 8, none⟩ (.slice va (G + 1) vc)) q 26 [.int .i64 kind, .int .u64 (e1 : Int), .int .u64 (e2 : Int), .int .i64 path, .int .i64 idx, .int .i64 cnt, .slice none 0 0, .int .i64 0, .slice va (G + 1) vc]) ∧
                  Hid ((w9.setCell ⟨q, 8, none⟩ (.slice va (G + 1) vc)).ownsRow w.heap.size 57 2 (.slice va (G + 1) vc) (got ++ [(X, Y)]).length (rvs (got ++ [(X, Y)]))) ∧ Hid (Same (at2 g q) w (w9.setCell ⟨q, 8, none⟩ (.slice va (G + 1) vc))) := by
                intro X Y va vc w9 ho hgr
                have hrow : ∀ k, (Value.slice ga G gc).ownBlock = some k → w.heap.size ≤ k := fun k hk => (HO8.out.lt k hk).1
                have hs9 : Same (fun k => w.heap.size ≤ k) w8 w9 := (Same.of_grown hgr).mono (fun i hi h => hrow i h.symm)
                have hr9 : Rdr w9 g v l ⟨at4, 0⟩ := HR7.out.same hs9 (fun h => by have h' : w.heap.size ≤ g := h; have := HGL.out; omega) (fun b hb h => by have h' : w.heap.size ≤ b := h; have := HVL.out b hb; omega)
                have hb9 := HB7.out.same hs9 (fun h => by have h' : w.heap.size ≤ q := h; have := HQL.out; omega)
                have hb10 := hb9.set 8 (.slice va (G + 1) vc)
                simp only [List.set_cons_zero, List.set_cons_succ] at hb10
                refine ⟨Lib.hid (hr9.store hq hv 8 _), Lib.hid hb10, Lib.hid ?_, Lib.hid (same2_store (HS7.out.trans (hs9.mono (T := fun k => w.heap.size ≤ k) (fun _ _ h => h)) (fun i hi h => by have h' : w.heap.size ≤ i := h; omega)) 8 _)⟩
                rw [rvs_app, List.length_append, ← HGG.out]
                exact own_same ho (at1_set w9 q 8 _) (fun b hb e => by
                  have e' : b = q := e
                  subst e'
                  exact own_blk_ne ho hb9 (by decide) hb)
              have KEY := Lib.hid key
              clear key
              by_cases ha : a = 0
              · have hi0 : ¬ (0 : Int) < (i : Int) := by omega
                subst ha
                go_wp2_with (at_builtin; go_loud (refine wpList_app1 El.range rfl (.tmp 68) (.tmp 80) rfl HO8.out rfl (cs := #[.int .i64 (e : Int), .int .i64 ((e : Int) + (b : Int))]) rfl rfl (by simp [Value.oneCell']) hG16 hsz ?_); intro v9 w9 hown9 hgr9 _; obtain ⟨va, vc, rfl, -⟩ := own_open hown9; obtain ⟨K1, K2, K3, K4⟩ := KEY.out _ _ va vc w9 hown9 hgr9; have z9 := hgr9.cell (a := ⟨q, 8, none⟩) z8 (fun e => own_blk_ne HO8.out HB7.out (by decide) e.symm); have f9 := (Same.of_grown hgr9).frozen (p := ⟨q, 8, none⟩) hqs (fun e => own_blk_ne HO8.out HB7.out (by decide) e.symm); rw [f8] at f9; clear hown9 hgr9)
                go_roundw
                case rel => exact ⟨i + 1, B, ⟨at4, 0⟩, got ++ [((e : Int), (e : Int) + (b : Int))], _, by go_num, by have := HEV.out; congr 1; try omega, HIT, HB64.out, by simpa using HGB.out, Lib.hid (by
                  rw [HK1.out]
                  exact HTB.out), K1, K2, K3, K4⟩
                case measure => simp [intOf]; omega
              · have ha1 : ((a : Int) == 0) = false := by simp; omega
                have ha2 : ¬ (a : Int) = 0 := by omega
                go_wp2_with (at_builtin; go_loud (refine wpList_app1 El.range rfl (.tmp 68) (.tmp 80) rfl HO8.out rfl (cs := #[.int .i64 ((e : Int) + (a : Int)), .int .i64 ((e : Int) + (a : Int) + (b : Int))]) rfl rfl (by simp [Value.oneCell']) hG16 hsz ?_); intro v9 w9 hown9 hgr9 _; obtain ⟨va, vc, rfl, -⟩ := own_open hown9; obtain ⟨K1, K2, K3, K4⟩ := KEY.out _ _ va vc w9 hown9 hgr9; have z9 := hgr9.cell (a := ⟨q, 8, none⟩) z8 (fun e => own_blk_ne HO8.out HB7.out (by decide) e.symm); have f9 := (Same.of_grown hgr9).frozen (p := ⟨q, 8, none⟩) hqs (fun e => own_blk_ne HO8.out HB7.out (by decide) e.symm); rw [f8] at f9; clear hown9 hgr9)
                go_roundw
                case rel => exact ⟨i + 1, B, ⟨at4, 0⟩, got ++ [((e : Int) + (a : Int), (e : Int) + (a : Int) + (b : Int))], _, by go_num, by have := HEV.out; congr 1; try omega, HIT, HB64.out, by simpa using HGB.out, Lib.hid (by
                  rw [HK1.out]
                  exact HTB.out), K1, K2, K3, K4⟩
                case measure => simp [intOf]; omega
          · have i1 : ((f4 : Int) != 0) = true := by simp; omega
            have i2 : ¬ (f4 : Int) = 0 := by omega
            have hTT := HTT.out
            rw [if_pos hf4] at hTT
            have HFI := Lib.hid (HFIN.out w8 _ hTT.symm HR7.out (Same.refl _ _))
            clear hTT
            go_wp2_with fail
            go_end0
            exact HFI.out
        · have i1 : ((f : Int) == 0) = false := by simp; omega
          have i2 : ¬ (f : Int) = 0 := by omega
          have HFI := Lib.hid (HFIN.out (by rw [← HT.out, rangesS_bad (by exact hf)]))
          go_wp2_with fail
          refine HER.out.mono ?_
          rintro e' w5 ⟨rfl, rfl⟩
          go_wp2_with fail
          go_end0
          exact HFI.out
      · obtain rfl : i = n := by omega
        have HFI := Lib.hid (HFIN.out (by rw [← HT.out, Nat.sub_self]; rfl))
        go_wp2_with fail
        go_end0
        exact HFI.out
end Go.Proofs.YtghjffgaebnhiaaDoor
