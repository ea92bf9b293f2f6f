/- The reference's ranges. -/
import Derived.Test.YtghjffgaebnhiaaDoorMRDec4
import Derived.Test.YtghjffgaebnhiaaDoorMDec7
namespace Go.Proofs.YtghjffgaebnhiaaDoor
set_option linter.unusedVariables false
set_option linter.unusedSimpArgs false
open Go.RowKit
def RgPost (g : Nat) (B : Option Nat) (l : List UInt8) (p : List (Int × Int) × RS) (w : World) (e : Ending) (w' : World) : Prop :=
  ∃ (gv : Value) (L : List (Int × Int)), e = .returned gv ∧ w'.ownsRow w.heap.size 57 2 gv L.length (rvs L) ∧ (p.2.f = 0 → L = p.1) ∧ RRd w' g B l p.2 ∧ Same (at1 g) w w'
set_option maxHeartbeats 8000000 in
set_option maxRecDepth 100000 in
theorem ranges_ref (g : Nat) (B : Option Nat) (l : List UInt8) (s : RS) (w : World) (h : RRd w g B l s) (hvl : ∀ b, B = some b → b < w.heap.size) :
    Calls Tryd.prog 57 #[.pointer (some ⟨g, 0, none⟩)] w (RgPost g B l (rangesS l (numbS l 0 32 s).1 true 0 (numbS l 0 32 s).2 []) w) := by
  have hgl := h.lt
  have hc1 := rsmall_any g B l s 0 32 w h (by decide) (by decide)
  have hok := fun hh => (numbS_ok (l := l) (a := 0) (b := 32) (s := s) h.le hh)
  generalize numbS l 0 32 s = p1 at *
  obtain ⟨n0, s2⟩ := p1
  simp only at hc1 hok ⊢
  obtain ⟨P, hP⟩ : ∃ P, P = rangesS l n0 true 0 s2 [] := ⟨_, rfl⟩
  rw [← hP]
  obtain ⟨n, hn⟩ : ∃ n : Nat, n = if s2.f = 0 then n0 else 0 := ⟨_, rfl⟩
  have hn2 : (if s2.f = 0 then (n0 : Int) else 0) = (n : Int) := by rw [hn]; split <;> rfl
  rw [hn2] at hc1
  have hn32 : n ≤ 32 := by
    rw [hn]
    split
    · next hh => exact (hok hh).2.2.1
    · omega
  have hP2 : P = rangesS l n true 0 s2 [] := by
    rw [hP, hn]
    split
    · rfl
    · next hh => rw [rangesS_bad hh, rangesS_bad hh]
  have hz : s2.f ≠ 0 → n = 0 := fun hh => by rw [hn, if_neg hh]
  have HC1 := Lib.hid hc1; have HP2 := Lib.hid hP2; have HZ := Lib.hid hz; have HVL := Lib.hid hvl; have HGL := Lib.hid hgl
  clear hc1 hok hP hn hn2 hP2 hz h hvl hgl
  go_enter Tryd.func57, Tryd.ntmps57
  go_wp2_with fail
  refine HC1.out.mono ?_
  rintro e w1 ⟨rfl, hr1, hs1⟩
  have HR1 := Lib.hid hr1; have HS1 := Lib.hid hs1
  clear hr1 hs1 HC1
  go_wp2_with fail
  go_loopw [3, 5, 6, 7, 8] (fun gv ev iv _ _ wr => ∃ (i e : Nat) (s : RS) (got : List (Int × Int)), i ≤ n ∧ iv = .int .i64 (i : Int) ∧ ev = .int .i64 (e : Int) ∧ e ≤ 64 ∧ got.length ≤ e ∧ Hid (i < n → s.f = 0) ∧ Hid (rangesS l (n - i) (decide (i = 0)) e s got = P) ∧ Hid (RRd wr g B l s) ∧ Hid (wr.ownsRow w.heap.size 57 2 gv got.length (rvs got)) ∧ Hid (Same (at1 g) w wr)) (fun _ _ iv _ _ _ => n - (intOf iv).toNat)
  case atStart => exact ⟨0, 0, s2, [], Nat.zero_le _, rfl, rfl, by omega, Nat.zero_le _, Lib.hid (fun h => by
    by_cases hh : s2.f = 0
    · exact hh
    · have := HZ.out hh; omega), Lib.hid (by rw [Nat.sub_zero, HP2.out]; rfl), HR1, Lib.hid (World.ownsRow_nil _ _ _ _), HS1⟩
  case round =>
    clear HR1 HS1
    obtain ⟨i, e, s, got, hin, rfl, rfl, he64, hge, HF0, HT, HR, HO, HS⟩ := hrel
    by_cases hlt : i < n
    · have ix : (i : Int) < (n : Int) := by omega
      obtain ⟨k, hk⟩ : ∃ k, n - i = k + 1 := ⟨n - i - 1, by omega⟩
      have hf0 := HF0.out hlt
      obtain ⟨at_, f⟩ := s
      simp only at hf0
      subst hf0
      obtain ⟨v0, -, hb0, -⟩ := HR.out.ex
      have z1 := hb0.cell_some (i := 1) rfl
      have hc1 := rrnum_any g B l ⟨at_, 0⟩ maxN wr HR.out (by decide)
      have hl1 := numS_lt (l := l) (m := maxN) (s := ⟨at_, 0⟩) (by decide)
      have hT := HT.out
      rw [hk, rangesS, if_neg (by simp)] at hT
      generalize numS l maxN ⟨at_, 0⟩ = p1 at *
      obtain ⟨a, s3⟩ := p1
      have hc2 := fun (w' : World) (hh : RRd w' g B l s3) => rrnum_any g B l s3 maxN w' hh (by decide)
      have hl2 := numS_lt (l := l) (m := maxN) (s := s3) (by decide)
      simp only at hT hl1 hc1
      generalize numS l maxN s3 = p2 at *
      obtain ⟨b, s4⟩ := p2
      simp only at hT hl2
      have hc1' : Calls Tryd.prog 54 #[.pointer (some ⟨g, 0, none⟩), .int .u64 281474976710655] wr (RRPost g B l (a, s3) wr) := hc1
      have hc2' : ∀ w', RRd w' g B l s3 → Calls Tryd.prog 54 #[.pointer (some ⟨g, 0, none⟩), .int .u64 281474976710655] w' (RRPost g B l (b, s4) w') := hc2
      have hl1' : a ≤ 281474976710655 := hl1
      have hl2' : b ≤ 281474976710655 := hl2
      have HC1 := Lib.hid hc1'; have HC2 := Lib.hid hc2'; have HTT := Lib.hid hT
      have HKK := Lib.hid hk
      clear hc1 hc2 hc1' hc2' hl1 hl2 hT hb0 hk
      go_wp2_with fail
      refine HC1.out.mono ?_
      rintro e' w6 ⟨rfl, hr6, hs6⟩
      simp only at hr6 ⊢
      have HC26 := Lib.hid (HC2.out _ hr6)
      have HS6 := Lib.hid (HS.out.trans hs6 (fun _ _ h => h))
      obtain ⟨v0, -, hb0, -⟩ := HR.out.ex
      have HO6 := Lib.hid (own_same HO.out hs6 (fun b' hb' h => by
        have h' : b' = g := h
        subst h'
        exact own_blk_ne HO.out hb0 (by decide) hb'))
      clear hr6 hs6 HC1 HC2 z1 hb0
      go_wp2_with fail
      refine HC26.out.mono ?_
      rintro e' w7 ⟨rfl, hr7, hs7⟩
      simp only at hr7 ⊢
      have HS7 := Lib.hid (HS6.out.trans hs7 (fun _ _ h => h))
      obtain ⟨v0, -, hb0, -⟩ := hr7.ex
      have HO7 := Lib.hid (own_same HO6.out hs7 (fun b' hb' h => by
        have h' : b' = g := h
        subst h'
        have hlt7 := (HO6.out.lt _ hb').2
        obtain ⟨v6, -, hb6, -⟩ := HR.out.ex
        exact own_blk_ne (own_same HO.out (Same.refl no _) (fun _ _ h => h)) hb6 (by decide) hb'))
      have HR7 := Lib.hid hr7
      have HW := Lib.hid (fun ok => want_any g B l s4 ok w7 hr7)
      clear hr7 hs7 HC26 HS6 HO6 hb0
      by_cases hok : (a = 0 → i = 0) ∧ b ≠ 0 ∧ e + a + b ≤ 64
      · obtain ⟨k1, k2, k3⟩ := hok
        have hb0 : (0 : Int) < (b : Int) := by omega
        have h64 : (e : Int) + (a : Int) + (b : Int) ≤ 64 := by omega
        have ha64 : a ≤ 64 := by omega
        have hb64 : b ≤ 64 := by omega
        have HWT := Lib.hid (HW.out true)
        have hT2 := HTT.out
        have HHE := Lib.hid hge
        clear HTT HW
        by_cases hi0 : i = 0
        · have i1 : ((i : Int) == 0) = true := by simp; omega
          go_wp2_with fail
          refine HWT.out.mono ?_
          rintro e' w9 ⟨rfl, hr9, hs9⟩
          simp only [if_true] at hr9
          obtain ⟨v9, -, hb9, -⟩ := hr9.ex
          have z9 := hb9.cell_some (i := 1) rfl
          have HR9 := Lib.hid hr9; have HS9 := Lib.hid (HS7.out.trans hs9 (fun _ _ h => h)); have HB9 := Lib.hid hb9
          have HO9 := Lib.hid (own_same HO7.out hs9 (fun b' hb' h => by
            have h' : b' = g := h
            subst h'
            obtain ⟨v7, -, hb7, -⟩ := HR7.out.ex
            exact own_blk_ne HO7.out hb7 (by decide) hb'))
          obtain ⟨at4, f4⟩ := s4
          simp only at z9 hT2
          clear hr9 hs9 hb9 HWT
          by_cases hf4 : f4 = 0
          · subst hf4
            rw [if_neg (by simp), if_neg (by
              rintro (⟨h0, h1⟩ | h0 | h0)
              · exact absurd (k1 h0) (by simpa using h1)
              · omega
              · omega)] at hT2
            have hk1 : n - (i + 1) = k := by have := HKK.out; omega
            have hxy : (((e + a : Nat) : Int), ((e + a + b : Nat) : Int)) = ((e : Int) + (a : Int), (e : Int) + (a : Int) + (b : Int)) := by rw [Int.natCast_add, Int.natCast_add, Int.natCast_add]
            obtain ⟨T, hTT⟩ : ∃ T, T = e + a + b := ⟨_, rfl⟩
            rw [hxy, ← hTT] at hT2
            have HT2 := Lib.hid hT2; have HK1 := Lib.hid hk1
            have HTI : Hid ((e : Int) + (a : Int) + (b : Int) = (T : Int)) := Lib.hid (by omega)
            have HT64 : Hid (T ≤ 64) := Lib.hid (by omega)
            have HGT : Hid (got.length + 1 ≤ T) := Lib.hid (by have := HHE.out; omega)
            have HIN : i + 1 ≤ n := by omega
            obtain ⟨ga, gc, rfl, -⟩ := own_open HO9.out
            obtain ⟨G, hG⟩ : ∃ G, G = got.length := ⟨_, rfl⟩
            have hG16 : (G + 1) * 16 ≤ 140737488355328 := by have := HHE.out; omega
            have ho9 := HO9.out
            rw [← hG] at ho9 ⊢
            have HGG := Lib.hid hG; have HO10 := Lib.hid ho9
            have hsz : w.heap.size ≤ w9.heap.size := HS9.out.size
            clear hT2 hk1 hxy hTT ho9 hG
            go_wp2_with (at_builtin; go_loud (refine wpList_app1 El.range rfl (.tmp 66) (.tmp 68) rfl (HO10.out.alloc _) rfl (cs := #[.int .i64 ((e : Int) + (a : Int)), .int .i64 ((e : Int) + (a : Int) + (b : Int))]) (show Value.slice (some ⟨w9.heap.size + 1, 0, none⟩) 1 1 = Value.slice (some ⟨(w9.alloc _).heap.size, 0, none⟩) 1 1 by simp) rfl (by simp [Value.oneCell']) hG16 (by simp; omega) ?_); intro va wa hown hgr _; have hgr2 := grown_pre ((Below.refl _ _).alloc (Nat.le_refl _) _) hgr; have b1 : wa.cell? ⟨w9.heap.size, 1, none⟩ = some (.int .i64 ((e : Int) + (a : Int) + (b : Int))) := hgr.cell (a := ⟨w9.heap.size, 1, none⟩) ((Blk.new w9 57 [.int .i64 ((e : Int) + (a : Int)), .int .i64 ((e : Int) + (a : Int) + (b : Int))]).cell_some rfl) (fun e => by have := (HO10.out.lt _ e.symm).2; simp at this); have HOA := Lib.hid hown; have HGRW := Lib.hid hgr2; clear hown hgr hgr2)
            have hrow : ∀ q, (Value.slice ga G gc).ownBlock = some q → w.heap.size ≤ q := fun q hq => (HO10.out.lt q hq).1
            have hsw : Same (fun q => w.heap.size ≤ q) w9 wa := (Same.of_grown HGRW.out).mono (fun q hq h => hrow q h.symm)
            have hrw := HR9.out.same hsw (fun h => by have h' : w.heap.size ≤ g := h; have := HGL.out; omega) (fun b hb h => by have h' : w.heap.size ≤ b := h; have := HVL.out b hb; omega)
            have HRW := Lib.hid hrw
            have HSW := Lib.hid (HS9.out.trans hsw (fun q hq h => by have h' : w.heap.size ≤ q := h; omega))
            have HOW : Hid (wa.ownsRow w.heap.size 57 2 va (got ++ [((e : Int) + (a : Int), (e : Int) + (a : Int) + (b : Int))]).length (rvs (got ++ [((e : Int) + (a : Int), (e : Int) + (a : Int) + (b : Int))]))) := Lib.hid (by rw [rvs_app, List.length_append, ← HGG.out]; exact HOA.out)
            clear hrow hsw hrw
            go_roundw
            case rel => exact ⟨i + 1, T, ⟨at4, 0⟩, got ++ [((e : Int) + (a : Int), (e : Int) + (a : Int) + (b : Int))], HIN, by first | go_num | (rw [hi0]; rfl), by rw [HTI.out], HT64.out, by simpa using HGT.out, Lib.hid (fun _ => rfl), Lib.hid (by rw [HK1.out]; exact HT2.out), HRW, HOW, HSW⟩
            case measure => simp [intOf]; omega
          · have j1 : ((f4 : Int) != 0) = true := by simp; omega
            have j2 : ¬ (f4 : Int) = 0 := by omega
            rw [if_pos hf4] at hT2
            have HP4 := Lib.hid hT2
            clear hT2
            go_wp2_with fail
            go_ret
            have hp := HP4.out
            exact ⟨_, [], rfl, World.ownsRow_nil _ _ _ _, fun h => absurd (by rw [← hp] at h; exact h) hf4, by rw [← hp]; exact HR9.out, HS9.out⟩
        · have i1 : ((i : Int) == 0) = false := by simp; omega
          have i2 : ¬ (i : Int) = 0 := by omega
          have i3 : (0 : Int) < (a : Int) := by omega
          go_wp2_with fail
          refine HWT.out.mono ?_
          rintro e' w9 ⟨rfl, hr9, hs9⟩
          simp only [if_true] at hr9
          obtain ⟨v9, -, hb9, -⟩ := hr9.ex
          have z9 := hb9.cell_some (i := 1) rfl
          have HR9 := Lib.hid hr9; have HS9 := Lib.hid (HS7.out.trans hs9 (fun _ _ h => h)); have HB9 := Lib.hid hb9
          have HO9 := Lib.hid (own_same HO7.out hs9 (fun b' hb' h => by
            have h' : b' = g := h
            subst h'
            obtain ⟨v7, -, hb7, -⟩ := HR7.out.ex
            exact own_blk_ne HO7.out hb7 (by decide) hb'))
          obtain ⟨at4, f4⟩ := s4
          simp only at z9 hT2
          clear hr9 hs9 hb9 HWT
          by_cases hf4 : f4 = 0
          · subst hf4
            rw [if_neg (by simp), if_neg (by
              rintro (⟨h0, h1⟩ | h0 | h0)
              · exact absurd (k1 h0) (by simpa using h1)
              · omega
              · omega)] at hT2
            have hk1 : n - (i + 1) = k := by have := HKK.out; omega
            have hxy : (((e + a : Nat) : Int), ((e + a + b : Nat) : Int)) = ((e : Int) + (a : Int), (e : Int) + (a : Int) + (b : Int)) := by rw [Int.natCast_add, Int.natCast_add, Int.natCast_add]
            obtain ⟨T, hTT⟩ : ∃ T, T = e + a + b := ⟨_, rfl⟩
            rw [hxy, ← hTT] at hT2
            have HT2 := Lib.hid hT2; have HK1 := Lib.hid hk1
            have HTI : Hid ((e : Int) + (a : Int) + (b : Int) = (T : Int)) := Lib.hid (by omega)
            have HT64 : Hid (T ≤ 64) := Lib.hid (by omega)
            have HGT : Hid (got.length + 1 ≤ T) := Lib.hid (by have := HHE.out; omega)
            have HIN : i + 1 ≤ n := by omega
            obtain ⟨ga, gc, rfl, -⟩ := own_open HO9.out
            obtain ⟨G, hG⟩ : ∃ G, G = got.length := ⟨_, rfl⟩
            have hG16 : (G + 1) * 16 ≤ 140737488355328 := by have := HHE.out; omega
            have ho9 := HO9.out
            rw [← hG] at ho9 ⊢
            have HGG := Lib.hid hG; have HO10 := Lib.hid ho9
            have hsz : w.heap.size ≤ w9.heap.size := HS9.out.size
            clear hT2 hk1 hxy hTT ho9 hG
            go_wp2_with (at_builtin; go_loud (refine wpList_app1 El.range rfl (.tmp 66) (.tmp 68) rfl (HO10.out.alloc _) rfl (cs := #[.int .i64 ((e : Int) + (a : Int)), .int .i64 ((e : Int) + (a : Int) + (b : Int))]) (show Value.slice (some ⟨w9.heap.size + 1, 0, none⟩) 1 1 = Value.slice (some ⟨(w9.alloc _).heap.size, 0, none⟩) 1 1 by simp) rfl (by simp [Value.oneCell']) hG16 (by simp; omega) ?_); intro va wa hown hgr _; have hgr2 := grown_pre ((Below.refl _ _).alloc (Nat.le_refl _) _) hgr; have b1 : wa.cell? ⟨w9.heap.size, 1, none⟩ = some (.int .i64 ((e : Int) + (a : Int) + (b : Int))) := hgr.cell (a := ⟨w9.heap.size, 1, none⟩) ((Blk.new w9 57 [.int .i64 ((e : Int) + (a : Int)), .int .i64 ((e : Int) + (a : Int) + (b : Int))]).cell_some rfl) (fun e => by have := (HO10.out.lt _ e.symm).2; simp at this); have HOA := Lib.hid hown; have HGRW := Lib.hid hgr2; clear hown hgr hgr2)
            have hrow : ∀ q, (Value.slice ga G gc).ownBlock = some q → w.heap.size ≤ q := fun q hq => (HO10.out.lt q hq).1
            have hsw : Same (fun q => w.heap.size ≤ q) w9 wa := (Same.of_grown HGRW.out).mono (fun q hq h => hrow q h.symm)
            have hrw := HR9.out.same hsw (fun h => by have h' : w.heap.size ≤ g := h; have := HGL.out; omega) (fun b hb h => by have h' : w.heap.size ≤ b := h; have := HVL.out b hb; omega)
            have HRW := Lib.hid hrw
            have HSW := Lib.hid (HS9.out.trans hsw (fun q hq h => by have h' : w.heap.size ≤ q := h; omega))
            have HOW : Hid (wa.ownsRow w.heap.size 57 2 va (got ++ [((e : Int) + (a : Int), (e : Int) + (a : Int) + (b : Int))]).length (rvs (got ++ [((e : Int) + (a : Int), (e : Int) + (a : Int) + (b : Int))]))) := Lib.hid (by rw [rvs_app, List.length_append, ← HGG.out]; exact HOA.out)
            clear hrow hsw hrw
            go_roundw
            case rel => exact ⟨i + 1, T, ⟨at4, 0⟩, got ++ [((e : Int) + (a : Int), (e : Int) + (a : Int) + (b : Int))], HIN, by first | go_num | (rw [hi0]; rfl), by rw [HTI.out], HT64.out, by simpa using HGT.out, Lib.hid (fun _ => rfl), Lib.hid (by rw [HK1.out]; exact HT2.out), HRW, HOW, HSW⟩
            case measure => simp [intOf]; omega
          · have j1 : ((f4 : Int) != 0) = true := by simp; omega
            have j2 : ¬ (f4 : Int) = 0 := by omega
            rw [if_pos hf4] at hT2
            have HP4 := Lib.hid hT2
            clear hT2
            go_wp2_with fail
            go_ret
            have hp := HP4.out
            exact ⟨_, [], rfl, World.ownsRow_nil _ _ _ _, fun h => absurd (by rw [← hp] at h; exact h) hf4, by rw [← hp]; exact HR9.out, HS9.out⟩
      · have HWF := Lib.hid (HW.out false)
        have hT2 := HTT.out
        have hnot : s4.f = 0 → (a = 0 ∧ decide (i = 0) = false) ∨ b = 0 ∨ 64 < e + a + b := fun _ => by
          by_cases h1 : a = 0 ∧ ¬ i = 0
          · exact .inl ⟨h1.1, by simp [h1.2]⟩
          · by_cases h2 : b = 0
            · exact .inr (.inl h2)
            · refine .inr (.inr ?_)
              rcases Nat.lt_or_ge 64 (e + a + b) with h | h
              · exact h
              · exact absurd ⟨fun h0 => Classical.byContradiction fun hh => h1 ⟨h0, hh⟩, h2, h⟩ hok
        have hPf : P.2 = failS 30 s4 ∧ (failS 30 s4).f ≠ 0 := by
          by_cases hf4 : s4.f = 0
          · rw [if_neg (by omega), if_pos (hnot hf4)] at hT2
            rw [← hT2, failS, if_pos hf4]
            exact ⟨rfl, by simp⟩
          · rw [if_pos hf4] at hT2
            rw [← hT2, failS, if_neg hf4]
            exact ⟨rfl, hf4⟩
        have HPF := Lib.hid hPf; have HOK := Lib.hid hok
        clear hT2 hnot hPf HTT HW hok
        by_cases h64 : e + a + b ≤ 64
        · have h64i : (e : Int) + (a : Int) + (b : Int) ≤ 64 := by omega
          go_wp2_with fail
          all_goals first
            | (refine HWF.out.mono ?_
               rintro e' w9 ⟨rfl, hr9, hs9⟩
               simp only [Bool.false_eq_true, if_false] at hr9
               obtain ⟨hP1, hP0⟩ := HPF.out
               obtain ⟨v9, -, hb9, -⟩ := hr9.ex
               have z9 := hb9.cell_some (i := 1) rfl
               have j1 : (((failS 30 s4).f : Int) != 0) = true := by simp; omega
               have j2 : ¬ ((failS 30 s4).f : Int) = 0 := by omega
               have HR9 := Lib.hid hr9; have HS9 := Lib.hid (HS7.out.trans hs9 (fun _ _ h => h))
               have HP1 := Lib.hid hP1; have HP0 := Lib.hid hP0
               generalize (failS 30 s4).f = F at z9 j1 j2
               clear hr9 hs9 hb9 hP1 hP0
               go_wp2_with fail
               go_ret
               exact ⟨_, [], rfl, World.ownsRow_nil _ _ _ _, fun h => absurd (HP1.out ▸ h) HP0.out, HP1.out ▸ HR9.out, HS9.out⟩)
            | (exfalso; have := HOK.out; omega)
        · have h64i : ¬ (e : Int) + (a : Int) + (b : Int) ≤ 64 := by omega
          go_wp2_with fail
          all_goals first
            | (refine HWF.out.mono ?_
               rintro e' w9 ⟨rfl, hr9, hs9⟩
               simp only [Bool.false_eq_true, if_false] at hr9
               obtain ⟨hP1, hP0⟩ := HPF.out
               obtain ⟨v9, -, hb9, -⟩ := hr9.ex
               have z9 := hb9.cell_some (i := 1) rfl
               have j1 : (((failS 30 s4).f : Int) != 0) = true := by simp; omega
               have j2 : ¬ ((failS 30 s4).f : Int) = 0 := by omega
               have HR9 := Lib.hid hr9; have HS9 := Lib.hid (HS7.out.trans hs9 (fun _ _ h => h))
               have HP1 := Lib.hid hP1; have HP0 := Lib.hid hP0
               generalize (failS 30 s4).f = F at z9 j1 j2
               clear hr9 hs9 hb9 hP1 hP0
               go_wp2_with fail
               go_ret
               exact ⟨_, [], rfl, World.ownsRow_nil _ _ _ _, fun h => absurd (HP1.out ▸ h) HP0.out, HP1.out ▸ HR9.out, HS9.out⟩)
            | (exfalso; have := HOK.out; omega)
    · obtain rfl : i = n := by omega
      go_wp2_with fail
      go_ret
      have h := HT.out
      rw [Nat.sub_self] at h
      have h2 : P = (got, s) := h.symm
      exact ⟨_, got, rfl, HO.out, fun _ => by rw [h2], by rw [h2]; exact HR.out, HS.out⟩
end Go.Proofs.YtghjffgaebnhiaaDoor
