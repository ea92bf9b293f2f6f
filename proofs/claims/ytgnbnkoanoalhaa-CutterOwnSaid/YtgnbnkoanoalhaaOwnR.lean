/- ranges: the lists that Got answers are the caller's. -/
import Derived.Test.YtgnbnkoanoalhaaLive
import Derived.Test.YtgnbnkoanoalhaaApartRanges
namespace Go.Proofs.Ytgnbnkoanoalhaa
set_option linter.unusedVariables false
set_option linter.unusedSimpArgs false
open Go.RowKit
theorem own_block_len {p : Option Addr} {n m c d : Nat} : (Value.slice p n c).ownBlock = (Value.slice p m d).ownBlock := by cases p <;> rfl
set_option maxHeartbeats 4000000 in
set_option maxRecDepth 100000 in
theorem ranges_live {wa w : World} {g r base : Nat} {pb pr : Value} {s : PS} (hL : Live wa w g r base pb pr s) :
    Calls Try.prog 32 #[pb, pr] w fun e w' => e = .returned (.bool true) ∧ Below w.heap.size w w' := by
  have hgl := PS.got_len hL.ok
  have HOK := Lib.hid hL.ok; have HB := Lib.hid hL.box; have HR := Lib.hid hL.ref
  clear hL
  go_enter Try.func32, Try.ntmps32
  go_wp2_with fail
  refine (gotB HB.out HOK.out).mono ?_
  rintro e w1 ⟨v1, rfl, own1, hB1⟩
  go_wp2_with fail
  refine (gotB (HB.out.later hB1) HOK.out).mono ?_
  rintro e w2 ⟨v2, rfl, own2, hB2⟩
  have hB12 := below_trans hB1 hB2
  go_wp2_with fail
  refine (gotR (HR.out.later hB12) HOK.out).mono ?_
  rintro e w3 ⟨v3, rfl, own3, hB3⟩
  have hB13 := below_trans hB12 hB3
  have HB1 := Lib.hid (fun b hb => (own1.lt b hb).2)
  have HB2 := Lib.hid (fun b hb => (own2.lt b hb).2)
  have own1 := own_later (own_later own1 hB2) hB3
  have own2 := own_later own2 hB3
  obtain ⟨p1, c1, rfl, -⟩ := Rd.of_own own1
  obtain ⟨p2, c2, rfl, -⟩ := Rd.of_own own2
  obtain ⟨p3, c3, rfl, -⟩ := Rd.of_own own3
  have HO1 := Lib.hid own1; have HO2 := Lib.hid own2; have HO3 := Lib.hid own3
  have hz1 := hB1.size
  have hz2 := hB2.size
  have hz3 := hB3.size
  obtain ⟨L, hLd⟩ : ∃ L, L = s.got := ⟨_, rfl⟩
  rw [← hLd] at HO1 HO2 HO3 hgl ⊢
  obtain ⟨N, hN⟩ : ∃ N, N = L.length := ⟨_, rfl⟩
  have HLD := Lib.hid hLd; have HN := Lib.hid hN
  rw [← hN] at HO1 HO2 HO3 hgl ⊢
  clear own1 own2 own3 hLd hN
  have RG := Lib.hid (fun (w' : World) (base : Nat) (v : Value) (h : w'.ownsRow base 77 2 v N (rvs L)) => show Rgs w' v L from Rgs.of_own (by rw [HN.out] at h; exact h))
  have hLN : L.length ≤ 64 := by rw [← HN.out]; exact hgl
  go_wp2_with fail
  refine (sameRanges_yes _ _ L _ (RG.out _ _ _ HO1.out) (RG.out _ _ _ HO3.out) (by omega)).mono ?_
  rintro e _ ⟨rfl, n4, rfl⟩
  go_wp2_with fail
  refine (sameRanges_yes _ _ L _ (RG.out _ _ _ (own_later HO2.out (below_drewN (Below.refl _ _) n4))) (RG.out _ _ _ (own_later HO3.out (below_drewN (Below.refl _ _) n4))) (by omega)).mono ?_
  rintro e _ ⟨rfl, n5, rfl⟩
  obtain ⟨w5, hw5⟩ : ∃ w5, w5 = (w3.drewN n4).drewN n5 := ⟨_, rfl⟩
  have hB5 : Below w3.heap.size w3 w5 := hw5 ▸ below_drewN (below_drewN (Below.refl _ _) _) _
  have hz5 := hB5.size
  rw [← hw5]
  clear hw5
  obtain ⟨wl, hwl⟩ : ∃ wl, wl = w5.alloc (.cells #[.slice p1 N c1, .slice p2 N c2] 60) := ⟨_, rfl⟩
  have hBl : Below w5.heap.size w5 wl := hwl ▸ (Below.refl _ _).alloc (Nat.le_refl _) _
  have hlit : wl.ownsRow w5.heap.size 60 1 (.slice (some ⟨w5.heap.size, 0, none⟩) 2 2) 2 [.slice p1 N c1, .slice p2 N c2] := hwl ▸ World.ownsRow_lit w5 #[.slice p1 N c1, .slice p2 N c2] 2 (Nat.le_refl _) (by simp [maxLen]) rfl
  have hB3l := below_trans hB5 hBl
  have ol1 := own_later HO1.out hB3l
  have ol2 := own_later HO2.out hB3l
  have hd12 : (Value.slice p1 N c1).ownBlock = none ∨ (Value.slice p1 N c1).ownBlock ≠ (Value.slice p2 N c2).ownBlock := by
    cases h1 : (Value.slice p1 N c1).ownBlock with
    | none => exact .inl rfl
    | some b =>
      refine .inr fun e => ?_
      have a2 := (HO2.out.lt b e.symm).1
      have a1 := (HB1.out b (own_block_len.trans h1))
      omega
  have hR : Rows wl w.heap.size 77 2 [.slice p1 N c1, .slice p2 N c2] (fun _ => N) (fun _ => rvs L) := by
    refine ⟨fun i x hx => ?_, fun i j x y hij hx hy => ?_⟩
    · match i, hx with
      | 0, hx => injection hx with hx; subst hx; exact ol1
      | 1, hx => injection hx with hx; subst hx; exact own_mono ol2 (by omega)
    · match i, j, hx, hy, hij with
      | 0, 1, hx, hy, _ => injection hx with hx; injection hy with hy; subst hx; subst hy; exact hd12
      | 1, 0, hx, hy, _ =>
        injection hx with hx; injection hy with hy; subst hx; subst hy
        cases h1 : (Value.slice p2 N c2).ownBlock with
        | none => exact .inl rfl
        | some b =>
          refine .inr fun e => ?_
          rcases hd12 with h | h
          · rw [h] at e; cases e
          · exact h (e.symm.trans h1.symm)
      | 0, 0, _, _, h => exact absurd rfl h
      | 1, 1, _, _, h => exact absurd rfl h
  have HR2 := Lib.hid hR; have HLIT := Lib.hid hlit
  have hbl := hBl.size
  clear hR hlit ol1 ol2 hd12
  go_wp2_with fail
  rw [← hwl]
  clear hwl
  refine (apartRanges_any _ _ _ 2 _ _ _ _ HLIT.out HR2.out (by omega) (fun _ => by omega) (by omega)).mono ?_
  rintro e w6 ⟨rfl, hS6⟩
  have hfoot : ∀ k, Foot [.slice p1 N c1, .slice p2 N c2] k → w.heap.size ≤ k ∧ k < w2.heap.size := by
    rintro k ⟨x, hx, hk⟩
    simp only [List.mem_cons, List.not_mem_nil, or_false] at hx
    rcases hx with rfl | rfl
    · have a1 := (HO1.out.lt k hk).1
      have a2 := HB1.out k (own_block_len.trans hk)
      omega
    · have a1 := (HO2.out.lt k hk).1
      have a2 := HB2.out k (own_block_len.trans hk)
      omega
  have hBw6 : Below w.heap.size w w6 := (hB13.trans (hB3l.mono (by omega))).trans (hS6.belowB fun i hi => ⟨by omega, fun h => by have := (hfoot i h).1; omega⟩)
  have o36 := own_same (own_later HO3.out hB3l) hS6 (fun b hb h => by have := (hfoot b h).2; have := (HO3.out.lt b hb).1; omega)
  have HO6 := Lib.hid o36
  clear o36 hS6 hfoot
  go_wp2_with fail
  refine (gotB (HB.out.later hBw6) HOK.out).mono ?_
  rintro e w7 ⟨v7, rfl, own7, hB7⟩
  rw [← HLD.out, ← HN.out] at own7
  go_wp2_with fail
  refine (sameRanges_yes _ _ L _ (RG.out _ _ _ own7) (RG.out _ _ _ (own_later HO6.out hB7)) (by omega)).mono ?_
  rintro e _ ⟨rfl, n8, rfl⟩
  go_wp2_with fail
  go_ret
  exact ⟨rfl, below_drewN (below_trans hBw6 hB7) _⟩
end Go.Proofs.Ytgnbnkoanoalhaa
