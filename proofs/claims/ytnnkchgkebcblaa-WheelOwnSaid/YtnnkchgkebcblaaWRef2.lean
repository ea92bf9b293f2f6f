/- The reference's Set and Next. -/
import Derived.Test.YtnnkchgkebcblaaWRef
import Derived.Test.YtnnkchgkebcblaaWNext
namespace Go.Proofs.Ytnnkchgkebcblaa
set_option linter.unusedVariables false
set_option linter.unusedSimpArgs false
open Go.RowKit
def nevOf (now : Nat) : Bool := (now : Int) == 281474976710655
def setR (T : List Tm) (i : Int) (x now ord : Nat) : List Tm := without T i ++ [⟨i, atOf x now, ord, nevOf now⟩]
set_option maxHeartbeats 4000000 in
set_option maxRecDepth 100000 in
theorem rset_any (r now : Nat) (v : Value) (T : List Tm) (w : World) (h : RfAt w r now v T) (i : Int) (x ord : Nat) (hids : T.Pairwise fun a b => a.id ≠ b.id) (hl : T.length < 4398046511105) (hnow : now ≤ 281474976710655) :
    Calls Try.prog 37 #[.pointer (some ⟨r, 0, none⟩), .int .i64 i, .int .u64 (x : Int)] w fun e w' => e = .returned (.tuple #[]) ∧
      ∃ v', RfAt w' r now v' (setR T i x now ord) ∧ Same (RF r v) w w' ∧ ∀ b, RF r v' b → RF r v b ∨ w.heap.size ≤ b := by
  have hcon := rstop_any r now v T w h i hids (by omega)
  have hlw : (without T i).length ≤ T.length := List.length_filter_le _ _
  go_enter Try.func37, Try.ntmps37
  go_wp2_with fail
  refine hcon.mono ?_
  clear hcon
  rintro e w1 ⟨rfl, v1, h1, hS1, hF1⟩
  have c0 := h1.blk.cell_some (i := 0) rfl
  have c1 := h1.blk.cell_some (i := 1) rfl
  have hr1 := h1.blk.lt
  obtain ⟨U, hU⟩ : ∃ U, U = without T i := ⟨_, rfl⟩
  rw [← hU] at h1 hlw
  obtain ⟨ao, cap, rfl, -⟩ := own_open h1.own
  obtain ⟨n, hn⟩ : ∃ n, n = U.length := ⟨_, rfl⟩
  rw [← hn] at h1 hlw c1
  have H1 := Lib.hid h1
  have HS1 := Lib.hid hS1
  have HF1 := Lib.hid hF1
  have HU := Lib.hid hU
  have HN := Lib.hid hn
  clear h h1 hS1 hF1 hids hU hn
  have hmaxv : (if ((min x 281474976710655 : Nat) : Int) < IntKind.u64.wrap ((now : Int) + 1) then IntKind.u64.wrap ((now : Int) + 1) else ((min x 281474976710655 : Nat) : Int)) = ((atOf x now : Nat) : Int) := by
    rw [IntKind.wrap_u64, show ((now : Int) + 1) % 18446744073709551616 = (now : Int) + 1 by omega]
    unfold atOf
    split <;> omega
  go_wp2_with fail
  go_region_law (go_simp; go_at_call 35; refine (clock_any x _).mono ?_; rintro e w5 ⟨rfl, rfl⟩)
  all_goals
    try rw [hmaxv]
    go_wp2_with fail
    obtain ⟨W2, hW2⟩ : ∃ W2, W2 = (w1.alloc (.cells #[.int .i64 i, .int .u64 ((atOf x now : Nat) : Int), .bool ((now : Int) == 281474976710655)] 86)).drew := ⟨_, rfl⟩
    rw [← hW2]
    have hTm : Blk W2 w1.heap.size 86 [.int .i64 i, .int .u64 ((atOf x now : Nat) : Int), .bool (nevOf now)] := hW2 ▸ (Blk.new w1 _ _).drew
    have hB2 : Below w1.heap.size w1 W2 := hW2 ▸ ((Below.refl _ _).alloc (Nat.le_refl _) _).drew
    have hbe : ((now : Int) == 281474976710655) = nevOf now := rfl
    rw [hbe]
    have h2 := H1.out.later hB2
    have d0 := hTm.cell_some (i := 0) rfl
    have d1 := hTm.cell_some (i := 1) rfl
    have d2 := hTm.cell_some (i := 2) rfl
    have c1 := h2.blk.cell_some (i := 1) rfl
    have f1 := h2.blk.frozen 1
    have hown := h2.own
    rw [← HN.out] at hown
    have hrl := h2.blk.lt
    have hrn : (Value.slice ao n cap).ownBlock ≠ some r := own_blk_ne hown h2.blk (by decide)
    obtain ⟨tb, htb⟩ : ∃ tb, tb = w1.heap.size := ⟨_, rfl⟩
    rw [← htb] at d0 d1 d2 ⊢
    obtain ⟨tt, htt⟩ : ∃ tt, tt = atOf x now := ⟨_, rfl⟩
    rw [← htt] at d1 ⊢
    obtain ⟨nb, hnb⟩ : ∃ nb, nb = nevOf now := ⟨_, rfl⟩
    rw [← hnb] at d2 ⊢
    have H2 := Lib.hid h2; have HB2 := Lib.hid hB2; have HTT := Lib.hid htt; have HTB := Lib.hid htb; have HNB := Lib.hid hnb; have HO := Lib.hid hown
    clear h2 hB2 htt htb hW2 hTm hmaxv c0 hbe hnb hown
    go_region_law (go_loud (refine step_app El.rtm rfl (.tmp 30) (.tmp 32) rfl (by first | exact HO.out.alloc _ | exact (HO.out.alloc _).drew) rfl (by first | exact Rd.new _ _ (rv ⟨i, tt, ord, nb⟩) 1 (by simp [maxLen]) | exact Rd.drew (Rd.new _ _ (rv ⟨i, tt, ord, nb⟩) 1 (by simp [maxLen]))) rfl rfl (by have := rvs_one [⟨i, tt, ord, nb⟩]; simpa [rvs] using this) (by omega) (Nat.zero_le _) ?_); intro v2 w3 hown2 hgr2 hN2; obtain ⟨g2, c2, rfl, _, _⟩ := hown2.form (by omega); have hgr := grown_pre (w := W2) (by first | exact ((Below.refl _ _).alloc (Nat.le_refl _) _).drew | exact ((Below.refl _ _).drew).alloc (Nat.le_refl _) _) hgr2; have hNN := hN2.pre (w := W2) (by simp); have cg := hgr.cell (a := ⟨r, 1, none⟩) c1 (Ne.symm hrn); have fg := (World.frozen?_of_block (a := ⟨r, 1, none⟩) (hgr.block r hrl (Ne.symm hrn))).trans f1; clear hgr2 hN2)
    all_goals
      refine bodyPost_end (results_none rfl _ _ _) rfl ?_
      have hgr' : W2.grownBy w3 (Value.slice ao n cap).ownBlock := hgr
      have hNN' : Newer W2 (Value.slice ao n cap) (.slice (some ⟨g2, 0, none⟩) (n + 1) c2) := hNN
      have hb3 := H2.out.blk.grown hgr' hrn
      have hset : setR T i x now ord = U ++ [⟨i, tt, ord, nb⟩] := by unfold setR; rw [HU.out, HTT.out, HNB.out]
      have hsz1 := HS1.out.size
      have hsz2 := HB2.out.size
      refine ⟨rfl, .slice (some ⟨g2, 0, none⟩) (n + 1) c2, ?_, ?_, fun b hb => ?_⟩
      · rw [hset]
        refine RfAt.store hb3 ?_
        rw [rvs_append, List.length_append, ← HN.out]
        simpa [rvs] using hown2
      · have hF := HF1.out
        rw [← HN.out] at hF
        have s1 : Same (RF r v) w W2 := HS1.out.trans (Same.of_below HB2.out no) (fun _ _ h => h.elim)
        refine (s1.grown hgr' fun k hk hkl => ?_).setCell (p := ⟨r, 1, none⟩) (fun _ => .inl rfl) _
        rcases hF k (.inr hk) with h | h
        · exact h
        · omega
      · have hF := HF1.out
        rw [← HN.out] at hF
        rcases hb with rfl | hb
        · exact .inl (.inl rfl)
        · rcases hNN' with h | ⟨k, h, hk⟩
          · rw [h] at hb
            exact hF b (.inr hb)
          · rw [h] at hb
            injection hb with hb
            right; omega
end Go.Proofs.Ytnnkchgkebcblaa
