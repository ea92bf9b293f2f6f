/- CutterCuts returns true for every block and every length. -/
import Derived.Test.YtgnbnkoanoalhaaRefCut
import Derived.Test.YtgnbnkoanoalhaaSame
import Derived.Test.YtgnbnkoanoalhaaLend
import Derived.Test.YtgnbnkoanoalhaaCodecs
namespace Go.Proofs.Ytgnbnkoanoalhaa
set_option linter.unusedVariables false
set_option linter.unusedSimpArgs false
open Go.RowKit
def bump (k : Nat) (l : List UInt8) : List UInt8 := (l.take k).map (· + 1) ++ l.drop k
theorem bump_zero (l : List UInt8) : bump 0 l = l := by simp [bump]
theorem bump_all (l : List UInt8) : bump l.length l = l.map (· + 1) := by simp [bump]
theorem bump_length (k : Nat) (l : List UInt8) : (bump k l).length = l.length := by simp [bump]; omega
theorem bump_at (k : Nat) (l : List UInt8) (h : k < l.length) : (bump k l)[k]? = some l[k] := by
  unfold bump
  rw [List.getElem?_append_right (by simp; omega), List.getElem?_drop]
  simp [Nat.min_eq_left (Nat.le_of_lt h), h]
theorem bump_succ (k : Nat) (l : List UInt8) (h : k < l.length) : bump (k + 1) l = (bump k l).set k (l[k] + 1) := by
  unfold bump
  rw [List.set_append_right _ _ (by simp; omega), List.length_map, List.length_take, Nat.min_eq_left (Nat.le_of_lt h), Nat.sub_self,
    List.take_succ_eq_append_getElem h, List.drop_eq_getElem_cons h, List.set_cons_zero, List.map_append, List.append_assoc]
  rfl

set_option maxHeartbeats 400000 in
set_option maxRecDepth 100000 in
theorem cutsLaw (v : Value) (l : List UInt8) (mtu : Int) (w : World) (hl : l.length ≤ 140737488351232) (hr : Bs w v l) :
    Calls Try.prog 3 #[v, .int .i64 mtu] w fun e w' => e = .returned (.bool true) ∧ Below w.heap.size w w' := by
  obtain ⟨ao, cap, rfl, hn, hm, hc⟩ := id hr
  go_enter Try.func3, Try.ntmps3
  go_wp2_with fail
  refine (lend_any _ l 0x77 _ hl hr).mono ?_
  rintro e w1 ⟨v1, rfl, ⟨g, c, rfl, hlent⟩, hB1⟩
  obtain ⟨g', c', rest, heq, hgb, hc4, hcm, hblk, hrest⟩ := own_blk hlent (by omega)
  injection heq with e1 e2 e3
  injection e1 with e1
  injection e1 with e1
  subst e1; subst e3
  have hBs1 : Bs w1 (.slice (some ⟨g, 0, none⟩) l.length c) l := Rd.mk (by omega) hcm fun j u hu => by
    rw [Nat.zero_add]
    refine hblk.cell_some ?_
    rw [List.getElem?_append_left (by have := (List.getElem?_eq_some_iff.1 hu).1; simp at this ⊢; omega), List.map_append, List.getElem?_append_left (List.getElem?_eq_some_iff.1 hu).1]
    exact hu
  go_wp2_with fail
  refine (cut_any _ l mtu _ hBs1 (by omega)).mono ?_
  rintro e w2 ⟨v2, rfl, hp2, hB2⟩
  go_wp2_with fail
  have hr2 := (hr.later hB1).later hB2
  refine (refCut_any _ l mtu _ hr2 (by omega)).mono ?_
  rintro e w3 ⟨v3, rfl, hp3, hB3⟩
  go_wp2_with fail
  refine (num_any _ _).mono ?_
  rintro e _ ⟨rfl, rfl⟩
  go_wp2_with fail
  have hp2' := (hp2.later hB3)
  refine (sameLists_yes _ _ (cutOf l mtu) _ hp2'.bss hp3.bss (by have := cutOf_length l mtu; omega)).mono ?_
  rintro e _ ⟨rfl, n4, rfl⟩
  go_wp2_with fail
  have hblk3 : Blk w3 g 5 ((l ++ List.replicate 4 119).map ub ++ rest) := (hblk.later hB2).later hB3
  refine (kept_any g c _ l 119 _ hl ((hr2.later hB3).drewN n4) hc4 (fun j u hu => ?_)).mono ?_
  · exact (hblk3.drewN n4).cell_some (by rw [List.getElem?_append_left (List.getElem?_eq_some_iff.1 hu).1]; exact hu)
  rintro e _ ⟨rfl, n5, rfl⟩
  go_wp2_with fail
  go_loopw [10] (fun i wr => ∃ k : Nat, k ≤ l.length ∧ i = .int .i64 k ∧ Blk wr g 5 ((bump k l ++ List.replicate 4 119).map ub ++ rest) ∧ Same (at1 g) w3 wr) (fun i _ => l.length - (intOf i).toNat)
  case atStart => exact ⟨0, Nat.zero_le _, rfl, by rw [bump_zero]; exact hblk3.drewN _, (Same.refl _ _).drewN _⟩
  case round =>
    obtain ⟨k, hk, rfl, hb, hS⟩ := hrel
    by_cases hlt : k < l.length
    · have e1 : wr.cell? ⟨g, k, none⟩ = some (.int .u8 (l[k].toNat : Int)) := hb.cell_some (by
        rw [List.getElem?_append_left (by simp [bump_length]; omega), List.map_append, List.getElem?_append_left (by simp [bump_length]; omega), List.getElem?_map, bump_at k l hlt]; rfl)
      have e2 : wr.frozen? ⟨g, k, none⟩ = false := hb.frozen k
      go_wp2
      go_roundw
      case rel =>
        refine ⟨k + 1, by omega, by go_num, ?_, hS.setCell (p := ⟨g, k, none⟩) (fun _ => rfl) _⟩
        have := hb.set k (.int .u8 (((l[k].toNat : Int) + 1) % 256))
        rw [show Value.int .u8 (((l[k].toNat : Int) + 1) % 256) = ub (l[k] + 1) by simp [ub, UInt8.toNat_add]] at this
        rw [List.set_append_left _ _ (by simp [bump_length]; omega), List.map_append, List.set_append_left _ _ (by simp [bump_length]; omega), ← List.map_set, ← bump_succ k l hlt, ← List.map_append] at this
        exact this
      case measure => simp [intOf]; omega
    · obtain rfl : k = l.length := by omega
      rw [bump_all] at hb
      have hlow := hS.size
      have hg3 : g < w3.heap.size := hblk3.lt
      have hBs : Bs wr (.slice (some ⟨g, 0, none⟩) l.length c) (l.map (· + 1)) := by
        have : l.length = (l.map (· + 1)).length := by simp
        unfold Bs
        rw [← this]
        refine Rd.mk (by omega) hcm fun j u hu => ?_
        rw [Nat.zero_add]
        refine hb.cell_some ?_
        rw [List.getElem?_append_left (by have := (List.getElem?_eq_some_iff.1 hu).1; simp at this ⊢; omega), List.map_append, List.getElem?_append_left (List.getElem?_eq_some_iff.1 hu).1]
        exact hu
      go_wp2_with (at_builtin; go_loud (refine wpList_app El.u8 rfl (.tmp 58) (.tmp 59) rfl (World.ownsRow_lit wr #[] 0 (Nat.le_refl _) (Nat.zero_le _) rfl) rfl (hBs.alloc _) rfl (by simp) (ub_one _) (by simp; omega) (by simp) ?_); intro v5 w5 hown5 hgr5 _)
      have hBw : Below wr.heap.size wr w5 := ((Below.refl _ _).alloc (Nat.le_refl _) _).grown hgr5 (by simp) (fun k hk => by simp [Value.ownBlock] at hk; omega)
      have hS5 : Same (at1 g) w3 w5 := hS.trans (Same.of_below hBw no) (fun _ _ h => h.elim)
      have hg1 := hblk.lt
      have hB5 : Below w.heap.size w w5 := ((hB1.trans (hB2.mono hB1.size)).trans (hB3.mono (Nat.le_trans hB1.size hB2.size))).trans
        (hS5.belowB fun i hi => ⟨Nat.lt_of_lt_of_le hi (Nat.le_trans hB1.size (Nat.le_trans hB2.size hB3.size)), fun h => by simp only [at1] at h; omega⟩)
      have hp5 := hp2'.same hS5 (fun b hb h => by simp only [at1] at h; omega)
      have ho5 : Bs w5 v5 (l.map (· + 1)) := Bs.of_own (by simpa using hown5)
      have hl5 := hBs.later hBw
      clear hgr5
      refine (cut_any _ (l.map (· + 1)) mtu _ hl5 (by simp; omega)).mono ?_
      rintro e w6 ⟨v6, rfl, hp6, hB6⟩
      go_wp2_with fail
      refine (refCut_any _ (l.map (· + 1)) mtu _ (ho5.later hB6) (by simp; omega)).mono ?_
      rintro e w7 ⟨v7, rfl, hp7, hB7⟩
      go_wp2_with fail
      refine (num_any _ _).mono ?_
      rintro e _ ⟨rfl, rfl⟩
      go_wp2_with fail
      refine (sameLists_yes _ _ (cutOf (l.map (· + 1)) mtu) _ (hp6.later hB7).bss hp7.bss (by have := cutOf_length (l.map (· + 1)) mtu; omega)).mono ?_
      rintro e _ ⟨rfl, n8, rfl⟩
      go_wp2_with fail
      refine (sameLists_yes _ _ (cutOf l mtu) _ (((hp5.later hB6).later hB7).bss.drewN n8) ((((hp3.same hS5 (fun b hb h => by simp only [at1] at h; have := hB2.size; omega)).later hB6).later hB7).bss.drewN n8) (by have := cutOf_length l mtu; omega)).mono ?_
      rintro e _ ⟨rfl, n9, rfl⟩
      have k1 := fun n => run_str8 ((hl5.later hB6).later hB7) (W := w7.drewN n) rfl
      have k2 := fun n => run_str8 ((ho5.later hB6).later hB7) (W := w7.drewN n) rfl
      obtain ⟨yp, yn, yc, rfl⟩ : ∃ xp xn xc, v5 = .slice xp xn xc := by obtain ⟨a, c, h, _⟩ := ho5; exact ⟨_, _, _, h⟩
      have hBz := ((hB5.trans (hB6.mono hB5.size)).trans (hB7.mono (Nat.le_trans hB5.size hB6.size)))
      clear hp6 hp7 hp5 hp3 hp2 hp2' hlent hblk hblk3 hb hBs hBs1 hS hS5
      go_wp2
      go_ret
      exact ⟨rfl, below_drewN hBz _⟩
theorem cutsLaw_walk (W : World) (v0 : Value) (l : List UInt8) (h0 : cBytes.rep W [v0] l) (v1 : Value) (n : Int) (h1 : cInt.rep W [v1] n) :
    Calls Try.prog 3 #[v0, v1] W fun e w' => e = .returned (.bool true) ∧ Below W.heap.size W w' := by
  obtain ⟨hb, hl⟩ := cBytes_bs h0
  obtain ⟨h1, _⟩ := h1
  simp only [List.cons.injEq, and_true] at h1
  subst h1
  exact cutsLaw v0 l n W hl hb
end Go.Proofs.Ytgnbnkoanoalhaa
