/- The reference's Advance. -/
import Derived.Test.YtnnkchgkebcblaaWRefLaw
import Derived.Deep.LoopGhost
namespace Go.Proofs.Ytnnkchgkebcblaa
set_option linter.unusedVariables false
set_option linter.unusedSimpArgs false
open Go.RowKit
def iv (l : List Int) : List Value := l.map (Value.int .i64)
structure RAdv (w wr : World) (r n : Nat) (v : Value) (T : List Tm) (vo : Value) (v1 : Value) (U : List Tm) (out : List Int) : Prop where
  rf : RfAt wr r n v1 U
  own : wr.ownsRow w.heap.size 3 1 vo out.length (iv out)
  told : out ++ rings U n = rings T n
  st : stay U n = stay T n
  sub : U.Sublist T
  len : out.length + U.length = T.length
  same : Same (RF r v) w wr
  foot : ∀ b, RF r v1 b → RF r v b ∨ w.heap.size ≤ b
def advTime (x now : Nat) : Nat := max now (min x 281474976710655)
set_option maxHeartbeats 4000000 in
set_option maxRecDepth 100000 in
theorem radv_no (r now : Nat) (v : Value) (T : List Tm) (w : World) (h : RfAt w r now v T) (x : Nat) (hx : min x 281474976710655 ≤ now) :
    Calls Try.prog 21 #[.pointer (some ⟨r, 0, none⟩), .int .u64 (x : Int)] w fun e w' => e = .returned (.slice none 0 0) ∧ w' = w := by
  have c0 := h.blk.cell_some (i := 0) rfl
  obtain ⟨n, hn⟩ : ∃ n, n = min x 281474976710655 := ⟨_, rfl⟩
  have hcon := clock_any x w
  rw [← hn] at hx hcon
  have HN := Lib.hid hn
  clear h hn
  go_enter Try.func21, Try.ntmps21
  go_wp2_with fail
  refine hcon.mono ?_
  rintro e w1 ⟨rfl, rfl⟩
  have hb : (n : Int) ≤ (now : Int) := by omega
  go_wp2_with fail
  go_ret
  exact ⟨rfl, rfl⟩
set_option maxHeartbeats 4000000 in
set_option maxRecDepth 100000 in
theorem radv_yes (r now : Nat) (v : Value) (T : List Tm) (w : World) (h : RfAt w r now v T) (x n : Nat) (hn : n = min x 281474976710655) (hx : now < n) (hids : T.Pairwise fun a b => a.id ≠ b.id) (hl : T.length < 4398046511105) :
    Calls Try.prog 21 #[.pointer (some ⟨r, 0, none⟩), .int .u64 (x : Int)] w fun e w' => ∃ vo v1, e = .returned vo ∧ RAdv w w' r n v T vo v1 (stay T n) (rings T n) := by
  have c0 := h.blk.cell_some (i := 0) rfl
  have f0 := h.blk.frozen 0
  have hrl := h.blk.lt
  have hcon := clock_any x w
  rw [← hn] at hcon
  have HI := Lib.hid hids
  have HW := Lib.hid h
  have hn2 : n ≤ 281474976710655 := by omega
  clear h hn hids
  go_enter Try.func21, Try.ntmps21
  go_wp2_with fail
  refine hcon.mono ?_
  clear hcon
  rintro e w1 ⟨rfl, rfl⟩
  have hb : ¬ (n : Int) ≤ (now : Int) := by omega
  go_wp2_with fail
  obtain ⟨w2, hw2⟩ : ∃ w2, w2 = w1.setCell ⟨r, 0, none⟩ (.int .u64 (n : Int)) := ⟨_, rfl⟩
  rw [← hw2]
  have hS2 : Same (at1 r) w1 w2 := hw2 ▸ (⟨rfl, rfl, rfl, by simp [World.setCell], fun k hk hn => Below.heap_setCell w1 _ _ k (fun e => hn e)⟩ : Same (at1 r) w1 (w1.setCell ⟨r, 0, none⟩ (.int .u64 (n : Int))))
  have hR2 : RfAt w2 r n v T := by
    refine ⟨?_, own_same HW.out.own hS2 fun b hb' e => ?_⟩
    · rw [hw2]; exact HW.out.blk.set 0 _
    · exact own_blk_ne HW.out.own HW.out.blk (by decide) (by rw [hb', show b = r from e])
  have HA : RAdv w1 w2 r n v T (.slice none 0 0) v T [] := ⟨hR2, World.ownsRow_nil _ _ _ _, rfl, rfl, List.Sublist.refl _, by simp, hS2.mono (fun _ _ e => .inl e), fun _ h => .inl h⟩
  clear hw2 hS2 hR2
  refine (rnext_any r n v T w2 HA.rf hl).mono ?_
  rintro e w3 ⟨rfl, hB3⟩
  have HA3 : RAdv w1 w3 r n v T (.slice none 0 0) v T [] := ⟨HA.rf.later hB3, own_later HA.own hB3, HA.told, HA.st, HA.sub, HA.len, HA.same.trans (Same.of_below hB3 no) (fun _ _ h => h.elim), HA.foot⟩
  clear HA hB3
  have HW2 := Lib.hid HA3
  clear HA3 c0 f0
  go_wp2_with fail
  go_loopg [5, 6, 7] T.length (fun k vo a f wr => ∃ (U : List Tm) (v1 : Value) (out : List Int), U.length = k ∧ a = .int .u64 ((((least U).getD 0 : Nat)) : Int) ∧ f = .bool (least U).isSome ∧ Hid (RAdv w1 wr r n v T vo v1 U out))
  case atStart => exact ⟨T, v, [], rfl, rfl, rfl, HW2⟩
  case round =>
    obtain ⟨U, v1, out, hUk, rfl, rfl, HA⟩ := hrel
    cases hle : least U with
    | none =>
      have HLE := Lib.hid hle
      clear hle
      simp only [Option.getD_none, Option.isSome_none]
      have hend : rings U n = [] ∧ stay U n = U := ring_end fun a h => by rw [HLE.out] at h; cases h
      have HE := Lib.hid hend
      clear hend
      go_wp2_with fail
      go_ret
      have hA := HA.out
      have e1 : out = rings T n := by rw [← hA.told, HE.out.1, List.append_nil]
      have e2 : U = stay T n := by rw [← hA.st, HE.out.2]
      subst e1; subst e2
      first | exact ⟨_, v1, rfl, hA⟩ | exact ⟨_, rfl, v1, hA⟩
    | some a =>
      have HLE := Lib.hid hle
      clear hle
      simp only [Option.getD_some, Option.isSome_some]
      by_cases han : a ≤ n
      · have hb2 : (a : Int) ≤ (n : Int) := by omega
        have hA := HA.out
        obtain ⟨vo, voc, rfl, -⟩ := own_open hA.own
        obtain ⟨ao, cap, rfl, hnc, hcm, hao⟩ := own_open hA.rf.own
        obtain ⟨m, hm⟩ : ∃ m, m = U.length := ⟨_, rfl⟩
        obtain ⟨p, hp⟩ : ∃ p, p = out.length := ⟨_, rfl⟩
        have c1 := hA.rf.blk.cell_some (i := 1) rfl
        have hlen := hA.len
        rw [← hm] at c1 hlen hnc hao
        rw [← hp] at hlen ⊢
        have hrl2 := hA.rf.blk.lt
        have HUK := Lib.hid hUk; have HM := Lib.hid hm; have HP := Lib.hid hp; have HAO := Lib.hid hao
        clear hm hp hA hao hUk
        go_wp2_with fail
        obtain ⟨wo, hwo⟩ : ∃ wo, wo = wr := ⟨_, rfl⟩
        subst hwo
        go_loop [5, 8] (fun s i => ∃ k : Nat, k ≤ m ∧ s = .slice vo p voc ∧ i = .int .i64 (k : Int) ∧ Hid (∀ j u, j < k → U[j]? = some u → on a u = false)) (fun _ i => m - (intOf i).toNat)
        case atStart => exact ⟨0, Nat.zero_le _, rfl, rfl, Lib.hid fun j u hj => absurd hj (Nat.not_lt_zero _)⟩
        case round =>
          obtain ⟨k, hk, rfl, rfl, HB⟩ := hrel
          by_cases hlt : k < m
          · have ix1 : (k : Int) < (m : Int) := by omega
            obtain ⟨b, rfl⟩ := HAO.out (by omega)
            obtain ⟨t, ht⟩ : ∃ t, U[k]? = some t := ⟨_, List.getElem?_eq_getElem (by rw [← HM.out]; exact hlt)⟩
            obtain ⟨d0, d1, d2⟩ := rcells HA.out.rf.own ht
            have HT := Lib.hid ht
            obtain ⟨id, at_, ord, nev⟩ := t
            simp only at d0 d1 d2
            clear ht
            by_cases hon : on a ⟨id, at_, ord, nev⟩ = true
            · have hon' := hon
              simp only [on, Bool.and_eq_true, beq_iff_eq, Bool.not_eq_true'] at hon'
              obtain ⟨rfl, rfl⟩ := hon'
              have hidU : U.Pairwise fun a b => a.id ≠ b.id := HI.out.sublist HA.out.sub
              have hone := ring_one hidU HLE.out han HT.out hon HB.out
              have HIU := Lib.hid hidU
              have HONE := Lib.hid hone
              have prep : ∀ v5 w5, w5.ownsRow w1.heap.size 3 1 v5 (p + 1) (iv out ++ [.int .i64 id]) → wo.grownBy w5 (Value.slice vo p voc).ownBlock →
                  w5.cell? ⟨r, 1, none⟩ = some (.slice (some ⟨b, 0, none⟩) m cap) ∧ w5.cell? ⟨b, k * 3, none⟩ = some (.int .i64 id) ∧ Hid (RfAt w5 r n (.slice (some ⟨b, 0, none⟩) m cap) U) ∧ Hid (Same (RF r v) w1 w5) ∧ ∃ a5 c5, v5 = .slice a5 (p + 1) c5 ∧ Hid (w5.ownsRow w1.heap.size 3 1 (.slice a5 (p + 1) c5) (p + 1) (iv (out ++ [id]))) := by
                intro v5 w5 ho hg
                obtain ⟨a5, c5, rfl, _⟩ := own_open ho
                have hA := HA.out
                rw [← HM.out, ← HP.out] at hA
                have hrf := hA.rf.same (Same.of_grown hg) fun q hq e => by
                  rcases hq with rfl | hq
                  · exact own_blk_ne hA.own hA.rf.blk (by decide) e.symm
                  · rcases own_ne hA.own hA.rf.own (by decide) with h | h
                    · rw [h] at e; cases e
                    · exact h (e.symm.trans hq.symm)
                refine ⟨?_, (rcells (n := m) (by have := hrf.own; rwa [← HM.out] at this) HT.out).1, Lib.hid hrf, Lib.hid (hA.same.grown hg fun q hq hql => by have := (hA.own.lt q hq).1; omega), a5, c5, rfl, Lib.hid ?_⟩
                · exact hrf.blk.cell_some (i := 1) rfl
                · unfold iv at ho ⊢
                  rw [List.map_append]
                  exact ho
              have PREP := Lib.hid prep
              have hx2 : (p + 1) * 8 ≤ 140737488355328 := by omega
              have hz := HA.out.same.size
              have hA := HA.out.own
              rw [← HP.out] at hA
              clear prep hidU hone hon
              go_wp2_with (at_builtin; go_loud (refine wpList_app1 El.ints rfl (.tmp 62) (.tmp 71) rfl hA rfl (cs := #[.int .i64 id]) rfl rfl (by intro x hx; simp at hx; subst hx; rfl) hx2 hz ?_); intro v5 w5 hown5 hgr5 _; obtain ⟨c15, e05, HR5, HS5, a5, c5, rfl, HO5⟩ := PREP.out v5 w5 hown5 hgr5; clear hown5 hgr5)
              refine (rstop_any r n _ U w5 HR5.out id HIU.out (by rw [← HM.out]; omega)).mono ?_
              rintro e w6 ⟨rfl, v6, h6, hS6, hF6⟩
              have hF6b : ∀ q, RF r v6 q → RF r v q ∨ w1.heap.size ≤ q := fun q hq => by
                rcases hF6 q hq with h | h
                · have := HA.out.foot q
                  rw [← HM.out] at this
                  exact this h
                · exact .inr (Nat.le_trans HS5.out.size h)
              have hsame6 : Same (RF r v) w1 w6 := HS5.out.trans hS6 fun q hq h => by
                have := HA.out.foot q
                rw [← HM.out] at this
                rcases this h with h | h
                · exact h
                · omega
              have hown6 : w6.ownsRow w1.heap.size 3 1 (.slice a5 (p + 1) c5) (p + 1) (iv (out ++ [id])) := own_same HO5.out hS6 fun q hq e => by
                have hR := HR5.out
                rcases e with rfl | e
                · exact own_blk_ne HO5.out hR.blk (by decide) hq
                · rcases own_ne HO5.out hR.own (by decide) with h | h
                  · rw [h] at hq; cases hq
                  · exact h (hq.trans e.symm)
              have H6 := Lib.hid h6; have HF6 := Lib.hid hF6b; have HS6 := Lib.hid hsame6; have HO6 := Lib.hid hown6
              have hlU : (without U id).length + 1 = m := by rw [HM.out]; exact HONE.out.2.2
              clear h6 hS6 hF6 hF6b hsame6 hown6 c15 e05 d0 d1 d2 c1
              go_wp2_with fail
              refine (rnext_any r n v6 (without U id) w6 H6.out (by omega)).mono ?_
              rintro e w7 ⟨rfl, hB7⟩
              have hfin : RAdv w1 w7 r n v T (.slice a5 (p + 1) c5) v6 (without U id) (out ++ [id]) := by
                refine ⟨H6.out.later hB7, ?_, ?_, ?_, ?_, ?_, HS6.out.trans (Same.of_below hB7 no) (fun _ _ h => h.elim), HF6.out⟩
                · have := own_later HO6.out hB7
                  rw [List.length_append, ← HP.out]
                  exact this
                · have h1 := HONE.out.1
                  rw [← HA.out.told, h1, List.append_assoc]
                  rfl
                · rw [← HA.out.st]; exact HONE.out.2.1
                · exact List.filter_sublist.trans HA.out.sub
                · rw [List.length_append, ← HP.out]
                  simp only [List.length_cons, List.length_nil]
                  omega
              have HF := Lib.hid hfin
              clear hfin hB7
              go_wp2_with fail
              go_roundg (without U id).length
              case measure => have h1 := HUK.out; have h2 := HM.out; omega
              case rel => exact ⟨without U id, v6, out ++ [id], rfl, rfl, rfl, HF⟩
            · have next : ∀ j u, j < k + 1 → U[j]? = some u → on a u = false := fun j u hj hu => by
                rcases Nat.lt_or_ge j k with h' | h'
                · exact HB.out j u h' hu
                · obtain rfl : j = k := by omega
                  rw [HT.out] at hu
                  injection hu with hu
                  subst hu
                  simpa using hon
              have NEXT := Lib.hid next
              have hon2 : at_ = a → nev = true := fun e => by
                cases nev with
                | true => rfl
                | false => exact absurd (by simp [on, e]) hon
              clear next hon
              by_cases hat : at_ = a
              · have hv := hon2 hat
                subst hat; subst hv
                clear hon2
                go_wp2_with fail
                go_round
                case rel => exact ⟨k + 1, by omega, rfl, by go_num, NEXT⟩
                case measure => simp [intOf]; omega
              · have hb3 : ((at_ : Int) == (a : Int)) = false := by simp; omega
                clear hon2
                go_wp2_with fail
                go_round
                case rel => exact ⟨k + 1, by omega, rfl, by go_num, NEXT⟩
                case measure => simp [intOf]; omega
          · exfalso
            obtain ⟨t, ht, hon⟩ := (least_some HLE.out).1
            obtain ⟨j, hj⟩ := List.getElem?_of_mem ht
            have hjm : j < m := by rw [HM.out]; exact (List.getElem?_eq_some_iff.1 hj).1
            rw [HB.out j t (by omega) hj] at hon
            cases hon
      · have hb2 : ¬ (a : Int) ≤ (n : Int) := by omega
        have hend : rings U n = [] ∧ stay U n = U := ring_end fun b h => by rw [HLE.out] at h; injection h with h; omega
        have HE := Lib.hid hend
        clear hend
        go_wp2_with fail
        go_ret
        have hA := HA.out
        have e1 : out = rings T n := by rw [← hA.told, HE.out.1, List.append_nil]
        have e2 : U = stay T n := by rw [← hA.st, HE.out.2]
        subst e1; subst e2
        first | exact ⟨_, v1, rfl, hA⟩ | exact ⟨_, rfl, v1, hA⟩
end Go.Proofs.Ytnnkchgkebcblaa
