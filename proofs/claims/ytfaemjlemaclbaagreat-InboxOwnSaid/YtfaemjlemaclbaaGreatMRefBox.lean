/- RefBox, RefFits, RefFitsWalk, RefPut: joined. -/
import Derived.Test.YtfaemjlemaclbaaGreatMBase
import Derived.BigQuiet
import Derived.Deep.QuietTactic
section
/- The reference's box: how it lies in memory; what New, Count, Length and Whole do with it. -/
namespace Go.Proofs.YtfaemjlemaclbaaGreat
set_option linter.unusedVariables false
set_option linter.unusedSimpArgs false
open Go.RowKit
/-- slices of bytes that are owned, none of them in a block of Z. -/
def PartsZ (w : World) (base : Nat) (Z : Nat → Prop) (v : Value) (ls : List (List UInt8)) : Prop :=
  ∃ vs : List Value, w.ownsRow base 32 1 v ls.length vs ∧ (∀ (i : Nat) (x : Value) (l : List UInt8), vs[i]? = some x → ls[i]? = some l → w.ownsRow base 5 1 x l.length (l.map ub)) ∧
    (∀ (i j : Nat) (x y : Value), i < j → vs[i]? = some x → vs[j]? = some y → x.ownBlock = none ∨ x.ownBlock ≠ y.ownBlock) ∧ (∀ b, v.ownBlock = some b → ¬ Z b) ∧ ∀ x ∈ vs, ∀ b, x.ownBlock = some b → ¬ Z b
theorem PartsZ.parts {w : World} {base : Nat} {Z : Nat → Prop} {v : Value} {ls : List (List UInt8)} (h : PartsZ w base Z v ls) : Parts w base v ls := by
  obtain ⟨vs, h1, h2, h3, _⟩ := h
  exact ⟨vs, h1, h2, h3⟩
theorem PartsZ.keep {S Z : Nat → Prop} {w w' : World} {base : Nat} {v : Value} {ls : List (List UInt8)} (h : PartsZ w base Z v ls) (hb : Same S w w')
    (hS : ∀ k, S k → Z k ∨ w.heap.size ≤ k ∨ ∃ t cs, Blk w k t cs ∧ 5 ≠ t ∧ 32 ≠ t) : PartsZ w' base Z v ls := by
  obtain ⟨vs, h1, h2, h3, h4, h5⟩ := h
  refine ⟨vs, own_same h1 hb fun b e hs => ?_, fun i x l hx hl => own_same (h2 i x l hx hl) hb fun b e hs => ?_, h3, h4, h5⟩
  · rcases hS b hs with h | h | ⟨t, cs, h, _, ht⟩
    · exact h4 b e h
    · have := (h1.lt b e).2; omega
    · exact own_blk_ne h1 h ht e
  · rcases hS b hs with h | h | ⟨t, cs, h, ht, _⟩
    · exact h5 x (List.mem_of_getElem? hx) b e h
    · have := ((h2 i x l hx hl).lt b e).2; omega
    · exact own_blk_ne (h2 i x l hx hl) h ht e
def RefAt (w : World) (r base : Nat) (Z : Nat → Prop) (ls : List (List UInt8)) : Prop := ∃ v, Blk w r 139 [v] ∧ PartsZ w base Z v ls ∧ base ≤ r
theorem RefAt.keep {S Z : Nat → Prop} {w w' : World} {r base : Nat} {ls : List (List UInt8)} (h : RefAt w r base Z ls) (hb : Same S w w') (hr : ¬ S r)
    (hS : ∀ k, S k → Z k ∨ w.heap.size ≤ k ∨ ∃ t cs, Blk w k t cs ∧ 5 ≠ t ∧ 32 ≠ t) : RefAt w' r base Z ls := by
  obtain ⟨v, h1, h2, h3⟩ := h
  exact ⟨v, h1.same hb hr, h2.keep hb hS, h3⟩
theorem RefAt.later {Z : Nat → Prop} {w w' : World} {r base : Nat} {ls : List (List UInt8)} (h : RefAt w r base Z ls) (hb : Below w.heap.size w w') : RefAt w' r base Z ls :=
  h.keep (Same.of_below hb no) (fun h => h) fun _ h => h.elim
theorem RefAt.lt {Z : Nat → Prop} {w : World} {r base : Nat} {ls : List (List UInt8)} (h : RefAt w r base Z ls) : r < w.heap.size ∧ base ≤ r := by
  obtain ⟨v, h1, h2, h3⟩ := h
  exact ⟨h1.lt, h3⟩
/-- other blocks that are out of reach: such as it does not have, or new ones. -/
theorem RefAt.out {Z Z' : Nat → Prop} {w w' : World} {r base : Nat} {ls : List (List UInt8)} (h : RefAt w r base Z ls) (hb : Below w.heap.size w w') (hZ : ∀ k, Z' k → Z k ∨ w.heap.size ≤ k) : RefAt w' r base Z' ls := by
  obtain ⟨v, h1, ⟨vs, g1, g2, g3, g4, g5⟩, h3⟩ := h
  have hl : vs.length = ls.length := by simpa using g1.1
  refine ⟨v, h1.later hb, ⟨vs, own_later g1 hb, fun i x l hx hl => own_later (g2 i x l hx hl) hb, g3, fun b e hz => ?_, fun x hx b e hz => ?_⟩, h3⟩
  · rcases hZ b hz with h | h
    · exact g4 b e h
    · have := (g1.lt b e).2; omega
  · rcases hZ b hz with h | h
    · exact g5 x hx b e h
    · obtain ⟨i, hi, rfl⟩ := List.mem_iff_getElem.1 hx
      have := ((g2 i _ _ (List.getElem?_eq_getElem hi) (List.getElem?_eq_getElem (by omega))).lt b e).2
      omega
/-- its cell, as a slice; and how its elements read. -/
theorem RefAt.open {Z : Nat → Prop} {w : World} {r base : Nat} {ls : List (List UInt8)} (h : RefAt w r base Z ls) : ∃ ao cap, w.cell? ⟨r, 0, none⟩ = some (.slice ao ls.length cap) ∧ Parts w base (.slice ao ls.length cap) ls := by
  obtain ⟨v, h1, h2, h3⟩ := h
  obtain ⟨vs, hv, -⟩ := id h2
  obtain ⟨ao, cap, rfl, -⟩ := Rd.of_own hv
  exact ⟨ao, cap, h1.cell_some rfl, h2.parts⟩
/-- element i of what reads as byte slices. -/
theorem Parts.elem {w : World} {base i : Nat} {ao : Option Addr} {n cap : Nat} {ls : List (List UInt8)} (h : Parts w base (.slice ao n cap) ls) (hi : i < ls.length) :
    ∃ b off xp xc, ao = some ⟨b, off, none⟩ ∧ w.cell? ⟨b, off + i, none⟩ = some (.slice xp (ls.getD i []).length xc) ∧ Bs w (.slice xp (ls.getD i []).length xc) (ls.getD i []) := by
  obtain ⟨vs, hvl, ⟨ao', cap', he, _, _, hr⟩, hin⟩ := h.bss
  injection he with e1 e2 e3
  subst e1; subst e2; subst e3
  obtain ⟨x, hx⟩ : ∃ x, vs[i]? = some x := ⟨_, List.getElem?_eq_getElem (by omega)⟩
  obtain ⟨b, off, rfl, hc⟩ := hr (by intro h; rw [h] at hx; simp at hx)
  have hl : ls[i]? = some (ls.getD i []) := by rw [List.getD_eq_getElem?_getD, List.getElem?_eq_getElem hi]; rfl
  have hb := hin i x _ hx hl
  obtain ⟨xp, xc, rfl, -⟩ := id hb
  exact ⟨b, off, xp, xc, rfl, hc i _ hx, hb⟩

set_option maxHeartbeats 1000000 in
set_option maxRecDepth 100000 in
theorem refNew_yes (n : Nat) (w : World) (h1 : 1 ≤ n) (h2 : n ≤ 64) :
    Calls Tryz.prog 62 #[.int .i64 n] w fun e w' => ∃ r, e = .returned (.tuple #[.pointer (some ⟨r, 0, none⟩), .int .i64 0]) ∧ RefAt w' r w.heap.size no (List.replicate n []) ∧ Below w.heap.size w w' := by
  go_enter Tryz.func62, Tryz.ntmps62
  go_wp2_with (refine wpList_mk1 El.bytes rfl rfl _ _ rfl n rfl rfl rfl rfl (by omega) (by simp only [maxLen]; omega) ?_)
  go_ret2
  have hz : ∀ (j : Nat) (y : Value), (List.replicate n (Value.slice none 0 0))[j]? = some y → y = Value.slice none 0 0 := fun j y hy => by
    rw [List.getElem?_replicate] at hy
    split at hy
    · injection hy with hy; exact hy.symm
    · cases hy
  have hown : (w.alloc (.cells (Array.replicate n (Value.slice none 0 0)) 32)).ownsRow w.heap.size 32 1 (.slice (some ⟨w.heap.size, 0, none⟩) n n) n (List.replicate n (Value.slice none 0 0)) := by
    have hb := Blk.rep w 32 n (Value.slice none 0 0)
    exact own_of_blk (rest := []) (by simpa using hb) (Nat.le_refl _) (by simp) (Nat.le_refl _) (by simp only [maxLen]; omega) (by simp)
  have hb2 := Blk.new (w.alloc (.cells (Array.replicate n (Value.slice none 0 0)) 32)) 139 [Value.slice (some ⟨w.heap.size, 0, none⟩) n n]
  rw [show (w.alloc (.cells (Array.replicate n (Value.slice none 0 0)) 32)).heap.size = w.heap.size + 1 by simp] at hb2
  refine ⟨_, rfl, ⟨_, hb2, ⟨List.replicate n (Value.slice none 0 0), ?_, fun i x l hx hl => ?_, fun i j x y _ hx _ => ?_, fun _ _ h => h.elim, fun _ _ _ _ h => h.elim⟩, by simp⟩, ((Below.refl _ _).alloc (Nat.le_refl _) _).alloc (by simp) _⟩
  · rw [List.length_replicate]
    exact hown.alloc _
  · obtain rfl := hz i x hx
    obtain rfl : l = [] := by
      rw [List.getElem?_replicate] at hl
      split at hl
      · injection hl with hl; exact hl.symm
      · cases hl
    exact World.ownsRow_nil _ _ _ _
  · obtain rfl := hz i x hx
    exact .inl rfl
set_option maxHeartbeats 400000 in
set_option maxRecDepth 100000 in
theorem refNew_no (n : Int) (w : World) (h : n < 1 ∨ 64 < n) :
    Calls Tryz.prog 62 #[.int .i64 n] w fun e w' => e = .returned (.tuple #[.pointer none, .int .i64 1]) ∧ w = w' := by
  rcases h with h | h
  · go_enter Tryz.func62, Tryz.ntmps62
    go_wp2
    go_ret2
    exact ⟨rfl, rfl⟩
  · have h' : ¬ n < 1 := by omega
    go_enter Tryz.func62, Tryz.ntmps62
    go_wp2
    go_ret2
    exact ⟨rfl, rfl⟩
set_option maxHeartbeats 400000 in
set_option maxRecDepth 100000 in
theorem refCount_any (r base : Nat) {Z : Nat → Prop} (ls : List (List UInt8)) (w : World) (h : RefAt w r base Z ls) :
    Calls Tryz.prog 63 #[.pointer (some ⟨r, 0, none⟩)] w fun e w' => e = .returned (.int .i64 ls.length) ∧ w = w' := by
  obtain ⟨ao, cap, c0, -⟩ := h.open
  go_enter Tryz.func63, Tryz.ntmps63
  go_wp2
  go_ret
  exact ⟨rfl, rfl⟩
def allIn (ls : List (List UInt8)) : Bool := ls.all fun p => decide (0 < p.length)
def blockIn (ls : List (List UInt8)) : List UInt8 := if allIn ls = true then ls.flatten else []
theorem allIn_no {ls : List (List UInt8)} {k : Nat} (hk : k < ls.length) (h : (ls.getD k []).length = 0) : allIn ls = false := by
  unfold allIn
  rw [List.all_eq_false]
  refine ⟨ls[k], List.getElem_mem _, ?_⟩
  rw [List.getD_eq_getElem?_getD, List.getElem?_eq_getElem hk] at h
  simp at h
  simp [h]
theorem allIn_yes {ls : List (List UInt8)} (h : ∀ j, j < ls.length → 0 < (ls.getD j []).length) : allIn ls = true := by
  unfold allIn
  rw [List.all_eq_true]
  intro p hp
  obtain ⟨j, hj, rfl⟩ := List.mem_iff_getElem.1 hp
  have := h j hj
  rw [List.getD_eq_getElem?_getD, List.getElem?_eq_getElem hj] at this
  simpa using this
set_option maxRecDepth 10000 in
theorem flatIn_le {ls : List (List UInt8)} (hm : ∀ p ∈ ls, p.length ≤ 1024) (k : Nat) : (ls.take k).flatten.length ≤ k * 1024 := by
  induction k with
  | zero => simp
  | succ k ih =>
    by_cases h : k < ls.length
    · rw [List.take_succ_eq_append_getElem h, List.flatten_append, List.length_append]
      have := hm ls[k] (List.getElem_mem _)
      simp
      simp at ih
      omega
    · rw [List.take_of_length_le (by omega)]
      rw [List.take_of_length_le (by omega)] at ih
      omega
set_option maxHeartbeats 1000000 in
set_option maxRecDepth 100000 in
theorem refWhole_any (r base : Nat) {Z : Nat → Prop} (ls : List (List UInt8)) (w : World) (h : RefAt w r base Z ls) (hl : ls.length ≤ 64) (hm : ∀ p ∈ ls, p.length ≤ 1024) :
    Calls Tryz.prog 65 #[.pointer (some ⟨r, 0, none⟩)] w fun e w' => ∃ v, e = .returned (.tuple #[v, .bool (allIn ls)]) ∧ w'.ownsRow w.heap.size 5 1 v (blockIn ls).length ((blockIn ls).map ub) ∧ Below w.heap.size w w' := by
  have hfl := flatIn_le hm
  have hr := h.lt.1
  obtain ⟨ao, cap, c0, hp⟩ := h.open
  have HF := Lib.hid hfl; have HP := Lib.hid hp
  clear hfl hp hm h
  obtain ⟨N, hN⟩ : ∃ N, N = ls.length := ⟨_, rfl⟩
  rw [← hN] at c0 hl
  have HN := Lib.hid hN
  clear hN
  go_enter Tryz.func65, Tryz.ntmps65
  go_wp2
  go_loopw [4, 5] (fun o i wr => ∃ k : Nat, k ≤ N ∧ i = .int .i64 k ∧ wr.ownsRow w.heap.size 5 1 o (ls.take k).flatten.length ((ls.take k).flatten.map ub) ∧ Below w.heap.size w wr ∧ Hid (∀ j, j < k → 0 < (ls.getD j []).length))
    (fun _ i _ => N - (intOf i).toNat)
  case atStart => exact ⟨0, Nat.zero_le _, rfl, World.ownsRow_nil _ _ _ _, Below.refl _ _, Lib.hid fun j hj => absurd hj (Nat.not_lt_zero _)⟩
  case round =>
    obtain ⟨k, hk, rfl, hown, hB, HK⟩ := hrel
    have hz := hB.size
    have c0 := below_cell hB c0 hr
    by_cases hlt : k < N
    · have hkl : k < ls.length := by rw [← HN.out]; exact hlt
      obtain ⟨b, off, xp, xc, rfl, e1, b1⟩ := (HP.out.later hB).elem (by rw [← HN.out]; exact hlt)
      obtain ⟨p, hp⟩ : ∃ p, p = ls.getD k [] := ⟨_, rfl⟩
      rw [← hp] at e1 b1
      have hts : (ls.take (k + 1)).flatten = (ls.take k).flatten ++ p := by
        rw [List.take_succ_eq_append_getElem hkl, List.flatten_append, hp, List.getD_eq_getElem?_getD, List.getElem?_eq_getElem hkl]; simp
      have hfk := HF.out k
      have hfk1 := HF.out (k + 1)
      rw [hts, List.length_append] at hfk1
      have ix : (k : Int) < N := by omega
      obtain ⟨L, hL⟩ : ∃ L, L = (ls.take k).flatten := ⟨_, rfl⟩
      rw [← hL] at hown hts hfk hfk1
      have HT := Lib.hid hts; have HPD := Lib.hid hp; have HL := Lib.hid hL
      clear hp hts hL
      by_cases hpz : p.length = 0
      · have t1 : ((p.length : Int) == 0) = true := by rw [beq_iff_eq]; omega
        go_wp2
        go_ret2
        have : allIn ls = false := allIn_no hkl (by rw [← HPD.out]; exact hpz)
        rw [this]
        refine ⟨_, rfl, ?_, hB⟩
        rw [show blockIn ls = [] by unfold blockIn; rw [this]; rfl]
        exact World.ownsRow_nil _ _ _ _
      · have t1 : ((p.length : Int) == 0) = false := by rw [beq_eq_false_iff_ne]; omega
        go_wp2_with (at_builtin; go_loud (refine wpList_app El.u8 rfl (.tmp 26) (.tmp 33) rfl hown rfl b1 rfl (by simp) (ub_one _) (by omega) hz ?_); intro v1 w1 hown1 hgr1 _)
        have hB1 := hB.grown hgr1 hz (fun k hk => (hown.lt k hk).1)
        clear hgr1 hown
        go_roundw
        case rel => exact ⟨k + 1, by omega, by go_num, by rw [HT.out, List.length_append, List.map_append]; exact hown1, hB1, Lib.hid fun j hj => by
          by_cases e : j = k
          · subst e; rw [← HPD.out]; omega
          · exact HK.out j (by omega)⟩
        case measure => simp [intOf]; omega
    · obtain rfl : k = N := by omega
      have ha := Lib.hid (allIn_yes fun j hj => HK.out j (by rw [HN.out]; exact hj))
      have HB := Lib.hid (show blockIn ls = (ls.take k).flatten by unfold blockIn; rw [ha.out, if_pos rfl, HN.out, List.take_length])
      go_wp2
      go_ret2
      rw [ha.out, HB.out]
      exact ⟨_, rfl, hown, hB⟩
end Go.Proofs.YtfaemjlemaclbaaGreat
end
section
/- The reference's Fits. -/
namespace Go.Proofs.YtfaemjlemaclbaaGreat
set_option linter.unusedVariables false
set_option linter.unusedSimpArgs false
open Go.RowKit
def evenOf (ls : List (List UInt8)) : Bool := (ls.take (ls.length - 1)).all fun p => !(decide (0 < p.length)) || decide (p.length = lenOf ls)
def lastOf (ls : List (List UInt8)) : Nat := (ls.getD (ls.length - 1) []).length
def roomOf (ls : List (List UInt8)) : Bool := if lenOf ls = 0 then decide (ls.length * lastOf ls ≤ 1024) else decide (lastOf ls ≤ lenOf ls) && decide ((ls.length - 1) * lenOf ls + max 1 (lastOf ls) ≤ 1024)
theorem evenOf_no {ls : List (List UInt8)} {k : Nat} (hk : k + 1 < ls.length) (h1 : 0 < (ls.getD k []).length) (h2 : (ls.getD k []).length ≠ lenOf ls) : evenOf ls = false := by
  unfold evenOf
  rw [List.all_eq_false]
  refine ⟨ls.getD k [], ?_, by rw [decide_eq_true h1, decide_eq_false h2]; decide⟩
  rw [List.mem_take_iff_getElem]
  refine ⟨k, by omega, ?_⟩
  rw [List.getD_eq_getElem?_getD, List.getElem?_eq_getElem (by omega)]; rfl
theorem evenOf_yes {ls : List (List UInt8)} (h : ∀ j, j + 1 < ls.length → (ls.getD j []).length = 0 ∨ (ls.getD j []).length = lenOf ls) : evenOf ls = true := by
  unfold evenOf
  rw [List.all_eq_true]
  intro p hp
  obtain ⟨j, hj, rfl⟩ := List.mem_iff_getElem.1 hp
  rw [List.length_take] at hj
  have := h j (by omega)
  rw [List.getD_eq_getElem?_getD, List.getElem?_eq_getElem (by omega)] at this
  rw [List.getElem_take]
  simp at this ⊢
  rcases this with h | h
  · exact .inl h
  · exact .inr h
theorem lenOf_le {ls : List (List UInt8)} (hm : ∀ p ∈ ls, p.length ≤ 1024) : lenOf ls ≤ 1024 := by
  unfold lenOf
  cases h : (ls.take (ls.length - 1)).find? fun p => decide (0 < p.length) with
  | none => simp
  | some p => exact hm p (List.mem_of_mem_take (List.mem_of_find?_eq_some h))
end Go.Proofs.YtfaemjlemaclbaaGreat
end
section
/- The reference's Fits, walked. -/
namespace Go.Proofs.YtfaemjlemaclbaaGreat
set_option linter.unusedVariables false
set_option linter.unusedSimpArgs false
open Go.RowKit
set_option maxHeartbeats 1000000 in
set_option maxRecDepth 100000 in
theorem refFits_any (v : Value) (ls : List (List UInt8)) (w : World) (h : Bss w v ls) (hl0 : 1 ≤ ls.length) (hl : ls.length ≤ 64) (hm : ∀ p ∈ ls, p.length ≤ 1024) :
    Calls Tryz.prog 82 #[v] w fun e w' => e = .returned (.bool (evenOf ls && roomOf ls)) ∧ ∃ q, w' = w.drewN q := by
  have hlen := refLen_any v ls w h (by omega)
  have hle := lenOf_le hm
  obtain ⟨vs, hvl, ⟨ao, cap, rfl, _, _, hr⟩, hin⟩ := h
  obtain ⟨b, off, rfl, hc⟩ := hr (by intro h; rw [h] at hvl; simp at hvl; omega)
  obtain ⟨x, hx⟩ : ∃ x, vs[ls.length - 1]? = some x := ⟨_, List.getElem?_eq_getElem (by omega)⟩
  have e1 := hc _ x hx
  have b1 := hin _ x _ hx (List.getElem?_eq_getElem (by omega))
  obtain ⟨M, hM⟩ : ∃ M, ls.length = M + 1 := ⟨ls.length - 1, by omega⟩
  have hlast : lastOf ls = (ls[ls.length - 1]'(by omega)).length := by
    unfold lastOf
    rw [List.getD_eq_getElem?_getD, List.getElem?_eq_getElem (by omega)]; rfl
  obtain ⟨z, hz⟩ : ∃ z, z = ls[ls.length - 1]'(by omega) := ⟨_, rfl⟩
  rw [← hz] at b1 hlast
  have hz1 : z.length ≤ 1024 := hz ▸ hm _ (List.getElem_mem _)
  obtain ⟨xp, xc, rfl, -⟩ := id b1
  obtain ⟨A, hA⟩ : ∃ A, A = lenOf ls := ⟨_, rfl⟩
  rw [hM] at hlen e1 ⊢
  rw [← hA] at hlen hle
  rw [Nat.add_sub_cancel] at e1
  have hM64 : M + 1 ≤ 64 := by omega
  have HM := Lib.hid hM; have HA := Lib.hid hA; have HL := Lib.hid hlast; have HC := Lib.hid hc; have HIN := Lib.hid hin; have HMM := Lib.hid hm; have HVL := Lib.hid hvl
  clear hM hA hlast hc hin hm hz hr hx b1 hl hl0 hvl
  go_enter Tryz.func82, Tryz.ntmps82
  go_wp2_with fail
  refine hlen.mono ?_
  rintro e _ ⟨rfl, rfl⟩
  have ix : (M : Int) < (M : Int) + 1 := by omega
  go_wp2_with fail
  go_loopw [5] (fun i wr => ∃ k : Nat, k ≤ M ∧ i = .int .i64 k ∧ Hid (∀ j, j < k → (ls.getD j []).length = 0 ∨ (ls.getD j []).length = A) ∧ ∃ q, wr = w.drewN q) (fun i _ => M - (intOf i).toNat)
  case atStart => exact ⟨0, Nat.zero_le _, rfl, Lib.hid fun j hj => absurd hj (Nat.not_lt_zero _), 0, rfl⟩
  case round =>
    obtain ⟨k, hk, rfl, h0, q, rfl⟩ := hrel
    by_cases hlt : k < M
    · obtain ⟨x, hx⟩ : ∃ x, vs[k]? = some x := ⟨vs[k]'(by rw [HVL.out, HM.out]; omega), List.getElem?_eq_getElem _⟩
      have e3 := HC.out k x hx
      have hkl : k < ls.length := by rw [HM.out]; omega
      have b3 := HIN.out k x _ hx (List.getElem?_eq_getElem hkl)
      obtain ⟨p, hp⟩ : ∃ p, p = ls[k] := ⟨_, rfl⟩
      rw [← hp] at b3
      have hpd : ls.getD k [] = p := by rw [List.getD_eq_getElem?_getD, List.getElem?_eq_getElem hkl, hp]; rfl
      obtain ⟨yp, yc, rfl, -⟩ := id b3
      have ix2 : (k : Int) < (M : Int) + 1 := by omega
      have HPD := Lib.hid hpd
      clear hp hx hpd b3
      by_cases hpz : 0 < p.length
      · by_cases hpa : p.length = A
        · have t1 : ((p.length : Int) == A) = true := by rw [beq_iff_eq]; omega
          go_wp2_with fail
          go_roundw
          case rel => exact ⟨k + 1, by omega, by go_num, Lib.hid fun j hj => by
            by_cases e : j = k
            · subst e; rw [HPD.out]; exact .inr hpa
            · exact h0.out j (by omega), _, rfl⟩
          case measure => simp [intOf]; omega
        · have t1 : ((p.length : Int) == A) = false := by rw [beq_eq_false_iff_ne]; omega
          go_wp2_with fail
          go_ret
          exact ⟨by rw [evenOf_no (k := k) (by rw [HM.out]; omega) (by rw [HPD.out]; exact hpz) (by rw [HPD.out, ← HA.out]; exact hpa)]; rfl, _, rfl⟩
      · go_wp2_with fail
        go_roundw
        case rel => exact ⟨k + 1, by omega, by go_num, Lib.hid fun j hj => by
          by_cases e : j = k
          · subst e; rw [HPD.out]; exact .inl (by omega)
          · exact h0.out j (by omega), _, rfl⟩
        case measure => simp [intOf]; omega
    · obtain rfl : k = M := by omega
      have HE := Lib.hid (evenOf_yes (ls := ls) fun j hj => by rw [← HA.out]; exact h0.out j (by rw [HM.out] at hj; omega))
      have HR := Lib.hid (show roomOf ls = if A = 0 then decide ((k + 1) * z.length ≤ 1024) else decide (z.length ≤ A) && decide (k * A + max 1 z.length ≤ 1024) by unfold roomOf; rw [← HA.out, HL.out, HM.out, Nat.add_sub_cancel])
      have hmA : k * A ≤ 63 * 1024 := Nat.mul_le_mul (by omega) hle
      have hmz : (k + 1) * z.length ≤ 64 * 1024 := Nat.mul_le_mul (by omega) hz1
      have hPA : (k : Int) * A = ((k * A : Nat) : Int) := (Int.natCast_mul k A).symm
      have hPz : ((k : Int) + 1) * z.length = (((k + 1) * z.length : Nat) : Int) := by rw [Int.natCast_mul]; rfl
      have hw : wrap64 (((k : Int) + 1) * z.length) = ((k : Int) + 1) * z.length := by rw [hPz]; simp only [wrap64]; omega
      have HPA := Lib.hid hPA; have HPZ := Lib.hid hPz; clear hPA hPz
      by_cases hA0 : A = 0
      · rw [if_pos hA0] at HR
        subst hA0
        go_wp2_with fail
        go_ret
        refine ⟨?_, _, rfl⟩
        rw [HE.out, HR.out, Bool.true_and]
        exact congrArg (fun b => Ending.returned (.bool b)) (decide_eq_decide.2 (by rw [HPZ.out]; omega))
      · have tA : ((A : Int) == 0) = false := by rw [beq_eq_false_iff_ne]; omega
        rw [if_neg hA0] at HR
        by_cases hzA : z.length ≤ A
        · by_cases hz0 : z.length = 0
          · go_wp2_with fail
            all_goals
              go_ret
              refine ⟨?_, _, rfl⟩
              rw [HE.out, HR.out, Bool.true_and, decide_eq_true hzA, Bool.true_and]
              exact congrArg (fun b => Ending.returned (.bool b)) (decide_eq_decide.2 (by rw [HPA.out]; omega))
          · go_wp2_with fail
            all_goals
              go_ret
              refine ⟨?_, _, rfl⟩
              rw [HE.out, HR.out, Bool.true_and, decide_eq_true hzA, Bool.true_and]
              exact congrArg (fun b => Ending.returned (.bool b)) (decide_eq_decide.2 (by rw [HPA.out]; omega))
        · go_wp2_with fail
          all_goals
            go_ret
            refine ⟨?_, _, rfl⟩
            rw [HE.out, HR.out, Bool.true_and, decide_eq_false hzA, Bool.false_and]
            rfl
end Go.Proofs.YtfaemjlemaclbaaGreat
end
section
/- The reference's Put. -/
namespace Go.Proofs.YtfaemjlemaclbaaGreat
set_option linter.unusedVariables false
set_option linter.unusedSimpArgs false
open Go.RowKit
theorem parts_set {Z : Nat → Prop} {w w1 : World} {base g c n i : Nat} {x1 : Value} {ls : List (List UInt8)} {t : List UInt8} (hP : PartsZ w base Z (.slice (some ⟨g, 0, none⟩) n c) ls) (hZ : ∀ k, Z k → k < w.heap.size) (hn : ls.length = n) (hi : i < n)
    (h1 : w1.ownsRow w.heap.size 5 1 x1 t.length (t.map ub)) (hB : Below w.heap.size w w1) : PartsZ (w1.setCell ⟨g, i, none⟩ x1) base Z (.slice (some ⟨g, 0, none⟩) n c) (ls.set i t) := by
  subst hn
  obtain ⟨vs, h0, hin, hne, hzv, hzs⟩ := hP
  have hvl : vs.length = ls.length := by simpa using h0.1
  have hbg := h0.lt g rfl
  have h0' := own_later h0 hB
  have hs := h0'.stored i x1
  have hkeep : ∀ {y : Value} {n : Nat} {xs : List Value}, w1.ownsRow base 5 1 y n xs → (w1.setCell ⟨g, i, none⟩ x1).ownsRow base 5 1 y n xs := fun h => h.kept hs.2 (own_ne h h0' (by decide))
  refine ⟨vs.set i x1, by simpa using hs.1, fun j y l hy hl => ?_, fun j k y z hjk hy hz => ?_, hzv, fun x hx b e hz => ?_⟩
  · rw [List.getElem?_set] at hy hl
    by_cases he : i = j
    · subst he
      rw [if_pos rfl, if_pos (by omega)] at hy hl
      injection hy with hy; injection hl with hl
      subst hy; subst hl
      exact hkeep (own_mono h1 (by omega))
    · rw [if_neg he] at hy hl
      exact hkeep (own_later (hin j y l hy hl) hB)
  · rw [List.getElem?_set] at hy hz
    by_cases hj : i = j
    · subst hj
      rw [if_pos rfl, if_pos (by omega)] at hy
      rw [if_neg (by omega)] at hz
      injection hy with hy
      subst hy
      have hk : k < vs.length := (List.getElem?_eq_some_iff.1 hz).1
      have hz' := hin k z _ hz (List.getElem?_eq_getElem (by omega))
      cases hyo : x1.ownBlock with
      | none => exact .inl rfl
      | some b =>
        refine .inr fun e => ?_
        have a1 := (h1.lt b hyo).1
        have a2 := (hz'.lt b e.symm).2
        omega
    · rw [if_neg hj] at hy
      have hjl : j < vs.length := (List.getElem?_eq_some_iff.1 hy).1
      have hy' := hin j y _ hy (List.getElem?_eq_getElem (by omega))
      by_cases hk : i = k
      · subst hk
        rw [if_pos rfl, if_pos (by omega)] at hz
        injection hz with hz
        subst hz
        cases hyo : y.ownBlock with
        | none => exact .inl rfl
        | some b =>
          refine .inr fun e => ?_
          have a1 := (h1.lt b e.symm).1
          have a2 := (hy'.lt b hyo).2
          omega
      · rw [if_neg hk] at hz
        exact hne j k y z hjk hy hz
  · rcases List.mem_or_eq_of_mem_set hx with h | h
    · exact hzs x h b e hz
    · subst h
      have a1 := (h1.lt b e).1
      have a2 := hZ b hz
      omega
theorem PartsZ.store {Z : Nat → Prop} {w : World} {base r i : Nat} {v u : Value} {ls : List (List UInt8)} {cs : List Value} (h : PartsZ w base Z v ls) (hb : Blk w r 139 cs) : PartsZ (w.setCell ⟨r, i, none⟩ u) base Z v ls :=
  h.keep ((Same.refl (at1 r) _).setCell (p := ⟨r, i, none⟩) (fun _ => rfl) u) fun k hk => .inr (.inr ⟨_, cs, (show k = r from hk) ▸ hb, by decide, by decide⟩)

def fitsOf (ls : List (List UInt8)) : Bool := evenOf ls && roomOf ls
def refErr (ls : List (List UInt8)) (index : Int) (seg : List UInt8) : Int :=
  if index < 0 ∨ (ls.length : Int) ≤ index ∨ seg.length = 0 ∨ 1024 < seg.length then 1
  else if ls.getD index.toNat [] ≠ [] then (if ls.getD index.toNat [] = seg then 3 else 120)
  else if fitsOf (ls.set index.toNat seg) = true then 0 else 120
def refPut (ls : List (List UInt8)) (index : Int) (seg : List UInt8) : List (List UInt8) := if refErr ls index seg = 0 then ls.set index.toNat seg else ls

set_option maxHeartbeats 2000000 in
set_option maxRecDepth 100000 in
theorem refPut_arg (r base : Nat) {Z : Nat → Prop} (ls : List (List UInt8)) (index : Int) (v : Value) (seg : List UInt8) (w : World) (h : RefAt w r base Z ls) (hr : Bs w v seg)
    (hc : index < 0 ∨ (ls.length : Int) ≤ index ∨ seg.length = 0 ∨ 1024 < seg.length) :
    Calls Tryz.prog 64 #[.pointer (some ⟨r, 0, none⟩), .int .i64 index, v] w fun e w' => e = .returned (.int .i64 1) ∧ w = w' := by
  obtain ⟨ao, cap, c0, -⟩ := h.open
  obtain ⟨vo, vcap, rfl, hn, hm, hcc⟩ := id hr
  by_cases h1 : index < 0
  · clear hc
    go_enter Tryz.func64, Tryz.ntmps64
    go_wp2
    go_ret
    exact ⟨rfl, rfl⟩
  by_cases h2 : (ls.length : Int) ≤ index
  · clear hc
    go_enter Tryz.func64, Tryz.ntmps64
    go_wp2
    go_ret
    exact ⟨rfl, rfl⟩
  by_cases h3 : seg.length < 1
  · clear hc
    have hb : ((seg.length : Int) == 0) = true := by rw [beq_iff_eq]; omega
    go_enter Tryz.func64, Tryz.ntmps64
    go_wp2
    go_ret
    exact ⟨rfl, rfl⟩
  · have h4 : 1024 < seg.length := by omega
    have hb : ((seg.length : Int) == 0) = false := by rw [beq_eq_false_iff_ne]; omega
    clear hc
    go_enter Tryz.func64, Tryz.ntmps64
    go_wp2
    go_ret
    exact ⟨rfl, rfl⟩
set_option maxHeartbeats 2000000 in
set_option maxRecDepth 100000 in
theorem refPut_there (r base i : Nat) {Z : Nat → Prop} (ls : List (List UInt8)) (v : Value) (seg : List UInt8) (w : World) (h : RefAt w r base Z ls) (hr : Bs w v seg) (hi : i < ls.length) (h1 : 1 ≤ seg.length) (h2 : seg.length ≤ 1024)
    (h0 : ls.getD i [] ≠ []) :
    Calls Tryz.prog 64 #[.pointer (some ⟨r, 0, none⟩), .int .i64 i, v] w fun e w' => e = .returned (.int .i64 (if ls.getD i [] = seg then 3 else 120)) ∧ Same no w w' := by
  obtain ⟨ao, cap, c0, hp⟩ := h.open
  obtain ⟨b, off, xp, xc, rfl, e1, b1⟩ := hp.elem hi
  obtain ⟨p, hp'⟩ : ∃ p, p = ls.getD i [] := ⟨_, rfl⟩
  rw [← hp'] at e1 b1 h0 ⊢
  have hp0 : 0 < p.length := List.length_pos_iff.2 h0
  have ix : (i : Int) < ls.length := by omega
  have ix2 : ¬ (ls.length : Int) ≤ i := by omega
  have hb : ((seg.length : Int) == 0) = false := by rw [beq_eq_false_iff_ne]; omega
  obtain ⟨vo, vcap, rfl, -⟩ := id hr
  have k1 := fun n => run_str8 b1 (W := w.drewN n) rfl
  have k2 := fun n => run_str8 hr (W := w.drewN n) rfl
  clear hp' hp b1 hr h0 h
  by_cases hs : p = seg
  · have hq := str_beq_yes hs
    rw [if_pos hs]
    clear hs
    go_enter Tryz.func64, Tryz.ntmps64
    go_wp2
    go_quiet (fail)
    go_wp2
    go_ret
    exact ⟨rfl, (Same.refl _ _).drewN _⟩
  · have hq := str_beq_no hs
    rw [if_neg hs]
    clear hs
    go_enter Tryz.func64, Tryz.ntmps64
    go_wp2
    go_quiet (fail)
    go_wp2
    go_ret
    exact ⟨rfl, (Same.refl _ _).drewN _⟩

set_option maxHeartbeats 4000000 in
set_option maxRecDepth 100000 in
theorem refPut_in (r base i : Nat) {Z : Nat → Prop} (F : Bool) (ls : List (List UInt8)) (v : Value) (seg : List UInt8) (w : World) (h : RefAt w r base Z ls) (hr : Bs w v seg) (hl : ls.length ≤ 64) (hm : ∀ p ∈ ls, p.length ≤ 1024)
    (hi : i < ls.length) (h1 : 1 ≤ seg.length) (h2 : seg.length ≤ 1024) (h0 : ls.getD i [] = []) (hZ : ∀ k, Z k → k < w.heap.size) (hF : Hid (F = fitsOf (ls.set i seg))) :
    Calls Tryz.prog 64 #[.pointer (some ⟨r, 0, none⟩), .int .i64 i, v] w fun e w' => e = .returned (.int .i64 (bif F then 0 else 120)) ∧ RefAt w' r base Z (bif F then ls.set i seg else ls) ∧ Same (at1 r) w w' := by
  have hra := h.lt
  obtain ⟨sv, hb, hP, -⟩ := id h
  obtain ⟨vs, hv, hin, hne, -, hzs⟩ := hP
  have hvl : vs.length = ls.length := by simpa using hv.1
  obtain ⟨g, cap, rest, rfl, hg1, hg2, hg3, hblk, hrest⟩ := own_blk hv (by omega)
  have hgs := hblk.lt
  have c0 := hb.cell_some (i := 0) rfl
  have c0f := hb.frozen 0
  obtain ⟨N, hN⟩ : ∃ N, N = ls.length := ⟨_, rfl⟩
  rw [← hN] at hv hl hi hvl c0 hg2
  have HN := Lib.hid hN
  obtain ⟨x, hx⟩ : ∃ x, vs[i]? = some x := ⟨_, List.getElem?_eq_getElem (by omega)⟩
  have hli : ls[i]? = some [] := by rw [List.getD_eq_getElem?_getD] at h0; rw [List.getElem?_eq_getElem (by omega)] at h0 ⊢; simpa using h0
  have hxi := hin i x _ hx hli
  have e1 := (hv.cellAt i (by omega)).trans hx
  obtain ⟨xp, xc, rfl, -⟩ := Rd.of_own hxi
  have ix : (i : Int) < N := by omega
  have ix2 : ¬ (N : Int) ≤ i := by omega
  have hbq : ((seg.length : Int) == 0) = false := by rw [beq_eq_false_iff_ne]; omega
  obtain ⟨vo, vcap, rfl, -⟩ := id hr
  have HV := Lib.hid hv; have HIN := Lib.hid hin; have HNE := Lib.hid hne; have HZS := Lib.hid hzs; have HZ := Lib.hid hZ; have HH := Lib.hid h; have HR := Lib.hid hr; have HM := Lib.hid hm; have HVL := Lib.hid hvl; have HB := Lib.hid hb
  clear hN hx hli hxi h0 hv hin hne hzs hZ h hr hm hblk hvl hb hrest
  go_enter Tryz.func64, Tryz.ntmps64
  go_wp2
  go_loopw [7, 8] (fun l ix wr => ∃ k : Nat, k ≤ N ∧ ix = .int .i64 k ∧ wr.ownsRow w.heap.size 32 1 l k (vs.take k) ∧ Below w.heap.size w wr) (fun _ ix _ => N - (intOf ix).toNat)
  case atStart => exact ⟨0, Nat.zero_le _, rfl, World.ownsRow_nil _ _ _ _, Below.refl _ _⟩
  case round =>
    obtain ⟨k, hk, rfl, hown, hB⟩ := hrel
    have hz := hB.size
    have c0o := c0
    have c0 := below_cell hB c0 hra.1
    by_cases hlt : k < N
    · clear c0o
      obtain ⟨x, hx⟩ : ∃ x, vs[k]? = some x := ⟨vs[k]'(by rw [HVL.out]; omega), List.getElem?_eq_getElem _⟩
      have e3 := below_cell hB ((HV.out.cellAt k (by omega)).trans hx) hgs
      have hkl : k < ls.length := by rw [← HN.out]; exact hlt
      obtain ⟨yp, yc, rfl, -⟩ := Rd.of_own (HIN.out k x _ hx (List.getElem?_eq_getElem hkl))
      obtain ⟨m, hm⟩ : ∃ m, m = (ls[k]).length := ⟨_, rfl⟩
      rw [← hm] at e3 hx
      have hts : vs.take (k + 1) = vs.take k ++ [Value.slice yp m yc] := by
        have hk2 : k < vs.length := by rw [HVL.out]; exact hlt
        rw [List.getElem?_eq_getElem hk2] at hx
        injection hx with hx
        rw [List.take_succ_eq_append_getElem hk2, hx]
      have HT := Lib.hid hts
      have ix3 : (k : Int) < N := by omega
      clear hm hx hts
      go_wp2_with (at_builtin; go_loud (refine wpList_app1 El.bytes rfl (.tmp 63) (.tmp 71) rfl hown rfl (cs := #[.slice yp m yc]) rfl rfl (by intro x hx; simp at hx; subst hx; rfl) (by omega) hz ?_); intro v1 w1 hown1 hgr1 _)
      have hB1 := hB.grown hgr1 hz (fun k hk => (hown.lt k hk).1)
      clear hgr1 hown
      go_roundw
      case rel => exact ⟨k + 1, by omega, by go_num, by rw [HT.out]; exact hown1, hB1⟩
      case measure => simp [intOf]; omega
    · obtain rfl : k = N := by omega
      rw [List.take_of_length_le (by rw [HVL.out]; omega)] at hown
      have hP : PartsZ wr base Z u7 ls := ⟨vs, by rw [← HN.out]; exact own_mono hown (by omega), fun i x l a b => own_later (HIN.out i x l a b) hB, HNE.out, fun b e hz => by have := (hown.lt b e).1; have := HZ.out b hz; omega, HZS.out⟩
      obtain ⟨g2, cap2, rest2, rfl, hg21, hg22, hg23, hblk2, -⟩ := own_blk hown (by omega)
      have hg2s := hblk2.lt
      have s1 := hblk2.cell_some (i := i) (v := vs[i]'(by rw [HVL.out]; exact hi)) (by rw [List.getElem?_append_left (by rw [HVL.out]; exact hi)]; exact List.getElem?_eq_getElem _)
      have s2 := hblk2.frozen i
      have hBs := HR.out.later hB
      have HP := Lib.hid hP
      clear hP hblk2 hown
      go_wp2_with (at_builtin; go_loud (refine wpList_app El.u8 rfl (.tmp 75) (.tmp 76) rfl (World.ownsRow_lit wr #[] 0 (Nat.le_refl _) (Nat.zero_le _) rfl) rfl (hBs.alloc _) rfl (by simp) (ub_one _) (by simp; omega) (by simp) ?_); intro v5 w5 hown5 hgr5 _; obtain ⟨g5, c5, rfl, _, _⟩ := hown5.form (by omega); have hBw : Below wr.heap.size wr w5 := ((Below.refl _ _).alloc (Nat.le_refl _) _).grown hgr5 (by simp) (fun k hk => by simp [Value.ownBlock] at hk; omega); have s1 := below_cell hBw s1 hg2s; have s2 := (hBw.frozen (p := ⟨g2, i, none⟩) hg2s).trans s2; clear hgr5)
      obtain ⟨wA, hwA⟩ : ∃ wA, wA = w5.setCell ⟨g2, i, none⟩ (.slice (some ⟨g5, 0, none⟩) seg.length c5) := ⟨_, rfl⟩
      have hP2 : PartsZ wA base Z (.slice (some ⟨g2, 0, none⟩) k cap2) (ls.set i seg) := by
        rw [hwA]
        refine parts_set HP.out (fun k hk => Nat.lt_of_lt_of_le (HZ.out k hk) hz) HN.out.symm hi ?_ hBw
        rw [Nat.zero_add, List.nil_append] at hown5
        exact hown5
      have hBA : Below w.heap.size w wA := hwA ▸ (hB.trans (hBw.mono hz)).setCell (p := ⟨g2, i, none⟩) hg21 _
      have hsl : (ls.set i seg).length = k := by rw [List.length_set]; exact HN.out.symm
      have hsm : ∀ p ∈ ls.set i seg, p.length ≤ 1024 := fun p hp => by
        rcases List.mem_or_eq_of_mem_set hp with h | h
        · exact HM.out p h
        · subst h; exact h2
      have hfit := refFits_any _ (ls.set i seg) wA hP2.parts.bss (by omega) (by omega) hsm
      rw [show (evenOf (ls.set i seg) && roomOf (ls.set i seg)) = F from hF.out.symm] at hfit
      rw [← hwA]
      have t0 := below_cell hBA c0o hra.1
      have t1 : wA.frozen? ⟨r, 0, none⟩ = false := (hBA.frozen (p := ⟨r, 0, none⟩) hra.1).trans c0f
      have HP2 := Lib.hid hP2; have HSL := Lib.hid hsl; have HSM := Lib.hid hsm
      clear hwA hP2 hsl hsm hown5 hBw hBs s1 s2 c0 HP
      refine hfit.mono ?_
      rintro e _ ⟨rfl, q, rfl⟩
      cases F
      · go_wp2_with fail
        go_ret
        exact ⟨rfl, HH.out.later (below_drewN hBA _), Same.of_below (below_drewN hBA _) _⟩
      · go_wp2_with fail
        go_ret
        have hbA := HB.out.below hBA hra.1
        exact ⟨rfl, ⟨_, (hbA.set 0 _).drewN q, HP2.out.store hbA, hra.2⟩, ((Same.of_below hBA (at1 r)).setCell (p := ⟨r, 0, none⟩) (fun _ => rfl) _).drewN q⟩
/-- Put of any reference's box. -/
theorem refPut_any (r base : Nat) {Z : Nat → Prop} (ls : List (List UInt8)) (index : Int) (v : Value) (seg : List UInt8) (w : World) (h : RefAt w r base Z ls) (hr : Bs w v seg) (hl : ls.length ≤ 64) (hm : ∀ p ∈ ls, p.length ≤ 1024) (hZ : ∀ k, Z k → k < w.heap.size) :
    Calls Tryz.prog 64 #[.pointer (some ⟨r, 0, none⟩), .int .i64 index, v] w fun e w' => e = .returned (.int .i64 (refErr ls index seg)) ∧ RefAt w' r base Z (refPut ls index seg) ∧ Same (at1 r) w w' := by
  by_cases hc : index < 0 ∨ (ls.length : Int) ≤ index ∨ seg.length = 0 ∨ 1024 < seg.length
  · refine (refPut_arg r base ls index v seg w h hr hc).mono ?_
    rintro e _ ⟨rfl, rfl⟩
    have he : refErr ls index seg = 1 := if_pos hc
    rw [refPut, he, if_neg (by decide)]
    exact ⟨rfl, h, Same.refl _ _⟩
  · obtain ⟨i, rfl⟩ := Int.eq_ofNat_of_zero_le (show 0 ≤ index by omega)
    have he : refErr ls i seg = if ls.getD i [] ≠ [] then (if ls.getD i [] = seg then 3 else 120) else if fitsOf (ls.set i seg) = true then 0 else 120 := if_neg hc
    by_cases h0 : ls.getD i [] = []
    · rw [if_neg (by simpa using h0)] at he
      refine (refPut_in r base i (fitsOf (ls.set i seg)) ls v seg w h hr hl hm (by omega) (by omega) (by omega) h0 hZ rfl).mono ?_
      rintro e w' ⟨rfl, hR, hS⟩
      rw [refPut, he]
      cases hf : fitsOf (ls.set i seg)
      · rw [hf] at hR
        exact ⟨rfl, hR, hS⟩
      · rw [hf] at hR
        exact ⟨rfl, hR, hS⟩
    · rw [if_pos h0] at he
      refine (refPut_there r base i ls v seg w h hr (by omega) (by omega) (by omega) h0).mono ?_
      rintro e w' ⟨rfl, hS⟩
      rw [refPut, he]
      refine ⟨rfl, ?_, hS.mono fun _ _ h => h.elim⟩
      rw [if_neg (by split <;> decide)]
      exact h.later hS.below
end Go.Proofs.YtfaemjlemaclbaaGreat
end
