/- The reference's box: how it lies in memory; what New, Count, Length and Whole do with it. -/
import Derived.Test.YtgnbnkoanoalhaaRefLen
import Derived.Test.YtgnbnkoanoalhaaParts
import Derived.BigQuiet
import Derived.Deep.QuietTactic
namespace Go.Proofs.Ytgnbnkoanoalhaa
set_option linter.unusedVariables false
set_option linter.unusedSimpArgs false
open Go.RowKit
/-- slices of bytes that are owned, none of them in a block of Z. -/
def PartsZ (w : World) (base : Nat) (Z : Nat → Prop) (v : Value) (ls : List (List UInt8)) : Prop :=
  ∃ vs : List Value, w.ownsRow base 22 1 v ls.length vs ∧ (∀ (i : Nat) (x : Value) (l : List UInt8), vs[i]? = some x → ls[i]? = some l → w.ownsRow base 5 1 x l.length (l.map ub)) ∧
    (∀ (i j : Nat) (x y : Value), i < j → vs[i]? = some x → vs[j]? = some y → x.ownBlock = none ∨ x.ownBlock ≠ y.ownBlock) ∧ (∀ b, v.ownBlock = some b → ¬ Z b) ∧ ∀ x ∈ vs, ∀ b, x.ownBlock = some b → ¬ Z b
theorem PartsZ.parts {w : World} {base : Nat} {Z : Nat → Prop} {v : Value} {ls : List (List UInt8)} (h : PartsZ w base Z v ls) : Parts w base v ls := by
  obtain ⟨vs, h1, h2, h3, _⟩ := h
  exact ⟨vs, h1, h2, h3⟩
theorem PartsZ.keep {S Z : Nat → Prop} {w w' : World} {base : Nat} {v : Value} {ls : List (List UInt8)} (h : PartsZ w base Z v ls) (hb : Same S w w')
    (hS : ∀ k, S k → Z k ∨ w.heap.size ≤ k ∨ ∃ t cs, Blk w k t cs ∧ 5 ≠ t ∧ 22 ≠ t) : PartsZ w' base Z v ls := by
  obtain ⟨vs, h1, h2, h3, h4, h5⟩ := h
  refine ⟨vs, own_same h1 hb fun b e hs => ?_, fun i x l hx hl => own_same (h2 i x l hx hl) hb fun b e hs => ?_, h3, h4, h5⟩
  · rcases hS b hs with h | h | ⟨t, cs, h, _, ht⟩
    · exact h4 b e h
    · have := (h1.lt b e).2; omega
    · exact own_blk_ne h1 h ht e
  · rcases hS b hs with h | h | ⟨t, cs, h, ht, _⟩
    · exact h5 x (List.mem_of_getElem? hx) b e h
    · have := ((h2 i x l hx hl).lt b e).2; omega
    · exact own_blk_ne (h2 i x l hx hl) h ht e
def RefAt (w : World) (r base : Nat) (Z : Nat → Prop) (ls : List (List UInt8)) : Prop := ∃ v, Blk w r 82 [v] ∧ PartsZ w base Z v ls ∧ base ≤ r
theorem RefAt.keep {S Z : Nat → Prop} {w w' : World} {r base : Nat} {ls : List (List UInt8)} (h : RefAt w r base Z ls) (hb : Same S w w') (hr : ¬ S r)
    (hS : ∀ k, S k → Z k ∨ w.heap.size ≤ k ∨ ∃ t cs, Blk w k t cs ∧ 5 ≠ t ∧ 22 ≠ t) : RefAt w' r base Z ls := by
  obtain ⟨v, h1, h2, h3⟩ := h
  exact ⟨v, h1.same hb hr, h2.keep hb hS, h3⟩
theorem RefAt.later {Z : Nat → Prop} {w w' : World} {r base : Nat} {ls : List (List UInt8)} (h : RefAt w r base Z ls) (hb : Below w.heap.size w w') : RefAt w' r base Z ls :=
  h.keep (Same.of_below hb no) (fun h => h) fun _ h => h.elim
theorem RefAt.lt {Z : Nat → Prop} {w : World} {r base : Nat} {ls : List (List UInt8)} (h : RefAt w r base Z ls) : r < w.heap.size ∧ base ≤ r := by
  obtain ⟨v, h1, h2, h3⟩ := h
  exact ⟨h1.lt, h3⟩
/-- other blocks that are out of reach: such as it does not have, or new ones. -/
theorem RefAt.out {Z Z' : Nat → Prop} {w w' : World} {r base : Nat} {ls : List (List UInt8)} (h : RefAt w r base Z ls) (hb : Below w.heap.size w w') (hZ : ∀ k, Z' k → Z k ∨ w.heap.size ≤ k) : RefAt w' r base Z' ls := by
  obtain ⟨v, h1, ⟨vs, g1, g2, g3, g4, g5⟩, h3⟩ := h
  have hl : vs.length = ls.length := by simpa using g1.1
  refine ⟨v, h1.later hb, ⟨vs, own_later g1 hb, fun i x l hx hl => own_later (g2 i x l hx hl) hb, g3, fun b e hz => ?_, fun x hx b e hz => ?_⟩, h3⟩
  · rcases hZ b hz with h | h
    · exact g4 b e h
    · have := (g1.lt b e).2; omega
  · rcases hZ b hz with h | h
    · exact g5 x hx b e h
    · obtain ⟨i, hi, rfl⟩ := List.mem_iff_getElem.1 hx
      have := ((g2 i _ _ (List.getElem?_eq_getElem hi) (List.getElem?_eq_getElem (by omega))).lt b e).2
      omega
/-- its cell, as a slice; and how its elements read. -/
theorem RefAt.open {Z : Nat → Prop} {w : World} {r base : Nat} {ls : List (List UInt8)} (h : RefAt w r base Z ls) : ∃ ao cap, w.cell? ⟨r, 0, none⟩ = some (.slice ao ls.length cap) ∧ Parts w base (.slice ao ls.length cap) ls := by
  obtain ⟨v, h1, h2, h3⟩ := h
  obtain ⟨vs, hv, -⟩ := id h2
  obtain ⟨ao, cap, rfl, -⟩ := Rd.of_own hv
  exact ⟨ao, cap, h1.cell_some rfl, h2.parts⟩
/-- element i of what reads as byte slices. -/
theorem Parts.elem {w : World} {base i : Nat} {ao : Option Addr} {n cap : Nat} {ls : List (List UInt8)} (h : Parts w base (.slice ao n cap) ls) (hi : i < ls.length) :
    ∃ b off xp xc, ao = some ⟨b, off, none⟩ ∧ w.cell? ⟨b, off + i, none⟩ = some (.slice xp (ls.getD i []).length xc) ∧ Bs w (.slice xp (ls.getD i []).length xc) (ls.getD i []) := by
  obtain ⟨vs, hvl, ⟨ao', cap', he, _, _, hr⟩, hin⟩ := h.bss
  injection he with e1 e2 e3
  subst e1; subst e2; subst e3
  obtain ⟨x, hx⟩ : ∃ x, vs[i]? = some x := ⟨_, List.getElem?_eq_getElem (by omega)⟩
  obtain ⟨b, off, rfl, hc⟩ := hr (by intro h; rw [h] at hx; simp at hx)
  have hl : ls[i]? = some (ls.getD i []) := by rw [List.getD_eq_getElem?_getD, List.getElem?_eq_getElem hi]; rfl
  have hb := hin i x _ hx hl
  obtain ⟨xp, xc, rfl, -⟩ := id hb
  exact ⟨b, off, xp, xc, rfl, hc i _ hx, hb⟩

set_option maxHeartbeats 1000000 in
set_option maxRecDepth 100000 in
theorem refNew_yes (n : Nat) (w : World) (h1 : 1 ≤ n) (h2 : n ≤ 64) :
    Calls Try.prog 34 #[.int .i64 n] w fun e w' => ∃ r, e = .returned (.tuple #[.pointer (some ⟨r, 0, none⟩), .int .i64 0]) ∧ RefAt w' r w.heap.size no (List.replicate n []) ∧ Below w.heap.size w w' := by
  go_enter Try.func34, Try.ntmps34
  go_wp2_with (refine wpList_mk1 El.bytes rfl rfl _ _ rfl n rfl rfl rfl rfl (by omega) (by simp only [maxLen]; omega) ?_)
  go_ret2
  have hz : ∀ (j : Nat) (y : Value), (List.replicate n (Value.slice none 0 0))[j]? = some y → y = Value.slice none 0 0 := fun j y hy => by
    rw [List.getElem?_replicate] at hy
    split at hy
    · injection hy with hy; exact hy.symm
    · cases hy
  have hown : (w.alloc (.cells (Array.replicate n (Value.slice none 0 0)) 22)).ownsRow w.heap.size 22 1 (.slice (some ⟨w.heap.size, 0, none⟩) n n) n (List.replicate n (Value.slice none 0 0)) := by
    have hb := Blk.rep w 22 n (Value.slice none 0 0)
    exact own_of_blk (rest := []) (by simpa using hb) (Nat.le_refl _) (by simp) (Nat.le_refl _) (by simp only [maxLen]; omega) (by simp)
  have hb2 := Blk.new (w.alloc (.cells (Array.replicate n (Value.slice none 0 0)) 22)) 82 [Value.slice (some ⟨w.heap.size, 0, none⟩) n n]
  rw [show (w.alloc (.cells (Array.replicate n (Value.slice none 0 0)) 22)).heap.size = w.heap.size + 1 by simp] at hb2
  refine ⟨_, rfl, ⟨_, hb2, ⟨List.replicate n (Value.slice none 0 0), ?_, fun i x l hx hl => ?_, fun i j x y _ hx _ => ?_, fun _ _ h => h.elim, fun _ _ _ _ h => h.elim⟩, by simp⟩, ((Below.refl _ _).alloc (Nat.le_refl _) _).alloc (by simp) _⟩
  · rw [List.length_replicate]
    exact hown.alloc _
  · obtain rfl := hz i x hx
    obtain rfl : l = [] := by
      rw [List.getElem?_replicate] at hl
      split at hl
      · injection hl with hl; exact hl.symm
      · cases hl
    exact World.ownsRow_nil _ _ _ _
  · obtain rfl := hz i x hx
    exact .inl rfl
set_option maxHeartbeats 400000 in
set_option maxRecDepth 100000 in
theorem refNew_no (n : Int) (w : World) (h : n < 1 ∨ 64 < n) :
    Calls Try.prog 34 #[.int .i64 n] w fun e w' => e = .returned (.tuple #[.pointer none, .int .i64 1]) ∧ w = w' := by
  rcases h with h | h
  · go_enter Try.func34, Try.ntmps34
    go_wp2
    go_ret2
    exact ⟨rfl, rfl⟩
  · have h' : ¬ n < 1 := by omega
    go_enter Try.func34, Try.ntmps34
    go_wp2
    go_ret2
    exact ⟨rfl, rfl⟩
set_option maxHeartbeats 400000 in
set_option maxRecDepth 100000 in
theorem refCount_any (r base : Nat) {Z : Nat → Prop} (ls : List (List UInt8)) (w : World) (h : RefAt w r base Z ls) :
    Calls Try.prog 36 #[.pointer (some ⟨r, 0, none⟩)] w fun e w' => e = .returned (.int .i64 ls.length) ∧ w = w' := by
  obtain ⟨ao, cap, c0, -⟩ := h.open
  go_enter Try.func36, Try.ntmps36
  go_wp2
  go_ret
  exact ⟨rfl, rfl⟩
set_option maxHeartbeats 400000 in
set_option maxRecDepth 100000 in
theorem refLength_any (r base : Nat) {Z : Nat → Prop} (ls : List (List UInt8)) (w : World) (h : RefAt w r base Z ls) (hl : ls.length ≤ 64) :
    Calls Try.prog 38 #[.pointer (some ⟨r, 0, none⟩)] w fun e w' => e = .returned (.tuple #[.int .i64 (lenOf ls), .bool (decide (0 < lenOf ls))]) ∧ w = w' := by
  obtain ⟨ao, cap, c0, hp⟩ := h.open
  have hlen := refLen_any _ ls w hp.bss (by omega)
  clear hp
  go_enter Try.func38, Try.ntmps38
  go_wp2_with fail
  refine hlen.mono ?_
  rintro e _ ⟨rfl, rfl⟩
  go_wp2_with fail
  go_ret2
  exact ⟨rfl, rfl⟩
def allIn (ls : List (List UInt8)) : Bool := ls.all fun p => decide (0 < p.length)
def blockIn (ls : List (List UInt8)) : List UInt8 := if allIn ls = true then ls.flatten else []
theorem allIn_no {ls : List (List UInt8)} {k : Nat} (hk : k < ls.length) (h : (ls.getD k []).length = 0) : allIn ls = false := by
  unfold allIn
  rw [List.all_eq_false]
  refine ⟨ls[k], List.getElem_mem _, ?_⟩
  rw [List.getD_eq_getElem?_getD, List.getElem?_eq_getElem hk] at h
  simp at h
  simp [h]
theorem allIn_yes {ls : List (List UInt8)} (h : ∀ j, j < ls.length → 0 < (ls.getD j []).length) : allIn ls = true := by
  unfold allIn
  rw [List.all_eq_true]
  intro p hp
  obtain ⟨j, hj, rfl⟩ := List.mem_iff_getElem.1 hp
  have := h j hj
  rw [List.getD_eq_getElem?_getD, List.getElem?_eq_getElem hj] at this
  simpa using this
set_option maxRecDepth 10000 in
theorem flatIn_le {ls : List (List UInt8)} (hm : ∀ p ∈ ls, p.length ≤ 1024) (k : Nat) : (ls.take k).flatten.length ≤ k * 1024 := by
  induction k with
  | zero => simp
  | succ k ih =>
    by_cases h : k < ls.length
    · rw [List.take_succ_eq_append_getElem h, List.flatten_append, List.length_append]
      have := hm ls[k] (List.getElem_mem _)
      simp
      simp at ih
      omega
    · rw [List.take_of_length_le (by omega)]
      rw [List.take_of_length_le (by omega)] at ih
      omega
set_option maxHeartbeats 1000000 in
set_option maxRecDepth 100000 in
theorem refWhole_any (r base : Nat) {Z : Nat → Prop} (ls : List (List UInt8)) (w : World) (h : RefAt w r base Z ls) (hl : ls.length ≤ 64) (hm : ∀ p ∈ ls, p.length ≤ 1024) :
    Calls Try.prog 39 #[.pointer (some ⟨r, 0, none⟩)] w fun e w' => ∃ v, e = .returned (.tuple #[v, .bool (allIn ls)]) ∧ w'.ownsRow w.heap.size 5 1 v (blockIn ls).length ((blockIn ls).map ub) ∧ Below w.heap.size w w' := by
  have hfl := flatIn_le hm
  have hr := h.lt.1
  obtain ⟨ao, cap, c0, hp⟩ := h.open
  have HF := Lib.hid hfl; have HP := Lib.hid hp
  clear hfl hp hm h
  obtain ⟨N, hN⟩ : ∃ N, N = ls.length := ⟨_, rfl⟩
  rw [← hN] at c0 hl
  have HN := Lib.hid hN
  clear hN
  go_enter Try.func39, Try.ntmps39
  go_wp2
  go_loopw [4, 5] (fun o i wr => ∃ k : Nat, k ≤ N ∧ i = .int .i64 k ∧ wr.ownsRow w.heap.size 5 1 o (ls.take k).flatten.length ((ls.take k).flatten.map ub) ∧ Below w.heap.size w wr ∧ Hid (∀ j, j < k → 0 < (ls.getD j []).length))
    (fun _ i _ => N - (intOf i).toNat)
  case atStart => exact ⟨0, Nat.zero_le _, rfl, World.ownsRow_nil _ _ _ _, Below.refl _ _, Lib.hid fun j hj => absurd hj (Nat.not_lt_zero _)⟩
  case round =>
    obtain ⟨k, hk, rfl, hown, hB, HK⟩ := hrel
    have hz := hB.size
    have c0 := below_cell hB c0 hr
    by_cases hlt : k < N
    · have hkl : k < ls.length := by rw [← HN.out]; exact hlt
      obtain ⟨b, off, xp, xc, rfl, e1, b1⟩ := (HP.out.later hB).elem (by rw [← HN.out]; exact hlt)
      obtain ⟨p, hp⟩ : ∃ p, p = ls.getD k [] := ⟨_, rfl⟩
      rw [← hp] at e1 b1
      have hts : (ls.take (k + 1)).flatten = (ls.take k).flatten ++ p := by
        rw [List.take_succ_eq_append_getElem hkl, List.flatten_append, hp, List.getD_eq_getElem?_getD, List.getElem?_eq_getElem hkl]; simp
      have hfk := HF.out k
      have hfk1 := HF.out (k + 1)
      rw [hts, List.length_append] at hfk1
      have ix : (k : Int) < N := by omega
      obtain ⟨L, hL⟩ : ∃ L, L = (ls.take k).flatten := ⟨_, rfl⟩
      rw [← hL] at hown hts hfk hfk1
      have HT := Lib.hid hts; have HPD := Lib.hid hp; have HL := Lib.hid hL
      clear hp hts hL
      by_cases hpz : p.length = 0
      · have t1 : ((p.length : Int) == 0) = true := by rw [beq_iff_eq]; omega
        go_wp2
        go_ret2
        have : allIn ls = false := allIn_no hkl (by rw [← HPD.out]; exact hpz)
        rw [this]
        refine ⟨_, rfl, ?_, hB⟩
        rw [show blockIn ls = [] by unfold blockIn; rw [this]; rfl]
        exact World.ownsRow_nil _ _ _ _
      · have t1 : ((p.length : Int) == 0) = false := by rw [beq_eq_false_iff_ne]; omega
        go_wp2_with (at_builtin; go_loud (refine wpList_app El.u8 rfl (.tmp 26) (.tmp 33) rfl hown rfl b1 rfl (by simp) (ub_one _) (by omega) hz ?_); intro v1 w1 hown1 hgr1 _)
        have hB1 := hB.grown hgr1 hz (fun k hk => (hown.lt k hk).1)
        clear hgr1 hown
        go_roundw
        case rel => exact ⟨k + 1, by omega, by go_num, by rw [HT.out, List.length_append, List.map_append]; exact hown1, hB1, Lib.hid fun j hj => by
          by_cases e : j = k
          · subst e; rw [← HPD.out]; omega
          · exact HK.out j (by omega)⟩
        case measure => simp [intOf]; omega
    · obtain rfl : k = N := by omega
      have ha := Lib.hid (allIn_yes fun j hj => HK.out j (by rw [HN.out]; exact hj))
      have HB := Lib.hid (show blockIn ls = (ls.take k).flatten by unfold blockIn; rw [ha.out, if_pos rfl, HN.out, List.take_length])
      go_wp2
      go_ret2
      rw [ha.out, HB.out]
      exact ⟨_, rfl, hown, hB⟩
end Go.Proofs.Ytgnbnkoanoalhaa
