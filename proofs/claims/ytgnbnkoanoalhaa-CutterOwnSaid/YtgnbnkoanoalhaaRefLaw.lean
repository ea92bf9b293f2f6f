/- Plain law: the program's box and the reference's answer alike. -/
import Derived.Test.YtgnbnkoanoalhaaGood
import Derived.Test.YtgnbnkoanoalhaaRefPut
import Derived.Test.YtgnbnkoanoalhaaRefGot
import Derived.Test.YtgnbnkoanoalhaaAllNe
namespace Go.Proofs.Ytgnbnkoanoalhaa
set_option linter.unusedVariables false
set_option linter.unusedSimpArgs false
open Go.RowKit
structure Known (b : BoxS) : Prop where
  good : Good b
  some : 0 < b.len → ∃ i, i + 1 < b.cnt ∧ b.ps.getD i [] ≠ []
def BoxS.ls (b : BoxS) : List (List UInt8) := b.ps.take b.cnt
theorem Good.ls_len {b : BoxS} (h : Good b) : b.ls.length = b.cnt := by
  have := h.fine.hi
  rw [BoxS.ls, List.length_take, h.n]; omega
theorem ls_at {b : BoxS} {i : Nat} (hi : i < b.cnt) : b.ls.getD i [] = b.ps.getD i [] := by
  rw [BoxS.ls, List.getD_eq_getElem?_getD, List.getD_eq_getElem?_getD, List.getElem?_take_of_lt hi]
theorem Good.ls_le {b : BoxS} (h : Good b) : ∀ p ∈ b.ls, p.length ≤ 1024 := fun p hp => h.fine.seg p (List.mem_of_mem_take hp)
theorem known_new (n : Nat) (h1 : 1 ≤ n) (h2 : n ≤ 64) : Known ⟨n, 0, List.replicate 64 []⟩ := ⟨good_new n h1 h2, fun h => by simp at h⟩
theorem ls_new (n : Nat) (h2 : n ≤ 64) : BoxS.ls ⟨n, 0, List.replicate 64 []⟩ = List.replicate n [] := by
  rw [BoxS.ls, List.take_replicate, Nat.min_eq_left h2]
theorem lenOf_even {ls : List (List UInt8)} {m : Nat} (he : ∀ i, i + 1 < ls.length → ls.getD i [] = [] ∨ (ls.getD i []).length = m) (hx : ∃ i, i + 1 < ls.length ∧ ls.getD i [] ≠ []) : lenOf ls = m := by
  obtain ⟨i, hi, hn⟩ := hx
  unfold lenOf
  cases hf : (ls.take (ls.length - 1)).find? fun p => decide (0 < p.length) with
  | none =>
    rw [List.find?_eq_none] at hf
    have := hf (ls.getD i []) (by
      rw [List.mem_take_iff_getElem]
      refine ⟨i, by omega, ?_⟩
      rw [List.getD_eq_getElem?_getD, List.getElem?_eq_getElem (by omega)]; rfl)
    have h0 := List.length_pos_iff.2 hn
    exact absurd (decide_eq_true h0) this
  | some p =>
    have h1 := List.find?_some hf
    obtain ⟨j, hj, hp⟩ := List.mem_take_iff_getElem.1 (List.mem_of_find?_eq_some hf)
    have hd : ls.getD j [] = p := by rw [List.getD_eq_getElem?_getD, List.getElem?_eq_getElem (by omega)]; exact hp
    rcases he j (by omega) with h | h
    · rw [hd] at h; subst h; simp at h1
    · rw [hd] at h; exact h
theorem Known.len {b : BoxS} (h : Known b) : lenOf b.ls = b.len := by
  have hl := h.good.ls_len
  by_cases h0 : b.len = 0
  · rw [h0]
    refine lenOf_none fun j hj => ?_
    rw [hl] at hj
    rw [ls_at (by omega)]
    rcases h.good.eqs j hj with e | e
    · exact e
    · exact List.length_eq_zero_iff.1 (by omega)
  · obtain ⟨i, hi, hn⟩ := h.some (by omega)
    refine lenOf_even (fun j hj => ?_) ⟨i, by omega, by rw [ls_at (by omega)]; exact hn⟩
    rw [hl] at hj
    rw [ls_at (by omega)]
    exact h.good.eqs j hj
theorem set_at {ls : List (List UInt8)} {i j : Nat} {seg : List UInt8} (hi : i < ls.length) : (ls.set i seg).getD j [] = if j = i then seg else ls.getD j [] := getD_set ls i j seg [] hi
theorem fits_iff {b : BoxS} (h : Known b) {i : Nat} {seg : List UInt8} (hi : i < b.cnt) (h1 : 1 ≤ seg.length) (h0 : b.ps.getD i [] = []) :
    fitsOf (b.ls.set i seg) = true ↔ ¬ (i + 1 ≠ b.cnt ∧ b.len ≠ 0 ∧ b.len ≠ seg.length) ∧
      ¬ (0 < putLen b.cnt b.len i seg.length ∧ putLen b.cnt b.len i seg.length < putLast b.cnt b.ps i seg.length ∨ 1024 < leastOf b.cnt (putLen b.cnt b.len i seg.length) (putLast b.cnt b.ps i seg.length)) := by
  have hl := h.good.ls_len
  have hil : i < b.ls.length := by omega
  have hsl : (b.ls.set i seg).length = b.cnt := by rw [List.length_set, hl]
  have hsn : seg ≠ [] := by intro e; subst e; simp at h1
  have hat : ∀ j, j < b.cnt → (b.ls.set i seg).getD j [] = if j = i then seg else b.ps.getD j [] := fun j hj => by
    rw [set_at hil]
    split
    · rfl
    · exact ls_at hj
  have hlast : lastOf (b.ls.set i seg) = putLast b.cnt b.ps i seg.length := by
    unfold lastOf putLast
    rw [hsl, hat (b.cnt - 1) (by omega)]
    by_cases hc : i + 1 = b.cnt
    · rw [if_pos hc, if_pos (by omega)]
    · rw [if_neg hc, if_neg (by omega)]
  -- even lists
  have key : ∀ m, lenOf (b.ls.set i seg) = m → evenOf (b.ls.set i seg) = true → putLen b.cnt b.len i seg.length = m →
      (fitsOf (b.ls.set i seg) = true ↔ ¬ (0 < m ∧ m < putLast b.cnt b.ps i seg.length ∨ 1024 < leastOf b.cnt m (putLast b.cnt b.ps i seg.length))) := by
    intro m hm he hp
    unfold fitsOf roomOf leastOf
    rw [he, Bool.true_and, hm, hlast, hsl]
    by_cases hm0 : m = 0
    · rw [if_pos hm0, if_neg (by omega), decide_eq_true_iff]
      omega
    · rw [if_neg hm0, if_pos (by omega), Bool.and_eq_true, decide_eq_true_iff, decide_eq_true_iff, Nat.max_comm 1]
      omega
  by_cases hc : i + 1 = b.cnt
  · have hpl : putLen b.cnt b.len i seg.length = b.len := by rw [putLen, if_pos hc]
    have hat' : ∀ j, j + 1 < b.cnt → (b.ls.set i seg).getD j [] = b.ps.getD j [] := fun j hj => by rw [hat j (by omega), if_neg (by omega)]
    have hlen : lenOf (b.ls.set i seg) = b.len := by
      by_cases hz : b.len = 0
      · rw [hz]
        refine lenOf_none fun j hj => ?_
        rw [hsl] at hj
        rw [hat' j hj]
        rcases h.good.eqs j hj with e | e
        · exact e
        · exact List.length_eq_zero_iff.1 (by omega)
      · obtain ⟨i0, hi0, hn0⟩ := h.some (by omega)
        refine lenOf_even (fun j hj => ?_) ⟨i0, by omega, by rw [hat' i0 hi0]; exact hn0⟩
        rw [hsl] at hj
        rw [hat' j hj]
        exact h.good.eqs j hj
    rw [key b.len hlen (evenOf_yes fun j hj => by
      rw [hsl] at hj
      rw [hat' j hj, hlen]
      rcases h.good.eqs j hj with e | e
      · rw [e]; exact .inl rfl
      · exact .inr e) hpl, hpl]
    constructor
    · intro hh; exact ⟨fun hx => hx.1 hc, hh⟩
    · exact fun hh => hh.2
  · by_cases hz : b.len ≠ 0 ∧ b.len ≠ seg.length
    · obtain ⟨i0, hi0, hn0⟩ := h.some (by omega)
      have hne : i0 ≠ i := by rintro rfl; exact hn0 h0
      have hev : evenOf (b.ls.set i seg) = false := by
        by_cases hx : lenOf (b.ls.set i seg) = seg.length
        · refine evenOf_no (k := i0) (by omega) ?_ ?_
          · rw [hat i0 (by omega), if_neg hne]; exact List.length_pos_iff.2 hn0
          · rw [hat i0 (by omega), if_neg hne, hx]
            have := (h.good.eqs i0 hi0).resolve_left hn0
            omega
        · refine evenOf_no (k := i) (by omega) ?_ ?_
          · rw [hat i hi, if_pos rfl]; omega
          · rw [hat i hi, if_pos rfl]; omega
      unfold fitsOf
      rw [hev, Bool.false_and]
      constructor
      · intro hh; cases hh
      · intro hh; exact absurd ⟨hc, hz⟩ hh.1
    · have hpl : putLen b.cnt b.len i seg.length = seg.length := by
        rw [putLen, if_neg hc]
        split
        · rfl
        · omega
      have hev : ∀ j, j + 1 < (b.ls.set i seg).length → (b.ls.set i seg).getD j [] = [] ∨ ((b.ls.set i seg).getD j []).length = seg.length := by
        intro j hj
        rw [hsl] at hj
        rw [hat j (by omega)]
        split
        · exact .inr rfl
        · rcases h.good.eqs j hj with e | e
          · exact .inl e
          · by_cases hz0 : b.len = 0
            · exact .inl (List.length_eq_zero_iff.1 (by omega))
            · right; omega
      have hlen : lenOf (b.ls.set i seg) = seg.length := lenOf_even hev ⟨i, by omega, by rw [hat i hi, if_pos rfl]; exact hsn⟩
      rw [key seg.length hlen (evenOf_yes fun j hj => by
        rw [hlen]
        rcases hev j hj with e | e
        · rw [e]; exact .inl rfl
        · exact .inr e) hpl, hpl]
      constructor
      · intro hh; exact ⟨fun hx => hz hx.2, hh⟩
      · exact fun hh => hh.2
theorem err_same {b : BoxS} (h : Known b) (index : Int) (seg : List UInt8) : refErr b.ls index seg = putErr b.cnt b.len b.ps index seg := by
  have hl := h.good.ls_len
  unfold refErr putErr
  rw [hl]
  by_cases hc : index < 0 ∨ (b.cnt : Int) ≤ index ∨ seg.length = 0 ∨ 1024 < seg.length
  · rw [if_pos hc, if_pos hc]
  · rw [if_neg hc, if_neg hc]
    obtain ⟨i, rfl⟩ := Int.eq_ofNat_of_zero_le (show 0 ≤ index by omega)
    rw [Int.toNat_natCast]
    have hi : i < b.cnt := by omega
    have hsn : seg ≠ [] := by intro e; subst e; simp at hc
    rw [ls_at hi]
    unfold putIn
    by_cases h0 : b.ps.getD i [] = []
    · rw [if_neg (by simpa using h0), h0, if_neg (Ne.symm hsn), if_neg (show ¬ (([] : List UInt8) ≠ []) from fun h => h rfl)]
      have hf := fits_iff h (i := i) (seg := seg) hi (by omega) h0
      by_cases hx : fitsOf (b.ls.set i seg) = true
      · rw [if_pos hx, if_neg (hf.1 hx).1, if_neg (hf.1 hx).2]
      · rw [if_neg hx]
        by_cases h1 : i + 1 ≠ b.cnt ∧ b.len ≠ 0 ∧ b.len ≠ seg.length
        · rw [if_pos h1]
        · rw [if_neg h1, if_pos]
          exact Classical.byContradiction fun h2 => hx (hf.2 ⟨h1, h2⟩)
    · rw [if_pos h0]
      by_cases hs : b.ps.getD i [] = seg
      · rw [if_pos hs, if_pos hs]
      · rw [if_neg hs, if_neg hs, if_pos h0]
theorem put_ls {b : BoxS} (h : Known b) (index : Int) (seg : List UInt8) : (b.put index seg).ls = refPut b.ls index seg := by
  unfold refPut BoxS.put
  rw [err_same h]
  split
  · simp only [BoxS.ls]
    apply List.ext_getElem?
    intro j
    rw [List.getElem?_take, List.getElem?_set, List.getElem?_set, List.getElem?_take, List.length_take]
    by_cases hj : j < b.cnt
    · rw [if_pos hj, if_pos hj]
      by_cases he : index.toNat = j
      · subst he
        rw [if_pos rfl, if_pos rfl]
        by_cases hn : index.toNat < b.ps.length
        · rw [if_pos hn, if_pos (by omega)]
        · rw [if_neg hn, if_neg (by omega)]
      · rw [if_neg he, if_neg he]
    · rw [if_neg hj, if_neg hj]
      split
      · rw [if_neg (by omega)]
      · rfl
  · rfl
theorem known_put {b : BoxS} (h : Known b) (index : Int) (seg : List UInt8) : Known (b.put index seg) := by
  refine ⟨good_put b h.good index seg, ?_⟩
  unfold BoxS.put
  split
  · next h0 =>
    by_cases hc : index < 0 ∨ (b.cnt : Int) ≤ index ∨ seg.length = 0 ∨ 1024 < seg.length
    · rw [putErr_arg hc] at h0; omega
    obtain ⟨i, rfl⟩ := Int.eq_ofNat_of_zero_le (show 0 ≤ index by omega)
    rw [Int.toNat_natCast]
    have hsn : seg ≠ [] := by intro e; subst e; simp at hc
    have hil : i < b.ps.length := by have := h.good.n; have := h.good.fine.hi; omega
    intro hp
    simp only at hp ⊢
    by_cases hl : i + 1 = b.cnt
    · rw [putLen, if_pos hl] at hp
      obtain ⟨i0, hi0, hn0⟩ := h.some hp
      exact ⟨i0, hi0, by rw [getD_set _ _ _ _ _ hil, if_neg (by omega)]; exact hn0⟩
    · exact ⟨i, by omega, by rw [getD_set _ _ _ _ _ hil, if_pos rfl]; exact hsn⟩
  · exact h.some
theorem gotL_congr {ps qs : List (List UInt8)} : ∀ (k : Nat), (∀ i, i < k → ps.getD i [] = qs.getD i []) → gotL ps k = gotL qs k := by
  intro k
  induction k with
  | zero => intro _; rfl
  | succ k ih =>
    intro h
    rw [gotL, gotL, ih fun i hi => h i (by omega), h k (by omega)]
theorem got_same {b : BoxS} (h : Known b) : gotL b.ls b.ls.length = gotL b.ps b.cnt := by
  rw [h.good.ls_len]
  exact gotL_congr _ fun i hi => ls_at hi
theorem all_same (b : BoxS) : allIn b.ls = allNe b.ps b.cnt := rfl
theorem block_same (b : BoxS) : blockIn b.ls = blockOf b := rfl
end Go.Proofs.Ytgnbnkoanoalhaa
