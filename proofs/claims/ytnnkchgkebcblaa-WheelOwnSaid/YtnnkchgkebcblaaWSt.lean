/- The wheel's state in memory, and what writing does to it. -/
import Derived.Test.YtnnkchgkebcblaaWAt
namespace Go.Proofs.Ytnnkchgkebcblaa
set_option linter.unusedVariables false
set_option linter.unusedSimpArgs false
open Go.RowKit
def wcells (mb : Nat) (sl : List Value) (now sets : Nat) : List Value := [.bool true, .int .u64 (now : Int), .int .u64 (sets : Int)] ++ sl ++ [.map (some mb)]
structure WAt (w : World) (g mb : Nat) (sl : List Value) (now sets : Nat) (R : Nat → List Tm) (m : Int → Option Pl) (N : Nat) : Prop where
  len : sl.length = 512
  blk : Blk w g 69 (wcells mb sl now sets)
  rows : Rows w 0 82 3 sl (fun k => (R k).length) (fun k => tvs (R k))
  map : MapIs w mb m N
def WF (g mb : Nat) (sl : List Value) (b : Nat) : Prop := b = g ∨ b = mb ∨ Foot sl b
def upd (R : Nat → List Tm) (k : Nat) (l : List Tm) : Nat → List Tm := fun j => if j = k then l else R j
section
variable {w w' : World} {g mb : Nat} {sl : List Value} {now sets : Nat} {R : Nat → List Tm} {m : Int → Option Pl} {N : Nat}
theorem MapIs.lt {b : Nat} (h : MapIs w b m N) : b < w.heap.size := by obtain ⟨D, h1, _⟩ := h; exact h1.lt
theorem MapIs.ne {b g : Nat} {t : TypeId} {cs : List Value} (h : MapIs w b m N) (hg : Blk w g t cs) : b ≠ g := by obtain ⟨D, h1, _⟩ := h; exact owns_blk_ne h1 hg
theorem MapIs.row_ne {b base sz k : Nat} {e : TypeId} {v : Value} {cs : List Value} (h : MapIs w b m N) (hr : w.ownsRow base e sz v k cs) : v.ownBlock ≠ some b := by obtain ⟨D, h1, _⟩ := h; exact owns_row_ne h1 hr
theorem WAt.foot_lt (h : WAt w g mb sl now sets R m N) {b : Nat} (hb : WF g mb sl b) : b < w.heap.size := by
  rcases hb with rfl | rfl | ⟨x, hx, hb⟩
  · exact h.blk.lt
  · exact h.map.lt
  · obtain ⟨i, hi⟩ := List.getElem?_of_mem hx
    exact ((h.rows.own i x hi).lt b hb).2
theorem WAt.same {S : Nat → Prop} (h : WAt w g mb sl now sets R m N) (hs : Same S w w') (hS : ∀ b, WF g mb sl b → ¬ S b) : WAt w' g mb sl now sets R m N :=
  ⟨h.len, h.blk.same hs (hS _ (.inl rfl)), ⟨fun i x hx => own_same (h.rows.own i x hx) hs fun b hb => hS _ (.inr (.inr ⟨x, List.mem_of_getElem? hx, hb⟩)), h.rows.ne⟩, h.map.same hs (hS _ (.inr (.inl rfl)))⟩
theorem WAt.later (h : WAt w g mb sl now sets R m N) (hb : Below w.heap.size w w') : WAt w' g mb sl now sets R m N := h.same (Same.of_below hb no) fun _ _ h => h
theorem WAt.at (h : WAt w g mb sl now sets R m N) {k : Nat} (hk : k < 512) : ∃ v, sl[k]? = some v ∧ w.cell? ⟨g, 3 + k, none⟩ = some v ∧ w.ownsRow 0 82 3 v (R k).length (tvs (R k)) := by
  have hk' : k < sl.length := by rw [h.len]; exact hk
  have e : sl[k]? = some sl[k] := List.getElem?_eq_getElem hk'
  refine ⟨sl[k], e, h.blk.cell_some ?_, h.rows.own k _ e⟩
  unfold wcells
  rw [List.append_assoc, List.getElem?_append_right (by simp)]
  simp only [List.length_cons, List.length_nil, Nat.add_sub_cancel_left, Nat.zero_add]
  rw [List.getElem?_append_left hk']
  exact e
theorem WAt.c0 (h : WAt w g mb sl now sets R m N) : w.cell? ⟨g, 0, none⟩ = some (.bool true) := h.blk.cell_some rfl
theorem WAt.c1 (h : WAt w g mb sl now sets R m N) : w.cell? ⟨g, 1, none⟩ = some (.int .u64 (now : Int)) := h.blk.cell_some rfl
theorem WAt.c2 (h : WAt w g mb sl now sets R m N) : w.cell? ⟨g, 2, none⟩ = some (.int .u64 (sets : Int)) := h.blk.cell_some rfl
theorem WAt.c515 (h : WAt w g mb sl now sets R m N) : w.cell? ⟨g, 515, none⟩ = some (.map (some mb)) := by
  refine h.blk.cell_some ?_
  unfold wcells
  rw [List.getElem?_append_right (by simp [h.len])]
  simp [h.len]
theorem WAt.fz (h : WAt w g mb sl now sets R m N) (i : Nat) : w.frozen? ⟨g, i, none⟩ = false := h.blk.frozen i
theorem wcells_now (mb : Nat) (sl : List Value) (now sets n : Nat) : (wcells mb sl now sets).set 1 (.int .u64 (n : Int)) = wcells mb sl n sets := rfl
theorem wcells_sets (mb : Nat) (sl : List Value) (now sets n : Nat) : (wcells mb sl now sets).set 2 (.int .u64 (n : Int)) = wcells mb sl now n := rfl
theorem wcells_row (mb : Nat) (sl : List Value) (now sets k : Nat) (v : Value) (hk : k < sl.length) : (wcells mb sl now sets).set (3 + k) v = wcells mb (sl.set k v) now sets := by
  unfold wcells
  rw [List.append_assoc, List.set_append_right _ _ (by simp), List.set_append_left _ _ (by simp; omega), List.append_assoc]
  simp
/-- a cell of the wheel's own block is written. -/
theorem WAt.cell (h : WAt w g mb sl now sets R m N) (i : Nat) (u : Value) : Rows (w.setCell ⟨g, i, none⟩ u) 0 82 3 sl (fun k => (R k).length) (fun k => tvs (R k)) ∧ MapIs (w.setCell ⟨g, i, none⟩ u) mb m N ∧ Same (at1 g) w (w.setCell ⟨g, i, none⟩ u) := by
  have hs : Same (at1 g) w (w.setCell ⟨g, i, none⟩ u) := ⟨rfl, rfl, rfl, by simp [World.setCell], fun k hk hn => Below.heap_setCell w _ u k (fun e => hn e)⟩
  refine ⟨⟨fun j x hx => own_same (h.rows.own j x hx) hs fun b hb e => ?_, h.rows.ne⟩, h.map.same hs fun e => h.map.ne h.blk e, hs⟩
  have := own_blk_ne (h.rows.own j x hx) h.blk (by decide)
  exact this (by rw [hb, show b = g from e])
theorem WAt.setNow (h : WAt w g mb sl now sets R m N) (n : Nat) : WAt (w.setCell ⟨g, 1, none⟩ (.int .u64 (n : Int))) g mb sl n sets R m N :=
  ⟨h.len, h.blk.set 1 _, (h.cell 1 _).1, (h.cell 1 _).2.1⟩
theorem WAt.setSets (h : WAt w g mb sl now sets R m N) (n : Nat) : WAt (w.setCell ⟨g, 2, none⟩ (.int .u64 (n : Int))) g mb sl now n R m N :=
  ⟨h.len, h.blk.set 2 _, (h.cell 2 _).1, (h.cell 2 _).2.1⟩
/-- row k turns into another one: in w1 it is owned; then it is stored. -/
theorem WAt.push (h : WAt w g mb sl now sets R m N) {k : Nat} (hk : k < 512) {v v' : Value} (hv : sl[k]? = some v) {l : List Tm} (hown : w'.ownsRow 0 82 3 v' l.length (tvs l)) (hg : w.grownBy w' v.ownBlock)
    (hl : v'.ownBlock = none ∨ Newer w v v') :
    WAt (w'.setCell ⟨g, 3 + k, none⟩ v') g mb (sl.set k v') now sets (upd R k l) m N ∧ Same (WF g mb sl) w (w'.setCell ⟨g, 3 + k, none⟩ v') ∧ ∀ b, WF g mb (sl.set k v') b → WF g mb sl b ∨ w.heap.size ≤ b := by
  have hk' : k < sl.length := by rw [h.len]; exact hk
  have hvg : v.ownBlock ≠ some g := own_blk_ne (h.rows.own k v hv) h.blk (by decide)
  have hvm : v.ownBlock ≠ some mb := h.map.row_ne (h.rows.own k v hv)
  have hs : Same (WF g mb sl) w w' := (Same.of_grown hg).mono fun b _ e => .inr (.inr ⟨v, List.mem_of_getElem? hv, e.symm⟩)
  have hblk : Blk w' g 69 (wcells mb sl now sets) := h.blk.grown hg hvg
  have hmap : MapIs w' mb m N := h.map.same (Same.of_grown hg) fun e => hvm e.symm
  have hrow : ∀ i x, i ≠ k → sl[i]? = some x → w'.ownsRow 0 82 3 x (R i).length (tvs (R i)) := fun i x hi hx => (h.rows.own i x hx).kept hg (h.rows.ne i k x v hi hx hv)
  have hne : ∀ i x, i ≠ k → sl[i]? = some x → x.ownBlock = none ∨ x.ownBlock ≠ v'.ownBlock := fun i x hi hx => by
    rcases hl with e | e | ⟨b, e, hb⟩
    · cases hx' : x.ownBlock with
      | none => exact .inl rfl
      | some c => exact .inr (by rw [e]; simp)
    · rw [e]; exact h.rows.ne i k x v hi hx hv
    · cases hx' : x.ownBlock with
      | none => exact .inl rfl
      | some c =>
        refine .inr fun e' => ?_
        rw [e] at e'
        injection e' with e'
        have := ((h.rows.own i x hx).lt c hx').2
        omega
  have hsc : Same (at1 g) w' (w'.setCell ⟨g, 3 + k, none⟩ v') := ⟨rfl, rfl, rfl, by simp [World.setCell], fun j hj hn => Below.heap_setCell w' _ v' j (fun e => hn e)⟩
  have off : ∀ {x : Value} {l : List Tm}, w'.ownsRow 0 82 3 x l.length (tvs l) → (w'.setCell ⟨g, 3 + k, none⟩ v').ownsRow 0 82 3 x l.length (tvs l) := fun {x l} ho => by
    refine own_same ho hsc fun b hb e => ?_
    have := own_blk_ne ho hblk (by decide)
    exact this (by rw [hb, show b = g from e])
  refine ⟨⟨by simp [h.len], ?_, ⟨fun i x hx => ?_, fun i j x y hij hx hy => ?_⟩, hmap.same hsc fun e => hmap.ne hblk e⟩, hs.trans hsc (fun b _ e => .inl e), fun b hb => ?_⟩
  · have := hblk.set (3 + k) v'
    rwa [wcells_row _ _ _ _ _ _ hk'] at this
  · by_cases hi : i = k
    · subst hi
      rw [List.getElem?_set_self hk'] at hx
      injection hx with hx
      subst hx
      simp only [upd, if_true]
      exact off hown
    · rw [List.getElem?_set_ne (Ne.symm hi)] at hx
      simp only [upd, if_neg hi]
      exact off (hrow i x hi hx)
  · by_cases hi : i = k
    · subst hi
      rw [List.getElem?_set_self hk'] at hx
      injection hx with hx
      subst hx
      rw [List.getElem?_set_ne hij] at hy
      rcases hne j y (Ne.symm hij) hy with e | e
      · cases hx' : v'.ownBlock with
        | none => exact .inl rfl
        | some c => exact .inr (by rw [e]; simp)
      · exact .inr (Ne.symm e)
    · rw [List.getElem?_set_ne (Ne.symm hi)] at hx
      by_cases hj : j = k
      · subst hj
        rw [List.getElem?_set_self hk'] at hy
        injection hy with hy
        subst hy
        exact hne i x hi hx
      · rw [List.getElem?_set_ne (Ne.symm hj)] at hy
        exact h.rows.ne i j x y hij hx hy
  · rcases hb with rfl | rfl | ⟨x, hx, hb⟩
    · exact .inl (.inl rfl)
    · exact .inl (.inr (.inl rfl))
    · rcases List.mem_or_eq_of_mem_set hx with hx | rfl
      · exact .inl (.inr (.inr ⟨x, hx, hb⟩))
      · rcases hl with e | e | ⟨c, e, hc⟩
        · rw [e] at hb; cases hb
        · exact .inl (.inr (.inr ⟨v, List.mem_of_getElem? hv, by rw [← e]; exact hb⟩))
        · rw [e] at hb; injection hb with hb; right; omega
theorem mapTurned_same {b : Nat} (h : w.mapTurned w' b) : Same (at1 b) w w' := (Same.of_grown h.grown).mono fun i _ e => by injection e
/-- the map turns. -/
theorem WAt.mapped (h : WAt w g mb sl now sets R m N) {m' : Int → Option Pl} {N' : Nat} (hs : Same (at1 mb) w w') (hm : MapIs w' mb m' N') : WAt w' g mb sl now sets R m' N' :=
  ⟨h.len, h.blk.same hs fun e => h.map.ne h.blk e.symm, ⟨fun i x hx => own_same (h.rows.own i x hx) hs fun b hb e => h.map.row_ne (h.rows.own i x hx) (by rw [hb, show b = mb from e]), h.rows.ne⟩, hm⟩
end
end Go.Proofs.Ytnnkchgkebcblaa
