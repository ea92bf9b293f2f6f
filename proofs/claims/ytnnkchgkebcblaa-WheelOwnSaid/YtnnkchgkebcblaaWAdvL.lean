/- What holds while the program's Advance goes on: words for its walk. -/
import Derived.Test.YtnnkchgkebcblaaWSort
import Derived.Test.YtnnkchgkebcblaaWT3
import Derived.Deep.LoopGhost
namespace Go.Proofs.Ytnnkchgkebcblaa
set_option linter.unusedVariables false
set_option linter.unusedSimpArgs false
open Go.RowKit Go.Maps
theorem El.tmInts : El Try.prog 34 3 (.int .i64 0) 1 8 := El.ints
def ivs (l : List Int) : List Value := l.map (Value.int .i64)
structure PAdv (w wr : World) (g n sets mb : Nat) (sl0 : List Value) (T : List Tm) (vo : Value) (now : Nat) (sl : List Value) (U : List Tm) (R : Nat → List Tm) (m : Int → Option Pl) (N : Nat) (out : List Int) : Prop where
  at_ : WAt wr g mb sl now sets R m N
  inv : TInv now sets U R m N
  own : wr.ownsRow w.heap.size 3 1 vo out.length (ivs out)
  told : out ++ rings U n = rings T n
  st : stay U n = stay T n
  len : out.length + U.length = T.length
  same : Same (WF g mb sl0) w wr
  foot : ∀ b, WF g mb sl b → WF g mb sl0 b ∨ w.heap.size ≤ b
  le : now ≤ n
def toldOf (l : List Tm) (j b : Nat) : List Int := ((l.take j).filter fun t => !decide (b < t.at_)).map Tm.id
structure Inn (w wr : World) (g mb : Nat) (sl0 : List Value) (b sets : Nat) (l : List Tm) (q0 : RS) (v vo : Value) (sl : List Value) (out : List Int) (j : Nat) : Prop where
  at_ : WAt wr g mb sl b sets (q0.lays b (l.take j)).R (q0.lays b (l.take j)).m (q0.lays b (l.take j)).N
  row : wr.ownsRow 0 82 3 v l.length (tvs l)
  far : ∀ c, v.ownBlock = some c → ¬ WF g mb sl c
  own : wr.ownsRow w.heap.size 3 1 vo (out ++ toldOf l j b).length (ivs (out ++ toldOf l j b))
  same : Same (WF g mb sl0) w wr
  foot : ∀ c, WF g mb sl c → WF g mb sl0 c ∨ w.heap.size ≤ c
section
variable {w wr w' : World} {g mb b sets j : Nat} {sl0 sl sl' : List Value} {l : List Tm} {q0 : RS} {v vo : Value} {out : List Int}
theorem lays_take {t : Tm} (ht : l[j]? = some t) : q0.lays b (l.take (j + 1)) = (q0.lays b (l.take j)).lay b t := by
  rw [List.take_add_one, ht]
  exact RS.lays_snoc _ _ _ _
theorem told_take {t : Tm} (ht : l[j]? = some t) : toldOf l (j + 1) b = if b < t.at_ then toldOf l j b else toldOf l j b ++ [t.id] := by
  unfold toldOf
  rw [List.take_add_one, ht, Option.toList_some, List.filter_append, List.map_append]
  by_cases h : b < t.at_
  · simp [h]
  · simp [h]
theorem own_far {base k : Nat} {now : Nat} {R : Nat → List Tm} {m : Int → Option Pl} {N : Nat} {xs : List Value} (ho : wr.ownsRow base 3 1 vo k xs) (h : WAt wr g mb sl now sets R m N) : ∀ c, vo.ownBlock = some c → ¬ WF g mb sl c := by
  intro c hc hw
  rcases hw with rfl | rfl | ⟨x, hx, hxc⟩
  · exact own_blk_ne ho h.blk (by decide) hc
  · exact h.map.row_ne ho hc
  · obtain ⟨i, hi⟩ := List.getElem?_of_mem hx
    rcases own_ne (h.rows.own i x hi) ho (by decide) with e | e
    · rw [e] at hxc; cases hxc
    · exact e (hxc.trans hc.symm)
theorem Inn.later (h : Inn w wr g mb sl0 b sets l q0 v vo sl out j) (hb : Below wr.heap.size wr w') : Inn w w' g mb sl0 b sets l q0 v vo sl out j :=
  ⟨h.at_.later hb, own_later h.row hb, h.far, own_later h.own hb, h.same.trans (Same.of_below hb no) (fun _ _ h => h.elim), h.foot⟩
theorem Inn.lay (h : Inn w wr g mb sl0 b sets l q0 v vo sl out j) {t : Tm} (ht : l[j]? = some t) (hlt : b < t.at_)
    (ha : WAt w' g mb sl' b sets (upd (q0.lays b (l.take j)).R (ix t.at_ b) ((q0.lays b (l.take j)).R (ix t.at_ b) ++ [t])) (mput (q0.lays b (l.take j)).m t.id (plOf t.at_ b)) (cnt (q0.lays b (l.take j)).m t.id (q0.lays b (l.take j)).N))
    (hs : Same (WF g mb sl) wr w') (hf : ∀ c, WF g mb sl' c → WF g mb sl c ∨ wr.heap.size ≤ c) : Inn w w' g mb sl0 b sets l q0 v vo sl' out (j + 1) := by
  have hq : q0.lays b (l.take (j + 1)) = ⟨upd (q0.lays b (l.take j)).R (ix t.at_ b) ((q0.lays b (l.take j)).R (ix t.at_ b) ++ [t]), mput (q0.lays b (l.take j)).m t.id (plOf t.at_ b), cnt (q0.lays b (l.take j)).m t.id (q0.lays b (l.take j)).N⟩ := by
    rw [lays_take ht]
    unfold RS.lay
    rw [if_pos hlt]
  refine ⟨by rw [hq]; exact ha, own_same h.row hs h.far, fun c hc hw => ?_, ?_, h.same.trans hs fun i hi hw => ?_, fun c hc => ?_⟩
  · rcases hf c hw with e | e
    · exact h.far c hc e
    · have := (h.row.lt c hc).2; omega
  · rw [told_take ht, if_pos hlt]
    exact own_same h.own hs (own_far h.own h.at_)
  · rcases h.foot i hw with e | e
    · exact e
    · omega
  · rcases hf c hc with e | e
    · exact h.foot c e
    · exact .inr (Nat.le_trans h.same.size e)
/-- the map has lost a number. -/
theorem Inn.deleted (h : Inn w wr g mb sl0 b sets l q0 v vo sl out j) {t : Tm} (hs : Same (at1 mb) wr w') (hm : MapIs w' mb (mdel (q0.lays b (l.take j)).m t.id) (cntd (q0.lays b (l.take j)).m t.id (q0.lays b (l.take j)).N)) :
    WAt w' g mb sl b sets (q0.lays b (l.take j)).R (mdel (q0.lays b (l.take j)).m t.id) (cntd (q0.lays b (l.take j)).m t.id (q0.lays b (l.take j)).N) ∧ w'.ownsRow 0 82 3 v l.length (tvs l) ∧ w'.ownsRow w.heap.size 3 1 vo (out ++ toldOf l j b).length (ivs (out ++ toldOf l j b)) ∧ Same (WF g mb sl0) w w' := by
  refine ⟨h.at_.mapped hs hm, own_same h.row hs fun c hc e => h.far c hc (.inr (.inl e)), own_same h.own hs fun c hc e => own_far h.own h.at_ c hc (.inr (.inl e)), h.same.trans hs fun i hi e => ?_⟩
  rcases h.foot i (.inr (.inl e)) with e' | e'
  · exact e'
  · omega
theorem Inn.ring {w1 : World} (h : Inn w wr g mb sl0 b sets l q0 v vo sl out j) {t : Tm} (ht : l[j]? = some t) (hlt : ¬ b < t.at_) (hs : Same (at1 mb) wr w1) (hm : MapIs w1 mb (mdel (q0.lays b (l.take j)).m t.id) (cntd (q0.lays b (l.take j)).m t.id (q0.lays b (l.take j)).N))
    {vo' : Value} {k : Nat} (hk : (out ++ toldOf l j b).length = k) (ho : w'.ownsRow w.heap.size 3 1 vo' (k + 1) (ivs (out ++ toldOf l j b) ++ [.int .i64 t.id])) (hg : w1.grownBy w' vo.ownBlock) : Inn w w' g mb sl0 b sets l q0 v vo' sl out (j + 1) := by
  obtain ⟨h1, h2, h3, h4⟩ := h.deleted hs hm
  have hq : q0.lays b (l.take (j + 1)) = ⟨(q0.lays b (l.take j)).R, mdel (q0.lays b (l.take j)).m t.id, cntd (q0.lays b (l.take j)).m t.id (q0.lays b (l.take j)).N⟩ := by
    rw [lays_take ht]
    unfold RS.lay
    rw [if_neg hlt]
  have hgs := Same.of_grown hg
  refine ⟨by rw [hq]; exact h1.same hgs fun c hc e => own_far h3 h1 c e.symm hc, own_same h2 hgs fun c hc e => ?_, h.far, ?_, h4.trans hgs fun i hi e => ?_, h.foot⟩
  · rcases own_ne h2 h3 (by decide) with e' | e'
    · rw [e'] at hc; cases hc
    · exact e' (hc.trans e)
  · rw [told_take ht, if_neg hlt, ← List.append_assoc, List.length_append, hk]
    unfold ivs at ho ⊢
    rw [List.map_append]
    exact ho
  · have := (h3.lt i e.symm).1
    omega
end
theorem len_two {T : List Tm} {p q : Tm → Bool} (h : ∀ t ∈ T, p t = true → q t = false) : (T.filter p).length + (T.filter q).length ≤ T.length := by
  induction T with
  | nil => simp
  | cons t T ih =>
    have := ih fun u hu => h u (List.mem_cons_of_mem _ hu)
    rw [List.filter_cons, List.filter_cons]
    cases hp : p t with
    | true =>
      rw [h t (List.mem_cons_self ..) hp]
      simp; omega
    | false =>
      cases q t <;> simp <;> omega
section
variable {now sets : Nat} {T : List Tm} {R : Nat → List Tm} {m : Int → Option Pl} {N : Nat}
theorem TInv.laidLen (h : TInv now sets T R m N) {row k b j : Nat} {l : List Tm} (hl : l.Perm (R row)) : ((RS.lays b ⟨upd R row [], m, N⟩ (l.take j)).R k).length ≤ T.length := by
  rw [RS.lays_R, List.length_append]
  have h1 : ((l.take j).filter (low b k)).length ≤ (R row).length := by
    refine Nat.le_trans (List.length_filter_le _ _) ?_
    rw [← hl.length_eq, List.length_take]
    omega
  by_cases hk : k = row
  · subst hk
    simp only [upd, if_true, List.length_nil]
    have := h.rowLen k
    omega
  · simp only [upd, if_neg hk]
    rw [(h.rows k).length_eq]
    rw [(h.rows row).length_eq] at h1
    have := len_two (T := T) (p := inRow now k) (q := inRow now row) fun t _ hp => by
      unfold inRow at *
      simp at hp ⊢
      intro hn
      omega
    omega
theorem TInv.laidN (h : TInv now sets T R m N) {row b j : Nat} {l : List Tm} (hl : l.Perm (R row)) : (RS.lays b ⟨upd R row [], m, N⟩ (l.take j)).N ≤ N := by
  have hmem : ∀ t ∈ l, t ∈ T := fun t ht => (h.inR.1 (hl.mem_iff.1 ht)).1
  have hids : l.Pairwise fun a b => a.id ≠ b.id := by
    refine (hl.trans (h.rows row)).symm.pairwise_iff (fun {a b} (hab : a.id ≠ b.id) => hab.symm) |>.1 ?_
    exact h.ids.sublist List.filter_sublist
  rw [RS.lays_N b _ _ (hids.sublist (List.take_sublist _ _)) fun t ht => (h.has t.id).2 ⟨t, hmem t (List.mem_of_mem_take ht), rfl⟩]
  exact Nat.sub_le _ _
end
end Go.Proofs.Ytnnkchgkebcblaa
