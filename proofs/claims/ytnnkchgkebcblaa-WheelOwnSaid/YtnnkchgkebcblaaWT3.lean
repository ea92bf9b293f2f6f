/- Advance, on the list of timers: the nearest row is emptied, what does not ring yet is laid anew. Plain. -/
import Derived.Test.YtnnkchgkebcblaaWT2
namespace Go.Proofs.Ytnnkchgkebcblaa
set_option linter.unusedVariables false
set_option linter.unusedSimpArgs false
open Go.RowKit
/-- rows, map and count while a row is laid anew at the time b. -/
structure RS where
  R : Nat → List Tm
  m : Int → Option Pl
  N : Nat
def RS.lay (b : Nat) (q : RS) (t : Tm) : RS :=
  if b < t.at_ then ⟨upd q.R (ix t.at_ b) (q.R (ix t.at_ b) ++ [t]), mput q.m t.id (plOf t.at_ b), cnt q.m t.id q.N⟩ else ⟨q.R, mdel q.m t.id, cntd q.m t.id q.N⟩
def RS.lays (b : Nat) (q : RS) (l : List Tm) : RS := l.foldl (RS.lay b) q
theorem RS.lays_nil (b : Nat) (q : RS) : q.lays b [] = q := rfl
theorem RS.lays_cons (b : Nat) (q : RS) (t : Tm) (l : List Tm) : q.lays b (t :: l) = (q.lay b t).lays b l := rfl
theorem RS.lays_snoc (b : Nat) (q : RS) (l : List Tm) (t : Tm) : q.lays b (l ++ [t]) = (q.lays b l).lay b t := by simp [RS.lays]
def low (b k : Nat) (t : Tm) : Bool := decide (b < t.at_) && ix t.at_ b == k
theorem RS.lays_R (b : Nat) : ∀ (l : List Tm) (q : RS) (k : Nat), (q.lays b l).R k = q.R k ++ l.filter (low b k)
  | [], q, k => by simp [RS.lays_nil]
  | t :: l, q, k => by
    rw [RS.lays_cons, RS.lays_R b l, List.filter_cons]
    unfold RS.lay low
    by_cases h : b < t.at_
    · rw [if_pos h]
      simp only [upd, h, decide_true, Bool.true_and]
      by_cases hk : k = ix t.at_ b
      · subst hk
        simp
      · have : (ix t.at_ b == k) = false := by simpa using fun e => hk e.symm
        rw [if_neg hk, this]
        simp
    · rw [if_neg h]
      simp [h]
theorem RS.lays_m_no (b : Nat) : ∀ (l : List Tm) (q : RS) (i : Int), (∀ t ∈ l, t.id ≠ i) → (q.lays b l).m i = q.m i
  | [], q, i, _ => rfl
  | t :: l, q, i, h => by
    rw [RS.lays_cons, RS.lays_m_no b l _ i fun u hu => h u (List.mem_cons_of_mem _ hu)]
    have hi : i ≠ t.id := fun e => h t (List.mem_cons_self ..) e.symm
    unfold RS.lay
    split
    · simp only [mput, if_neg hi]
    · simp only [mdel, if_neg hi]
theorem RS.lays_m_yes (b : Nat) : ∀ (l : List Tm) (q : RS), l.Pairwise (fun a b => a.id ≠ b.id) → ∀ t ∈ l, (q.lays b l).m t.id = if b < t.at_ then some (plOf t.at_ b) else none
  | [], _, _, t, h => by cases h
  | u :: l, q, hp, t, ht => by
    obtain ⟨h1, h2⟩ := List.pairwise_cons.1 hp
    rw [RS.lays_cons]
    rcases List.mem_cons.1 ht with rfl | ht
    · rw [RS.lays_m_no b l _ t.id fun x hx => (h1 x hx).symm]
      unfold RS.lay
      split
      · simp only [mput, if_true]
      · simp only [mdel, if_true]
    · exact RS.lays_m_yes b l _ h2 t ht
theorem RS.lays_N (b : Nat) : ∀ (l : List Tm) (q : RS), l.Pairwise (fun a b => a.id ≠ b.id) → (∀ t ∈ l, (q.m t.id).isSome = true) → (q.lays b l).N = q.N - (l.filter fun t => !decide (b < t.at_)).length
  | [], _, _, _ => rfl
  | u :: l, q, hp, hm => by
    obtain ⟨h1, h2⟩ := List.pairwise_cons.1 hp
    have hu := hm u (List.mem_cons_self ..)
    have hs : ∀ t ∈ l, ((q.lay b u).m t.id).isSome = true := fun t ht => by
      have := RS.lays_m_no b [u] q t.id (fun x hx => by rw [show x = u by simpa using hx]; exact h1 t ht)
      rw [show q.lays b [u] = q.lay b u from rfl] at this
      rw [this]
      exact hm t (List.mem_cons_of_mem _ ht)
    rw [RS.lays_cons, RS.lays_N b l _ h2 hs, List.filter_cons]
    unfold RS.lay
    by_cases h : b < u.at_
    · rw [if_pos h, decide_eq_true h, Bool.not_true, if_neg (by decide)]
      show Go.Proofs.Ytnnkchgkebcblaa.cnt _ _ _ - _ = _
      rw [cnt, if_pos hu]
    · rw [if_neg h, decide_eq_false h, Bool.not_false, if_pos rfl]
      show Go.Proofs.Ytnnkchgkebcblaa.cntd _ _ _ - _ = _
      rw [cntd, if_pos hu, List.length_cons]
      omega
theorem perm_sorted_eq : ∀ {a b : List Tm}, a.Perm b → a.Pairwise (fun x y => x.ord ≤ y.ord) → b.Pairwise (fun x y => x.ord < y.ord) → a = b
  | [], b, h, _, _ => by rw [List.nil_perm.1 h]
  | x :: a, [], h, _, _ => absurd h.length_eq (by simp)
  | x :: a, y :: b, h, ha, hb => by
    obtain ⟨a1, a2⟩ := List.pairwise_cons.1 ha
    obtain ⟨b1, b2⟩ := List.pairwise_cons.1 hb
    have hxy : x = y := by
      have hx : x ∈ y :: b := h.mem_iff.1 (List.mem_cons_self ..)
      have hy : y ∈ x :: a := h.mem_iff.2 (List.mem_cons_self ..)
      rcases List.mem_cons.1 hx with e | hx
      · exact e
      · rcases List.mem_cons.1 hy with e | hy
        · exact e.symm
        · have := b1 x hx
          have := a1 y hy
          omega
    subst hxy
    rw [perm_sorted_eq ((List.perm_cons x).1 h) a2 b2]
section
variable {now sets : Nat} {T : List Tm} {R : Nat → List Tm} {m : Int → Option Pl} {N : Nat}
theorem plOf_of_ix {x a b : Nat} (h : ix x a = ix x b) : plOf x a = plOf x b := by
  unfold ix at h
  have h1 := dg_lt x (lvl x a)
  have h2 := dg_lt x (lvl x b)
  have : lvl x a = lvl x b := by omega
  unfold plOf
  rw [this]
theorem TInv.noNev (h : TInv now sets T R m N) (hn : now < 281474976710655) {t : Tm} (ht : t ∈ T) : t.nev = false := by
  cases hv : t.nev with
  | false => rfl
  | true => have := h.nev t ht hv; omega
theorem TInv.inR (h : TInv now sets T R m N) {k : Nat} {t : Tm} : t ∈ R k ↔ t ∈ T ∧ t.nev = false ∧ ix t.at_ now = k := by
  rw [(h.rows k).mem_iff, List.mem_filter]
  unfold inRow
  simp
/-- the time goes on, and nothing rings or moves. -/
theorem TInv.move (h : TInv now sets T R m N) (hn : now < 281474976710655) {n : Nat} (hn2 : n ≤ 281474976710655) (hs : ∀ t ∈ T, n < t.at_ ∧ ix t.at_ n = ix t.at_ now) : TInv n sets T R m N := by
  refine ⟨hn2, h.ids, h.ords, h.le, h.wf, fun t ht _ => ⟨(hs t ht).1, (h.live t ht (h.noNev hn ht)).2⟩, fun t ht hv => ?_, fun k => ?_, fun t ht => ?_, h.only, h.cnt⟩
  · rw [h.noNev hn ht] at hv; cases hv
  · have : T.filter (inRow n k) = T.filter (inRow now k) := List.filter_congr fun t ht => by unfold inRow; rw [(hs t ht).2]
    rw [this]
    exact h.rows k
  · rw [h.map t ht]
    unfold plT
    rw [h.noNev hn ht]
    simp only [Bool.false_eq_true, if_false]
    rw [plOf_of_ix (hs t ht).2]
theorem TInv.none (h : TInv now sets T R m N) (hn : now < 281474976710655) (hno : ∀ l, l < 8 → ∀ u, dg now l < u → u < 64 → R (l * 64 + u) = []) : T = [] := by
  cases T with
  | nil => rfl
  | cons t T =>
    have ht : t ∈ t :: T := List.mem_cons_self ..
    have hl := h.live t ht (h.noNev hn ht)
    obtain ⟨K, hK⟩ := lv_exists hl.1 (show t.at_ < 64 ^ 8 by omega)
    have := hno K hK.lt (dg t.at_ K) hK.dig (dg_lt _ _)
    have hin : t ∈ R (K * 64 + dg t.at_ K) := h.inR.2 ⟨ht, h.noNev hn ht, hK.ix⟩
    rw [this] at hin
    cases hin
theorem TInv.cls (h : TInv now sets T R m N) (hn : now < 281474976710655) {L s : Nat} (hN : Near now (fun k => R k ≠ []) L s) {t : Tm} (ht : t ∈ T) :
    (ix t.at_ now = L * 64 + s ∧ hi L t.at_ = hi (L + 1) now * 64 + s ∨ ix t.at_ now ≠ L * 64 + s ∧ hi (L + 1) now * 64 + s < hi L t.at_) ∧
    ∀ n, now ≤ n → hi L n ≤ hi (L + 1) now * 64 + s → hi L n < hi L t.at_ → ix t.at_ n = ix t.at_ now := by
  have hl := h.live t ht (h.noNev hn ht)
  refine hN.cls hl.1 (show t.at_ < 64 ^ 8 by omega) ?_
  intro e
  have hin : t ∈ R (ix t.at_ now) := h.inR.2 ⟨ht, h.noNev hn ht, rfl⟩
  rw [e] at hin
  cases hin
/-- all that are set ring at the nearest row's beginning or later. -/
theorem TInv.ge (h : TInv now sets T R m N) (hn : now < 281474976710655) {L s : Nat} (hN : Near now (fun k => R k ≠ []) L s) {t : Tm} (ht : t ∈ T) : bg now L s ≤ t.at_ := by
  rw [bg_le]
  rcases (h.cls hn hN ht).1 with ⟨_, e⟩ | ⟨_, e⟩ <;> omega
theorem TInv.quiet (h : TInv now sets T R m N) (hn : now < 281474976710655) {L s : Nat} (hN : Near now (fun k => R k ≠ []) L s) {n : Nat} (hn1 : now ≤ n) (hn2 : n ≤ 281474976710655) (hb : n < bg now L s) : TInv n sets T R m N := by
  have hhi : hi L n < hi (L + 1) now * 64 + s := by
    rcases Nat.lt_or_ge (hi L n) (hi (L + 1) now * 64 + s) with h' | h'
    · exact h'
    · have := bg_le.2 h'; omega
  refine h.move hn hn2 fun t ht => ⟨Nat.lt_of_lt_of_le hb (h.ge hn hN ht), ?_⟩
  refine (h.cls hn hN ht).2 n hn1 (Nat.le_of_lt hhi) ?_
  rcases (h.cls hn hN ht).1 with ⟨_, e⟩ | ⟨_, e⟩ <;> omega
/-- what does not lie in the nearest row stays where it is. -/
theorem TInv.out (h : TInv now sets T R m N) (hn : now < 281474976710655) {L s : Nat} (hN : Near now (fun k => R k ≠ []) L s) {t : Tm} (ht : t ∈ T) (hx : ix t.at_ now ≠ L * 64 + s) : bg now L s < t.at_ ∧ ix t.at_ (bg now L s) = ix t.at_ now := by
  rcases (h.cls hn hN ht).1 with ⟨e, _⟩ | ⟨_, e⟩
  · exact absurd e hx
  · have hlt : hi L (bg now L s) < hi L t.at_ := by rw [hi_bg]; exact e
    exact ⟨lt_of_hi hlt, (h.cls hn hN ht).2 _ (Nat.le_of_lt hN.after) (by rw [hi_bg]; exact Nat.le_refl _) hlt⟩
def rest (T : List Tm) (b : Nat) : List Tm := T.filter fun t => t.nev || t.at_ != b
theorem TInv.step (h : TInv now sets T R m N) (hn : now < 281474976710655) {L s : Nat} (hN : Near now (fun k => R k ≠ []) L s) (hb : bg now L s ≤ 281474976710655) {l : List Tm} (hl : l.Perm (R (L * 64 + s))) :
    TInv (bg now L s) sets (rest T (bg now L s)) (RS.lays (bg now L s) ⟨upd R (L * 64 + s) [], m, N⟩ l).R (RS.lays (bg now L s) ⟨upd R (L * 64 + s) [], m, N⟩ l).m (RS.lays (bg now L s) ⟨upd R (L * 64 + s) [], m, N⟩ l).N := by
  obtain ⟨b, hbe⟩ : ∃ b, b = bg now L s := ⟨_, rfl⟩
  obtain ⟨row, hrow⟩ : ∃ row, row = L * 64 + s := ⟨_, rfl⟩
  have hge : ∀ t ∈ T, b ≤ t.at_ := fun t ht => hbe ▸ h.ge hn hN ht
  have hout : ∀ t ∈ T, ix t.at_ now ≠ row → b < t.at_ ∧ ix t.at_ b = ix t.at_ now := fun t ht hx => hbe ▸ h.out hn hN ht (hrow ▸ hx)
  rw [← hbe] at hb ⊢
  rw [← hrow] at hl ⊢
  clear hbe hrow hN
  have hsub : (rest T b).Sublist T := List.filter_sublist
  have nev : ∀ t ∈ T, t.nev = false := fun t ht => h.noNev hn ht
  have mem : ∀ t, t ∈ rest T b ↔ t ∈ T ∧ b < t.at_ := fun t => by
    unfold rest
    rw [List.mem_filter]
    constructor
    · rintro ⟨h1, h2⟩
      have := hge t h1
      simp [nev t h1] at h2
      exact ⟨h1, by omega⟩
    · rintro ⟨h1, h2⟩
      refine ⟨h1, ?_⟩
      simp [nev t h1]
      omega
  have hml : ∀ t, t ∈ l ↔ t ∈ T ∧ ix t.at_ now = row := fun t => by
    rw [hl.mem_iff, h.inR]
    exact ⟨fun ⟨a, _, c⟩ => ⟨a, c⟩, fun ⟨a, c⟩ => ⟨a, nev t a, c⟩⟩
  have hlp : l.Perm (T.filter (inRow now row)) := hl.trans (h.rows row)
  have hids : l.Pairwise fun a b => a.id ≠ b.id := by
    refine (hlp.symm.pairwise_iff (fun {a b} (hab : a.id ≠ b.id) => hab.symm)).1 ?_
    exact h.ids.sublist List.filter_sublist
  refine ⟨hb, h.ids.sublist hsub, h.ords.sublist hsub, fun t ht => h.le t ((mem t).1 ht).1, fun t ht => h.wf t ((mem t).1 ht).1, fun t ht _ => ⟨((mem t).1 ht).2, (h.live t ((mem t).1 ht).1 (nev t ((mem t).1 ht).1)).2⟩,
    fun t ht hv => absurd hv (by rw [nev t ((mem t).1 ht).1]; decide), fun k => ?_, fun t ht => ?_, fun i p hp => ?_, ?_⟩
  · rw [RS.lays_R]
    have e0 : (rest T b).filter (inRow b k) = T.filter (low b k) := by
      unfold rest
      rw [List.filter_filter]
      refine List.filter_congr fun t ht => ?_
      have := hge t ht
      unfold inRow low
      rw [nev t ht]
      simp only [Bool.not_false, Bool.true_and, Bool.false_or]
      by_cases hlt : b < t.at_
      · have : (t.at_ != b) = true := by simp; omega
        rw [this, decide_eq_true hlt, Bool.and_true, Bool.true_and]
      · have : (t.at_ != b) = false := by simp; omega
        rw [this, decide_eq_false hlt, Bool.and_false, Bool.false_and]
    rw [e0]
    have e1 : (T.filter (low b k)).Perm ((T.filter fun t => !inRow now row t).filter (low b k) ++ (T.filter (inRow now row)).filter (low b k)) := by
      rw [← List.filter_append]
      refine List.Perm.filter _ ?_
      have := List.filter_append_perm (inRow now row) T
      exact (List.perm_append_comm.trans this).symm
    refine List.Perm.trans ?_ e1.symm
    refine List.Perm.append ?_ (hlp.filter _)
    by_cases hk : k = row
    · subst hk
      have : ((T.filter fun t => !inRow now k t).filter (low b k)) = [] := by
        rw [List.filter_eq_nil_iff]
        intro t ht hlo
        obtain ⟨h1, h2⟩ := List.mem_filter.1 ht
        unfold inRow at h2
        rw [nev t h1] at h2
        simp at h2
        have := hout t h1 h2
        unfold low at hlo
        simp at hlo
        omega
      rw [this]
      simp [upd]
    · have : ((T.filter fun t => !inRow now row t).filter (low b k)) = T.filter (inRow now k) := by
        rw [List.filter_filter]
        refine List.filter_congr fun t ht => ?_
        unfold inRow low
        rw [nev t ht]
        simp only [Bool.not_false, Bool.true_and]
        by_cases hx : ix t.at_ now = row
        · have e : (ix t.at_ now == row) = true := by simpa using hx
          have e' : (ix t.at_ now == k) = false := by simp; omega
          rw [e, e']; simp
        · have e : (ix t.at_ now == row) = false := by simpa using hx
          obtain ⟨h1, h2⟩ := hout t ht hx
          rw [e, h2, decide_eq_true h1]; simp
      rw [this]
      simp only [upd, if_neg hk]
      exact h.rows k
  · obtain ⟨h1, h2⟩ := (mem t).1 ht
    unfold plT
    rw [nev t h1]
    simp only [Bool.false_eq_true, if_false]
    by_cases hx : ix t.at_ now = row
    · rw [RS.lays_m_yes b l _ hids t ((hml t).2 ⟨h1, hx⟩), if_pos h2]
    · rw [RS.lays_m_no b l _ t.id fun u hu e => by
        obtain ⟨u1, u2⟩ := (hml u).1 hu
        rw [id_inj h.ids u1 h1 e] at u2
        exact hx u2]
      show m t.id = _
      rw [h.map t h1]
      unfold plT
      rw [nev t h1]
      simp only [Bool.false_eq_true, if_false]
      rw [plOf_of_ix (hout t h1 hx).2]
  · by_cases hi : ∃ t ∈ l, t.id = i
    · obtain ⟨t, ht, rfl⟩ := hi
      rw [RS.lays_m_yes b l _ hids t ht] at hp
      split at hp
      · rename_i hlt
        exact ⟨t, (mem t).2 ⟨((hml t).1 ht).1, hlt⟩, rfl⟩
      · cases hp
    · have hno : ∀ t ∈ l, t.id ≠ i := fun t ht e => hi ⟨t, ht, e⟩
      rw [RS.lays_m_no b l _ i hno] at hp
      obtain ⟨t, ht, rfl⟩ := h.only i p hp
      refine ⟨t, (mem t).2 ⟨ht, (hout t ht fun hx => ?_).1⟩, rfl⟩
      exact hno t ((hml t).2 ⟨ht, hx⟩) rfl
  · rw [RS.lays_N b l _ hids (fun t ht => (h.has t.id).2 ⟨t, ((hml t).1 ht).1, rfl⟩)]
    show N - _ = _
    have e1 : (l.filter fun t => !decide (b < t.at_)).length = (T.filter fun t => !decide (b < t.at_)).length := by
      rw [(hlp.filter _).length_eq, List.filter_filter]
      congr 1
      refine List.filter_congr fun t ht => ?_
      unfold inRow
      rw [nev t ht]
      simp only [Bool.not_false, Bool.true_and]
      by_cases hx : ix t.at_ now = row
      · have e : (ix t.at_ now == row) = true := by simpa using hx
        rw [e, Bool.and_true]
      · rw [decide_eq_true (hout t ht hx).1]; rfl
    have e2 : rest T b = T.filter fun t => decide (b < t.at_) := by
      unfold rest
      refine List.filter_congr fun t ht => ?_
      have := hge t ht
      rw [nev t ht]
      by_cases hlt : b < t.at_
      · rw [decide_eq_true hlt]; simp; omega
      · rw [decide_eq_false hlt]; simp; omega
    have e3 := (List.filter_append_perm (fun t : Tm => decide (b < t.at_)) T).length_eq
    rw [List.length_append] at e3
    rw [e1, e2, h.cnt]
    omega
theorem TInv.told (h : TInv now sets T R m N) (hn : now < 281474976710655) {L s : Nat} (hN : Near now (fun k => R k ≠ []) L s) {l : List Tm} (hl : l.Perm (R (L * 64 + s))) (ho : l.Pairwise fun a b => a.ord ≤ b.ord) :
    l.filter (fun t => !decide (bg now L s < t.at_)) = due T (bg now L s) := by
  have nev : ∀ t ∈ T, t.nev = false := fun t ht => h.noNev hn ht
  refine perm_sorted_eq ?_ (ho.sublist List.filter_sublist) (h.ords.sublist List.filter_sublist)
  refine ((hl.trans (h.rows _)).filter _).trans (List.Perm.of_eq ?_)
  unfold due
  rw [List.filter_filter]
  refine List.filter_congr fun t ht => ?_
  have hge := h.ge hn hN ht
  unfold inRow
  rw [nev t ht]
  simp only [Bool.not_false, Bool.true_and]
  by_cases hlt : bg now L s < t.at_
  · rw [decide_eq_true hlt]; simp; omega
  · have hx : ix t.at_ now = L * 64 + s := Classical.byContradiction fun hx => hlt (h.out hn hN ht hx).1
    rw [decide_eq_false hlt, hx]; simp; omega
theorem stay_rest {T : List Tm} {b n : Nat} (h : b ≤ n) : stay (rest T b) n = stay T n := by
  unfold stay rest
  rw [List.filter_filter]
  refine List.filter_congr fun t _ => ?_
  cases t.nev <;> simp <;> omega
theorem TInv.stay_all (h : TInv now sets T R m N) : stay T now = T := by
  unfold stay
  rw [List.filter_eq_self]
  intro t ht
  cases hv : t.nev with
  | true => rfl
  | false => simpa using (h.live t ht hv).1
theorem TInv.rings_nil (h : TInv now sets T R m N) : rings T now = [] := rings_none fun t ht hv => (h.live t ht hv).1
end
end Go.Proofs.Ytnnkchgkebcblaa
