/- Known, IPlain, ISess, Valid, IEv, RefGot, RefLaw, RB, IOp, AnsLen: joined. -/
import Derived.Test.YtfaemjlemaclbaaGreatMBox
import Derived.Test.YtfaemjlemaclbaaGreatMRangeLaw
import Derived.Test.YtfaemjlemaclbaaGreatMBase
import Derived.DeepKeys4
import Derived.Lib.Hide
import Derived.Laws.ResultCell
import Derived.Laws.EntriesVeiled
import Derived.Test.YtfaemjlemaclbaaGreatMRefBox
import Derived.Deep.RegionLaw
section
/- Plain law: a box that New and Put made. -/
namespace Go.Proofs.YtfaemjlemaclbaaGreat
set_option linter.unusedVariables false
set_option linter.unusedSimpArgs false
open Go.RowKit
structure Known (b : BoxS) : Prop where
  good : Good b
  some : 0 < b.len → ∃ i, i + 1 < b.cnt ∧ b.ps.getD i [] ≠ []
def BoxS.ls (b : BoxS) : List (List UInt8) := b.ps.take b.cnt
theorem Good.ls_len {b : BoxS} (h : Good b) : b.ls.length = b.cnt := by
  have := h.fine.hi
  rw [BoxS.ls, List.length_take, h.n]; omega
theorem ls_at {b : BoxS} {i : Nat} (hi : i < b.cnt) : b.ls.getD i [] = b.ps.getD i [] := by
  rw [BoxS.ls, List.getD_eq_getElem?_getD, List.getD_eq_getElem?_getD, List.getElem?_take_of_lt hi]
theorem Good.ls_le {b : BoxS} (h : Good b) : ∀ p ∈ b.ls, p.length ≤ 1024 := fun p hp => h.fine.seg p (List.mem_of_mem_take hp)
theorem known_new (n : Nat) (h1 : 1 ≤ n) (h2 : n ≤ 64) : Known ⟨n, 0, List.replicate 64 []⟩ := ⟨good_new n h1 h2, fun h => by simp at h⟩
theorem ls_new (n : Nat) (h2 : n ≤ 64) : BoxS.ls ⟨n, 0, List.replicate 64 []⟩ = List.replicate n [] := by
  rw [BoxS.ls, List.take_replicate, Nat.min_eq_left h2]
theorem known_put {b : BoxS} (h : Known b) (index : Int) (seg : List UInt8) : Known (b.put index seg) := by
  refine ⟨good_put b h.good index seg, ?_⟩
  unfold BoxS.put
  split
  · next h0 =>
    by_cases hc : index < 0 ∨ (b.cnt : Int) ≤ index ∨ seg.length = 0 ∨ 1024 < seg.length
    · rw [putErr_arg hc] at h0; omega
    obtain ⟨i, rfl⟩ := Int.eq_ofNat_of_zero_le (show 0 ≤ index by omega)
    rw [Int.toNat_natCast]
    have hsn : seg ≠ [] := by intro e; subst e; simp at hc
    have hil : i < b.ps.length := by have := h.good.n; have := h.good.fine.hi; omega
    intro hp
    simp only at hp ⊢
    by_cases hl : i + 1 = b.cnt
    · rw [putLen, if_pos hl] at hp
      obtain ⟨i0, hi0, hn0⟩ := h.some hp
      exact ⟨i0, hi0, by rw [getD_set _ _ _ _ _ hil, if_neg (by omega)]; exact hn0⟩
    · exact ⟨i, by omega, by rw [getD_set _ _ _ _ _ hil, if_pos rfl]; exact hsn⟩
  · exact h.some
end Go.Proofs.YtfaemjlemaclbaaGreat
end
section
/- The inbox as the mind has it: two lists of sessions, the one that was touched least lately first. -/
namespace Go.Proofs.YtfaemjlemaclbaaGreat
set_option linter.unusedVariables false
set_option linter.unusedSimpArgs false
set_option linter.unusedSectionVars false
open Go.RowKit Go.Maps
abbrev Sess := UInt64 × UInt64
def sv (s : Sess) : Value := .agg #[.int .u64 (s.1.toNat : Int), .int .u64 (s.2.toNat : Int)]
/-- a unit. -/
structure UD where
  kind : Int
  ep : UInt64
  ses : UInt64
  path : Int
  idx : Int
  cnt : Int
  data : List UInt8
  code : Int
  got : List (Int × Int)
def named (n : UInt64) : Prop := 1 ≤ n.toNat ∧ n.toNat ≤ 281474976710655
instance (n : UInt64) : Decidable (named n) := inferInstanceAs (Decidable (_ ∧ _))
def goodD (u : UD) : Prop := (u.path = 1 ∨ u.path = 2) ∧ 1 ≤ u.cnt ∧ u.cnt ≤ 64 ∧ 0 ≤ u.idx ∧ u.idx < u.cnt ∧ 1 ≤ u.data.length ∧ u.data.length ≤ 1024 ∧ u.code = 0 ∧ u.got.length = 0
instance (u : UD) : Decidable (goodD u) := inferInstanceAs (Decidable (_ ∧ _))
def UD.isData (u : UD) : Prop := u.kind = 1 ∧ named u.ep ∧ named u.ses ∧ goodD u
instance (u : UD) : Decidable u.isData := inferInstanceAs (Decidable (_ ∧ _))
section
variable {κ ε : Type} [DecidableEq κ]
def lk (L : List (κ × ε)) (s : κ) : Option ε := (L.find? fun p => decide (p.1 = s)).map (·.2)
theorem lk_mem {L : List (κ × ε)} {s : κ} {x : ε} (h : lk L s = some x) : (s, x) ∈ L := by
  unfold lk at h
  rw [Option.map_eq_some_iff] at h
  obtain ⟨p, hp, rfl⟩ := h
  have h1 := List.find?_some hp
  have h2 := List.mem_of_find?_eq_some hp
  simp at h1
  subst h1
  exact h2
theorem lk_none {L : List (κ × ε)} {s : κ} (h : lk L s = none) (x : ε) : (s, x) ∉ L := by
  unfold lk at h
  rw [Option.map_eq_none_iff, List.find?_eq_none] at h
  intro hx
  exact h _ hx (by simp)
theorem lk_of_mem {L : List (κ × ε)} (h0 : (L.map (·.1)).Nodup) {s : κ} {x : ε} (h : (s, x) ∈ L) : lk L s = some x := by
  cases hl : lk L s with
  | none => exact absurd h (lk_none hl x)
  | some y =>
    have h1 := (wo_perm h0 h).mem_iff.1 (lk_mem hl)
    rcases List.mem_cons.1 h1 with e | e
    · injection e with _ e; rw [e]
    · exact absurd rfl (mem_wo.1 e).2
theorem nodup_snoc {L : List (κ × ε)} {s : κ} {x : ε} (h0 : (L.map (·.1)).Nodup) (h : ∀ y, (s, y) ∉ L) : ((L ++ [(s, x)]).map (·.1)).Nodup := by
  rw [List.map_append, List.nodup_append]
  refine ⟨h0, by simp, fun a ha c hc => ?_⟩
  simp at hc
  subst hc
  rintro rfl
  obtain ⟨p, hp, rfl⟩ := List.mem_map.1 ha
  exact h p.2 hp
theorem wo_not (L : List (κ × ε)) (s : κ) (x : ε) : (s, x) ∉ wo L s := fun h => (mem_wo.1 h).2 rfl
end
structure Ans where
  st : Int
  code : Int
  got : List (Int × Int)
  blk : List UInt8
structure IM where
  mo : Nat
  ms : Nat
  ep : UInt64
  O : List (Sess × BoxS)
  C : List (Sess × Int)
def IM.rise (m : IM) (e : UInt64) : IM := if m.ep.toNat < e.toNat then { m with ep := e, O := [], C := [] } else m
def ansOf (b : BoxS) : Ans := if allNe b.ps b.cnt = true then ⟨4, 0, [], blockOf b⟩ else ⟨3, 0, leastR (gotL b.ps b.cnt), []⟩
def newBox (u : UD) : BoxS := ⟨u.cnt.toNat, 0, List.replicate 64 []⟩
def errOf (b : BoxS) (u : UD) : Int := putErr b.cnt b.len b.ps u.idx u.data
def IM.seg (m : IM) (s : Sess) (u : UD) : IM × Ans :=
  match lk m.O s with
  | none => if errOf (newBox u) u = 0 then
      ({ m with O := (if m.mo ≤ m.O.length then m.O.tail else m.O) ++ [(s, (newBox u).put u.idx u.data)] }, ansOf ((newBox u).put u.idx u.data)) else (m, ⟨2, 0, [], []⟩)
  | some b => if (b.cnt : Int) = u.cnt ∧ (errOf b u = 0 ∨ errOf b u = 3) then
      ({ m with O := wo m.O s ++ [(s, b.put u.idx u.data)] }, ansOf (b.put u.idx u.data)) else (m, ⟨2, 0, [], []⟩)
def IM.touch (m : IM) (s : Sess) (c : Int) : IM := { m with C := wo m.C s ++ [(s, c)] }
def IM.late (m : IM) (u : UD) : IM × Ans :=
  match lk m.C (u.ep, u.ses) with
  | some c => (m.touch (u.ep, u.ses) c, ⟨5, c, [], []⟩)
  | none => m.seg (u.ep, u.ses) u
def IM.take (m : IM) (u : UD) : IM × Ans :=
  if ¬ u.isData then (m, ⟨2, 0, [], []⟩) else if u.ep.toNat < m.ep.toNat then (m, ⟨1, 0, [], []⟩) else (m.rise u.ep).late u
def badD (s : Sess) (code : Int) : Prop := code < 1 ∨ 7 < code ∨ ¬ named s.1 ∨ ¬ named s.2
instance (s : Sess) (code : Int) : Decidable (badD s code) := inferInstanceAs (Decidable (_ ∨ _))
def IM.shut (m : IM) (s : Sess) (code : Int) : IM := { m with O := wo m.O s, C := if m.ms < m.C.length + 1 then (m.C ++ [(s, code)]).tail else m.C ++ [(s, code)] }
def IM.dec (m : IM) (s : Sess) (code : Int) : IM × Int :=
  if badD s code then (m, 1) else if s.1.toNat < m.ep.toNat then (m, 83) else if (lk m.C s).isSome = true then (m, 3) else ((m.rise s.1).shut s code, 0)
def IM.drop (m : IM) (s : Sess) : IM × Bool := if (lk m.O s).isSome = true then ({ m with O := wo m.O s }, true) else (m, false)
structure IInv (m : IM) : Prop where
  ko : (m.O.map (·.1)).Nodup
  kc : (m.C.map (·.1)).Nodup
  eo : ∀ p ∈ m.O, p.1.1 = m.ep
  ec : ∀ p ∈ m.C, p.1.1 = m.ep
  lo : m.O.length ≤ m.mo
  lc : m.C.length ≤ m.ms + 1
  box : ∀ p ∈ m.O, Known p.2
  mo1 : 1 ≤ m.mo
  mo2 : m.mo ≤ 64
  ms1 : 1 ≤ m.ms
  ms2 : m.ms ≤ 4096
theorem tail_sub {α : Type} (l : List α) : l.tail.Sublist l := List.tail_sublist l
theorem IInv.rise {m : IM} (h : IInv m) (e : UInt64) : IInv (m.rise e) := by
  unfold IM.rise
  split
  · exact ⟨by simp, by simp, by simp, by simp, by simp, by simp, by simp, h.mo1, h.mo2, h.ms1, h.ms2⟩
  · exact h
theorem rise_ep {m : IM} {e : UInt64} (h : ¬ e.toNat < m.ep.toNat) : (m.rise e).ep = e := by
  unfold IM.rise
  split
  · rfl
  · exact UInt64.toNat_inj.1 (by omega)
theorem rise_mo (m : IM) (e : UInt64) : (m.rise e).mo = m.mo ∧ (m.rise e).ms = m.ms := by
  unfold IM.rise
  split <;> exact ⟨rfl, rfl⟩
theorem Known.new {u : UD} (h : goodD u) : Known (newBox u) := known_new _ (by have := h.2.1; omega) (by have := h.2.2.1; omega)
theorem IInv.seg {m : IM} (h : IInv m) {s : Sess} {u : UD} (hs : s.1 = m.ep) (hu : goodD u) : IInv (m.seg s u).1 := by
  unfold IM.seg
  split
  · next hl =>
    split
    · next h0 =>
      have hno : ∀ y, (s, y) ∉ (if m.mo ≤ m.O.length then m.O.tail else m.O) := fun y hy => lk_none hl y (by
        split at hy
        · exact (tail_sub _).subset hy
        · exact hy)
      have hsub : (if m.mo ≤ m.O.length then m.O.tail else m.O).Sublist m.O := by split; exact tail_sub _; exact List.Sublist.refl _
      refine ⟨nodup_snoc ((hsub.map _).nodup h.ko) hno, h.kc, fun p hp => ?_, h.ec, ?_, h.lc, fun p hp => ?_, h.mo1, h.mo2, h.ms1, h.ms2⟩
      · rcases List.mem_append.1 hp with e | e
        · exact h.eo p (hsub.subset e)
        · simp at e; subst e; exact hs
      · have := h.mo1
        have := h.lo
        simp only [List.length_append, List.length_singleton]
        split <;> simp <;> omega
      · rcases List.mem_append.1 hp with e | e
        · exact h.box p (hsub.subset e)
        · simp at e; subst e; exact known_put (Known.new hu) _ _
    · exact h
  · next b hl =>
    have hm := lk_mem hl
    split
    · refine ⟨nodup_snoc (wo_nodup h.ko s) (fun y => wo_not m.O s y), h.kc, fun p hp => ?_, h.ec, ?_, h.lc, fun p hp => ?_, h.mo1, h.mo2, h.ms1, h.ms2⟩
      · rcases List.mem_append.1 hp with e | e
        · exact h.eo p ((wo_sub s).subset e)
        · simp at e; subst e; exact hs
      · have := wo_len h.ko hm
        have := h.lo
        simp only [List.length_append, List.length_singleton]
        omega
      · rcases List.mem_append.1 hp with e | e
        · exact h.box p ((wo_sub s).subset e)
        · simp at e; subst e; exact known_put (h.box _ hm) _ _
    · exact h
theorem IInv.touch {m : IM} (h : IInv m) {s : Sess} {c : Int} (hm : (s, c) ∈ m.C) : IInv (m.touch s c) := by
  refine ⟨h.ko, nodup_snoc (wo_nodup h.kc s) (fun y => wo_not m.C s y), h.eo, fun p hp => ?_, h.lo, ?_, h.box, h.mo1, h.mo2, h.ms1, h.ms2⟩
  · rcases List.mem_append.1 hp with e | e
    · exact h.ec p ((wo_sub s).subset e)
    · simp at e; subst e; exact h.ec _ hm
  · have := wo_len h.kc hm
    have := h.lc
    show (wo m.C s ++ [(s, c)]).length ≤ m.ms + 1
    simp only [List.length_append, List.length_singleton]
    omega
theorem IInv.late {m : IM} (h : IInv m) {u : UD} (hs : u.ep = m.ep) (hu : goodD u) : IInv (m.late u).1 := by
  unfold IM.late
  split
  · next c hl => exact h.touch (lk_mem hl)
  · exact h.seg hs hu
theorem IInv.take {m : IM} (h : IInv m) (u : UD) : IInv (m.take u).1 := by
  unfold IM.take
  split
  · exact h
  · next hd =>
    split
    · exact h
    · next he => exact (h.rise u.ep).late (rise_ep he).symm (by simpa using hd : u.isData).2.2.2
theorem IInv.shut {m : IM} (h : IInv m) {s : Sess} (hs : s.1 = m.ep) (hn : ∀ y, (s, y) ∉ m.C) (code : Int) : IInv (m.shut s code) := by
  have hnd := nodup_snoc (x := code) h.kc hn
  have hep : ∀ p ∈ m.C ++ [(s, code)], p.1.1 = m.ep := fun p hp => by
    rcases List.mem_append.1 hp with e | e
    · exact h.ec p e
    · simp at e; subst e; exact hs
  have h1 := h.lc
  refine ⟨wo_nodup h.ko s, ?_, fun p hp => h.eo p ((wo_sub s).subset hp), ?_, Nat.le_trans (wo_sub s).length_le h.lo, ?_, fun p hp => h.box p ((wo_sub s).subset hp), h.mo1, h.mo2, h.ms1, h.ms2⟩
  · show ((if m.ms < m.C.length + 1 then (m.C ++ [(s, code)]).tail else m.C ++ [(s, code)]).map _).Nodup
    split
    · exact ((tail_sub _).map _).nodup hnd
    · exact hnd
  · show ∀ p ∈ (if m.ms < m.C.length + 1 then (m.C ++ [(s, code)]).tail else m.C ++ [(s, code)]), p.1.1 = m.ep
    split
    · exact fun p hp => hep p ((tail_sub _).subset hp)
    · exact hep
  · show (if m.ms < m.C.length + 1 then (m.C ++ [(s, code)]).tail else m.C ++ [(s, code)]).length ≤ m.ms + 1
    split <;> simp <;> omega
theorem rise_lk {m : IM} {s : Sess} (h : ¬ (lk m.C s).isSome = true) : ∀ y, (s, y) ∉ (m.rise s.1).C := fun y hy => by
  unfold IM.rise at hy
  split at hy
  · cases hy
  · cases hl : lk m.C s with
    | none => exact lk_none hl y hy
    | some c => rw [hl] at h; exact h rfl
theorem IInv.dec {m : IM} (h : IInv m) (s : Sess) (code : Int) : IInv (m.dec s code).1 := by
  unfold IM.dec
  split
  · exact h
  · split
    · exact h
    · next he =>
      split
      · exact h
      · next hl => exact (h.rise s.1).shut (rise_ep he).symm (rise_lk hl) code
/-- never more decided ones than there may be. -/
def Room (m : IM) : Prop := m.C.length ≤ m.ms
theorem Room.rise {m : IM} (h : Room m) (e : UInt64) : Room (m.rise e) := by
  unfold IM.rise
  split
  · exact Nat.zero_le _
  · exact h
theorem Room.take {m : IM} (h : Room m) (hi : IInv m) (u : UD) : Room (m.take u).1 := by
  unfold IM.take
  split
  · exact h
  · split
    · exact h
    · have h1 := h.rise u.ep
      have h2 := hi.rise u.ep
      unfold IM.late
      split
      · next c hl =>
        have := wo_len h2.kc (lk_mem hl)
        show (wo (m.rise u.ep).C (u.ep, u.ses) ++ [((u.ep, u.ses), c)]).length ≤ (m.rise u.ep).ms
        have h1' : (m.rise u.ep).C.length ≤ (m.rise u.ep).ms := h1
        simp only [List.length_append, List.length_singleton]
        omega
      · unfold IM.seg
        split
        · split <;> exact h1
        · split <;> exact h1
theorem Room.dec {m : IM} (h : Room m) (s : Sess) (code : Int) : Room (m.dec s code).1 := by
  unfold IM.dec
  split
  · exact h
  · split
    · exact h
    · split
      · exact h
      · have h1 : (m.rise s.1).C.length ≤ (m.rise s.1).ms := h.rise s.1
        show (if (m.rise s.1).ms < (m.rise s.1).C.length + 1 then ((m.rise s.1).C ++ [(s, code)]).tail else (m.rise s.1).C ++ [(s, code)]).length ≤ (m.rise s.1).ms
        split <;> simp <;> omega
theorem Room.drop {m : IM} (h : Room m) (s : Sess) : Room (m.drop s).1 := by
  unfold IM.drop
  split <;> exact h
theorem IInv.drop {m : IM} (h : IInv m) (s : Sess) : IInv (m.drop s).1 := by
  unfold IM.drop
  split
  · exact ⟨wo_nodup h.ko s, h.kc, fun p hp => h.eo p ((wo_sub s).subset hp), h.ec, Nat.le_trans (wo_sub s).length_le h.lo, h.lc, fun p hp => h.box p ((wo_sub s).subset hp), h.mo1, h.mo2, h.ms1, h.ms2⟩
  · exact h
theorem IInv.subO {m : IM} (h : IInv m) {O' : List (Sess × BoxS)} (hs : O'.Sublist m.O) : IInv { m with O := O' } :=
  ⟨(hs.map _).nodup h.ko, h.kc, fun p hp => h.eo p (hs.subset hp), h.ec, Nat.le_trans hs.length_le h.lo, h.lc, fun p hp => h.box p (hs.subset hp), h.mo1, h.mo2, h.ms1, h.ms2⟩
theorem IInv.subC {m : IM} (h : IInv m) {C' : List (Sess × Int)} (hs : C'.Sublist m.C) : IInv { m with C := C' } :=
  ⟨h.ko, (hs.map _).nodup h.kc, h.eo, fun p hp => h.ec p (hs.subset hp), h.lo, Nat.le_trans hs.length_le h.lc, h.box, h.mo1, h.mo2, h.ms1, h.ms2⟩
theorem IInv.addC {m : IM} (h : IInv m) (hr : Room m) {s : Sess} (hs : s.1 = m.ep) (hn : ∀ y, (s, y) ∉ m.C) (code : Int) : IInv { m with C := m.C ++ [(s, code)] } := by
  refine ⟨h.ko, nodup_snoc h.kc hn, h.eo, fun p hp => ?_, h.lo, ?_, h.box, h.mo1, h.mo2, h.ms1, h.ms2⟩
  · rcases List.mem_append.1 hp with e | e
    · exact h.ec p e
    · simp at e; subst e; exact hs
  · have : m.C.length ≤ m.ms := hr
    show (m.C ++ [(s, code)]).length ≤ m.ms + 1
    simp
    exact this
theorem IInv.addO {m : IM} (h : IInv m) {s : Sess} (hs : s.1 = m.ep) (hn : ∀ y, (s, y) ∉ m.O) (hl : m.O.length < m.mo) {b : BoxS} (hb : Known b) : IInv { m with O := m.O ++ [(s, b)] } := by
  refine ⟨nodup_snoc h.ko hn, h.kc, fun p hp => ?_, h.ec, ?_, h.lc, fun p hp => ?_, h.mo1, h.mo2, h.ms1, h.ms2⟩
  · rcases List.mem_append.1 hp with e | e
    · exact h.eo p e
    · simp at e; subst e; exact hs
  · show (m.O ++ [(s, b)]).length ≤ m.mo
    simp
    omega
  · rcases List.mem_append.1 hp with e | e
    · exact h.box p e
    · simp at e; subst e; exact hb
theorem IInv.newO {m : IM} (h : IInv m) {s : Sess} {b : BoxS} (hs : s.1 = m.ep) (hl : ∀ y, (s, y) ∉ m.O) (hb : Known b) {O' : List (Sess × BoxS)} (hO : (if m.mo ≤ m.O.length then m.O.tail else m.O) = O') : IInv { m with O := O' ++ [(s, b)] } := by
  subst hO
  have hsub : (if m.mo ≤ m.O.length then m.O.tail else m.O).Sublist m.O := by split; exact tail_sub _; exact List.Sublist.refl _
  have hlt : (if m.mo ≤ m.O.length then m.O.tail else m.O).length < m.mo := by
    have := h.mo1
    have := h.lo
    split <;> simp <;> omega
  exact IInv.addO (h.subO hsub) hs (fun y hy => hl y (hsub.subset hy)) hlt hb
end Go.Proofs.YtfaemjlemaclbaaGreat
end
section
/- Sessions as keys of maps. -/
namespace Go.Proofs.YtfaemjlemaclbaaGreat
set_option linter.unusedVariables false
set_option linter.unusedSimpArgs false
open Go.RowKit Go.Maps
theorem sess_laid : laidOutB Tryz.prog = true := by kernel_rfl
theorem sess_row : (66 : TypeId) < Tryz.prog.types.size := of_decide_eq_true (by kernel_rfl)
theorem sess_law : Keyed Tryz.prog 66 := Keyed.of_law (deep_law_laid sess_laid (m := 2) (by omega) sess_row (by kernel_rfl) (by rw [Tryz.underlying66]))
theorem sess_keyType : Tryz.prog.keyType 66 = true := by kernel_rfl
theorem sess_cells : Tryz.prog.cellsOf 66 = 2 := by kernel_rfl
theorem u64_cells : Tryz.prog.cellsOf 31 = 1 := by kernel_rfl
theorem u64_wf (n : UInt64) : (Lit.int .u64 (n.toNat : Int)).wf = true := by
  have := n.toNat_lt
  simp only [Lit.wf, Bool.and_eq_true, decide_eq_true_eq]
  have e1 : IntKind.u64.min = 0 := by decide
  have e2 : IntKind.u64.max = 18446744073709551615 := by decide
  omega
theorem types_pos : ∃ m, Tryz.prog.types.size + 1 = m + 2 := by
  obtain ⟨m, hm⟩ := Nat.exists_eq_succ_of_ne_zero (Nat.ne_of_gt (Nat.lt_of_le_of_lt (Nat.zero_le _) sess_row))
  exact ⟨m, by rw [hm]⟩
theorem u64_back {q : IntKind} {n : Int} (hq : q = .u64) (h : (Lit.int .u64 n).wf = true) : ∃ x : UInt64, Value.int q n = .int .u64 (x.toNat : Int) := by
  subst hq
  simp only [Lit.wf, Bool.and_eq_true, decide_eq_true_eq] at h
  have e1 : IntKind.u64.min = 0 := by decide
  have e2 : IntKind.u64.max = 18446744073709551615 := by decide
  refine ⟨UInt64.ofNat n.toNat, ?_⟩
  have : ((UInt64.ofNat n.toNat).toNat : Int) = n := by
    rw [UInt64.toNat_ofNat_of_lt' (by show n.toNat < 18446744073709551616; omega)]
    omega
  rw [this]
theorem lits_u64 (m : Nat) (v : Value) (ls : List Lit) (h : Tryz.prog.keyLits (m + 1) 31 [v] = some ls) : ∃ x : UInt64, v = .int .u64 (x.toNat : Int) := by
  cases v <;> simp [Program.keyLits, Tryz.underlying31] at h
  exact u64_back h.1.1 h.1.2
theorem sess_back (v : Value) (l : Lit) (h : keyOf Tryz.prog 66 v = some l) : ∃ s, v = sv s := by
  obtain ⟨m, hm⟩ := types_pos
  simp only [keyOf, Tryz.underlying66, sess_keyType, Bool.true_and, hm] at h
  split at h
  · next hf =>
    cases v <;> simp [Value.formed, Tryz.underlying66] at hf
    rename_i cs
    rw [sess_cells] at hf
    obtain ⟨a, b, hab⟩ : ∃ a b, cs = #[a, b] := by
      rcases cs with ⟨_ | ⟨a, _ | ⟨b, _ | ⟨c, r⟩⟩⟩⟩
      · simp at hf
      · simp at hf
      · exact ⟨a, b, rfl⟩
      · simp at hf
    subst hab
    rw [Option.map_eq_some_iff] at h
    obtain ⟨ls, h, -⟩ := h
    unfold Program.keyLits at h
    simp only [Tryz.underlying66, Value.cells, sess_cells] at h
    split at h
    · rw [Option.map_eq_some_iff] at h
      obtain ⟨lss, h, -⟩ := h
      simp only [List.mapM_cons, List.mapM_nil, u64_cells, List.drop, List.take] at h
      simp only [Option.bind_eq_bind, Option.bind_eq_some_iff] at h
      obtain ⟨l1, g1, r, ⟨l2, g2, -⟩, -⟩ := h
      obtain ⟨x, rfl⟩ := lits_u64 m _ _ g1
      obtain ⟨y, rfl⟩ := lits_u64 m _ _ g2
      exact ⟨(x, y), rfl⟩
    · cases h
  · cases h
theorem sess_key (s : Sess) : ∃ l, keyOf Tryz.prog 66 (sv s) = some l := by
  obtain ⟨m, hm⟩ := types_pos
  have h1 := u64_wf s.1
  have h2 := u64_wf s.2
  simp only [keyOf, Tryz.underlying66, sess_keyType, Bool.true_and, hm]
  simp [sv, Value.formed, Tryz.underlying66, sess_cells, Program.keyLits, Value.cells, Tryz.underlying31, u64_cells, h1, h2]
theorem sKL : KL Tryz.prog 66 sv where
  keyed := sess_law
  has := sess_key
  back := sess_back
  inj s t h := by
    simp only [sv, Value.agg.injEq] at h
    have h1 := congrArg (fun a : Array Value => a.toList) h
    simp only [List.cons.injEq, Value.int.injEq, true_and, and_true] at h1
    exact Prod.ext (UInt64.toNat_inj.1 (by omega)) (UInt64.toNat_inj.1 (by omega))
end Go.Proofs.YtfaemjlemaclbaaGreat
end
section
/- pdu.Valid of a unit that says it is one of data. -/
namespace Go.Proofs.YtfaemjlemaclbaaGreat
set_option linter.unusedVariables false
set_option linter.unusedSimpArgs false
open Go.RowKit
/-- a unit as a value; its two lists. -/
def uv (u : UD) (dv gv : Value) : Value := .agg #[.int .i64 u.kind, .int .u64 (u.ep.toNat : Int), .int .u64 (u.ses.toNat : Int), .int .i64 u.path, .int .i64 u.idx, .int .i64 u.cnt, dv, .int .i64 u.code, gv]
set_option maxHeartbeats 400000 in
set_option maxRecDepth 100000 in
theorem kind_any (k : Int) (w : World) : Calls Tryz.prog 54 #[.int .i64 k] w fun e w' => e = .returned (.bool (decide (1 ≤ k) && decide (k ≤ 3))) ∧ w' = w := by
  by_cases h1 : 1 ≤ k
  · have hc1 : decide (k ≥ 1) = true := by simpa using h1
    go_enter Tryz.func54, Tryz.ntmps54
    go_wp2
    go_ret
    simp [h1]
  · have hc1 : decide (k ≥ 1) = false := by simpa using h1
    go_enter Tryz.func54, Tryz.ntmps54
    go_wp2
    go_ret
    simp [h1]
set_option maxHeartbeats 400000 in
set_option maxRecDepth 100000 in
theorem named_any (n : UInt64) (w : World) : Calls Tryz.prog 55 #[.int .u64 (n.toNat : Int)] w fun e w' => e = .returned (.bool (decide (named n))) ∧ w' = w := by
  have hdec : decide (named n) = (decide (1 ≤ n.toNat) && decide (n.toNat ≤ 281474976710655)) := by
    by_cases h : named n
    · rw [decide_eq_true h, decide_eq_true h.1, decide_eq_true h.2]; rfl
    · rw [decide_eq_false h]
      unfold named at h
      by_cases h1 : 1 ≤ n.toNat
      · rw [decide_eq_true h1, decide_eq_false (fun h2 => h ⟨h1, h2⟩)]; rfl
      · rw [decide_eq_false h1]; rfl
  rw [hdec]
  obtain ⟨k, hk⟩ : ∃ k, k = n.toNat := ⟨_, rfl⟩
  rw [← hk]
  clear hk hdec
  by_cases h1 : 1 ≤ k
  · have hc1 : decide ((k : Int) ≥ 1) = true := by simp; omega
    go_enter Tryz.func55, Tryz.ntmps55
    go_wp2
    go_ret
    refine ⟨?_, rfl⟩
    simp [h1]
    omega
  · have hc1 : decide ((k : Int) ≥ 1) = false := by simp; omega
    go_enter Tryz.func55, Tryz.ntmps55
    go_wp2
    go_ret
    refine ⟨?_, rfl⟩
    simp [h1]
theorem forms_at (W : World) : (Instr.index 132 (.agg #[.nilFunc, .nilFunc, .nilFunc, .func (.func 68) #[] #[], .func (.func 69) #[] #[], .func (.func 70) #[] #[],
    .func (.func 71) #[] #[], .func (.func 72) #[] #[], .func (.func 73) #[] #[], .func (.func 74) #[] #[], .func (.func 75) #[] #[], .func (.func 76) #[] #[]]) (.int .i64 1)).run Tryz.prog W =
    .ok (.agg #[.func (.func 68) #[] #[], .func (.func 69) #[] #[], .func (.func 70) #[] #[]]) W := by
  kernel_rfl
set_option maxHeartbeats 400000 in
set_option maxRecDepth 100000 in
theorem forms_data (w : World) : Calls Tryz.prog 56 #[.int .i64 1] w fun e w' => e = .returned (.agg #[.func (.func 68) #[] #[], .func (.func 69) #[] #[], .func (.func 70) #[] #[]]) ∧ Below w.heap.size w w' := by
  have hx := forms_at
  go_enter Tryz.func56, Tryz.ntmps56
  go_wp2
  refine bodyPost_ret (v := .agg #[.func (.func 68) #[] #[], .func (.func 69) #[] #[], .func (.func 70) #[] #[]]) (results_cell_row rfl _ _ w.heap.size _ _ _ _ rfl (heap_alloc_new _ _) Tryz.underlying118 rfl (by kernel_rfl)) rfl ?_
  exact ⟨rfl, (Below.refl _ _).alloc (Nat.le_refl _) _⟩
set_option maxHeartbeats 1000000 in
set_option maxRecDepth 100000 in
theorem goodData_any (u : UD) (dp gp : Option Addr) (dc gc : Nat) (w : World) :
    Calls Tryz.prog 68 #[uv u (.slice dp u.data.length dc) (.slice gp u.got.length gc)] w fun e w' => e = .returned (.bool (decide (goodD u))) ∧ Below w.heap.size w w' := by
  have hdec : decide (goodD u) = ((decide (u.path = 1) || decide (u.path = 2)) && (decide (1 ≤ u.cnt) && decide (u.cnt ≤ 64) && decide (0 ≤ u.idx) && decide (u.idx < u.cnt)) && decide (1 ≤ u.data.length) && decide (u.data.length ≤ 1024) && decide (u.code = 0) && decide (u.got.length = 0)) := by
    rw [Bool.eq_iff_iff, decide_eq_true_iff]
    simp only [decide_eq_true_eq, Bool.and_eq_true, Bool.or_eq_true, and_assoc, goodD]
  rw [hdec]
  obtain ⟨kind, ep, ses, path, idx, cnt, data, code, got⟩ := u
  unfold uv
  simp only
  obtain ⟨n, hn⟩ : ∃ n, n = data.length := ⟨_, rfl⟩
  obtain ⟨k, hk⟩ : ∃ k, k = got.length := ⟨_, rfl⟩
  obtain ⟨e1, he1⟩ : ∃ e1, e1 = ep.toNat := ⟨_, rfl⟩
  obtain ⟨e2, he2⟩ : ∃ e2, e2 = ses.toNat := ⟨_, rfl⟩
  rw [← hn, ← hk, ← he1, ← he2]
  clear hn hk hdec he1 he2
  go_enter Tryz.func68, Tryz.ntmps68
  go_wp2
  all_goals
    go_ret
    refine ⟨?_, (Below.refl _ _).alloc (Nat.le_refl _) _⟩
    congr 2 <;> first | (simp [*]; done) | (simp [*]; omega) | (simp [*]; rw [Bool.eq_iff_iff]; simp; try omega)
set_option maxHeartbeats 1000000 in
set_option maxRecDepth 100000 in
/-- a unit that says it is one of data. -/
theorem valid_data (u : UD) (dp gp : Option Addr) (dc gc : Nat) (w : World) (hk : u.kind = 1) :
    Calls Tryz.prog 34 #[uv u (.slice dp u.data.length dc) (.slice gp u.got.length gc)] w fun e w' => e = .returned (.int .i64 (if u.isData then 0 else 30)) ∧ Below w.heap.size w w' := by
  have hgood := fun W => goodData_any u dp gp dc gc W
  have hn1 := fun W => named_any u.ep W
  have hn2 := fun W => named_any u.ses W
  have hdec : u.isData ↔ named u.ep ∧ named u.ses ∧ goodD u := ⟨fun h => h.2, fun h => ⟨hk, h⟩⟩
  obtain ⟨G, hG⟩ : ∃ G, G = decide (goodD u) := ⟨_, rfl⟩
  obtain ⟨N1, hN1⟩ : ∃ N1, N1 = decide (named u.ep) := ⟨_, rfl⟩
  obtain ⟨N2, hN2⟩ : ∃ N2, N2 = decide (named u.ses) := ⟨_, rfl⟩
  have hif : (if u.isData then (0 : Int) else 30) = if (N1 && N2 && G) = true then 0 else 30 := by
    by_cases h : u.isData
    · rw [if_pos h, if_pos]
      have := hdec.1 h
      rw [hN1, hN2, hG, decide_eq_true this.1, decide_eq_true this.2.1, decide_eq_true this.2.2]
      rfl
    · rw [if_neg h, if_neg]
      intro hh
      rw [hN1, hN2, hG] at hh
      simp only [Bool.and_eq_true, decide_eq_true_eq] at hh
      exact h (hdec.2 ⟨hh.1.1, hh.1.2, hh.2⟩)
  rw [hif]
  rw [← hG] at hgood
  rw [← hN1] at hn1
  rw [← hN2] at hn2
  clear hif hdec hN1 hN2 hG
  obtain ⟨kind, ep, ses, path, idx, cnt, data, code, got⟩ := u
  subst hk
  unfold uv at hgood ⊢
  simp only at hgood hn1 hn2 ⊢
  obtain ⟨n, hn⟩ : ∃ n, n = data.length := ⟨_, rfl⟩
  obtain ⟨k, hk⟩ : ∃ k, k = got.length := ⟨_, rfl⟩
  obtain ⟨e1, he1⟩ : ∃ e1, e1 = ep.toNat := ⟨_, rfl⟩
  obtain ⟨e2, he2⟩ : ∃ e2, e2 = ses.toNat := ⟨_, rfl⟩
  rw [← hn, ← hk, ← he1, ← he2] at hgood ⊢
  rw [← he1] at hn1
  rw [← he2] at hn2
  clear hn hk he1 he2
  have hfld : ∀ W, (Instr.field 118 (.agg #[.func (.func 68) #[] #[], .func (.func 69) #[] #[], .func (.func 70) #[] #[]]) 0).run Tryz.prog W = .ok (.func (.func 68) #[] #[]) W := fun W => by kernel_rfl
  cases N1 <;> cases N2 <;> cases G
  all_goals
    go_enter Tryz.func34, Tryz.ntmps34
    go_wp2_with fail
    have hb := Blk.new w 35 [.int .i64 1, .int .u64 (e1 : Int), .int .u64 (e2 : Int), .int .i64 path, .int .i64 idx, .int .i64 cnt, .slice dp n dc, .int .i64 code, .slice gp k gc]
    have hB : Below w.heap.size w (w.alloc (.cells [Value.int .i64 1, .int .u64 (e1 : Int), .int .u64 (e2 : Int), .int .i64 path, .int .i64 idx, .int .i64 cnt, .slice dp n dc, .int .i64 code, .slice gp k gc].toArray 35)) := (Below.refl _ _).alloc (Nat.le_refl _) _
    refine region_class (C := fun w' => Blk w' w.heap.size 35 [.int .i64 1, .int .u64 (e1 : Int), .int .u64 (e2 : Int), .int .i64 path, .int .i64 idx, .int .i64 cnt, .slice dp n dc, .int .i64 code, .slice gp k gc] ∧ Below w.heap.size w w') (by kernel_rfl) (by kernel_rfl) ⟨hb.drew, hB.drew⟩ ?_
    clear hb hB
    repeat
      (first
       | go_big_quiet_skip
       | (go_big_quiet_want
          rename_i K hK
          apply Exists.intro
          refine ⟨fun w' hw' => ?_, hK _ ?_⟩
          · obtain ⟨b1, b2⟩ := hw'
            have z0 := b1.cell_some (i := 0) rfl
            have z1 := b1.cell_some (i := 1) rfl
            have z2 := b1.cell_some (i := 2) rfl
            have z3 := b1.cell_some (i := 3) rfl
            have z4 := b1.cell_some (i := 4) rfl
            have z5 := b1.cell_some (i := 5) rfl
            have z6 := b1.cell_some (i := 6) rfl
            have z7 := b1.cell_some (i := 7) rfl
            have z8 := b1.cell_some (i := 8) rfl
            go_simp
            first
            | (go_at_call 54
               refine (kind_any _ _).mono ?_
               rintro e w1 ⟨rfl, rfl⟩
               exact ⟨rfl, b1, b2⟩)
            | (go_at_call 55
               with_reducible refine (hn1 _).mono ?_
               rintro e w1 ⟨rfl, rfl⟩
               exact ⟨rfl, b1, b2⟩)
            | (go_at_call 55
               refine (hn2 _).mono ?_
               rintro e w1 ⟨rfl, rfl⟩
               exact ⟨rfl, b1, b2⟩)
            | (go_at_call 56
               refine (forms_data _).mono ?_
               rintro e w1 ⟨rfl, hB1⟩
               exact ⟨rfl, b1.later hB1, below_trans b2 hB1⟩)
            | (go_at_call 68
               refine (hgood _).mono ?_
               rintro e w1 ⟨rfl, hB1⟩
               exact ⟨rfl, b1.later hB1, below_trans b2 hB1⟩)
            | with_reducible rfl
          clear hK K
          simp only [Act.put, List.setIfInBounds_toArray, List.set_cons_zero, List.set_cons_succ]))
    refine wpQuiet_nil ?_
    rintro w5 ⟨b1, b2⟩
    go_wp2
    go_ret
    exact ⟨rfl, b2⟩
end Go.Proofs.YtfaemjlemaclbaaGreat
end
section
/- Which open sessions stay when a new one comes. -/
namespace Go.Proofs.YtfaemjlemaclbaaGreat
def IM.evict (m : IM) : List (Sess × BoxS) := if m.mo ≤ m.O.length then m.O.tail else m.O
end Go.Proofs.YtfaemjlemaclbaaGreat
end
section
/- The reference's Got: the runs of the segments that are there. -/
namespace Go.Proofs.YtfaemjlemaclbaaGreat
set_option linter.unusedVariables false
set_option linter.unusedSimpArgs false
open Go.RowKit
theorem gotL_full (ps : List (List UInt8)) (k : Nat) : full (gotL ps k) = gotL ps k := by
  induction k with
  | zero => rfl
  | succ k ih =>
    rw [gotL]
    unfold full at ih ⊢
    rw [List.filter_append, ih]
    congr 1
    split
    · rfl
    · simp; omega
theorem gotL_lt (ps : List (List UInt8)) (k : Nat) : ∀ g ∈ gotL ps k, g.1 < k := by
  induction k with
  | zero => simp [gotL]
  | succ k ih =>
    intro g hg
    rw [gotL] at hg
    rcases List.mem_append.1 hg with h | h
    · have := ih g h; omega
    · split at h
      · simp at h
      · simp at h; subst h; simp only; omega
theorem gotL_sorted (ps : List (List UInt8)) (k : Nat) : (gotL ps k).Pairwise fun a b => a.1 ≤ b.1 := by
  induction k with
  | zero => simp [gotL]
  | succ k ih =>
    rw [gotL, List.pairwise_append]
    refine ⟨ih, by split <;> simp, fun a ha b hb => ?_⟩
    have := gotL_lt ps k a ha
    split at hb
    · simp at hb
    · simp at hb; subst hb; simp only; omega
theorem merge_got (ps : List (List UInt8)) (k : Nat) : mergeR (gotL ps k) = leastR (gotL ps k) := merge_least (by rw [gotL_full]) (gotL_sorted ps k)
theorem merge_got_succ (ps : List (List UInt8)) (k : Nat) : mergeR (gotL ps (k + 1)) = if ps.getD k [] = [] then mergeR (gotL ps k) else pushR (mergeR (gotL ps k)) ((k : Int), (k : Int) + 1) := by
  rw [gotL]
  split
  · rw [List.append_nil]
  · rw [mergeR_snoc]
/-- where the last run ends. -/
theorem merge_got_end (ps : List (List UInt8)) (k : Nat) : (∀ g ∈ mergeR (gotL ps k), g.2 ≤ k) ∧ (0 < k → ps.getD (k - 1) [] ≠ [] → ∃ init a, mergeR (gotL ps k) = init ++ [(a, (k : Int))]) ∧ ((0 < k → ps.getD (k - 1) [] = []) → ∀ g ∈ mergeR (gotL ps k), g.2 < k) := by
  induction k with
  | zero => simp [gotL, mergeR]
  | succ k ih =>
    obtain ⟨h1, h2, h3⟩ := ih
    rw [merge_got_succ, Nat.add_sub_cancel]
    by_cases hp : ps.getD k [] = []
    · rw [if_pos hp]
      refine ⟨fun g hg => by have := h1 g hg; omega, fun _ h => absurd hp h, fun _ g hg => by have := h1 g hg; omega⟩
    · rw [if_neg hp]
      unfold pushR
      cases he : (mergeR (gotL ps k)).getLast? with
      | none =>
        simp only
        refine ⟨fun g hg => ?_, fun _ _ => ⟨[], (k : Int), by simp⟩, fun h => absurd (h (by omega)) hp⟩
        simp at hg; subst hg; simp only; omega
      | some q =>
        obtain ⟨init, hi⟩ := List.getLast?_eq_some_iff.1 he
        have hq := h1 q (by rw [hi]; simp)
        simp only
        split
        · next hle =>
          have hmx : max q.2 ((k : Int) + 1) = (k : Int) + 1 := by omega
          rw [hi, List.dropLast_concat, hmx]
          refine ⟨fun g hg => ?_, fun _ _ => ⟨init, q.1, by simp⟩, fun h => absurd (h (by omega)) hp⟩
          rcases List.mem_append.1 hg with h | h
          · have := h1 g (by rw [hi]; simp [h]); omega
          · simp at h; subst h; simp only; omega
        · next hle =>
          refine ⟨fun g hg => ?_, fun _ _ => ⟨mergeR (gotL ps k), (k : Int), by simp⟩, fun h => absurd (h (by omega)) hp⟩
          rcases List.mem_append.1 hg with h | h
          · have := h1 g h; omega
          · simp at h; subst h; simp only; omega

set_option maxHeartbeats 2000000 in
set_option maxRecDepth 100000 in
theorem refGot_any (r base : Nat) {Z : Nat → Prop} (ls : List (List UInt8)) (w : World) (h : RefAt w r base Z ls) (hl : ls.length ≤ 64) :
    Calls Tryz.prog 66 #[.pointer (some ⟨r, 0, none⟩)] w fun e w' => ∃ v, e = .returned v ∧ w'.ownsRow w.heap.size 63 2 v (leastR (gotL ls ls.length)).length (rvs (leastR (gotL ls ls.length))) ∧ Below w.heap.size w w' := by
  have hr := h.lt.1
  obtain ⟨ao, cap, c0, hp⟩ := h.open
  have HP := Lib.hid hp
  clear hp h
  obtain ⟨N, hN⟩ : ∃ N, N = ls.length := ⟨_, rfl⟩
  rw [← hN] at c0 hl
  have HN := Lib.hid hN
  clear hN
  go_enter Tryz.func66, Tryz.ntmps66
  go_wp2
  go_loopw [3, 4] (fun o i wr => ∃ k : Nat, k ≤ N ∧ i = .int .i64 k ∧ wr.ownsRow w.heap.size 63 2 o (mergeR (gotL ls k)).length (rvs (mergeR (gotL ls k))) ∧ Below w.heap.size w wr)
    (fun _ i _ => N - (intOf i).toNat)
  case atStart => exact ⟨0, Nat.zero_le _, rfl, World.ownsRow_nil _ _ _ _, Below.refl _ _⟩
  case round =>
    obtain ⟨k, hk, rfl, hown, hB⟩ := hrel
    have hz := hB.size
    have c0 := below_cell hB c0 hr
    by_cases hlt : k < N
    · have hkl : k < ls.length := by rw [← HN.out]; exact hlt
      obtain ⟨b, off, xp, xc, rfl, e1, -⟩ := (HP.out.later hB).elem hkl
      have hts := merge_got_succ ls k
      obtain ⟨he1, he2, he3⟩ := merge_got_end ls k
      have hol : (mergeR (gotL ls k)).length ≤ k := Nat.le_trans (mergeR_len _) (gotL_len ls k)
      obtain ⟨O, hO⟩ : ∃ O, O = mergeR (gotL ls k) := ⟨_, rfl⟩
      rw [← hO] at hown hts he1 he2 he3 hol
      have ix : (k : Int) < N := by omega
      by_cases hpe : ls.getD k [] = []
      · have HT := Lib.hid hts; have HPE := Lib.hid hpe; have HO := Lib.hid hO
        rw [hpe] at e1
        clear hts hpe he1 he2 he3 hO
        go_wp2
        go_roundw
        case rel => exact ⟨k + 1, by omega, by go_num, by rw [HT.out, if_pos HPE.out]; exact hown, hB⟩
        case measure => simp [intOf]; omega
      · have hpn : 0 < (ls.getD k []).length := List.length_pos_iff.2 hpe
        obtain ⟨n, hn⟩ : ∃ n, n = (ls.getD k []).length := ⟨_, rfl⟩
        rw [← hn] at e1 hpn
        have t1 : ((n : Int) == 0) = false := by rw [beq_eq_false_iff_ne]; omega
        rw [if_neg hpe] at hts
        have hrun : (0 < k ∧ ls.getD (k - 1) [] ≠ []) ∨ (0 < k → ls.getD (k - 1) [] = []) := by
          by_cases h1 : 0 < k
          · by_cases h2 : ls.getD (k - 1) [] = []
            · exact .inr fun _ => h2
            · exact .inl ⟨h1, h2⟩
          · exact .inr fun h => absurd h h1
        by_cases hjoin : 0 < k ∧ ls.getD (k - 1) [] ≠ []
        · obtain ⟨hk0, hj⟩ := hjoin
          obtain ⟨b2, off2, yp, yc, hbo, e2, -⟩ := (HP.out.later hB).elem (i := k - 1) (by omega)
          injection hbo with hbo
          injection hbo with q1 q2
          subst q1; subst q2
          obtain ⟨m, hm⟩ : ∃ m, m = (ls.getD (k - 1) []).length := ⟨_, rfl⟩
          have hmn : 0 < m := hm ▸ List.length_pos_iff.2 hj
          rw [← hm] at e2
          obtain ⟨init, a, hO2⟩ := he2 hk0 hj
          subst hO2
          rw [List.length_append, List.length_singleton] at hown hol
          obtain ⟨M, hM⟩ : ∃ M, M = init.length := ⟨_, rfl⟩
          rw [← hM] at hown hol
          have HM := Lib.hid hM
          have HT := Lib.hid (show mergeR (gotL ls (k + 1)) = init ++ [(a, (k : Int) + 1)] by
            rw [hts]
            unfold pushR
            rw [List.getLast?_concat]
            simp only
            rw [if_pos (by omega), List.dropLast_concat, show max (k : Int) ((k : Int) + 1) = (k : Int) + 1 by omega])
          obtain ⟨g, oc, rest, rfl, hgb, hc1, hc2, hblk, hrest⟩ := own_blk hown (by omega)
          have hg := hblk.lt
          have e4 : wr.cell? ⟨g, M * 2 + 1, none⟩ = some (.int .i64 k) := hblk.cell_some (by
            rw [List.getElem?_append_left (by rw [rvs_len]; simp; omega), hM]
            exact (rvs_at (init ++ [(a, (k : Int))]) init.length (a, (k : Int)) (by simp)).2)
          have e5 : wr.frozen? ⟨g, M * 2 + 1, none⟩ = false := hblk.frozen _
          obtain ⟨j, rfl⟩ : ∃ j, k = j + 1 := ⟨k - 1, by omega⟩
          rw [Nat.add_sub_cancel] at e2
          have ix3 : (j : Int) < N := by omega
          have ix4 : (0 : Int) < (j : Int) + 1 := by omega
          clear hblk hrest hM hts he1 he2 he3 hO hn hm hj hpe hrun
          go_wp2_with fail
          go_roundw
          case rel =>
            have hset := own_setLast (w := wr) (k := (a, ((j + 1 : Nat) : Int))) hown (by rw [← HM.out]) ((j : Int) + 1 + 1)
            rw [← HM.out] at hset
            exact ⟨j + 1 + 1, by omega, by go_num, by rw [HT.out, List.length_append, List.length_singleton, ← HM.out]; exact hset, hB.setCell hgb _⟩
          case measure => simp [intOf]; omega
        · have hnj : 0 < k → ls.getD (k - 1) [] = [] := hrun.resolve_left hjoin
          have hlt2 := he3 hnj
          have HT := Lib.hid (show mergeR (gotL ls (k + 1)) = O ++ [((k : Int), (k : Int) + 1)] by
            rw [hts]
            unfold pushR
            cases hla : O.getLast? with
            | none => simp only; rw [List.getLast?_eq_none_iff.1 hla]; rfl
            | some q =>
              obtain ⟨init, hi⟩ := List.getLast?_eq_some_iff.1 hla
              have := hlt2 q (by rw [hi]; simp)
              simp only
              rw [if_neg (by omega)])
          by_cases hk0 : 0 < k
          · have hz0 := hnj hk0
            obtain ⟨b2, off2, yp, yc, hbo, e2, -⟩ := (HP.out.later hB).elem (i := k - 1) (by omega)
            injection hbo with hbo
            injection hbo with q1 q2
            subst q1; subst q2
            rw [hz0] at e2
            obtain ⟨j, rfl⟩ : ∃ j, k = j + 1 := ⟨k - 1, by omega⟩
            rw [Nat.add_sub_cancel] at e2
            have ix3 : (j : Int) < N := by omega
            have ix4 : (0 : Int) < (j : Int) + 1 := by omega
            clear hts he1 he2 he3 hO hn hpe hrun hz0 hnj hjoin hlt2
            go_wp2_with (at_builtin; go_loud (refine wpList_app1 El.range rfl (.tmp 47) (.tmp 52) rfl hown rfl (cs := #[.int .i64 (j + 1 : Nat), .int .i64 ((j + 1 : Nat) + 1)]) rfl rfl (by simp [Value.oneCell']) (by omega) (by omega) ?_); intro v1 w1 hown1 hgr1 _)
            have hB1 := hB.grown hgr1 hz (fun k hk => (hown.lt k hk).1)
            clear hgr1 hown
            go_roundw
            case rel => exact ⟨j + 1 + 1, by omega, by go_num, by rw [HT.out, List.length_append, rvs_app]; exact hown1, hB1⟩
            case measure => simp [intOf]; omega
          · obtain rfl : k = 0 := by omega
            rw [Nat.add_zero] at e1
            clear hts he1 he2 he3 hO hn hpe hrun hnj hjoin hlt2
            go_wp2_with (at_builtin; go_loud (refine wpList_app1 El.range rfl (.tmp 47) (.tmp 52) rfl hown rfl (cs := #[.int .i64 0, .int .i64 1]) rfl rfl (by simp [Value.oneCell']) (by omega) (by omega) ?_); intro v1 w1 hown1 hgr1 _)
            have hB1 := hB.grown hgr1 hz (fun k hk => (hown.lt k hk).1)
            clear hgr1 hown
            go_roundw
            case rel => exact ⟨1, by omega, by go_num, by rw [HT.out, List.length_append, rvs_app]; exact hown1, hB1⟩
            case measure => simp [intOf]; omega
    · obtain rfl : k = N := by omega
      have HM := Lib.hid (merge_got ls k)
      go_wp2
      go_ret
      rw [HM.out] at hown
      rw [← HN.out]
      exact ⟨_, rfl, hown, hB⟩
end Go.Proofs.YtfaemjlemaclbaaGreat
end
section
/- Plain law: the program's box and the reference's answer alike. -/
namespace Go.Proofs.YtfaemjlemaclbaaGreat
set_option linter.unusedVariables false
set_option linter.unusedSimpArgs false
open Go.RowKit
theorem lenOf_even {ls : List (List UInt8)} {m : Nat} (he : ∀ i, i + 1 < ls.length → ls.getD i [] = [] ∨ (ls.getD i []).length = m) (hx : ∃ i, i + 1 < ls.length ∧ ls.getD i [] ≠ []) : lenOf ls = m := by
  obtain ⟨i, hi, hn⟩ := hx
  unfold lenOf
  cases hf : (ls.take (ls.length - 1)).find? fun p => decide (0 < p.length) with
  | none =>
    rw [List.find?_eq_none] at hf
    have := hf (ls.getD i []) (by
      rw [List.mem_take_iff_getElem]
      refine ⟨i, by omega, ?_⟩
      rw [List.getD_eq_getElem?_getD, List.getElem?_eq_getElem (by omega)]; rfl)
    have h0 := List.length_pos_iff.2 hn
    exact absurd (decide_eq_true h0) this
  | some p =>
    have h1 := List.find?_some hf
    obtain ⟨j, hj, hp⟩ := List.mem_take_iff_getElem.1 (List.mem_of_find?_eq_some hf)
    have hd : ls.getD j [] = p := by rw [List.getD_eq_getElem?_getD, List.getElem?_eq_getElem (by omega)]; exact hp
    rcases he j (by omega) with h | h
    · rw [hd] at h; subst h; simp at h1
    · rw [hd] at h; exact h
theorem Known.len {b : BoxS} (h : Known b) : lenOf b.ls = b.len := by
  have hl := h.good.ls_len
  by_cases h0 : b.len = 0
  · rw [h0]
    refine lenOf_none fun j hj => ?_
    rw [hl] at hj
    rw [ls_at (by omega)]
    rcases h.good.eqs j hj with e | e
    · exact e
    · exact List.length_eq_zero_iff.1 (by omega)
  · obtain ⟨i, hi, hn⟩ := h.some (by omega)
    refine lenOf_even (fun j hj => ?_) ⟨i, by omega, by rw [ls_at (by omega)]; exact hn⟩
    rw [hl] at hj
    rw [ls_at (by omega)]
    exact h.good.eqs j hj
theorem set_at {ls : List (List UInt8)} {i j : Nat} {seg : List UInt8} (hi : i < ls.length) : (ls.set i seg).getD j [] = if j = i then seg else ls.getD j [] := getD_set ls i j seg [] hi
theorem fits_iff {b : BoxS} (h : Known b) {i : Nat} {seg : List UInt8} (hi : i < b.cnt) (h1 : 1 ≤ seg.length) (h0 : b.ps.getD i [] = []) :
    fitsOf (b.ls.set i seg) = true ↔ ¬ (i + 1 ≠ b.cnt ∧ b.len ≠ 0 ∧ b.len ≠ seg.length) ∧
      ¬ (0 < putLen b.cnt b.len i seg.length ∧ putLen b.cnt b.len i seg.length < putLast b.cnt b.ps i seg.length ∨ 1024 < leastOf b.cnt (putLen b.cnt b.len i seg.length) (putLast b.cnt b.ps i seg.length)) := by
  have hl := h.good.ls_len
  have hil : i < b.ls.length := by omega
  have hsl : (b.ls.set i seg).length = b.cnt := by rw [List.length_set, hl]
  have hsn : seg ≠ [] := by intro e; subst e; simp at h1
  have hat : ∀ j, j < b.cnt → (b.ls.set i seg).getD j [] = if j = i then seg else b.ps.getD j [] := fun j hj => by
    rw [set_at hil]
    split
    · rfl
    · exact ls_at hj
  have hlast : lastOf (b.ls.set i seg) = putLast b.cnt b.ps i seg.length := by
    unfold lastOf putLast
    rw [hsl, hat (b.cnt - 1) (by omega)]
    by_cases hc : i + 1 = b.cnt
    · rw [if_pos hc, if_pos (by omega)]
    · rw [if_neg hc, if_neg (by omega)]
  -- even lists
  have key : ∀ m, lenOf (b.ls.set i seg) = m → evenOf (b.ls.set i seg) = true → putLen b.cnt b.len i seg.length = m →
      (fitsOf (b.ls.set i seg) = true ↔ ¬ (0 < m ∧ m < putLast b.cnt b.ps i seg.length ∨ 1024 < leastOf b.cnt m (putLast b.cnt b.ps i seg.length))) := by
    intro m hm he hp
    unfold fitsOf roomOf leastOf
    rw [he, Bool.true_and, hm, hlast, hsl]
    by_cases hm0 : m = 0
    · rw [if_pos hm0, if_neg (by omega), decide_eq_true_iff]
      omega
    · rw [if_neg hm0, if_pos (by omega), Bool.and_eq_true, decide_eq_true_iff, decide_eq_true_iff, Nat.max_comm 1]
      omega
  by_cases hc : i + 1 = b.cnt
  · have hpl : putLen b.cnt b.len i seg.length = b.len := by rw [putLen, if_pos hc]
    have hat' : ∀ j, j + 1 < b.cnt → (b.ls.set i seg).getD j [] = b.ps.getD j [] := fun j hj => by rw [hat j (by omega), if_neg (by omega)]
    have hlen : lenOf (b.ls.set i seg) = b.len := by
      by_cases hz : b.len = 0
      · rw [hz]
        refine lenOf_none fun j hj => ?_
        rw [hsl] at hj
        rw [hat' j hj]
        rcases h.good.eqs j hj with e | e
        · exact e
        · exact List.length_eq_zero_iff.1 (by omega)
      · obtain ⟨i0, hi0, hn0⟩ := h.some (by omega)
        refine lenOf_even (fun j hj => ?_) ⟨i0, by omega, by rw [hat' i0 hi0]; exact hn0⟩
        rw [hsl] at hj
        rw [hat' j hj]
        exact h.good.eqs j hj
    rw [key b.len hlen (evenOf_yes fun j hj => by
      rw [hsl] at hj
      rw [hat' j hj, hlen]
      rcases h.good.eqs j hj with e | e
      · rw [e]; exact .inl rfl
      · exact .inr e) hpl, hpl]
    constructor
    · intro hh; exact ⟨fun hx => hx.1 hc, hh⟩
    · exact fun hh => hh.2
  · by_cases hz : b.len ≠ 0 ∧ b.len ≠ seg.length
    · obtain ⟨i0, hi0, hn0⟩ := h.some (by omega)
      have hne : i0 ≠ i := by rintro rfl; exact hn0 h0
      have hev : evenOf (b.ls.set i seg) = false := by
        by_cases hx : lenOf (b.ls.set i seg) = seg.length
        · refine evenOf_no (k := i0) (by omega) ?_ ?_
          · rw [hat i0 (by omega), if_neg hne]; exact List.length_pos_iff.2 hn0
          · rw [hat i0 (by omega), if_neg hne, hx]
            have := (h.good.eqs i0 hi0).resolve_left hn0
            omega
        · refine evenOf_no (k := i) (by omega) ?_ ?_
          · rw [hat i hi, if_pos rfl]; omega
          · rw [hat i hi, if_pos rfl]; omega
      unfold fitsOf
      rw [hev, Bool.false_and]
      constructor
      · intro hh; cases hh
      · intro hh; exact absurd ⟨hc, hz⟩ hh.1
    · have hpl : putLen b.cnt b.len i seg.length = seg.length := by
        rw [putLen, if_neg hc]
        split
        · rfl
        · omega
      have hev : ∀ j, j + 1 < (b.ls.set i seg).length → (b.ls.set i seg).getD j [] = [] ∨ ((b.ls.set i seg).getD j []).length = seg.length := by
        intro j hj
        rw [hsl] at hj
        rw [hat j (by omega)]
        split
        · exact .inr rfl
        · rcases h.good.eqs j hj with e | e
          · exact .inl e
          · by_cases hz0 : b.len = 0
            · exact .inl (List.length_eq_zero_iff.1 (by omega))
            · right; omega
      have hlen : lenOf (b.ls.set i seg) = seg.length := lenOf_even hev ⟨i, by omega, by rw [hat i hi, if_pos rfl]; exact hsn⟩
      rw [key seg.length hlen (evenOf_yes fun j hj => by
        rw [hlen]
        rcases hev j hj with e | e
        · rw [e]; exact .inl rfl
        · exact .inr e) hpl, hpl]
      constructor
      · intro hh; exact ⟨fun hx => hz hx.2, hh⟩
      · exact fun hh => hh.2
theorem err_same {b : BoxS} (h : Known b) (index : Int) (seg : List UInt8) : refErr b.ls index seg = putErr b.cnt b.len b.ps index seg := by
  have hl := h.good.ls_len
  unfold refErr putErr
  rw [hl]
  by_cases hc : index < 0 ∨ (b.cnt : Int) ≤ index ∨ seg.length = 0 ∨ 1024 < seg.length
  · rw [if_pos hc, if_pos hc]
  · rw [if_neg hc, if_neg hc]
    obtain ⟨i, rfl⟩ := Int.eq_ofNat_of_zero_le (show 0 ≤ index by omega)
    rw [Int.toNat_natCast]
    have hi : i < b.cnt := by omega
    have hsn : seg ≠ [] := by intro e; subst e; simp at hc
    rw [ls_at hi]
    unfold putIn
    by_cases h0 : b.ps.getD i [] = []
    · rw [if_neg (by simpa using h0), h0, if_neg (Ne.symm hsn), if_neg (show ¬ (([] : List UInt8) ≠ []) from fun h => h rfl)]
      have hf := fits_iff h (i := i) (seg := seg) hi (by omega) h0
      by_cases hx : fitsOf (b.ls.set i seg) = true
      · rw [if_pos hx, if_neg (hf.1 hx).1, if_neg (hf.1 hx).2]
      · rw [if_neg hx]
        by_cases h1 : i + 1 ≠ b.cnt ∧ b.len ≠ 0 ∧ b.len ≠ seg.length
        · rw [if_pos h1]
        · rw [if_neg h1, if_pos]
          exact Classical.byContradiction fun h2 => hx (hf.2 ⟨h1, h2⟩)
    · rw [if_pos h0]
      by_cases hs : b.ps.getD i [] = seg
      · rw [if_pos hs, if_pos hs]
      · rw [if_neg hs, if_neg hs, if_pos h0]
theorem put_ls {b : BoxS} (h : Known b) (index : Int) (seg : List UInt8) : (b.put index seg).ls = refPut b.ls index seg := by
  unfold refPut BoxS.put
  rw [err_same h]
  split
  · simp only [BoxS.ls]
    apply List.ext_getElem?
    intro j
    rw [List.getElem?_take, List.getElem?_set, List.getElem?_set, List.getElem?_take, List.length_take]
    by_cases hj : j < b.cnt
    · rw [if_pos hj, if_pos hj]
      by_cases he : index.toNat = j
      · subst he
        rw [if_pos rfl, if_pos rfl]
        by_cases hn : index.toNat < b.ps.length
        · rw [if_pos hn, if_pos (by omega)]
        · rw [if_neg hn, if_neg (by omega)]
      · rw [if_neg he, if_neg he]
    · rw [if_neg hj, if_neg hj]
      split
      · rw [if_neg (by omega)]
      · rfl
  · rfl
theorem gotL_congr {ps qs : List (List UInt8)} : ∀ (k : Nat), (∀ i, i < k → ps.getD i [] = qs.getD i []) → gotL ps k = gotL qs k := by
  intro k
  induction k with
  | zero => intro _; rfl
  | succ k ih =>
    intro h
    rw [gotL, gotL, ih fun i hi => h i (by omega), h k (by omega)]
theorem got_same {b : BoxS} (h : Known b) : gotL b.ls b.ls.length = gotL b.ps b.cnt := by
  rw [h.good.ls_len]
  exact gotL_congr _ fun i hi => ls_at hi
theorem all_same (b : BoxS) : allIn b.ls = allNe b.ps b.cnt := rfl
theorem block_same (b : BoxS) : blockIn b.ls = blockOf b := rfl
end Go.Proofs.YtfaemjlemaclbaaGreat
end
section
/- A reference's box with the blocks that are its own. -/
namespace Go.Proofs.YtfaemjlemaclbaaGreat
set_option linter.unusedVariables false
set_option linter.unusedSimpArgs false
open Go.RowKit
structure RB (w : World) (r : Nat) (F : Nat → Prop) (b : BoxS) : Prop where
  ex : ∃ (v : Value) (vs : List Value), Blk w r 139 [v] ∧ w.ownsRow 0 32 1 v b.ls.length vs ∧ (∀ (i : Nat) (x : Value) (l : List UInt8), vs[i]? = some x → b.ls[i]? = some l → w.ownsRow 0 5 1 x l.length (l.map ub)) ∧
    (∀ (i j : Nat) (x y : Value), i < j → vs[i]? = some x → vs[j]? = some y → x.ownBlock = none ∨ x.ownBlock ≠ y.ownBlock) ∧ ∀ k, F k ↔ (k = r ∨ v.ownBlock = some k ∨ ∃ x ∈ vs, x.ownBlock = some k)
  kn : Known b
section
variable {w w' : World} {r : Nat} {F S : Nat → Prop} {b : BoxS}
theorem RB.at (h : RB w r F b) : F r := by
  obtain ⟨⟨v, vs, h1, h2, h3, h4, h5⟩, -⟩ := h
  exact (h5 r).2 (.inl rfl)
theorem own_at {w : World} {base n size b : Nat} {e : TypeId} {v : Value} {xs : List Value} (h : w.ownsRow base e size v n xs) (hb : v.ownBlock = some b) : ∃ cs, Blk w b e cs := by
  obtain ⟨_, ⟨rfl, _⟩ | ⟨g, cap, cur, rfl, _, h3, _⟩⟩ := h
  · cases hb
  · have : g = b := by simpa [Value.ownBlock] using hb
    subst this
    exact ⟨cur.toList, by unfold Blk; simpa using h3⟩
/-- each of its blocks is of one of three types. -/
theorem RB.types (h : RB w r F b) {k : Nat} (hk : F k) : ∃ t cs, Blk w k t cs ∧ (t = 139 ∨ t = 32 ∨ t = 5) := by
  obtain ⟨⟨v, vs, h1, h2, h3, h4, h5⟩, -⟩ := h
  rcases (h5 k).1 hk with rfl | e | ⟨x, hx, e⟩
  · exact ⟨_, _, h1, .inl rfl⟩
  · obtain ⟨cs, hc⟩ := own_at h2 e
    exact ⟨_, cs, hc, .inr (.inl rfl)⟩
  · obtain ⟨i, hi, rfl⟩ := List.mem_iff_getElem.1 hx
    have hl : vs.length = b.ls.length := by simpa using h2.1
    obtain ⟨cs, hc⟩ := own_at (h3 i _ _ (List.getElem?_eq_getElem hi) (List.getElem?_eq_getElem (by omega))) e
    exact ⟨_, cs, hc, .inr (.inr rfl)⟩
theorem RB.lt (h : RB w r F b) {k : Nat} (hk : F k) : k < w.heap.size := by
  obtain ⟨t, cs, hb, -⟩ := h.types hk
  exact hb.lt
theorem RB.ne (h : RB w r F b) {k g : Nat} {t : TypeId} {cs : List Value} (hk : F k) (hg : Blk w g t cs) (n1 : 139 ≠ t) (n2 : 32 ≠ t) (n3 : 5 ≠ t) : k ≠ g := by
  obtain ⟨t', cs', hb, rfl | rfl | rfl⟩ := h.types hk
  · exact hb.ne hg n1
  · exact hb.ne hg n2
  · exact hb.ne hg n3
theorem RB.same (h : RB w r F b) (hs : Same S w w') (hS : ∀ k, F k → ¬ S k) : RB w' r F b := by
  obtain ⟨⟨v, vs, h1, h2, h3, h4, h5⟩, h6⟩ := h
  refine ⟨⟨v, vs, h1.same hs (hS r ((h5 r).2 (.inl rfl))), own_same h2 hs fun k e => hS k ((h5 k).2 (.inr (.inl e))), fun i x l hx hl => own_same (h3 i x l hx hl) hs fun k e => hS k ((h5 k).2 (.inr (.inr ⟨x, List.mem_of_getElem? hx, e⟩))), h4, h5⟩, h6⟩
theorem RB.later (h : RB w r F b) (hb : Below w.heap.size w w') : RB w' r F b := h.same (Same.of_below hb no) fun _ _ h => h
theorem RB.ref (h : RB w r F b) : RefAt w r 0 (fun k => k < w.heap.size ∧ ¬ F k) b.ls := by
  obtain ⟨⟨v, vs, h1, h2, h3, h4, h5⟩, -⟩ := h
  exact ⟨v, h1, ⟨vs, h2, h3, h4, fun k e hk => hk.2 ((h5 k).2 (.inr (.inl e))), fun x hx k e hk => hk.2 ((h5 k).2 (.inr (.inr ⟨x, hx, e⟩)))⟩, Nat.zero_le _⟩
theorem RB.of_ref {base : Nat} {Z : Nat → Prop} (h : RefAt w r base Z b.ls) (hk : Known b) : ∃ F, RB w r F b ∧ ∀ k, F k → (k = r ∨ ¬ Z k) ∧ base ≤ k := by
  obtain ⟨v, h1, ⟨vs, h2, h3, h4, h5, h6⟩, h7⟩ := h
  have hl : vs.length = b.ls.length := by simpa using h2.1
  refine ⟨fun k => k = r ∨ v.ownBlock = some k ∨ ∃ x ∈ vs, x.ownBlock = some k, ⟨⟨v, vs, h1, own_mono h2 (Nat.zero_le _), fun i x l hx hl => own_mono (h3 i x l hx hl) (Nat.zero_le _), h4, fun k => Iff.rfl⟩, hk⟩, fun k hk => ?_⟩
  rcases hk with rfl | e | ⟨x, hx, e⟩
  · exact ⟨.inl rfl, h7⟩
  · exact ⟨.inr (h5 k e), (h2.lt k e).1⟩
  · obtain ⟨i, hi, rfl⟩ := List.mem_iff_getElem.1 hx
    exact ⟨.inr (h6 _ hx k e), ((h3 i _ _ (List.getElem?_eq_getElem hi) (List.getElem?_eq_getElem (by omega))).lt k e).1⟩
end
theorem rb_new (n : Nat) (w : World) (h1 : 1 ≤ n) (h2 : n ≤ 64) :
    Calls Tryz.prog 62 #[.int .i64 n] w fun e w' => ∃ r F, e = .returned (.tuple #[.pointer (some ⟨r, 0, none⟩), .int .i64 0]) ∧ RB w' r F ⟨n, 0, List.replicate 64 []⟩ ∧ (∀ k, F k → w.heap.size ≤ k) ∧ Below w.heap.size w w' := by
  refine (refNew_yes n w h1 h2).mono ?_
  rintro e w' ⟨r, rfl, hR, hB⟩
  rw [← ls_new n h2] at hR
  obtain ⟨F, hF, hk⟩ := RB.of_ref hR (known_new n h1 h2)
  exact ⟨r, F, rfl, hF, fun k hk' => (hk k hk').2, hB⟩
theorem rb_count {w : World} {r : Nat} {F : Nat → Prop} {b : BoxS} (h : RB w r F b) :
    Calls Tryz.prog 63 #[.pointer (some ⟨r, 0, none⟩)] w fun e w' => e = .returned (.int .i64 (b.cnt : Int)) ∧ w = w' := by
  have := refCount_any r 0 b.ls w h.ref
  rwa [h.kn.good.ls_len] at this
theorem rb_put {w : World} {r : Nat} {F : Nat → Prop} {b : BoxS} (h : RB w r F b) (index : Int) (v : Value) (seg : List UInt8) (hr : Bs w v seg) :
    Calls Tryz.prog 64 #[.pointer (some ⟨r, 0, none⟩), .int .i64 index, v] w fun e w' => e = .returned (.int .i64 (putErr b.cnt b.len b.ps index seg)) ∧ ∃ F', RB w' r F' (b.put index seg) ∧ Turn F F' w w' := by
  have hl := h.kn.good.ls_len
  have hc := h.kn.good.fine.hi
  have hr0 := h.at
  refine (refPut_any r 0 b.ls index v seg w h.ref hr (by omega) h.kn.good.ls_le (fun k hk => hk.1)).mono ?_
  rintro e w' ⟨rfl, hR, hS⟩
  rw [err_same h.kn]
  rw [← put_ls h.kn] at hR
  obtain ⟨F', hF, hk⟩ := RB.of_ref hR (known_put h.kn index seg)
  refine ⟨rfl, F', hF, hS.mono fun i _ e => by rw [show i = r from e]; exact hr0, fun k hk' => ?_⟩
  rcases (hk k hk').1 with rfl | e
  · exact .inl hr0
  · rcases Nat.lt_or_ge k w.heap.size with h' | h'
    · exact .inl (Classical.not_not.1 fun hn => e ⟨h', hn⟩)
    · exact .inr h'
theorem rb_got {w : World} {r : Nat} {F : Nat → Prop} {b : BoxS} (h : RB w r F b) :
    Calls Tryz.prog 66 #[.pointer (some ⟨r, 0, none⟩)] w fun e w' => ∃ v, e = .returned v ∧ w'.ownsRow w.heap.size 63 2 v (leastR (gotL b.ps b.cnt)).length (rvs (leastR (gotL b.ps b.cnt))) ∧ Below w.heap.size w w' := by
  have hl := h.kn.good.ls_len
  have hc := h.kn.good.fine.hi
  have := refGot_any r 0 b.ls w h.ref (by omega)
  rwa [got_same h.kn] at this
theorem rb_whole {w : World} {r : Nat} {F : Nat → Prop} {b : BoxS} (h : RB w r F b) :
    Calls Tryz.prog 65 #[.pointer (some ⟨r, 0, none⟩)] w fun e w' => ∃ v, e = .returned (.tuple #[v, .bool (allNe b.ps b.cnt)]) ∧ w'.ownsRow w.heap.size 5 1 v (blockOf b).length ((blockOf b).map ub) ∧ Below w.heap.size w w' := by
  have hl := h.kn.good.ls_len
  have hc := h.kn.good.fine.hi
  exact refWhole_any r 0 b.ls w h.ref (by omega) h.kn.good.ls_le
end Go.Proofs.YtfaemjlemaclbaaGreat
end
section
/- an operation of a script. -/
namespace Go.Proofs.YtfaemjlemaclbaaGreat
set_option linter.unusedVariables false
set_option linter.unusedSimpArgs false
open Go.RowKit Go.Maps
structure OpI where
  kind : Int
  u : UD
  ep : UInt64
  num : UInt64
  code : Int
def opv (o : OpI) (dv gv : Value) : Value := .agg #[.int .i64 o.kind, .int .i64 o.u.kind, .int .u64 (o.u.ep.toNat : Int), .int .u64 (o.u.ses.toNat : Int), .int .i64 o.u.path, .int .i64 o.u.idx, .int .i64 o.u.cnt, dv, .int .i64 o.u.code, gv, .int .u64 (o.ep.toNat : Int), .int .u64 (o.num.toNat : Int), .int .i64 o.code]
def IM.play (m : IM) (o : OpI) : IM := if o.kind = 1 then (m.take o.u).1 else if o.kind = 2 then (m.dec (o.ep, o.num) o.code).1 else if o.kind = 3 then (m.drop (o.ep, o.num)).1 else m
end Go.Proofs.YtfaemjlemaclbaaGreat
end
section
/- How long the lists of an answer are. -/
namespace Go.Proofs.YtfaemjlemaclbaaGreat
set_option linter.unusedVariables false
theorem pushR_len (out : List (Int × Int)) (g : Int × Int) : (pushR out g).length ≤ out.length + 1 := by
  unfold pushR
  split <;> (try split) <;> simp <;> omega
theorem foldl_push_len (l out : List (Int × Int)) : (l.foldl pushR out).length ≤ out.length + l.length := by
  induction l generalizing out with
  | nil => simp
  | cons g l ih =>
    have h1 := ih (pushR out g)
    have h2 := pushR_len out g
    simp only [List.foldl_cons, List.length_cons]
    omega
theorem least_len (b : BoxS) (h : b.cnt ≤ 64) : (leastR (gotL b.ps b.cnt)).length ≤ 64 := by
  rw [← merge_got]
  have h1 := foldl_push_len (gotL b.ps b.cnt) []
  have h2 := gotL_len b.ps b.cnt
  unfold mergeR
  simp at h1
  omega
theorem ansOf_len (b : BoxS) (h : b.cnt ≤ 64) : (ansOf b).got.length ≤ 64 := by
  unfold ansOf
  split
  · simp
  · exact least_len b h
theorem put_cnt (b : BoxS) (i : Int) (s : List UInt8) : (b.put i s).cnt = b.cnt := by
  unfold BoxS.put
  split <;> rfl
theorem ans_len {m : IM} (h : IInv m) (u : UD) : (m.take u).2.got.length ≤ 140737488355328 := by
  have key : (m.take u).2.got.length ≤ 64 := by
    unfold IM.take
    split
    · simp
    · next hd =>
      have hdat := Decidable.not_not.1 hd
      split
      · simp
      · unfold IM.late
        split
        · simp
        · unfold IM.seg
          split
          · split
            · refine ansOf_len _ ?_
              rw [put_cnt]
              have := hdat.2.2.2.2.2.1
              show u.cnt.toNat ≤ 64
              omega
            · simp
          · next b hl =>
            split
            · refine ansOf_len _ ?_
              rw [put_cnt]
              exact ((h.rise u.ep).box _ (lk_mem hl)).good.fine.hi
            · simp
  omega
end Go.Proofs.YtfaemjlemaclbaaGreat
end
