/- Known, IPlain, ISess, Valid, IEv, IOp: joined. -/
import Derived.Test.YtfaemjlemaclbaaMBox
import Derived.Test.YtfaemjlemaclbaaMRangeLaw
import Derived.Test.YtfaemjlemaclbaaMBase
import Derived.DeepKeys4
import Derived.Lib.Hide
import Derived.Laws.ResultCell
import Derived.Laws.EntriesVeiled
section
/- Plain law: a box that New and Put made. -/
namespace Go.Proofs.Ytfaemjlemaclbaa
set_option linter.unusedVariables false
set_option linter.unusedSimpArgs false
open Go.RowKit
structure Known (b : BoxS) : Prop where
  good : Good b
  some : 0 < b.len → ∃ i, i + 1 < b.cnt ∧ b.ps.getD i [] ≠ []
def BoxS.ls (b : BoxS) : List (List UInt8) := b.ps.take b.cnt
theorem Good.ls_len {b : BoxS} (h : Good b) : b.ls.length = b.cnt := by
  have := h.fine.hi
  rw [BoxS.ls, List.length_take, h.n]; omega
theorem ls_at {b : BoxS} {i : Nat} (hi : i < b.cnt) : b.ls.getD i [] = b.ps.getD i [] := by
  rw [BoxS.ls, List.getD_eq_getElem?_getD, List.getD_eq_getElem?_getD, List.getElem?_take_of_lt hi]
theorem Good.ls_le {b : BoxS} (h : Good b) : ∀ p ∈ b.ls, p.length ≤ 1024 := fun p hp => h.fine.seg p (List.mem_of_mem_take hp)
theorem known_new (n : Nat) (h1 : 1 ≤ n) (h2 : n ≤ 64) : Known ⟨n, 0, List.replicate 64 []⟩ := ⟨good_new n h1 h2, fun h => by simp at h⟩
theorem ls_new (n : Nat) (h2 : n ≤ 64) : BoxS.ls ⟨n, 0, List.replicate 64 []⟩ = List.replicate n [] := by
  rw [BoxS.ls, List.take_replicate, Nat.min_eq_left h2]
theorem known_put {b : BoxS} (h : Known b) (index : Int) (seg : List UInt8) : Known (b.put index seg) := by
  refine ⟨good_put b h.good index seg, ?_⟩
  unfold BoxS.put
  split
  · next h0 =>
    by_cases hc : index < 0 ∨ (b.cnt : Int) ≤ index ∨ seg.length = 0 ∨ 1024 < seg.length
    · rw [putErr_arg hc] at h0; omega
    obtain ⟨i, rfl⟩ := Int.eq_ofNat_of_zero_le (show 0 ≤ index by omega)
    rw [Int.toNat_natCast]
    have hsn : seg ≠ [] := by intro e; subst e; simp at hc
    have hil : i < b.ps.length := by have := h.good.n; have := h.good.fine.hi; omega
    intro hp
    simp only at hp ⊢
    by_cases hl : i + 1 = b.cnt
    · rw [putLen, if_pos hl] at hp
      obtain ⟨i0, hi0, hn0⟩ := h.some hp
      exact ⟨i0, hi0, by rw [getD_set _ _ _ _ _ hil, if_neg (by omega)]; exact hn0⟩
    · exact ⟨i, by omega, by rw [getD_set _ _ _ _ _ hil, if_pos rfl]; exact hsn⟩
  · exact h.some
end Go.Proofs.Ytfaemjlemaclbaa
end
section
/- The inbox as the mind has it: two lists of sessions, the one that was touched least lately first. -/
namespace Go.Proofs.Ytfaemjlemaclbaa
set_option linter.unusedVariables false
set_option linter.unusedSimpArgs false
set_option linter.unusedSectionVars false
open Go.RowKit Go.Maps
abbrev Sess := UInt64 × UInt64
def sv (s : Sess) : Value := .agg #[.int .u64 (s.1.toNat : Int), .int .u64 (s.2.toNat : Int)]
/-- a unit. -/
structure UD where
  kind : Int
  ep : UInt64
  ses : UInt64
  path : Int
  idx : Int
  cnt : Int
  data : List UInt8
  code : Int
  got : List (Int × Int)
def named (n : UInt64) : Prop := 1 ≤ n.toNat ∧ n.toNat ≤ 281474976710655
instance (n : UInt64) : Decidable (named n) := inferInstanceAs (Decidable (_ ∧ _))
def goodD (u : UD) : Prop := (u.path = 1 ∨ u.path = 2) ∧ 1 ≤ u.cnt ∧ u.cnt ≤ 64 ∧ 0 ≤ u.idx ∧ u.idx < u.cnt ∧ 1 ≤ u.data.length ∧ u.data.length ≤ 1024 ∧ u.code = 0 ∧ u.got.length = 0
instance (u : UD) : Decidable (goodD u) := inferInstanceAs (Decidable (_ ∧ _))
def UD.isData (u : UD) : Prop := u.kind = 1 ∧ named u.ep ∧ named u.ses ∧ goodD u
instance (u : UD) : Decidable u.isData := inferInstanceAs (Decidable (_ ∧ _))
section
variable {κ ε : Type} [DecidableEq κ]
def lk (L : List (κ × ε)) (s : κ) : Option ε := (L.find? fun p => decide (p.1 = s)).map (·.2)
theorem lk_mem {L : List (κ × ε)} {s : κ} {x : ε} (h : lk L s = some x) : (s, x) ∈ L := by
  unfold lk at h
  rw [Option.map_eq_some_iff] at h
  obtain ⟨p, hp, rfl⟩ := h
  have h1 := List.find?_some hp
  have h2 := List.mem_of_find?_eq_some hp
  simp at h1
  subst h1
  exact h2
theorem lk_none {L : List (κ × ε)} {s : κ} (h : lk L s = none) (x : ε) : (s, x) ∉ L := by
  unfold lk at h
  rw [Option.map_eq_none_iff, List.find?_eq_none] at h
  intro hx
  exact h _ hx (by simp)
theorem lk_of_mem {L : List (κ × ε)} (h0 : (L.map (·.1)).Nodup) {s : κ} {x : ε} (h : (s, x) ∈ L) : lk L s = some x := by
  cases hl : lk L s with
  | none => exact absurd h (lk_none hl x)
  | some y =>
    have h1 := (wo_perm h0 h).mem_iff.1 (lk_mem hl)
    rcases List.mem_cons.1 h1 with e | e
    · injection e with _ e; rw [e]
    · exact absurd rfl (mem_wo.1 e).2
theorem nodup_snoc {L : List (κ × ε)} {s : κ} {x : ε} (h0 : (L.map (·.1)).Nodup) (h : ∀ y, (s, y) ∉ L) : ((L ++ [(s, x)]).map (·.1)).Nodup := by
  rw [List.map_append, List.nodup_append]
  refine ⟨h0, by simp, fun a ha c hc => ?_⟩
  simp at hc
  subst hc
  rintro rfl
  obtain ⟨p, hp, rfl⟩ := List.mem_map.1 ha
  exact h p.2 hp
theorem wo_not (L : List (κ × ε)) (s : κ) (x : ε) : (s, x) ∉ wo L s := fun h => (mem_wo.1 h).2 rfl
end
structure Ans where
  st : Int
  code : Int
  got : List (Int × Int)
  blk : List UInt8
structure IM where
  mo : Nat
  ms : Nat
  ep : UInt64
  O : List (Sess × BoxS)
  C : List (Sess × Int)
def IM.rise (m : IM) (e : UInt64) : IM := if m.ep.toNat < e.toNat then { m with ep := e, O := [], C := [] } else m
def ansOf (b : BoxS) : Ans := if allNe b.ps b.cnt = true then ⟨4, 0, [], blockOf b⟩ else ⟨3, 0, leastR (gotL b.ps b.cnt), []⟩
def newBox (u : UD) : BoxS := ⟨u.cnt.toNat, 0, List.replicate 64 []⟩
def errOf (b : BoxS) (u : UD) : Int := putErr b.cnt b.len b.ps u.idx u.data
def IM.seg (m : IM) (s : Sess) (u : UD) : IM × Ans :=
  match lk m.O s with
  | none => if errOf (newBox u) u = 0 then
      ({ m with O := (if m.mo ≤ m.O.length then m.O.tail else m.O) ++ [(s, (newBox u).put u.idx u.data)] }, ansOf ((newBox u).put u.idx u.data)) else (m, ⟨2, 0, [], []⟩)
  | some b => if (b.cnt : Int) = u.cnt ∧ (errOf b u = 0 ∨ errOf b u = 3) then
      ({ m with O := wo m.O s ++ [(s, b.put u.idx u.data)] }, ansOf (b.put u.idx u.data)) else (m, ⟨2, 0, [], []⟩)
def IM.touch (m : IM) (s : Sess) (c : Int) : IM := { m with C := wo m.C s ++ [(s, c)] }
def IM.late (m : IM) (u : UD) : IM × Ans :=
  match lk m.C (u.ep, u.ses) with
  | some c => (m.touch (u.ep, u.ses) c, ⟨5, c, [], []⟩)
  | none => m.seg (u.ep, u.ses) u
def IM.take (m : IM) (u : UD) : IM × Ans :=
  if ¬ u.isData then (m, ⟨2, 0, [], []⟩) else if u.ep.toNat < m.ep.toNat then (m, ⟨1, 0, [], []⟩) else (m.rise u.ep).late u
def badD (s : Sess) (code : Int) : Prop := code < 1 ∨ 7 < code ∨ ¬ named s.1 ∨ ¬ named s.2
instance (s : Sess) (code : Int) : Decidable (badD s code) := inferInstanceAs (Decidable (_ ∨ _))
def IM.shut (m : IM) (s : Sess) (code : Int) : IM := { m with O := wo m.O s, C := if m.ms < m.C.length + 1 then (m.C ++ [(s, code)]).tail else m.C ++ [(s, code)] }
def IM.dec (m : IM) (s : Sess) (code : Int) : IM × Int :=
  if badD s code then (m, 1) else if s.1.toNat < m.ep.toNat then (m, 83) else if (lk m.C s).isSome = true then (m, 3) else ((m.rise s.1).shut s code, 0)
def IM.drop (m : IM) (s : Sess) : IM × Bool := if (lk m.O s).isSome = true then ({ m with O := wo m.O s }, true) else (m, false)
structure IInv (m : IM) : Prop where
  ko : (m.O.map (·.1)).Nodup
  kc : (m.C.map (·.1)).Nodup
  eo : ∀ p ∈ m.O, p.1.1 = m.ep
  ec : ∀ p ∈ m.C, p.1.1 = m.ep
  lo : m.O.length ≤ m.mo
  lc : m.C.length ≤ m.ms + 1
  box : ∀ p ∈ m.O, Known p.2
  mo1 : 1 ≤ m.mo
  mo2 : m.mo ≤ 64
  ms1 : 1 ≤ m.ms
  ms2 : m.ms ≤ 4096
theorem tail_sub {α : Type} (l : List α) : l.tail.Sublist l := List.tail_sublist l
theorem IInv.rise {m : IM} (h : IInv m) (e : UInt64) : IInv (m.rise e) := by
  unfold IM.rise
  split
  · exact ⟨by simp, by simp, by simp, by simp, by simp, by simp, by simp, h.mo1, h.mo2, h.ms1, h.ms2⟩
  · exact h
theorem rise_ep {m : IM} {e : UInt64} (h : ¬ e.toNat < m.ep.toNat) : (m.rise e).ep = e := by
  unfold IM.rise
  split
  · rfl
  · exact UInt64.toNat_inj.1 (by omega)
theorem rise_mo (m : IM) (e : UInt64) : (m.rise e).mo = m.mo ∧ (m.rise e).ms = m.ms := by
  unfold IM.rise
  split <;> exact ⟨rfl, rfl⟩
theorem Known.new {u : UD} (h : goodD u) : Known (newBox u) := known_new _ (by have := h.2.1; omega) (by have := h.2.2.1; omega)
theorem IInv.seg {m : IM} (h : IInv m) {s : Sess} {u : UD} (hs : s.1 = m.ep) (hu : goodD u) : IInv (m.seg s u).1 := by
  unfold IM.seg
  split
  · next hl =>
    split
    · next h0 =>
      have hno : ∀ y, (s, y) ∉ (if m.mo ≤ m.O.length then m.O.tail else m.O) := fun y hy => lk_none hl y (by
        split at hy
        · exact (tail_sub _).subset hy
        · exact hy)
      have hsub : (if m.mo ≤ m.O.length then m.O.tail else m.O).Sublist m.O := by split; exact tail_sub _; exact List.Sublist.refl _
      refine ⟨nodup_snoc ((hsub.map _).nodup h.ko) hno, h.kc, fun p hp => ?_, h.ec, ?_, h.lc, fun p hp => ?_, h.mo1, h.mo2, h.ms1, h.ms2⟩
      · rcases List.mem_append.1 hp with e | e
        · exact h.eo p (hsub.subset e)
        · simp at e; subst e; exact hs
      · have := h.mo1
        have := h.lo
        simp only [List.length_append, List.length_singleton]
        split <;> simp <;> omega
      · rcases List.mem_append.1 hp with e | e
        · exact h.box p (hsub.subset e)
        · simp at e; subst e; exact known_put (Known.new hu) _ _
    · exact h
  · next b hl =>
    have hm := lk_mem hl
    split
    · refine ⟨nodup_snoc (wo_nodup h.ko s) (fun y => wo_not m.O s y), h.kc, fun p hp => ?_, h.ec, ?_, h.lc, fun p hp => ?_, h.mo1, h.mo2, h.ms1, h.ms2⟩
      · rcases List.mem_append.1 hp with e | e
        · exact h.eo p ((wo_sub s).subset e)
        · simp at e; subst e; exact hs
      · have := wo_len h.ko hm
        have := h.lo
        simp only [List.length_append, List.length_singleton]
        omega
      · rcases List.mem_append.1 hp with e | e
        · exact h.box p ((wo_sub s).subset e)
        · simp at e; subst e; exact known_put (h.box _ hm) _ _
    · exact h
theorem IInv.touch {m : IM} (h : IInv m) {s : Sess} {c : Int} (hm : (s, c) ∈ m.C) : IInv (m.touch s c) := by
  refine ⟨h.ko, nodup_snoc (wo_nodup h.kc s) (fun y => wo_not m.C s y), h.eo, fun p hp => ?_, h.lo, ?_, h.box, h.mo1, h.mo2, h.ms1, h.ms2⟩
  · rcases List.mem_append.1 hp with e | e
    · exact h.ec p ((wo_sub s).subset e)
    · simp at e; subst e; exact h.ec _ hm
  · have := wo_len h.kc hm
    have := h.lc
    show (wo m.C s ++ [(s, c)]).length ≤ m.ms + 1
    simp only [List.length_append, List.length_singleton]
    omega
theorem IInv.late {m : IM} (h : IInv m) {u : UD} (hs : u.ep = m.ep) (hu : goodD u) : IInv (m.late u).1 := by
  unfold IM.late
  split
  · next c hl => exact h.touch (lk_mem hl)
  · exact h.seg hs hu
theorem IInv.take {m : IM} (h : IInv m) (u : UD) : IInv (m.take u).1 := by
  unfold IM.take
  split
  · exact h
  · next hd =>
    split
    · exact h
    · next he => exact (h.rise u.ep).late (rise_ep he).symm (by simpa using hd : u.isData).2.2.2
theorem IInv.shut {m : IM} (h : IInv m) {s : Sess} (hs : s.1 = m.ep) (hn : ∀ y, (s, y) ∉ m.C) (code : Int) : IInv (m.shut s code) := by
  have hnd := nodup_snoc (x := code) h.kc hn
  have hep : ∀ p ∈ m.C ++ [(s, code)], p.1.1 = m.ep := fun p hp => by
    rcases List.mem_append.1 hp with e | e
    · exact h.ec p e
    · simp at e; subst e; exact hs
  have h1 := h.lc
  refine ⟨wo_nodup h.ko s, ?_, fun p hp => h.eo p ((wo_sub s).subset hp), ?_, Nat.le_trans (wo_sub s).length_le h.lo, ?_, fun p hp => h.box p ((wo_sub s).subset hp), h.mo1, h.mo2, h.ms1, h.ms2⟩
  · show ((if m.ms < m.C.length + 1 then (m.C ++ [(s, code)]).tail else m.C ++ [(s, code)]).map _).Nodup
    split
    · exact ((tail_sub _).map _).nodup hnd
    · exact hnd
  · show ∀ p ∈ (if m.ms < m.C.length + 1 then (m.C ++ [(s, code)]).tail else m.C ++ [(s, code)]), p.1.1 = m.ep
    split
    · exact fun p hp => hep p ((tail_sub _).subset hp)
    · exact hep
  · show (if m.ms < m.C.length + 1 then (m.C ++ [(s, code)]).tail else m.C ++ [(s, code)]).length ≤ m.ms + 1
    split <;> simp <;> omega
theorem rise_lk {m : IM} {s : Sess} (h : ¬ (lk m.C s).isSome = true) : ∀ y, (s, y) ∉ (m.rise s.1).C := fun y hy => by
  unfold IM.rise at hy
  split at hy
  · cases hy
  · cases hl : lk m.C s with
    | none => exact lk_none hl y hy
    | some c => rw [hl] at h; exact h rfl
theorem IInv.dec {m : IM} (h : IInv m) (s : Sess) (code : Int) : IInv (m.dec s code).1 := by
  unfold IM.dec
  split
  · exact h
  · split
    · exact h
    · next he =>
      split
      · exact h
      · next hl => exact (h.rise s.1).shut (rise_ep he).symm (rise_lk hl) code
/-- never more decided ones than there may be. -/
def Room (m : IM) : Prop := m.C.length ≤ m.ms
theorem Room.rise {m : IM} (h : Room m) (e : UInt64) : Room (m.rise e) := by
  unfold IM.rise
  split
  · exact Nat.zero_le _
  · exact h
theorem Room.take {m : IM} (h : Room m) (hi : IInv m) (u : UD) : Room (m.take u).1 := by
  unfold IM.take
  split
  · exact h
  · split
    · exact h
    · have h1 := h.rise u.ep
      have h2 := hi.rise u.ep
      unfold IM.late
      split
      · next c hl =>
        have := wo_len h2.kc (lk_mem hl)
        show (wo (m.rise u.ep).C (u.ep, u.ses) ++ [((u.ep, u.ses), c)]).length ≤ (m.rise u.ep).ms
        have h1' : (m.rise u.ep).C.length ≤ (m.rise u.ep).ms := h1
        simp only [List.length_append, List.length_singleton]
        omega
      · unfold IM.seg
        split
        · split <;> exact h1
        · split <;> exact h1
theorem Room.dec {m : IM} (h : Room m) (s : Sess) (code : Int) : Room (m.dec s code).1 := by
  unfold IM.dec
  split
  · exact h
  · split
    · exact h
    · split
      · exact h
      · have h1 : (m.rise s.1).C.length ≤ (m.rise s.1).ms := h.rise s.1
        show (if (m.rise s.1).ms < (m.rise s.1).C.length + 1 then ((m.rise s.1).C ++ [(s, code)]).tail else (m.rise s.1).C ++ [(s, code)]).length ≤ (m.rise s.1).ms
        split <;> simp <;> omega
theorem Room.drop {m : IM} (h : Room m) (s : Sess) : Room (m.drop s).1 := by
  unfold IM.drop
  split <;> exact h
theorem IInv.drop {m : IM} (h : IInv m) (s : Sess) : IInv (m.drop s).1 := by
  unfold IM.drop
  split
  · exact ⟨wo_nodup h.ko s, h.kc, fun p hp => h.eo p ((wo_sub s).subset hp), h.ec, Nat.le_trans (wo_sub s).length_le h.lo, h.lc, fun p hp => h.box p ((wo_sub s).subset hp), h.mo1, h.mo2, h.ms1, h.ms2⟩
  · exact h
theorem IInv.subO {m : IM} (h : IInv m) {O' : List (Sess × BoxS)} (hs : O'.Sublist m.O) : IInv { m with O := O' } :=
  ⟨(hs.map _).nodup h.ko, h.kc, fun p hp => h.eo p (hs.subset hp), h.ec, Nat.le_trans hs.length_le h.lo, h.lc, fun p hp => h.box p (hs.subset hp), h.mo1, h.mo2, h.ms1, h.ms2⟩
theorem IInv.subC {m : IM} (h : IInv m) {C' : List (Sess × Int)} (hs : C'.Sublist m.C) : IInv { m with C := C' } :=
  ⟨h.ko, (hs.map _).nodup h.kc, h.eo, fun p hp => h.ec p (hs.subset hp), h.lo, Nat.le_trans hs.length_le h.lc, h.box, h.mo1, h.mo2, h.ms1, h.ms2⟩
theorem IInv.addC {m : IM} (h : IInv m) (hr : Room m) {s : Sess} (hs : s.1 = m.ep) (hn : ∀ y, (s, y) ∉ m.C) (code : Int) : IInv { m with C := m.C ++ [(s, code)] } := by
  refine ⟨h.ko, nodup_snoc h.kc hn, h.eo, fun p hp => ?_, h.lo, ?_, h.box, h.mo1, h.mo2, h.ms1, h.ms2⟩
  · rcases List.mem_append.1 hp with e | e
    · exact h.ec p e
    · simp at e; subst e; exact hs
  · have : m.C.length ≤ m.ms := hr
    show (m.C ++ [(s, code)]).length ≤ m.ms + 1
    simp
    exact this
theorem IInv.addO {m : IM} (h : IInv m) {s : Sess} (hs : s.1 = m.ep) (hn : ∀ y, (s, y) ∉ m.O) (hl : m.O.length < m.mo) {b : BoxS} (hb : Known b) : IInv { m with O := m.O ++ [(s, b)] } := by
  refine ⟨nodup_snoc h.ko hn, h.kc, fun p hp => ?_, h.ec, ?_, h.lc, fun p hp => ?_, h.mo1, h.mo2, h.ms1, h.ms2⟩
  · rcases List.mem_append.1 hp with e | e
    · exact h.eo p e
    · simp at e; subst e; exact hs
  · show (m.O ++ [(s, b)]).length ≤ m.mo
    simp
    omega
  · rcases List.mem_append.1 hp with e | e
    · exact h.box p e
    · simp at e; subst e; exact hb
theorem IInv.newO {m : IM} (h : IInv m) {s : Sess} {b : BoxS} (hs : s.1 = m.ep) (hl : ∀ y, (s, y) ∉ m.O) (hb : Known b) {O' : List (Sess × BoxS)} (hO : (if m.mo ≤ m.O.length then m.O.tail else m.O) = O') : IInv { m with O := O' ++ [(s, b)] } := by
  subst hO
  have hsub : (if m.mo ≤ m.O.length then m.O.tail else m.O).Sublist m.O := by split; exact tail_sub _; exact List.Sublist.refl _
  have hlt : (if m.mo ≤ m.O.length then m.O.tail else m.O).length < m.mo := by
    have := h.mo1
    have := h.lo
    split <;> simp <;> omega
  exact IInv.addO (h.subO hsub) hs (fun y hy => hl y (hsub.subset hy)) hlt hb
end Go.Proofs.Ytfaemjlemaclbaa
end
section
/- Sessions as keys of maps. -/
namespace Go.Proofs.Ytfaemjlemaclbaa
set_option linter.unusedVariables false
set_option linter.unusedSimpArgs false
open Go.RowKit Go.Maps
theorem sess_laid : laidOutB Try.prog = true := by kernel_rfl
theorem sess_row : (60 : TypeId) < Try.prog.types.size := of_decide_eq_true (by kernel_rfl)
theorem sess_law : Keyed Try.prog 60 := Keyed.of_law (deep_law_laid sess_laid (m := 2) (by omega) sess_row (by kernel_rfl) (by rw [Try.underlying60]))
theorem sess_keyType : Try.prog.keyType 60 = true := by kernel_rfl
theorem sess_cells : Try.prog.cellsOf 60 = 2 := by kernel_rfl
theorem u64_cells : Try.prog.cellsOf 25 = 1 := by kernel_rfl
theorem u64_wf (n : UInt64) : (Lit.int .u64 (n.toNat : Int)).wf = true := by
  have := n.toNat_lt
  simp only [Lit.wf, Bool.and_eq_true, decide_eq_true_eq]
  have e1 : IntKind.u64.min = 0 := by decide
  have e2 : IntKind.u64.max = 18446744073709551615 := by decide
  omega
theorem types_pos : ∃ m, Try.prog.types.size + 1 = m + 2 := by
  obtain ⟨m, hm⟩ := Nat.exists_eq_succ_of_ne_zero (Nat.ne_of_gt (Nat.lt_of_le_of_lt (Nat.zero_le _) sess_row))
  exact ⟨m, by rw [hm]⟩
theorem u64_back {q : IntKind} {n : Int} (hq : q = .u64) (h : (Lit.int .u64 n).wf = true) : ∃ x : UInt64, Value.int q n = .int .u64 (x.toNat : Int) := by
  subst hq
  simp only [Lit.wf, Bool.and_eq_true, decide_eq_true_eq] at h
  have e1 : IntKind.u64.min = 0 := by decide
  have e2 : IntKind.u64.max = 18446744073709551615 := by decide
  refine ⟨UInt64.ofNat n.toNat, ?_⟩
  have : ((UInt64.ofNat n.toNat).toNat : Int) = n := by
    rw [UInt64.toNat_ofNat_of_lt' (by show n.toNat < 18446744073709551616; omega)]
    omega
  rw [this]
theorem lits_u64 (m : Nat) (v : Value) (ls : List Lit) (h : Try.prog.keyLits (m + 1) 25 [v] = some ls) : ∃ x : UInt64, v = .int .u64 (x.toNat : Int) := by
  cases v <;> simp [Program.keyLits, Try.underlying25] at h
  exact u64_back h.1.1 h.1.2
theorem sess_back (v : Value) (l : Lit) (h : keyOf Try.prog 60 v = some l) : ∃ s, v = sv s := by
  obtain ⟨m, hm⟩ := types_pos
  simp only [keyOf, Try.underlying60, sess_keyType, Bool.true_and, hm] at h
  split at h
  · next hf =>
    cases v <;> simp [Value.formed, Try.underlying60] at hf
    rename_i cs
    rw [sess_cells] at hf
    obtain ⟨a, b, hab⟩ : ∃ a b, cs = #[a, b] := by
      rcases cs with ⟨_ | ⟨a, _ | ⟨b, _ | ⟨c, r⟩⟩⟩⟩
      · simp at hf
      · simp at hf
      · exact ⟨a, b, rfl⟩
      · simp at hf
    subst hab
    rw [Option.map_eq_some_iff] at h
    obtain ⟨ls, h, -⟩ := h
    unfold Program.keyLits at h
    simp only [Try.underlying60, Value.cells, sess_cells] at h
    split at h
    · rw [Option.map_eq_some_iff] at h
      obtain ⟨lss, h, -⟩ := h
      simp only [List.mapM_cons, List.mapM_nil, u64_cells, List.drop, List.take] at h
      simp only [Option.bind_eq_bind, Option.bind_eq_some_iff] at h
      obtain ⟨l1, g1, r, ⟨l2, g2, -⟩, -⟩ := h
      obtain ⟨x, rfl⟩ := lits_u64 m _ _ g1
      obtain ⟨y, rfl⟩ := lits_u64 m _ _ g2
      exact ⟨(x, y), rfl⟩
    · cases h
  · cases h
theorem sess_key (s : Sess) : ∃ l, keyOf Try.prog 60 (sv s) = some l := by
  obtain ⟨m, hm⟩ := types_pos
  have h1 := u64_wf s.1
  have h2 := u64_wf s.2
  simp only [keyOf, Try.underlying60, sess_keyType, Bool.true_and, hm]
  simp [sv, Value.formed, Try.underlying60, sess_cells, Program.keyLits, Value.cells, Try.underlying25, u64_cells, h1, h2]
theorem sKL : KL Try.prog 60 sv where
  keyed := sess_law
  has := sess_key
  back := sess_back
  inj s t h := by
    simp only [sv, Value.agg.injEq] at h
    have h1 := congrArg (fun a : Array Value => a.toList) h
    simp only [List.cons.injEq, Value.int.injEq, true_and, and_true] at h1
    exact Prod.ext (UInt64.toNat_inj.1 (by omega)) (UInt64.toNat_inj.1 (by omega))
end Go.Proofs.Ytfaemjlemaclbaa
end
section
/- pdu.Valid of a unit that says it is one of data. -/
namespace Go.Proofs.Ytfaemjlemaclbaa
set_option linter.unusedVariables false
set_option linter.unusedSimpArgs false
open Go.RowKit
/-- a unit as a value; its two lists. -/
def uv (u : UD) (dv gv : Value) : Value := .agg #[.int .i64 u.kind, .int .u64 (u.ep.toNat : Int), .int .u64 (u.ses.toNat : Int), .int .i64 u.path, .int .i64 u.idx, .int .i64 u.cnt, dv, .int .i64 u.code, gv]
set_option maxHeartbeats 400000 in
set_option maxRecDepth 100000 in
theorem kind_any (k : Int) (w : World) : Calls Try.prog 43 #[.int .i64 k] w fun e w' => e = .returned (.bool (decide (1 ≤ k) && decide (k ≤ 3))) ∧ w' = w := by
  by_cases h1 : 1 ≤ k
  · have hc1 : decide (k ≥ 1) = true := by simpa using h1
    go_enter Try.func43, Try.ntmps43
    go_wp2
    go_ret
    simp [h1]
  · have hc1 : decide (k ≥ 1) = false := by simpa using h1
    go_enter Try.func43, Try.ntmps43
    go_wp2
    go_ret
    simp [h1]
set_option maxHeartbeats 400000 in
set_option maxRecDepth 100000 in
theorem named_any (n : UInt64) (w : World) : Calls Try.prog 44 #[.int .u64 (n.toNat : Int)] w fun e w' => e = .returned (.bool (decide (named n))) ∧ w' = w := by
  have hdec : decide (named n) = (decide (1 ≤ n.toNat) && decide (n.toNat ≤ 281474976710655)) := by
    by_cases h : named n
    · rw [decide_eq_true h, decide_eq_true h.1, decide_eq_true h.2]; rfl
    · rw [decide_eq_false h]
      unfold named at h
      by_cases h1 : 1 ≤ n.toNat
      · rw [decide_eq_true h1, decide_eq_false (fun h2 => h ⟨h1, h2⟩)]; rfl
      · rw [decide_eq_false h1]; rfl
  rw [hdec]
  obtain ⟨k, hk⟩ : ∃ k, k = n.toNat := ⟨_, rfl⟩
  rw [← hk]
  clear hk hdec
  by_cases h1 : 1 ≤ k
  · have hc1 : decide ((k : Int) ≥ 1) = true := by simp; omega
    go_enter Try.func44, Try.ntmps44
    go_wp2
    go_ret
    refine ⟨?_, rfl⟩
    simp [h1]
    omega
  · have hc1 : decide ((k : Int) ≥ 1) = false := by simp; omega
    go_enter Try.func44, Try.ntmps44
    go_wp2
    go_ret
    refine ⟨?_, rfl⟩
    simp [h1]
theorem forms_at (W : World) : (Instr.index 128 (.agg #[.nilFunc, .nilFunc, .nilFunc, .func (.func 52) #[] #[], .func (.func 53) #[] #[], .func (.func 54) #[] #[],
    .func (.func 55) #[] #[], .func (.func 56) #[] #[], .func (.func 57) #[] #[], .func (.func 58) #[] #[], .func (.func 59) #[] #[], .func (.func 60) #[] #[]]) (.int .i64 1)).run Try.prog W =
    .ok (.agg #[.func (.func 52) #[] #[], .func (.func 53) #[] #[], .func (.func 54) #[] #[]]) W := by
  kernel_rfl
set_option maxHeartbeats 400000 in
set_option maxRecDepth 100000 in
theorem forms_data (w : World) : Calls Try.prog 45 #[.int .i64 1] w fun e w' => e = .returned (.agg #[.func (.func 52) #[] #[], .func (.func 53) #[] #[], .func (.func 54) #[] #[]]) ∧ Below w.heap.size w w' := by
  have hx := forms_at
  go_enter Try.func45, Try.ntmps45
  go_wp2
  refine bodyPost_ret (v := .agg #[.func (.func 52) #[] #[], .func (.func 53) #[] #[], .func (.func 54) #[] #[]]) (results_cell_row rfl _ _ w.heap.size _ _ _ _ rfl (heap_alloc_new _ _) Try.underlying117 rfl (by kernel_rfl)) rfl ?_
  exact ⟨rfl, (Below.refl _ _).alloc (Nat.le_refl _) _⟩
set_option maxHeartbeats 1000000 in
set_option maxRecDepth 100000 in
theorem goodData_any (u : UD) (dp gp : Option Addr) (dc gc : Nat) (w : World) :
    Calls Try.prog 52 #[uv u (.slice dp u.data.length dc) (.slice gp u.got.length gc)] w fun e w' => e = .returned (.bool (decide (goodD u))) ∧ Below w.heap.size w w' := by
  have hdec : decide (goodD u) = ((decide (u.path = 1) || decide (u.path = 2)) && (decide (1 ≤ u.cnt) && decide (u.cnt ≤ 64) && decide (0 ≤ u.idx) && decide (u.idx < u.cnt)) && decide (1 ≤ u.data.length) && decide (u.data.length ≤ 1024) && decide (u.code = 0) && decide (u.got.length = 0)) := by
    rw [Bool.eq_iff_iff, decide_eq_true_iff]
    simp only [decide_eq_true_eq, Bool.and_eq_true, Bool.or_eq_true, and_assoc, goodD]
  rw [hdec]
  obtain ⟨kind, ep, ses, path, idx, cnt, data, code, got⟩ := u
  unfold uv
  simp only
  obtain ⟨n, hn⟩ : ∃ n, n = data.length := ⟨_, rfl⟩
  obtain ⟨k, hk⟩ : ∃ k, k = got.length := ⟨_, rfl⟩
  obtain ⟨e1, he1⟩ : ∃ e1, e1 = ep.toNat := ⟨_, rfl⟩
  obtain ⟨e2, he2⟩ : ∃ e2, e2 = ses.toNat := ⟨_, rfl⟩
  rw [← hn, ← hk, ← he1, ← he2]
  clear hn hk hdec he1 he2
  go_enter Try.func52, Try.ntmps52
  go_wp2
  all_goals
    go_ret
    refine ⟨?_, (Below.refl _ _).alloc (Nat.le_refl _) _⟩
    congr 2 <;> first | (simp [*]; done) | (simp [*]; omega) | (simp [*]; rw [Bool.eq_iff_iff]; simp; try omega)
set_option maxHeartbeats 1000000 in
set_option maxRecDepth 100000 in
/-- a unit that says it is one of data. -/
theorem valid_data (u : UD) (dp gp : Option Addr) (dc gc : Nat) (w : World) (hk : u.kind = 1) :
    Calls Try.prog 30 #[uv u (.slice dp u.data.length dc) (.slice gp u.got.length gc)] w fun e w' => e = .returned (.int .i64 (if u.isData then 0 else 30)) ∧ Below w.heap.size w w' := by
  have hgood := fun W => goodData_any u dp gp dc gc W
  have hn1 := fun W => named_any u.ep W
  have hn2 := fun W => named_any u.ses W
  have hdec : u.isData ↔ named u.ep ∧ named u.ses ∧ goodD u := ⟨fun h => h.2, fun h => ⟨hk, h⟩⟩
  obtain ⟨G, hG⟩ : ∃ G, G = decide (goodD u) := ⟨_, rfl⟩
  obtain ⟨N1, hN1⟩ : ∃ N1, N1 = decide (named u.ep) := ⟨_, rfl⟩
  obtain ⟨N2, hN2⟩ : ∃ N2, N2 = decide (named u.ses) := ⟨_, rfl⟩
  have hif : (if u.isData then (0 : Int) else 30) = if (N1 && N2 && G) = true then 0 else 30 := by
    by_cases h : u.isData
    · rw [if_pos h, if_pos]
      have := hdec.1 h
      rw [hN1, hN2, hG, decide_eq_true this.1, decide_eq_true this.2.1, decide_eq_true this.2.2]
      rfl
    · rw [if_neg h, if_neg]
      intro hh
      rw [hN1, hN2, hG] at hh
      simp only [Bool.and_eq_true, decide_eq_true_eq] at hh
      exact h (hdec.2 ⟨hh.1.1, hh.1.2, hh.2⟩)
  rw [hif]
  rw [← hG] at hgood
  rw [← hN1] at hn1
  rw [← hN2] at hn2
  clear hif hdec hN1 hN2 hG
  obtain ⟨kind, ep, ses, path, idx, cnt, data, code, got⟩ := u
  subst hk
  unfold uv at hgood ⊢
  simp only at hgood hn1 hn2 ⊢
  obtain ⟨n, hn⟩ : ∃ n, n = data.length := ⟨_, rfl⟩
  obtain ⟨k, hk⟩ : ∃ k, k = got.length := ⟨_, rfl⟩
  obtain ⟨e1, he1⟩ : ∃ e1, e1 = ep.toNat := ⟨_, rfl⟩
  obtain ⟨e2, he2⟩ : ∃ e2, e2 = ses.toNat := ⟨_, rfl⟩
  rw [← hn, ← hk, ← he1, ← he2] at hgood ⊢
  rw [← he1] at hn1
  rw [← he2] at hn2
  clear hn hk he1 he2
  have hfld : ∀ W, (Instr.field 117 (.agg #[.func (.func 52) #[] #[], .func (.func 53) #[] #[], .func (.func 54) #[] #[]]) 0).run Try.prog W = .ok (.func (.func 52) #[] #[]) W := fun W => by kernel_rfl
  cases N1 <;> cases N2 <;> cases G
  all_goals
    go_enter Try.func30, Try.ntmps30
    go_wp2_with fail
    have hb := Blk.new w 41 [.int .i64 1, .int .u64 (e1 : Int), .int .u64 (e2 : Int), .int .i64 path, .int .i64 idx, .int .i64 cnt, .slice dp n dc, .int .i64 code, .slice gp k gc]
    have hB : Below w.heap.size w (w.alloc (.cells [Value.int .i64 1, .int .u64 (e1 : Int), .int .u64 (e2 : Int), .int .i64 path, .int .i64 idx, .int .i64 cnt, .slice dp n dc, .int .i64 code, .slice gp k gc].toArray 41)) := (Below.refl _ _).alloc (Nat.le_refl _) _
    refine region_class (C := fun w' => Blk w' w.heap.size 41 [.int .i64 1, .int .u64 (e1 : Int), .int .u64 (e2 : Int), .int .i64 path, .int .i64 idx, .int .i64 cnt, .slice dp n dc, .int .i64 code, .slice gp k gc] ∧ Below w.heap.size w w') (by kernel_rfl) (by kernel_rfl) ⟨hb.drew, hB.drew⟩ ?_
    clear hb hB
    repeat
      (first
       | go_big_quiet_skip
       | (go_big_quiet_want
          rename_i K hK
          apply Exists.intro
          refine ⟨fun w' hw' => ?_, hK _ ?_⟩
          · obtain ⟨b1, b2⟩ := hw'
            have z0 := b1.cell_some (i := 0) rfl
            have z1 := b1.cell_some (i := 1) rfl
            have z2 := b1.cell_some (i := 2) rfl
            have z3 := b1.cell_some (i := 3) rfl
            have z4 := b1.cell_some (i := 4) rfl
            have z5 := b1.cell_some (i := 5) rfl
            have z6 := b1.cell_some (i := 6) rfl
            have z7 := b1.cell_some (i := 7) rfl
            have z8 := b1.cell_some (i := 8) rfl
            go_simp
            first
            | (go_at_call 43
               refine (kind_any _ _).mono ?_
               rintro e w1 ⟨rfl, rfl⟩
               exact ⟨rfl, b1, b2⟩)
            | (go_at_call 44
               with_reducible refine (hn1 _).mono ?_
               rintro e w1 ⟨rfl, rfl⟩
               exact ⟨rfl, b1, b2⟩)
            | (go_at_call 44
               refine (hn2 _).mono ?_
               rintro e w1 ⟨rfl, rfl⟩
               exact ⟨rfl, b1, b2⟩)
            | (go_at_call 45
               refine (forms_data _).mono ?_
               rintro e w1 ⟨rfl, hB1⟩
               exact ⟨rfl, b1.later hB1, below_trans b2 hB1⟩)
            | (go_at_call 52
               refine (hgood _).mono ?_
               rintro e w1 ⟨rfl, hB1⟩
               exact ⟨rfl, b1.later hB1, below_trans b2 hB1⟩)
            | with_reducible rfl
          clear hK K
          simp only [Act.put, List.setIfInBounds_toArray, List.set_cons_zero, List.set_cons_succ]))
    refine wpQuiet_nil ?_
    rintro w5 ⟨b1, b2⟩
    go_wp2
    go_ret
    exact ⟨rfl, b2⟩
end Go.Proofs.Ytfaemjlemaclbaa
end
section
/- Which open sessions stay when a new one comes. -/
namespace Go.Proofs.Ytfaemjlemaclbaa
def IM.evict (m : IM) : List (Sess × BoxS) := if m.mo ≤ m.O.length then m.O.tail else m.O
end Go.Proofs.Ytfaemjlemaclbaa
end
section
/- an operation of a script. -/
namespace Go.Proofs.Ytfaemjlemaclbaa
set_option linter.unusedVariables false
set_option linter.unusedSimpArgs false
open Go.RowKit Go.Maps
structure OpI where
  kind : Int
  u : UD
  ep : UInt64
  num : UInt64
  code : Int
def opv (o : OpI) (dv gv : Value) : Value := .agg #[.int .i64 o.kind, .int .i64 o.u.kind, .int .u64 (o.u.ep.toNat : Int), .int .u64 (o.u.ses.toNat : Int), .int .i64 o.u.path, .int .i64 o.u.idx, .int .i64 o.u.cnt, dv, .int .i64 o.u.code, gv, .int .u64 (o.ep.toNat : Int), .int .u64 (o.num.toNat : Int), .int .i64 o.code]
def IM.play (m : IM) (o : OpI) : IM := if o.kind = 1 then (m.take o.u).1 else if o.kind = 2 then (m.dec (o.ep, o.num) o.code).1 else if o.kind = 3 then (m.drop (o.ep, o.num)).1 else m
end Go.Proofs.Ytfaemjlemaclbaa
end
