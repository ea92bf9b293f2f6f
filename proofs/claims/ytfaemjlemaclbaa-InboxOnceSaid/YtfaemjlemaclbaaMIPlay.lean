/- Plain law: what any script keeps of an inbox: bounds, epochs, none twice; what it answers of decided sessions. -/
import Derived.Test.YtfaemjlemaclbaaMRefGot
namespace Go.Proofs.Ytfaemjlemaclbaa
set_option linter.unusedVariables false
set_option linter.unusedSimpArgs false
open Go.RowKit Go.Maps
/-- no session is open and decided. -/
def Apart (m : IM) : Prop := ∀ s b c, (s, b) ∈ m.O → (s, c) ∉ m.C
theorem wo_sub' {ε : Type} {L : List (Sess × ε)} {s t : Sess} {x : ε} (h : (t, x) ∈ wo L s) : (t, x) ∈ L := (mem_wo.1 h).1
theorem mem_tail {α : Type} {a : α} {l : List α} (h : a ∈ l.tail) : a ∈ l := (tail_sub l).subset h
theorem Apart.rise {m : IM} (h : Apart m) (e : UInt64) : Apart (m.rise e) := by
  unfold IM.rise
  split
  · intro s b c hb; cases hb
  · exact h
theorem seg_C (m : IM) (s : Sess) (u : UD) : (m.seg s u).1.C = m.C := by
  unfold IM.seg
  cases lk m.O s with
  | none => simp only; split <;> rfl
  | some b => simp only; split <;> rfl
theorem seg_O {m : IM} {s t : Sess} {u : UD} {b : BoxS} (h : (t, b) ∈ (m.seg s u).1.O) : (∃ b', (t, b') ∈ m.O) ∨ t = s := by
  unfold IM.seg at h
  cases hl : lk m.O s with
  | none =>
    rw [hl] at h
    simp only at h
    split at h
    · simp only [List.mem_append, List.mem_singleton] at h
      rcases h with h | h
      · split at h
        · exact .inl ⟨b, mem_tail h⟩
        · exact .inl ⟨b, h⟩
      · exact .inr (congrArg Prod.fst h)
    · exact .inl ⟨b, h⟩
  | some b0 =>
    rw [hl] at h
    simp only at h
    split at h
    · simp only [List.mem_append, List.mem_singleton] at h
      rcases h with h | h
      · exact .inl ⟨b, wo_sub' h⟩
      · exact .inr (congrArg Prod.fst h)
    · exact .inl ⟨b, h⟩
theorem touch_C {m : IM} {s t : Sess} {c d : Int} (hm : (s, c) ∈ m.C) (h : (t, d) ∈ (m.touch s c).C) : (t, d) ∈ m.C := by
  simp only [IM.touch, List.mem_append, List.mem_singleton] at h
  rcases h with h | h
  · exact wo_sub' h
  · rw [h]; exact hm
theorem Apart.late {m : IM} (h : Apart m) (u : UD) : Apart (m.late u).1 := by
  unfold IM.late
  cases hl : lk m.C (u.ep, u.ses) with
  | some c => exact fun s b d hb hd => h s b d hb (touch_C (lk_mem hl) hd)
  | none =>
    intro s b d hb hd
    simp only at hb hd
    rw [seg_C] at hd
    rcases seg_O hb with ⟨b', hb'⟩ | rfl
    · exact h s b' d hb' hd
    · exact lk_none hl d hd
theorem Apart.take {m : IM} (h : Apart m) (u : UD) : Apart (m.take u).1 := by
  unfold IM.take
  split
  · exact h
  split
  · exact h
  · exact (h.rise u.ep).late u
theorem shut_C {m : IM} {s t : Sess} {code d : Int} (h : (t, d) ∈ (m.shut s code).C) : (t, d) ∈ m.C ∨ (t = s ∧ d = code) := by
  have h' : (t, d) ∈ m.C ++ [(s, code)] := by
    simp only [IM.shut] at h
    split at h
    · exact mem_tail h
    · exact h
  simp only [List.mem_append, List.mem_singleton, Prod.mk.injEq] at h'
  exact h'
theorem Apart.dec {m : IM} (h : Apart m) (s : Sess) (code : Int) : Apart (m.dec s code).1 := by
  unfold IM.dec
  split
  · exact h
  split
  · exact h
  split
  · exact h
  intro t b d hb hd
  have hb' : (t, b) ∈ wo (m.rise s.1).O s := hb
  rcases shut_C hd with hd | ⟨rfl, -⟩
  · exact h.rise s.1 t b d (wo_sub' hb') hd
  · exact (mem_wo.1 hb').2 rfl
theorem Apart.drop {m : IM} (h : Apart m) (s : Sess) : Apart (m.drop s).1 := by
  unfold IM.drop
  split
  · exact fun t b d hb hd => h t b d (wo_sub' (show (t, b) ∈ wo m.O s from hb)) hd
  · exact h
theorem Apart.play {m : IM} (h : Apart m) (o : OpI) : Apart (m.play o) := by
  unfold IM.play
  split
  · exact h.take o.u
  split
  · exact h.dec _ _
  split
  · exact h.drop _
  · exact h
theorem IInv.play {m : IM} (h : IInv m) (o : OpI) : IInv (m.play o) := by
  unfold IM.play
  split
  · exact h.take o.u
  split
  · exact h.dec _ _
  split
  · exact h.drop _
  · exact h
theorem Room.play {m : IM} (h : Room m) (hi : IInv m) (o : OpI) : Room (m.play o) := by
  unfold IM.play
  split
  · exact h.take hi o.u
  split
  · exact h.dec _ _
  split
  · exact h.drop _
  · exact h
/-- what stays, and what rises. -/
structure After (m m' : IM) : Prop where
  mo : m'.mo = m.mo
  ms : m'.ms = m.ms
  ep : m.ep.toNat ≤ m'.ep.toNat
theorem After.refl (m : IM) : After m m := ⟨rfl, rfl, Nat.le_refl _⟩
theorem After.rise (m : IM) (e : UInt64) : After m (m.rise e) := by
  unfold IM.rise
  split
  · next h => exact ⟨rfl, rfl, Nat.le_of_lt h⟩
  · exact After.refl m
theorem After.trans {a b c : IM} (h : After a b) (h' : After b c) : After a c := ⟨h'.mo.trans h.mo, h'.ms.trans h.ms, Nat.le_trans h.ep h'.ep⟩
theorem After.seg (m : IM) (s : Sess) (u : UD) : After m (m.seg s u).1 := by
  unfold IM.seg
  cases lk m.O s with
  | none => simp only; split <;> exact ⟨rfl, rfl, Nat.le_refl _⟩
  | some b => simp only; split <;> exact ⟨rfl, rfl, Nat.le_refl _⟩
theorem After.take (m : IM) (u : UD) : After m (m.take u).1 := by
  unfold IM.take
  split
  · exact After.refl m
  split
  · exact After.refl m
  · refine (After.rise m u.ep).trans ?_
    unfold IM.late
    split
    · exact ⟨rfl, rfl, Nat.le_refl _⟩
    · exact After.seg _ _ _
theorem After.play (m : IM) (o : OpI) : After m (m.play o) := by
  unfold IM.play
  split
  · exact After.take m o.u
  split
  · unfold IM.dec
    split
    · exact After.refl m
    split
    · exact After.refl m
    split
    · exact After.refl m
    · exact (After.rise m _).trans ⟨rfl, rfl, Nat.le_refl _⟩
  split
  · unfold IM.drop
    split
    · exact ⟨rfl, rfl, Nat.le_refl _⟩
    · exact After.refl m
  · exact After.refl m
/-- all sessions together: none twice, all of the epoch. -/
def IM.all (m : IM) : List Sess := m.O.map (·.1) ++ m.C.map (·.1)
theorem all_nodup {m : IM} (h : IInv m) (ha : Apart m) : m.all.Nodup := by
  unfold IM.all
  rw [List.nodup_append]
  refine ⟨h.ko, h.kc, ?_⟩
  intro s hs t ht e
  subst e
  obtain ⟨p, hp, rfl⟩ := List.mem_map.1 hs
  obtain ⟨q, hq, e⟩ := List.mem_map.1 ht
  exact ha p.1 p.2 q.2 hp (by rw [← e]; exact hq)
theorem all_ep {m : IM} (h : IInv m) : ∀ s ∈ m.all, s.1 = m.ep := by
  intro s hs
  rcases List.mem_append.1 hs with hs | hs
  · obtain ⟨p, hp, rfl⟩ := List.mem_map.1 hs
    exact h.eo p hp
  · obtain ⟨p, hp, rfl⟩ := List.mem_map.1 hs
    exact h.ec p hp
/-! ### the book of codes -/
/-- what was written last for the session. -/
def lastOf' (B : List (Sess × Int)) (s : Sess) : Option Int := lk B.reverse s
theorem last_snoc (B : List (Sess × Int)) (s t : Sess) (c : Int) : lastOf' (B ++ [(s, c)]) t = if s = t then some c else lastOf' B t := by
  unfold lastOf' lk
  rw [List.reverse_append, List.reverse_singleton, List.singleton_append, List.find?_cons]
  by_cases h : s = t
  · rw [if_pos h]; simp [h]
  · rw [if_neg h]; simp [h]
/-- the book has each decided session's code. -/
def Booked (m : IM) (B : List (Sess × Int)) : Prop := ∀ s c, (s, c) ∈ m.C → lastOf' B s = some c
theorem Booked.sub {m m' : IM} {B : List (Sess × Int)} (h : Booked m B) (hs : ∀ s c, (s, c) ∈ m'.C → (s, c) ∈ m.C) : Booked m' B := fun s c hc => h s c (hs s c hc)
theorem rise_C {m : IM} {e : UInt64} {s : Sess} {c : Int} (h : (s, c) ∈ (m.rise e).C) : (s, c) ∈ m.C := by
  unfold IM.rise at h
  split at h
  · cases h
  · exact h
theorem late_C {m : IM} {u : UD} {s : Sess} {c : Int} (h : (s, c) ∈ (m.late u).1.C) : (s, c) ∈ m.C := by
  unfold IM.late at h
  cases hl : lk m.C (u.ep, u.ses) with
  | some d => rw [hl] at h; exact touch_C (lk_mem hl) h
  | none => rw [hl] at h; simp only at h; rw [seg_C] at h; exact h
theorem Booked.take {m : IM} {B : List (Sess × Int)} (h : Booked m B) (u : UD) : Booked (m.take u).1 B := by
  refine h.sub fun s c hc => ?_
  unfold IM.take at hc
  split at hc
  · exact hc
  split at hc
  · exact hc
  · exact rise_C (late_C hc)
theorem Booked.drop {m : IM} {B : List (Sess × Int)} (h : Booked m B) (s : Sess) : Booked (m.drop s).1 B := by
  refine h.sub fun t c hc => ?_
  unfold IM.drop at hc
  split at hc
  · exact hc
  · exact hc
theorem Booked.dec {m : IM} {B : List (Sess × Int)} (h : Booked m B) (s : Sess) (code : Int) (h0 : (m.dec s code).2 = 0) : Booked (m.dec s code).1 (B ++ [(s, code)]) := by
  unfold IM.dec at h0 ⊢
  split at h0
  · cases h0
  next n1 =>
  split at h0
  · cases h0
  next n2 =>
  split at h0
  · cases h0
  next n3 =>
  rw [if_neg n1, if_neg n2, if_neg n3]
  intro t c hc
  rw [last_snoc]
  rcases shut_C hc with hc | ⟨rfl, rfl⟩
  · have hc := rise_C hc
    by_cases e : s = t
    · subst e
      exact absurd hc (lk_none (by cases hl : lk m.C s with | none => rfl | some d => exact absurd (by rw [hl]; rfl) n3) c)
    · rw [if_neg e]; exact h t c hc
  · rw [if_pos rfl]
theorem Booked.dec_no {m : IM} {B : List (Sess × Int)} (h : Booked m B) (s : Sess) (code : Int) (h0 : (m.dec s code).2 ≠ 0) : Booked (m.dec s code).1 B := by
  refine h.sub fun t c hc => ?_
  unfold IM.dec at h0 hc
  split at h0
  · next n => rw [if_pos n] at hc; exact hc
  next n1 =>
  rw [if_neg n1] at hc
  split at h0
  · next n => rw [if_pos n] at hc; exact hc
  next n2 =>
  rw [if_neg n2] at hc
  split at h0
  · next n => rw [if_pos n] at hc; exact hc
  · exact absurd rfl h0
/-- is the session among the decided ones? -/
def IM.is (m : IM) (s : Sess) : Prop := s ∈ m.C.map (·.1)
theorem is_lk {m : IM} {s : Sess} : m.is s ↔ ∃ c, lk m.C s = some c := by
  unfold IM.is
  constructor
  · intro h
    obtain ⟨p, hp, rfl⟩ := List.mem_map.1 h
    cases hl : lk m.C p.1 with
    | some c => exact ⟨c, rfl⟩
    | none => exact absurd hp (lk_none hl p.2)
  · rintro ⟨c, hc⟩
    exact List.mem_map.2 ⟨(s, c), lk_mem hc, rfl⟩
theorem rise_self {m : IM} {e : UInt64} (h : e = m.ep) : m.rise e = m := by
  subst h
  unfold IM.rise
  rw [if_neg (Nat.lt_irrefl _)]
theorem take_is {m : IM} (hi : IInv m) {u : UD} (h : m.is (u.ep, u.ses)) (hu : u.isData) : ∃ c, lk m.C (u.ep, u.ses) = some c ∧ (m.take u).2.st = 5 ∧ (m.take u).2.code = c := by
  obtain ⟨c, hc⟩ := is_lk.1 h
  have he : u.ep = m.ep := hi.ec _ (lk_mem hc)
  refine ⟨c, hc, ?_⟩
  unfold IM.take
  rw [if_neg (not_not_intro hu), if_neg (by rw [he]; exact Nat.lt_irrefl _), rise_self he]
  unfold IM.late
  rw [hc]
  exact ⟨rfl, rfl⟩
theorem ansOf_ne (b : BoxS) : (ansOf b).st ≠ 5 := by
  unfold ansOf
  split
  · exact fun e => absurd e (show ¬ (4 : Int) = 5 by decide)
  · exact fun e => absurd e (show ¬ (3 : Int) = 5 by decide)
theorem seg_ne (m : IM) (s : Sess) (u : UD) : (m.seg s u).2.st ≠ 5 := by
  unfold IM.seg
  cases lk m.O s with
  | none => simp only; split
            · exact ansOf_ne _
            · exact fun e => absurd e (show ¬ (2 : Int) = 5 by decide)
  | some b => simp only; split
              · exact ansOf_ne _
              · exact fun e => absurd e (show ¬ (2 : Int) = 5 by decide)
theorem take_not {m : IM} {u : UD} (h : ¬ m.is (u.ep, u.ses)) : (m.take u).2.st ≠ 5 := by
  unfold IM.take
  split
  · exact fun e => absurd e (show ¬ (2 : Int) = 5 by decide)
  split
  · exact fun e => absurd e (show ¬ (1 : Int) = 5 by decide)
  · unfold IM.late
    cases hl : lk (m.rise u.ep).C (u.ep, u.ses) with
    | some c => exact absurd (List.mem_map.2 ⟨_, rise_C (lk_mem hl), rfl⟩) h
    | none => exact seg_ne _ _ _
theorem dec_is {m : IM} {s : Sess} {code : Int} (h : (m.dec s code).2 = 0) : ¬ m.is s := by
  intro hs
  obtain ⟨c, hc⟩ := is_lk.1 hs
  unfold IM.dec at h
  rw [hc] at h
  split at h
  · cases h
  split at h
  · cases h
  rw [if_pos (show (some c).isSome = true from rfl)] at h
  cases h
end Go.Proofs.Ytfaemjlemaclbaa
