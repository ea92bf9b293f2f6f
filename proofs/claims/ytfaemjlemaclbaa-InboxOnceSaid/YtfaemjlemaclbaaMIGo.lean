/- while a script goes on at one inbox. -/
import Derived.Test.YtfaemjlemaclbaaMIDoes
import Derived.Test.YtfaemjlemaclbaaMIHas
import Derived.Test.YtfaemjlemaclbaaMIScript
import Derived.Test.YtfaemjlemaclbaaMIKnows
namespace Go.Proofs.Ytfaemjlemaclbaa
set_option linter.unusedVariables false
set_option linter.unusedSimpArgs false
open Go.RowKit Go.Maps
structure GoesX (w w' : World) (i x : Nat) (S : Nat → Prop) (m : IM) : Prop where
  inb : In w' x S i m
  below : Below w.heap.size w w'
  new : ∀ b, S b → w.heap.size ≤ b
theorem GoesX.later {w w1 w2 : World} {i x : Nat} {S : Nat → Prop} {m : IM} (h : GoesX w w1 i x S m) (hb : Below w1.heap.size w1 w2) : GoesX w w2 i x S m :=
  ⟨h.inb.later hb, below_trans h.below hb, h.new⟩
theorem GoesX.turn {w w1 w2 : World} {i x : Nat} {S S' : Nat → Prop} {m m' : IM} (h : GoesX w w1 i x S m) (hd : In w2 x S' (i + 1) m') (t : Turn S S' w1 w2) : GoesX w w2 (i + 1) x S' m' :=
  ⟨hd, h.below.trans (t.same.belowB fun k hk => ⟨Nat.lt_of_lt_of_le hk h.below.size, fun e => by have := h.new k e; omega⟩), fun b hb => by
    rcases t.foot b hb with e | e
    · exact h.new b e
    · exact Nat.le_trans h.below.size e⟩
def DoesX (w w1 w' : World) (i x : Nat) (S : Nat → Prop) (m : IM) (o : OpI) (e : Ending) : Prop :=
  ∃ st cd er ga gn gc ba bn bc, e = .returned (.tuple #[.agg #[.int .i64 st, .int .i64 cd, .slice ga gn gc, .slice ba bn bc], .int .i64 er]) ∧ (o.kind = 1 → st = (m.take o.u).2.st ∧ cd = (m.take o.u).2.code) ∧ (o.kind = 2 → er = (m.dec (o.ep, o.num) o.code).2) ∧
    ∃ S', GoesX w w' (i + 1) x S' (m.play o) ∧ Turn S S' w1 w'
theorem GoesX.does {w w1 : World} {i x : Nat} {S : Nat → Prop} {m : IM} (h : GoesX w w1 i x S m) (o : OpI) {dv gv : Value} (hu : URd w1 o.u dv gv) (f1 : o.u.data ≠ [] → ∀ b, dv.ownBlock = some b → b < w.heap.size) (hi : i ≤ 1099511627776) :
    Calls Try.prog 22 #[.pointer (some ⟨x, 0, none⟩), opv o dv gv] w1 fun e w' => DoesX w w1 w' i x S m o e := by
  obtain ⟨dp, dc, rfl, -⟩ := id hu.dat
  obtain ⟨gp, gc, rfl, -⟩ := id hu.got
  refine (does_any h.inb o dp gp dc gc hu.dat (fun hn b e hs => ?_) (by omega)).mono ?_
  · have := f1 hn b e; have := h.new b hs; omega
  · rintro e w' ⟨st, cd, er, ga, gn, gc, ba, bn, bc, h1, h2, h3, S', h4, h5⟩
    exact ⟨st, cd, er, ga, gn, gc, ba, bn, bc, h1, h2, h3, S', h.turn h4 h5, h5⟩
end Go.Proofs.Ytfaemjlemaclbaa
