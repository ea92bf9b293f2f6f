/- Take on both, one behind the other, with what is laid in between. -/
import Derived.Test.YtfaemjlemaclbaaGreatMITakeE
import Derived.Test.YtfaemjlemaclbaaGreatMIPlays
namespace Go.Proofs.YtfaemjlemaclbaaGreat
set_option linter.unusedVariables false
set_option linter.unusedSimpArgs false
open Go.RowKit Go.Maps
/-- the program's inbox has taken the unit, the document's has not. -/
structure MidD (w w1 : World) (x d n : Nat) (S : Nat → Prop) (m m' : IM) (Si Sr : Nat → Prop) : Prop where
  pin : In w1 x Si n m'
  rin : RIn w1 d Sr m
  ne : ∀ b, Si b → ¬ Sr b
  sub : ∀ b, Sr b → S b
  same : Same S w w1
  foot : ∀ b, Si b → S b ∨ w.heap.size ≤ b
theorem MidD.later {w w1 w2 : World} {x d n : Nat} {S : Nat → Prop} {m m' : IM} {Si Sr : Nat → Prop} (h : MidD w w1 x d n S m m' Si Sr) (hb : Below w1.heap.size w1 w2) : MidD w w2 x d n S m m' Si Sr :=
  ⟨h.pin.later hb, h.rin.later hb, h.ne, h.sub, h.same.trans (Same.of_below hb no) fun _ _ e => e.elim, h.foot⟩
def Took1 (w w1 : World) (x d n : Nat) (S : Nat → Prop) (m m' : IM) (a : Ans) (e : Ending) : Prop :=
  ∃ gv bv Si Sr, e = .returned (.agg #[.int .i64 a.st, .int .i64 a.code, gv, bv]) ∧ w1.ownsRow w.heap.size 63 2 gv a.got.length (rvs a.got) ∧
    w1.ownsRow w.heap.size 5 1 bv a.blk.length (a.blk.map ub) ∧ MidD w w1 x d (n + 1) S m m' Si Sr ∧ ∀ b, gv.ownBlock = some b ∨ bv.ownBlock = some b → ¬ Si b
theorem duo_take1 {w : World} {x d n : Nat} {S : Nat → Prop} {m : IM} (h : IDuo w x d S n m) (u : UD) (dp gp : Option Addr) (dc gc : Nat) (hd : Bs w (.slice dp u.data.length dc) u.data)
    (hdn : u.data ≠ [] → ∀ b, (Value.slice dp u.data.length dc).ownBlock = some b → ¬ S b) (hn : n < 4611686018427387904) :
    Calls Tryz.prog 14 #[.pointer (some ⟨x, 0, none⟩), uv u (.slice dp u.data.length dc) (.slice gp u.got.length gc)] w fun e w' => Took1 w w' x d n S m (m.take u).1 (m.take u).2 e := by
  obtain ⟨Si, Sr, h1, h2, h3, h4⟩ := h
  refine (in_take' h1 u dp gp dc gc hd (fun hne b e hb => hdn hne b e ((h4 b).1 (.inl hb))) hn).mono ?_
  rintro e w1 ⟨gv, bv, rfl, hg, hb, Si', hi', ti, hno⟩
  obtain ⟨r1, r2⟩ := ti.rin h3 h2
  exact ⟨gv, bv, Si', Sr, rfl, hg, hb, ⟨hi', r1, r2, fun b hb => (h4 b).1 (.inr hb), ti.same.mono fun b _ hb => (h4 b).1 (.inl hb), fun b hb => (ti.foot b hb).imp (fun e => (h4 b).1 (.inl e)) id⟩, hno⟩
def Took2 (w w1 w2 : World) (x d n : Nat) (S Si : Nat → Prop) (m' : IM) (a : Ans) (e : Ending) : Prop :=
  ∃ gv bv S', e = .returned (.agg #[.int .i64 a.st, .int .i64 a.code, gv, bv]) ∧ Rgs w2 gv a.got ∧ w2.ownsRow w1.heap.size 5 1 bv a.blk.length (a.blk.map ub) ∧ IDuo w2 x d S' n m' ∧ Turn S S' w w2 ∧ Same S w1 w2 ∧ ∀ b, S' b → Si b ∨ S b ∨ w1.heap.size ≤ b
theorem duo_take2 {w w1 : World} {x d n : Nat} {S : Nat → Prop} {m : IM} {Si Sr : Nat → Prop} {u : UD} (h : MidD w w1 x d n S m (m.take u).1 Si Sr) (hi : IInv m) (dp gp : Option Addr) (dc gc : Nat) (hd : Bs w1 (.slice dp u.data.length dc) u.data)
    (hdn : u.data ≠ [] → ∀ b, (Value.slice dp u.data.length dc).ownBlock = some b → b < w1.heap.size ∧ ¬ S b) :
    Calls Tryz.prog 15 #[.pointer (some ⟨d, 0, none⟩), uv u (.slice dp u.data.length dc) (.slice gp u.got.length gc)] w1 fun e w' => Took2 w w1 w' x d n S Si (m.take u).1 (m.take u).2 e := by
  refine (ri_take h.rin hi u dp gp dc gc hd (fun hne b e => ⟨(hdn hne b e).1, fun hb => (hdn hne b e).2 (h.sub b hb)⟩)).mono ?_
  rintro e w2 ⟨gv, bv, rfl, hg, hb, Sr', hr', tr⟩
  obtain ⟨p1, p2⟩ := tr.pin h.ne h.pin
  refine ⟨gv, bv, fun b => Si b ∨ Sr' b, rfl, ?_, ?_, ⟨Si, Sr', p1, hr', p2, fun b => Iff.rfl⟩, ⟨h.same.trans tr.same fun i _ e => h.sub i e, fun b hb => ?_⟩, tr.same.mono fun b _ hb => h.sub b hb, fun b hb => ?_⟩
  · exact Rd.of_own hg
  · exact hb
  · rcases hb with hb | hb
    · exact h.foot b hb
    · rcases tr.foot b hb with e | e
      · exact .inl (h.sub b e)
      · exact .inr (Nat.le_trans h.same.size e)
  · rcases hb with hb | hb
    · exact .inl hb
    · rcases tr.foot b hb with e | e
      · exact .inr (.inl (h.sub b e))
      · exact .inr (.inr e)
end Go.Proofs.YtfaemjlemaclbaaGreat
