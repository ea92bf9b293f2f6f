/- IOwnG, IOwnM: joined. -/
import Derived.Test.YtfaemjlemaclbaaGreatMIOwnL
import Derived.Test.YtfaemjlemaclbaaGreatMITwice
import Derived.Test.YtfaemjlemaclbaaGreatMIWithin
import Derived.Test.YtfaemjlemaclbaaGreatMIHolds
section
/- InboxOwn: both inboxes and all that is kept. -/
namespace Go.Proofs.YtfaemjlemaclbaaGreat
set_option linter.unusedVariables false
set_option linter.unusedSimpArgs false
open Go.RowKit Go.Maps
abbrev KByt (S : Nat → Prop) (base : Nat) (wr : World) (bv : Value) (bs : List Value) (Bt : List (List UInt8)) : Prop := Kept S 32 5 1 base wr bv bs (Bt.map fun b => (b.length, b.map ub))
abbrev KGot (S : Nat → Prop) (base : Nat) (wr : World) (gv : Value) (gs : List Value) (Gs : List (List (Int × Int))) : Prop := Kept S 33 63 2 base wr gv gs (Gs.map fun g => (g.length, rvs g))
abbrev KLst (S : Nat → Prop) (base : Nat) (wr : World) (lv : Value) (ls : List Value) (Ls : List (List Sess)) : Prop := Kept S 50 66 2 base wr lv ls (Ls.map fun l => (l.length, l.flatMap sc))
structure OwnG (w wr : World) (k x d : Nat) (S : Nat → Prop) (m : IM) (bv tv gv lv : Value) (bs gs ls : List Value) (Bt : List (List UInt8)) (Gs : List (List (Int × Int))) (Ls : List (List Sess)) : Prop where
  go : GoesI w wr k x d S m
  byt : KByt S w.heap.size wr bv bs Bt
  txt : KeptT S w.heap.size wr tv Bt
  got : KGot S w.heap.size wr gv gs Gs
  lst : KLst S w.heap.size wr lv ls Ls
  b1 : ∀ b ∈ Bt, b.length ≤ 65536
  g1 : ∀ g ∈ Gs, g.length ≤ 64
  l1 : ∀ l ∈ Ls, l.length ≤ 4097
section
variable {w wr w' : World} {k x d : Nat} {S S' : Nat → Prop} {m m' : IM} {bv tv gv lv : Value} {bs gs ls : List Value} {Bt : List (List UInt8)} {Gs : List (List (Int × Int))} {Ls : List (List Sess)}
theorem OwnG.later (h : OwnG w wr k x d S m bv tv gv lv bs gs ls Bt Gs Ls) (hb : Below wr.heap.size wr w') : OwnG w w' k x d S m bv tv gv lv bs gs ls Bt Gs Ls :=
  ⟨h.go.later hb, h.byt.later hb, h.txt.later hb, h.got.later hb, h.lst.later hb, h.b1, h.g1, h.l1⟩
theorem OwnG.turn (h : OwnG w wr k x d S m bv tv gv lv bs gs ls Bt Gs Ls) (hg : GoesI w w' (k + 1) x d S' m') (t : Turn S S' wr w') : OwnG w w' (k + 1) x d S' m' bv tv gv lv bs gs ls Bt Gs Ls :=
  ⟨hg, h.byt.turn t, h.txt.turn t, h.got.turn t, h.lst.turn t, h.b1, h.g1, h.l1⟩
theorem OwnG.start {w w1 : World} {x d : Nat} {S : Nat → Prop} {m : IM} (h : GoesI w w1 0 x d S m) : OwnG w w1 0 x d S m (.slice none 0 0) (.slice none 0 0) (.slice none 0 0) (.slice none 0 0) [] [] [] [] [] [] :=
  ⟨h, Kept.nil _ _ _ _ _ _, ⟨World.ownsRow_nil _ _ _ _, fun b _ e => by cases e⟩, Kept.nil _ _ _ _ _ _, Kept.nil _ _ _ _ _ _, fun b hb => (by cases hb), fun b hb => (by cases hb), fun b hb => (by cases hb)⟩
end
/-- kept where the rows of a list of another type are written. -/
theorem Kept.past {S : Nat → Prop} {O E O' E' : TypeId} {sz sz' base : Nat} {wr w' : World} {lv lv' : Value} {vs vs' : List Value} {Rs Rs' : List (Nat × List Value)} (h : Kept S O E sz base wr lv vs Rs) (h' : LG O' E' sz' base wr lv' vs' Rs') (hs : Same (Foot vs') wr w') (n1 : O ≠ E') (n2 : E ≠ E') : Kept S O E sz base w' lv vs Rs :=
  ⟨h.lg.far hs (fun ho c hc ⟨x, hx, e⟩ => by
    obtain ⟨i, hi⟩ := List.getElem?_of_mem hx
    rcases own_ne ho (h'.rows.own i x hi) n1 with q | q
    · rw [q] at hc; cases hc
    · exact q (hc.trans e.symm)) (fun ho c hc ⟨x, hx, e⟩ => by
    obtain ⟨i, hi⟩ := List.getElem?_of_mem hx
    rcases own_ne ho (h'.rows.own i x hi) n2 with q | q
    · rw [q] at hc; cases hc
    · exact q (hc.trans e.symm)), h.clear⟩
/-- the inboxes where such rows are written. -/
theorem GoesI.past {w wr w' : World} {k x d : Nat} {S : Nat → Prop} {m : IM} {O E : TypeId} {sz : Nat} {lv : Value} {vs : List Value} {Rs : List (Nat × List Value)} (h : GoesI w wr k x d S m) (h' : Kept S O E sz w.heap.size wr lv vs Rs) (hs : Same (Foot vs) wr w') : GoesI w w' k x d S m :=
  ⟨h.duo.same hs fun b hb => (h'.clear b hb).2, h.below.trans (hs.belowB fun i hi => ⟨Nat.lt_of_lt_of_le hi h.below.size, fun e => by have := (h'.lt i (.inr e)).1; omega⟩), h.new⟩
theorem GoesI.plays2 {w w1 : World} {i x d : Nat} {S : Nat → Prop} {m : IM} (h : GoesI w w1 i x d S m) (o : OpI) {dv gv : Value} (hu : URd w1 o.u dv gv) (f1 : o.u.data ≠ [] → ∀ b, dv.ownBlock = some b → b < w.heap.size) (f2 : o.u.got ≠ [] → ∀ b, gv.ownBlock = some b → b < w.heap.size) (hi : i ≤ 4398046511104) :
    Calls Tryz.prog 11 #[.pointer (some ⟨x, 0, none⟩), .pointer (some ⟨d, 0, none⟩), opv o dv gv] w1 fun e w' => e = .returned (.bool true) ∧ ∃ S', GoesI w w' (i + 1) x d S' (m.play o) := by
  refine (iplays_any h.duo o dv gv hu.dat hu.got (fun hn b e => ⟨Nat.lt_of_lt_of_le (f1 hn b e) h.below.size, fun hs => ?_⟩) (fun hn b e => ⟨Nat.lt_of_lt_of_le (f2 hn b e) h.below.size, fun hs => ?_⟩) hu.l1 hu.l2 (by omega)).mono ?_
  · have := f1 hn b e; have := h.new b hs; omega
  · have := f2 hn b e; have := h.new b hs; omega
  · rintro e w' ⟨rfl, S', h1, h2⟩
    exact ⟨rfl, S', h.turn h1 h2⟩
theorem OwnG.plays {w w1 : World} {i x d : Nat} {S : Nat → Prop} {m : IM} {bv tv gv0 lv : Value} {bs gs ls : List Value} {Bt : List (List UInt8)} {Gs : List (List (Int × Int))} {Ls : List (List Sess)} (h : OwnG w w1 i x d S m bv tv gv0 lv bs gs ls Bt Gs Ls) (o : OpI) {dv gv : Value} (hu : URd w1 o.u dv gv) (f1 : o.u.data ≠ [] → ∀ b, dv.ownBlock = some b → b < w.heap.size) (f2 : o.u.got ≠ [] → ∀ b, gv.ownBlock = some b → b < w.heap.size) (hi : i ≤ 4398046511104) :
    Calls Tryz.prog 11 #[.pointer (some ⟨x, 0, none⟩), .pointer (some ⟨d, 0, none⟩), opv o dv gv] w1 fun e w' => e = .returned (.bool true) ∧ ∃ S', OwnG w w' (i + 1) x d S' (m.play o) bv tv gv0 lv bs gs ls Bt Gs Ls := by
  refine (iplays_any h.go.duo o dv gv hu.dat hu.got (fun hn b e => ⟨Nat.lt_of_lt_of_le (f1 hn b e) h.go.below.size, fun hs => ?_⟩) (fun hn b e => ⟨Nat.lt_of_lt_of_le (f2 hn b e) h.go.below.size, fun hs => ?_⟩) hu.l1 hu.l2 (by omega)).mono ?_
  · have := f1 hn b e; have := h.go.new b hs; omega
  · have := f2 hn b e; have := h.go.new b hs; omega
  · rintro e w' ⟨rfl, S', h1, h2⟩
    exact ⟨rfl, S', h.turn (h.go.turn h1 h2) h2⟩
/-- three more lists of sessions. -/
theorem OwnG.lst3 {w w1 W w7 : World} {k x d b1 b2 b3 : Nat} {S : Nat → Prop} {m : IM} {bv tv gv lv lv' : Value} {bs gs ls : List Value} {Bt : List (List UInt8)} {Gs : List (List (Int × Int))} {Ls : List (List Sess)} (h : OwnG w w1 k x d S m bv tv gv lv bs gs ls Bt Gs Ls) (hB : Below w1.heap.size w1 W) {x1 x2 x3 : Value} {l1 l2 l3 : List Sess}
    (h1 : W.ownsRow w1.heap.size 66 2 x1 l1.length (l1.flatMap sc)) (h2 : W.ownsRow b2 66 2 x2 l2.length (l2.flatMap sc)) (h3 : W.ownsRow b3 66 2 x3 l3.length (l3.flatMap sc))
    (e1 : w1.heap.size ≤ b2) (e2 : b2 ≤ b3) (f1 : ∀ b, x1.ownBlock = some b → b < b2) (f2 : ∀ b, x2.ownBlock = some b → b < b3) (n1 : l1.length ≤ 4097) (n2 : l2.length ≤ 4097) (n3 : l3.length ≤ 4097)
    (ho : w7.ownsRow w.heap.size 50 1 lv' (ls.length + 3) (ls ++ [x1, x2, x3])) (hg : W.grownBy w7 lv.ownBlock) (hN : Newer W lv lv') : OwnG w w7 k x d S m bv tv gv lv' bs gs (ls ++ [x1, x2, x3]) Bt Gs (Ls ++ [l1, l2, l3]) := by
  have hW := h.later hB
  obtain ⟨u1, u2⟩ := hW.lst.under hg
  have hlow : ∀ b, S b → b < w1.heap.size := fun b hb => h.go.duo.lt hb
  have hz := hB.size
  have hrows := rows_cons (R := (l1.length, l1.flatMap sc)) h1 e1 f1 (rows_cons (R := (l2.length, l2.flatMap sc)) h2 e2 f2 (rows1 (R := (l3.length, l3.flatMap sc)) h3))
  have hfresh : ∀ b, S b → ¬ Foot [x1, x2, x3] b := fun b hb ⟨y, hy, e⟩ => by
    have := hlow b hb
    simp only [List.mem_cons, List.not_mem_nil, or_false] at hy
    rcases hy with rfl | rfl | rfl
    · have := (h1.lt b e).1; omega
    · have := (h2.lt b e).1; omega
    · have := (h3.lt b e).1; omega
  have hl := Kept.app (xs := [x1, x2, x3]) (Xs := [(l1.length, l1.flatMap sc), (l2.length, l2.flatMap sc), (l3.length, l3.flatMap sc)]) hW.lst hrows rfl (fun b hb => (h.lst.lg.foot_lt b hb).2) h.go.below.size (by decide) hfresh (fun b hb => Nat.lt_of_lt_of_le (hlow b hb) hz) ho hg hN
  refine ⟨⟨hW.go.duo.same u1 u2, hW.go.below.trans (u1.belowB fun i hi => ⟨Nat.lt_of_lt_of_le hi hW.go.below.size, fun e => by have := (hW.lst.lt i (.inl e)).1; omega⟩), hW.go.new⟩, hW.byt.other hW.lst.lg.own hg (by decide) (by decide), hW.txt.other hW.lst.lg.own hg (by decide), hW.got.other hW.lst.lg.own hg (by decide) (by decide), ?_, h.b1, h.g1, ?_⟩
  · have e : (Ls ++ [l1, l2, l3]).map (fun l => (l.length, l.flatMap sc)) = Ls.map (fun l => (l.length, l.flatMap sc)) ++ [(l1.length, l1.flatMap sc), (l2.length, l2.flatMap sc), (l3.length, l3.flatMap sc)] := by simp
    show Kept S _ _ 2 _ _ _ _ ((Ls ++ [l1, l2, l3]).map _)
    rw [e]
    exact hl
  · intro l hl
    rcases List.mem_append.1 hl with hl | hl
    · exact h.l1 l hl
    · simp only [List.mem_cons, List.not_mem_nil, or_false] at hl
      rcases hl with rfl | rfl | rfl
      · exact n1
      · exact n2
      · exact n3
theorem lens_le {α : Type} {L : List α} {len : α → Nat} {g : α → List Value} {M : Nat} (h : ∀ b ∈ L, len b ≤ M) (i : Nat) : ((L.map fun b => (len b, g b)).getD i (0, [])).1 ≤ M := by
  rw [List.getD_eq_getElem?_getD, List.getElem?_map]
  cases hb : L[i]? with
  | none => exact Nat.zero_le _
  | some b => exact h b (List.mem_of_getElem? hb)
end Go.Proofs.YtfaemjlemaclbaaGreat
end
section
/- InboxOwn: one more block, text and list of ranges. -/
namespace Go.Proofs.YtfaemjlemaclbaaGreat
set_option linter.unusedVariables false
set_option linter.unusedSimpArgs false
open Go.RowKit Go.Maps
theorem El.txts : El Tryz.prog 41 9 (.string ByteArray.empty) 1 16 := ⟨Tryz.underlying41, by kernel_rfl, rfl, by decide, by decide⟩
theorem flats_len {L : List (List UInt8)} (h : ∀ p ∈ L, p.length ≤ 1024) : L.flatten.length ≤ L.length * 1024 := by
  induction L with
  | nil => simp
  | cons a L ih =>
    have h1 := h a (List.mem_cons_self ..)
    have h2 := ih fun p hp => h p (List.mem_cons_of_mem _ hp)
    rw [List.flatten_cons, List.length_append, List.length_cons]
    omega
theorem ansOf_lens {b : BoxS} (h : Known b) : (ansOf b).got.length ≤ 64 ∧ (ansOf b).blk.length ≤ 65536 := by
  refine ⟨ansOf_len b h.good.fine.hi, ?_⟩
  have h1 := flats_len h.good.ls_le
  rw [h.good.ls_len] at h1
  have h2 := h.good.fine.hi
  have h3 : (b.ps.take b.cnt).flatten.length ≤ b.cnt * 1024 := h1
  have h4 : (b.ps.take b.cnt).flatten.length ≤ 65536 := by omega
  unfold ansOf
  split
  · show (blockOf b).length ≤ 65536
    unfold blockOf
    split
    · exact h4
    · first | exact h4 | exact Nat.zero_le _
  · exact Nat.zero_le _
theorem ans_lens {m : IM} (h : IInv m) (u : UD) : (m.take u).2.got.length ≤ 64 ∧ (m.take u).2.blk.length ≤ 65536 := by
  unfold IM.take
  split
  · simp
  · next hd =>
    have hdat := Decidable.not_not.1 hd
    split
    · simp
    · unfold IM.late
      split
      · simp
      · unfold IM.seg
        split
        · split
          · exact ansOf_lens (known_put (Known.new hdat.2.2.2) _ _)
          · simp
        · next b hl =>
          split
          · exact ansOf_lens (known_put ((h.rise u.ep).box _ (lk_mem hl)) _ _)
          · simp
/-- as OwnG, the texts of a list of their own. -/
structure OwnM (w wr : World) (k x d : Nat) (S : Nat → Prop) (m : IM) (bv tv gv lv : Value) (bs gs ls : List Value) (Bt Tt : List (List UInt8)) (Gs : List (List (Int × Int))) (Ls : List (List Sess)) : Prop where
  go : GoesI w wr k x d S m
  byt : KByt S w.heap.size wr bv bs Bt
  txt : KeptT S w.heap.size wr tv Tt
  got : KGot S w.heap.size wr gv gs Gs
  lst : KLst S w.heap.size wr lv ls Ls
  b1 : ∀ b ∈ Bt, b.length ≤ 65536
  g1 : ∀ g ∈ Gs, g.length ≤ 64
  l1 : ∀ l ∈ Ls, l.length ≤ 4097
section
variable {w wr W w' w7 : World} {k x d : Nat} {S S' : Nat → Prop} {m m' : IM} {bv tv gv lv bv' tv' gv' : Value} {bs gs ls : List Value} {Bt Tt : List (List UInt8)} {Gs : List (List (Int × Int))} {Ls : List (List Sess)}
theorem OwnG.mid (h : OwnG w wr k x d S m bv tv gv lv bs gs ls Bt Gs Ls) : OwnM w wr k x d S m bv tv gv lv bs gs ls Bt Bt Gs Ls := ⟨h.go, h.byt, h.txt, h.got, h.lst, h.b1, h.g1, h.l1⟩
theorem OwnM.fin (h : OwnM w wr k x d S m bv tv gv lv bs gs ls Bt Bt Gs Ls) : OwnG w wr k x d S m bv tv gv lv bs gs ls Bt Gs Ls := ⟨h.go, h.byt, h.txt, h.got, h.lst, h.b1, h.g1, h.l1⟩
theorem OwnM.later (h : OwnM w wr k x d S m bv tv gv lv bs gs ls Bt Tt Gs Ls) (hb : Below wr.heap.size wr w') : OwnM w w' k x d S m bv tv gv lv bs gs ls Bt Tt Gs Ls :=
  ⟨h.go.later hb, h.byt.later hb, h.txt.later hb, h.got.later hb, h.lst.later hb, h.b1, h.g1, h.l1⟩
/-- the inboxes where an owned row grows that is none of theirs. -/
theorem GoesI.grown {base n sz : Nat} {E : TypeId} {v : Value} {xs : List Value} (h : GoesI w W k x d S m) (ho : W.ownsRow w.heap.size E sz v n xs) (hS : ∀ b, S b → v.ownBlock ≠ some b) (hg : W.grownBy w7 v.ownBlock) : GoesI w w7 k x d S m :=
  ⟨h.duo.same (Same.of_grown hg) fun b hb e => hS b hb e.symm, h.below.trans ((Same.of_grown hg).belowB fun i hi => ⟨Nat.lt_of_lt_of_le hi h.below.size, fun e => by have := (ho.lt i e.symm).1; omega⟩), h.new⟩
theorem OwnM.byt1 {b1 : Nat} (h : OwnM w W k x d S m bv tv gv lv bs gs ls Bt Tt Gs Ls) {x1 : Value} {l : List UInt8} (hx : W.ownsRow b1 5 1 x1 l.length (l.map ub)) (hlow : ∀ b, Foot bs b → b < b1) (hw : w.heap.size ≤ b1) (hS : ∀ b, S b → x1.ownBlock ≠ some b) (n1 : l.length ≤ 65536)
    (ho : w7.ownsRow w.heap.size 32 1 bv' (bs.length + 1) (bs ++ [x1])) (hg : W.grownBy w7 bv.ownBlock) (hN : Newer W bv bv') : OwnM w w7 k x d S m bv' tv gv lv (bs ++ [x1]) gs ls (Bt ++ [l]) Tt Gs Ls := by
  have ob := h.byt.lg.own
  have hl := Kept.app (xs := [x1]) (Xs := [(l.length, l.map ub)]) h.byt (rows1 (R := (l.length, l.map ub)) hx) rfl hlow hw (by decide) (fun b hb ⟨y, hy, e⟩ => by
    rw [List.mem_singleton] at hy
    subst hy
    exact hS b hb e) (fun b hb => h.go.duo.lt hb) ho hg hN
  refine ⟨h.go.grown (base := 0) ob (fun b hb => (h.byt.clear b hb).1) hg, ?_, h.txt.other ob hg (by decide), h.got.other ob hg (by decide) (by decide), h.lst.other ob hg (by decide) (by decide), ?_, h.g1, h.l1⟩
  · show Kept S _ _ 1 _ _ _ _ ((Bt ++ [l]).map _)
    rw [List.map_append]
    exact hl
  · intro b hb
    rcases List.mem_append.1 hb with hb | hb
    · exact h.b1 b hb
    · rw [List.mem_singleton] at hb
      rw [hb]; exact n1
theorem OwnM.txt1 (h : OwnM w W k x d S m bv tv gv lv bs gs ls Bt Tt Gs Ls) {l : List UInt8}
    (ho : w7.ownsRow w.heap.size 9 1 tv' (Tt.length + 1) (Tt.map (fun t => .string (str t)) ++ [.string (str l)])) (hg : W.grownBy w7 tv.ownBlock) (hN : Newer W tv tv') : OwnM w w7 k x d S m bv tv' gv lv bs gs ls Bt (Tt ++ [l]) Gs Ls := by
  have ob := h.txt.own
  refine ⟨h.go.grown (base := 0) ob (fun b hb => h.txt.clear b hb) hg, h.byt.other ob hg (by decide) (by decide), ⟨?_, fun b hb e => ?_⟩, h.got.other ob hg (by decide) (by decide), h.lst.other ob hg (by decide) (by decide), h.b1, h.g1, h.l1⟩
  · rw [List.length_append, List.map_append]
    exact ho
  · rcases hN with q | ⟨j, q, hj⟩
    · exact h.txt.clear b hb (q.symm.trans e)
    · have := h.go.duo.lt hb
      have : j = b := by rw [q] at e; exact Option.some.inj e
      omega
theorem OwnM.got1 {b1 : Nat} (h : OwnM w W k x d S m bv tv gv lv bs gs ls Bt Tt Gs Ls) {x1 : Value} {l : List (Int × Int)} (hx : W.ownsRow b1 63 2 x1 l.length (rvs l)) (hlow : ∀ b, Foot gs b → b < b1) (hw : w.heap.size ≤ b1) (hS : ∀ b, S b → x1.ownBlock ≠ some b) (n1 : l.length ≤ 64)
    (ho : w7.ownsRow w.heap.size 33 1 gv' (gs.length + 1) (gs ++ [x1])) (hg : W.grownBy w7 gv.ownBlock) (hN : Newer W gv gv') : OwnM w w7 k x d S m bv tv gv' lv bs (gs ++ [x1]) ls Bt Tt (Gs ++ [l]) Ls := by
  have ob := h.got.lg.own
  have hl := Kept.app (xs := [x1]) (Xs := [(l.length, rvs l)]) h.got (rows1 (R := (l.length, rvs l)) hx) rfl hlow hw (by decide) (fun b hb ⟨y, hy, e⟩ => by
    rw [List.mem_singleton] at hy
    subst hy
    exact hS b hb e) (fun b hb => h.go.duo.lt hb) ho hg hN
  refine ⟨h.go.grown (base := 0) ob (fun b hb => (h.got.clear b hb).1) hg, h.byt.other ob hg (by decide) (by decide), h.txt.other ob hg (by decide), ?_, h.lst.other ob hg (by decide) (by decide), h.b1, ?_, h.l1⟩
  · show Kept S _ _ 2 _ _ _ _ ((Gs ++ [l]).map _)
    rw [List.map_append]
    exact hl
  · intro b hb
    rcases List.mem_append.1 hb with hb | hb
    · exact h.g1 b hb
    · rw [List.mem_singleton] at hb
      rw [hb]; exact n1
end
end Go.Proofs.YtfaemjlemaclbaaGreat
end
