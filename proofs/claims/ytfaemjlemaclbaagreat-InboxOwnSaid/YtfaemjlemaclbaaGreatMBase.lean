/- Base, Class, LMap, Types, CutP, ElR, Rgs, SortOwn, Cmp, Shelf, Sort, Turn, RefLen, Parts, Codec, Codecs, CodecR: joined. -/
import Derived.WalkKit
import Derived.WalkSpells
import Derived.WalkLawsBesides
import Derived.Laws.CopyOwn
import Derived.Deep.AppendLies
import Derived.Deep.Draws
import Derived.Maps.AppendAt
import Derived.Lib.Hide
import Derived.KernelRfl
import Derived.BigQuiet
import Derived.Deep.QuietTactic
import Derived.Test.YtfaemjlemaclbaaGreatProg
import Derived.Maps.OwnSet
import Derived.Maps.RangeWalk
import Derived.Lib.AppendStr
import Derived.Shelf.GgSortFunc.InsertionK
import Derived.Sort.Grow
import Derived.Shelf.SlicesG.Cmp
import Derived.Shelf.SlSortCmp.NoneTotal
import Derived.Ground.SlsfProg
import Derived.ProofKit
import Derived.Deep.Slices
section
/- Words on worlds, blocks and slices for the walks of this seat; nothing of the program in it. -/
namespace Go.Proofs.YtfaemjlemaclbaaGreat
set_option linter.unusedVariables false
set_option linter.unusedSimpArgs false
open Go.RowKit

theorem ret_congr {v v' : Value} (h : v = v') : Ending.returned v = Ending.returned v' := by rw [h]

/-! ### Worlds that part from one another at the blocks S alone, and by new blocks -/
structure Same (S : Nat → Prop) (w w' : World) : Prop where
  os : w'.os = w.os
  tape : w'.tape = w.tape
  output : w'.output = w.output
  size : w.heap.size ≤ w'.heap.size
  block : ∀ k, k < w.heap.size → ¬ S k → w'.heap[k]? = w.heap[k]?
def no : Nat → Prop := fun _ => False
def at1 (b : Nat) : Nat → Prop := fun k => k = b
section
variable {S T : Nat → Prop} {a w w' w'' : World}
theorem Same.refl (S : Nat → Prop) (w : World) : Same S w w := ⟨rfl, rfl, rfl, Nat.le_refl _, fun _ _ _ => rfl⟩
theorem Same.trans (h : Same S a w) (k : Same T w w') (hs : ∀ i, i < a.heap.size → T i → S i) : Same S a w' :=
  ⟨k.os.trans h.os, k.tape.trans h.tape, k.output.trans h.output, Nat.le_trans h.size k.size,
    fun i hi hn => (k.block i (Nat.lt_of_lt_of_le hi h.size) (fun ht => hn (hs i hi ht))).trans (h.block i hi hn)⟩
theorem Same.mono (h : Same S a w) (hs : ∀ i, i < a.heap.size → S i → T i) : Same T a w :=
  ⟨h.os, h.tape, h.output, h.size, fun i hi hn => h.block i hi (fun h' => hn (hs i hi h'))⟩
theorem Same.of_below (h : Below w.heap.size w w') (S : Nat → Prop) : Same S w w' := ⟨h.os, h.tape, h.output, h.size, fun i hi _ => h.block i hi⟩
theorem Same.below (h : Same no w w') : Below w.heap.size w w' := ⟨h.os, h.tape, h.output, h.size, fun i hi => h.block i hi (fun h => h)⟩
theorem Same.belowB {B : Nat} (h : Same S w w') (hB : ∀ i, i < B → i < w.heap.size ∧ ¬ S i) : Below B w w' := ⟨h.os, h.tape, h.output, h.size, fun i hi => h.block i (hB i hi).1 (hB i hi).2⟩
theorem Same.of_belowB {B : Nat} (h : Below B w w') : Same (fun k => B ≤ k) w w' := ⟨h.os, h.tape, h.output, h.size, fun i _ hn => h.block i (by omega)⟩
theorem Same.of_grown {row : Option Nat} (h : w.grownBy w' row) : Same (fun k => some k = row) w w' := ⟨h.os, h.tape, h.output, h.size, fun i hi hn => h.block i hi hn⟩
theorem Same.drew (h : Same S a w) : Same S a w.drew := ⟨h.os, h.tape, h.output, h.size, h.block⟩
theorem Same.drewN (h : Same S a w) (n : Nat) : Same S a (w.drewN n) := ⟨h.os, h.tape, h.output, h.size, h.block⟩
theorem Same.alloc (h : Same S a w) (o : Obj) : Same S a (w.alloc o) :=
  ⟨h.os, h.tape, h.output, Nat.le_trans h.size (by simp), fun i hi hn => (Below.heap_alloc w o i (Nat.lt_of_lt_of_le hi h.size)).trans (h.block i hi hn)⟩
theorem Same.setCell (h : Same S a w) {p : Addr} (hp : p.block < a.heap.size → S p.block) (u : Value) : Same S a (w.setCell p u) :=
  ⟨h.os, h.tape, h.output, by simpa [World.setCell] using h.size, fun i hi hn => (Below.heap_setCell w p u i (fun e => hn (by rw [e]; exact hp (e ▸ hi)))).trans (h.block i hi hn)⟩
theorem Same.setRow (h : Same S a w) {g : Nat} (hp : g < a.heap.size → S g) (cs : Array Value) : Same S a (w.setRow g cs) :=
  ⟨h.os, h.tape, h.output, by simpa [World.setRow] using h.size, fun i hi hn => (setRow_other w g i cs (fun e => hn (by rw [e]; exact hp (e ▸ hi)))).trans (h.block i hi hn)⟩
theorem Same.grown (h : Same S a w) {row : Option Nat} (hg : w.grownBy w' row) (hr : ∀ k, row = some k → k < a.heap.size → S k) : Same S a w' :=
  h.trans (Same.of_grown hg) (fun i hi hs => hr i hs.symm hi)
theorem Same.cell (h : Same S w w') {p : Addr} (hp : p.block < w.heap.size) (hn : ¬ S p.block) : w'.cell? p = w.cell? p := World.cell?_of_block (w := w) (h.block p.block hp hn)
theorem Same.cell_some (h : Same S w w') {p : Addr} {v : Value} (hc : w.cell? p = some v) (hn : ¬ S p.block) : w'.cell? p = some v := (h.cell (World.block_lt_of_cell? _ _ hc) hn).trans hc
theorem Same.frozen (h : Same S w w') {p : Addr} (hp : p.block < w.heap.size) (hn : ¬ S p.block) : w'.frozen? p = w.frozen? p := World.frozen?_of_block (w := w) (h.block p.block hp hn)
theorem grown_pre {row : Option Nat} (hb : Below w.heap.size w w') (hg : w'.grownBy w'' row) : w.grownBy w'' row :=
  ⟨hg.os.trans hb.os, hg.tape.trans hb.tape, hg.output.trans hb.output, Nat.le_trans hb.size hg.size, fun k hk hn => (hg.block k (Nat.lt_of_lt_of_le hk hb.size) hn).trans (hb.block k hk)⟩
theorem below_trans (h : Below w.heap.size w w') (h' : Below w'.heap.size w' w'') : Below w.heap.size w w'' := h.trans (h'.mono h.size)
theorem below_cell {B : Nat} (h : Below B w w') {p : Addr} {v : Value} (hc : w.cell? p = some v) (hp : p.block < B) : w'.cell? p = some v := (h.cell hp).trans hc
end

/-! ### A block that is known whole -/
def Blk (w : World) (g : Nat) (t : TypeId) (cs : List Value) : Prop := w.heap[g]? = some (.cells cs.toArray t (0, 0))
section
variable {S : Nat → Prop} {w w' : World} {g : Nat} {t : TypeId} {cs : List Value}
theorem Blk.lt (h : Blk w g t cs) : g < w.heap.size := (Array.getElem?_eq_some_iff.1 h).1
theorem Blk.cell (h : Blk w g t cs) (i : Nat) : w.cell? ⟨g, i, none⟩ = cs[i]? := by
  have := cell_of_row w g i cs.toArray t (0, 0) h
  simpa using this
theorem Blk.cell_some (h : Blk w g t cs) {i : Nat} {v : Value} (hv : cs[i]? = some v) : w.cell? ⟨g, i, none⟩ = some v := (h.cell i).trans hv
theorem Blk.frozen (h : Blk w g t cs) (i : Nat) : w.frozen? ⟨g, i, none⟩ = false := by
  unfold Blk at h
  simp [World.frozen?, h]
theorem Blk.new (w : World) (t : TypeId) (cs : List Value) : Blk (w.alloc (.cells cs.toArray t)) w.heap.size t cs := heap_alloc_new w _
theorem Blk.drew (h : Blk w g t cs) : Blk w.drew g t cs := h
theorem Blk.drewN (h : Blk w g t cs) (n : Nat) : Blk (w.drewN n) g t cs := h
theorem Blk.alloc (h : Blk w g t cs) (o : Obj) : Blk (w.alloc o) g t cs := (Below.heap_alloc w o g h.lt).trans h
theorem Blk.set (h : Blk w g t cs) (i : Nat) (u : Value) : Blk (w.setCell ⟨g, i, none⟩ u) g t (cs.set i u) := by
  unfold Blk at h ⊢
  simp [World.setCell, Array.getElem?_modify, h]
theorem Blk.far (h : Blk w g t cs) {p : Addr} (hp : g ≠ p.block) (u : Value) : Blk (w.setCell p u) g t cs := (Below.heap_setCell w p u g hp).trans h
theorem Blk.same (h : Blk w g t cs) (hb : Same S w w') (hg : ¬ S g) : Blk w' g t cs := (hb.block g h.lt hg).trans h
theorem Blk.below {B : Nat} (h : Blk w g t cs) (hb : Below B w w') (hg : g < B) : Blk w' g t cs := (hb.block g hg).trans h
theorem Blk.later (h : Blk w g t cs) (hb : Below w.heap.size w w') : Blk w' g t cs := h.below hb h.lt
theorem Blk.grown {row : Option Nat} (h : Blk w g t cs) (hb : w.grownBy w' row) (hg : row ≠ some g) : Blk w' g t cs := (hb.block g h.lt (Ne.symm hg)).trans h
theorem Blk.setRow (h : Blk w g t cs) (ds : List Value) : Blk (w.setRow g ds.toArray) g t ds := setRow_heap w g cs.toArray ds.toArray t _ h
theorem Blk.ne {g' : Nat} {t' : TypeId} {cs' : List Value} (h : Blk w g t cs) (h' : Blk w g' t' cs') (hne : t ≠ t') : g ≠ g' := by
  rintro rfl
  unfold Blk at h h'
  rw [h] at h'
  injection h' with h'
  injection h' with _ ht
  exact hne ht
end

/-! ### A slice that reads as cells -/
def Rd (w : World) (v : Value) (n : Nat) (cs : List Value) : Prop :=
  ∃ ao cap, v = .slice ao n cap ∧ n ≤ cap ∧ cap ≤ maxLen ∧ (cs ≠ [] → ∃ b off, ao = some ⟨b, off, none⟩ ∧ ∀ j u, cs[j]? = some u → w.cell? ⟨b, off + j, none⟩ = some u)
section
variable {S : Nat → Prop} {w w' : World} {v : Value} {n : Nat} {cs : List Value}
theorem Rd.nil (w : World) : Rd w (.slice none 0 0) 0 [] := ⟨none, 0, rfl, Nat.le_refl _, by simp [maxLen], fun h => absurd rfl h⟩
theorem Rd.mk {b off cap : Nat} (hn : n ≤ cap) (hm : cap ≤ maxLen) (h : ∀ j u, cs[j]? = some u → w.cell? ⟨b, off + j, none⟩ = some u) : Rd w (.slice (some ⟨b, off, none⟩) n cap) n cs :=
  ⟨_, cap, rfl, hn, hm, fun _ => ⟨b, off, rfl, h⟩⟩
theorem Rd.empty {ao : Option Addr} {cap : Nat} (hm : cap ≤ maxLen) : Rd w (.slice ao 0 cap) 0 [] := ⟨_, cap, rfl, Nat.zero_le _, hm, fun h => absurd rfl h⟩
theorem Rd.carry (h : Rd w v n cs) (hk : ∀ p u, w.cell? p = some u → v.ownBlock = some p.block → w'.cell? p = some u) : Rd w' v n cs := by
  obtain ⟨ao, cap, rfl, h1, h2, h3⟩ := h
  refine ⟨ao, cap, rfl, h1, h2, fun hc => ?_⟩
  obtain ⟨b, off, rfl, h4⟩ := h3 hc
  exact ⟨b, off, rfl, fun j u hu => hk _ _ (h4 j u hu) rfl⟩
theorem Rd.same (h : Rd w v n cs) (hb : Same S w w') (hS : ∀ b, v.ownBlock = some b → ¬ S b) : Rd w' v n cs :=
  h.carry fun p u hc hv => hb.cell_some hc (hS _ hv)
theorem Rd.later (h : Rd w v n cs) (hb : Below w.heap.size w w') : Rd w' v n cs := h.carry fun _ _ hc _ => below_cell hb hc (World.block_lt_of_cell? _ _ hc)
theorem Rd.below {B : Nat} (h : Rd w v n cs) (hb : Below B w w') (hB : ∀ b, v.ownBlock = some b → b < B) : Rd w' v n cs := h.carry fun _ _ hc hv => below_cell hb hc (hB _ hv)
theorem Rd.drew (h : Rd w v n cs) : Rd w.drew v n cs := h
theorem Rd.drewN (h : Rd w v n cs) (k : Nat) : Rd (w.drewN k) v n cs := h
theorem Rd.alloc (h : Rd w v n cs) (o : Obj) : Rd (w.alloc o) v n cs := h.later ((Below.refl _ _).alloc (Nat.le_refl _) o)
theorem Rd.setCell (h : Rd w v n cs) {p : Addr} (hp : v.ownBlock ≠ some p.block) (u : Value) : Rd (w.setCell p u) v n cs :=
  h.carry fun q x hc hv => (World.cell?_setCell_other w p q u (fun e => hp (by rw [hv, e]))).trans hc
theorem Rd.grown (h : Rd w v n cs) {row : Option Nat} (hg : w.grownBy w' row) (hr : v.ownBlock = none ∨ v.ownBlock ≠ row) : Rd w' v n cs :=
  h.same (Same.of_grown hg) (fun b hb he => by rcases hr with hr | hr; (rw [hb] at hr; cases hr); exact hr (hb.trans he))
theorem Rd.of_blk {g : Nat} {t : TypeId} {cap : Nat} (h : Blk w g t cs) (hn : n ≤ cap) (hm : cap ≤ maxLen) : Rd w (.slice (some ⟨g, 0, none⟩) n cap) n cs :=
  Rd.mk hn hm fun j u hu => by rw [Nat.zero_add]; exact h.cell_some hu
theorem Rd.new (w : World) (t : TypeId) (cs : List Value) (n : Nat) (hm : n ≤ maxLen) : Rd (w.alloc (.cells cs.toArray t)) (.slice (some ⟨w.heap.size, 0, none⟩) n n) n cs :=
  Rd.of_blk (Blk.new w t cs) (Nat.le_refl _) hm
theorem Rd.of_own {base : Nat} {e : TypeId} {size : Nat} (h : w.ownsRow base e size v n cs) : Rd w v n cs := by
  obtain ⟨hl, ⟨rfl, rfl⟩ | ⟨g, cap, cur, rfl, hb, hh, h1, h2, h3, h4⟩⟩ := h
  · have : cs = [] := List.eq_nil_of_length_eq_zero (by simpa using hl)
    subst this
    exact Rd.nil w
  · refine Rd.mk h1 h2 fun j u hu => ?_
    rw [Nat.zero_add]
    have hj : j < n * size := by rw [← hl]; exact (List.getElem?_eq_some_iff.1 hu).1
    have hB : Blk w g e cur.toList := by unfold Blk; simpa using hh
    refine hB.cell_some ?_
    rw [← h4, List.getElem?_take_of_lt hj] at hu
    exact hu
theorem Rd.form (h : Rd w v n cs) (hc : cs ≠ []) : ∃ b off cap, v = .slice (some ⟨b, off, none⟩) n cap ∧ n ≤ cap ∧ cap ≤ maxLen ∧ b < w.heap.size ∧ ∀ j u, cs[j]? = some u → w.cell? ⟨b, off + j, none⟩ = some u := by
  obtain ⟨ao, cap, rfl, h1, h2, h3⟩ := h
  obtain ⟨b, off, rfl, h4⟩ := h3 hc
  refine ⟨b, off, cap, rfl, h1, h2, ?_, h4⟩
  obtain ⟨x, l, rfl⟩ := List.exists_cons_of_ne_nil hc
  exact World.block_lt_of_cell? _ _ (h4 0 x rfl)
theorem Rd.cut {b off : Nat} (hc : ∀ j u, cs[j]? = some u → w.cell? ⟨b, off + j, none⟩ = some u) (s n c : Nat) (hn : n ≤ c) (hm : c ≤ maxLen) :
    Rd w (.slice (some ⟨b, off + s, none⟩) n c) n ((cs.drop s).take n) := by
  refine Rd.mk hn hm fun j u hu => ?_
  rw [List.getElem?_take] at hu
  split at hu
  · rw [List.getElem?_drop] at hu
    rw [Nat.add_assoc]
    exact hc _ u hu
  · cases hu
theorem own_mono {base base' : Nat} {e : TypeId} {size : Nat} (h : w.ownsRow base e size v n cs) (hb : base' ≤ base) : w.ownsRow base' e size v n cs := by
  obtain ⟨hl, h | ⟨g, cap, cur, h1, h2, h3⟩⟩ := h
  · exact ⟨hl, .inl h⟩
  · exact ⟨hl, .inr ⟨g, cap, cur, h1, Nat.le_trans hb h2, h3⟩⟩
theorem own_same {base : Nat} {e : TypeId} {size : Nat} (h : w.ownsRow base e size v n cs) (hb : Same S w w') (hS : ∀ b, v.ownBlock = some b → ¬ S b) : w'.ownsRow base e size v n cs := by
  obtain ⟨hl, h | ⟨g, cap, cur, rfl, h2, h3, h4⟩⟩ := h
  · exact ⟨hl, .inl h⟩
  · exact ⟨hl, .inr ⟨g, cap, cur, rfl, h2, (hb.block g (Array.getElem?_eq_some_iff.1 h3).1 (hS g rfl)).trans h3, h4⟩⟩
theorem own_later {base : Nat} {e : TypeId} {size : Nat} (h : w.ownsRow base e size v n cs) (hb : Below w.heap.size w w') : w'.ownsRow base e size v n cs :=
  own_same h (Same.of_below hb no) (fun _ _ h => h)
theorem own_grow0 {base : Nat} {e : TypeId} {size : Nat} (h : w.ownsRow base e size v n cs) (hg : w.grownBy w' none) : w'.ownsRow base e size v n cs :=
  own_same h (Same.of_grown hg) (fun _ _ h => by cases h)
theorem own_ne {base base' : Nat} {e e' : TypeId} {size size' : Nat} {v' : Value} {n' : Nat} {cs' : List Value} (h : w.ownsRow base e size v n cs) (h' : w.ownsRow base' e' size' v' n' cs') (hne : e ≠ e') :
    v.ownBlock = none ∨ v.ownBlock ≠ v'.ownBlock := by
  obtain ⟨_, ⟨rfl, _⟩ | ⟨g, cap, cur, rfl, _, h3, _⟩⟩ := h
  · exact .inl rfl
  · refine .inr fun he => ?_
    obtain ⟨_, ⟨rfl, _⟩ | ⟨g', cap', cur', rfl, _, h3', _⟩⟩ := h'
    · cases he
    · have : g = g' := by simpa [Value.ownBlock] using he
      subst this
      rw [h3] at h3'
      injection h3' with h3'
      injection h3' with _ ht
      exact hne ht
theorem own_blk_ne {base : Nat} {e : TypeId} {size : Nat} (h : w.ownsRow base e size v n cs) {g : Nat} {t : TypeId} {ds : List Value} (hg : Blk w g t ds) (hne : e ≠ t) : v.ownBlock ≠ some g := by
  obtain ⟨_, ⟨rfl, _⟩ | ⟨g', cap, cur, rfl, _, h3, _⟩⟩ := h
  · intro he; cases he
  · intro he
    have : g' = g := by simpa [Value.ownBlock] using he
    subst this
    unfold Blk at hg
    rw [h3] at hg
    injection hg with hg
    injection hg with _ ht
    exact hne ht
/-- what is owned, as a block: value, capacity, and all the block's cells. -/
theorem own_blk {base : Nat} {e : TypeId} {size : Nat} (h : w.ownsRow base e size v n cs) (hn : 0 < n) :
    ∃ g cap rest, v = .slice (some ⟨g, 0, none⟩) n cap ∧ base ≤ g ∧ n ≤ cap ∧ cap ≤ maxLen ∧ Blk w g e (cs ++ rest) ∧ cs.length + rest.length = cap * size := by
  obtain ⟨hl, ⟨rfl, rfl⟩ | ⟨g, cap, cur, rfl, h2, h3, h4, h5, h6, h7⟩⟩ := h
  · omega
  · refine ⟨g, cap, cur.toList.drop (n * size), rfl, h2, h4, h5, ?_, ?_⟩
    · unfold Blk
      rw [← h7, List.take_append_drop]
      simpa using h3
    · have := Nat.mul_le_mul_right size h4
      rw [hl, List.length_drop, Array.length_toList, h6]
      omega
theorem own_of_blk {base g : Nat} {e : TypeId} {size cap : Nat} {rest : List Value} (h : Blk w g e (cs ++ rest)) (hb : base ≤ g) (hl : cs.length = n * size) (hn : n ≤ cap) (hm : cap ≤ maxLen) (hr : cs.length + rest.length = cap * size) :
    w.ownsRow base e size (.slice (some ⟨g, 0, none⟩) n cap) n cs :=
  ⟨hl, .inr ⟨g, cap, _, rfl, hb, h, hn, hm, by simpa using hr, by simp [← hl]⟩⟩
end

/-! ### Element types, append -/
/-- v' lies where v lay, or in a block that w did not have. -/
def Newer (w : World) (v v' : Value) : Prop := v'.ownBlock = v.ownBlock ∨ ∃ k, v'.ownBlock = some k ∧ w.heap.size ≤ k
structure El (P : Program) (t e : TypeId) (z : Value) (size bytes : Nat) : Prop where
  und : P.underlying t = some (.slice e)
  inf : (P.info? e).map (fun i => (i.zero, i.size, i.bytes)) = some (some z, size, bytes)
  zs : z.cells.size = size
  pos : 0 < size
  bpos : 0 < bytes
theorem Newer.pre {w w' : World} {v v' : Value} (h : Newer w' v v') (hb : w.heap.size ≤ w'.heap.size) : Newer w v v' := h.imp id fun ⟨k, h, hk⟩ => ⟨k, h, Nat.le_trans hb hk⟩
section
variable {P : Program} {t e : TypeId} {z : Value} {size bytes : Nat} {w : World}
theorem own_lt_maxLen {n m : Nat} (hb : 0 < bytes) (h : (n + m) * bytes ≤ 140737488355328) : n + m ≤ maxLen := by
  have := Nat.le_mul_of_pos_right (n + m) hb
  simp only [maxLen]; omega
theorem run_app (E : El P t e z size bytes) (ty : TypeId) {base : Nat} {v : Value} {n : Nat} {xs : List Value} (hown : w.ownsRow base e size v n xs)
    {u : Value} {m : Nat} {news : List Value} (hr : Rd w u m news) (hl : news.length = m * size) (h1 : ∀ x ∈ news, x.oneCell' = true)
    (hb : (n + m) * bytes ≤ 140737488355328) (hbase : base ≤ w.heap.size) :
    ∃ v' w', (Builtin.append_ #[t, t] ty #[v, u]).run P w = .ok v' w' ∧ w'.ownsRow base e size v' (n + m) (xs ++ news) ∧ w.grownBy w' v.ownBlock ∧ (v'.ownBlock = v.ownBlock ∨ v'.ownBlock = some w.heap.size) := by
  obtain ⟨i, hi, hz, hs, hby⟩ := info_parts E.inf
  obtain ⟨ao, cap, rfl, g1, g2, g3⟩ := hr
  by_cases hne : news = []
  · subst hne
    have hm : m = 0 := by
      rcases Nat.eq_zero_or_pos m with h | h
      · exact h
      · have := Nat.mul_pos h E.pos; simp at hl; omega
    subst hm
    cases ao with
    | none =>
      refine ⟨v, w, ?_, by simpa using hown, World.grownBy.refl w _, .inl rfl⟩
      rcases hown.2 with ⟨rfl, rfl⟩ | ⟨g, cap', cur, rfl, _, _, hnc, _⟩
      · simp [Builtin.append_, run_underlying E.und, sizeOf, typeInfo, hi, Builtin.lenOf, Builtin.firstCells]
      · simp [Builtin.append_, run_underlying E.und, sizeOf, typeInfo, hi, Builtin.lenOf, Builtin.firstCells, hnc, storeCells]
    | some a =>
      obtain ⟨v', w', hrun, h2, h3, _, h5⟩ := run_append_own_at (P := P) w base t ty e i z size bytes E.und hi hz hs hby E.zs E.pos v n xs hown a 0 cap [] (by simp) (by simp) (by simp) (own_lt_maxLen E.bpos hb) hb hbase
      exact ⟨v', w', hrun, h2, h3, h5⟩
  · obtain ⟨b, off, rfl, hc⟩ := g3 hne
    obtain ⟨v', w', hrun, h2, h3, _, h5⟩ := run_append_own_at (P := P) w base t ty e i z size bytes E.und hi hz hs hby E.zs E.pos v n xs hown ⟨b, off, none⟩ m cap news hl
      (fun j u hu => by rw [Addr.add_lit]; exact hc j u hu) h1 (own_lt_maxLen E.bpos hb) hb hbase
    exact ⟨v', w', hrun, h2, h3, h5⟩
theorem wp_app (E : El P t e z size bytes) {o : Oper} {a : Act} {K : Act → World → Prop} {Q : Exit → Act → World → Prop} (s x : Operand)
    (ho : o.op = .call { callee := .builtin .append, args := #[s, x], argTypes := #[t, t] }) {base : Nat} {v : Value} {n : Nat} {xs : List Value} (hown : w.ownsRow base e size v n xs) (hs : a.eval s = v)
    {u : Value} {m : Nat} {news : List Value} (hr : Rd w u m news) (hx : a.eval x = u) (hl : news.length = m * size) (h1 : ∀ x ∈ news, x.oneCell' = true)
    (hb : (n + m) * bytes ≤ 140737488355328) (hbase : base ≤ w.heap.size)
    (h : ∀ v' w', w'.ownsRow base e size v' (n + m) (xs ++ news) → w.grownBy w' v.ownBlock → Newer w v v' → K (a.put o.dst v') w') : o.wp P a w K Q := by
  obtain ⟨v', w', hrun, h2, h3, h4⟩ := run_app (P := P) E o.type hown hr hl h1 hb hbase
  unfold Oper.wp execOp
  simp only [ho, resolve, invoke, builtin, Sem.run_bind, Sem.run_pure, Result.andThen_ok, List.map_toArray, List.map_cons, List.map_nil, hs, hx, hrun]
  exact h v' w' h2 h3 (h4.imp id fun h => ⟨_, h, Nat.le_refl _⟩)
/-- append of whatever reads as cells. -/
theorem wpList_app (E : El P t e z size bytes) {ops : Array Oper} {rest : List Oper} {o : Oper} {a : Act} {Q : Exit → Act → World → Prop} (hgd : o.guard = none) (s x : Operand)
    (ho : o.op = .call { callee := .builtin .append, args := #[s, x], argTypes := #[t, t] }) {base : Nat} {v : Value} {n : Nat} {xs : List Value} (hown : w.ownsRow base e size v n xs) (hs : a.eval s = v)
    {u : Value} {m : Nat} {news : List Value} (hr : Rd w u m news) (hx : a.eval x = u) (hl : news.length = m * size) (h1 : ∀ x ∈ news, x.oneCell' = true)
    (hb : (n + m) * bytes ≤ 140737488355328) (hbase : base ≤ w.heap.size)
    (h : ∀ v' w', w'.ownsRow base e size v' (n + m) (xs ++ news) → w.grownBy w' v.ownBlock → Newer w v v' → wpList P ops Q rest (a.put o.dst v') w') : wpList P ops Q (o :: rest) a w :=
  wpList_plain hgd fun _ hK => wp_app E s x ho hown hs hr hx hl h1 hb hbase fun v' w' h2 h3 h4 => hK _ _ (h v' w' h2 h3 h4)
/-- append of whatever reads as cells, as one step of a region that draws its order. -/
theorem step_app (E : El P t e z size bytes) {ops : Array Oper} {o : Oper} {a : Act} {K : Act → World → Prop} {Q : Exit → Act → World → Prop} {F : Prop} (hgd : o.guard = none) (s x : Operand)
    (ho : o.op = .call { callee := .builtin .append, args := #[s, x], argTypes := #[t, t] }) {base : Nat} {v : Value} {n : Nat} {xs : List Value} (hown : w.ownsRow base e size v n xs) (hs : a.eval s = v)
    {u : Value} {m : Nat} {news : List Value} (hr : Rd w u m news) (hx : a.eval x = u) (hl : news.length = m * size) (h1 : ∀ x ∈ news, x.oneCell' = true)
    (hb : (n + m) * bytes ≤ 140737488355328) (hbase : base ≤ w.heap.size)
    (h : ∀ v' w', w'.ownsRow base e size v' (n + m) (xs ++ news) → w.grownBy w' v.ownBlock → Newer w v v' → K (a.put o.dst v') w') :
    if Region.wanted o (yielded ops a.tmps) = true then Oper.wp P o a w K Q else F := by
  have hw : Region.wanted o (yielded ops a.tmps) = true := by simp [Region.wanted, hgd]
  rw [if_pos hw]
  exact wp_app E s x ho hown hs hr hx hl h1 hb hbase h
/-- append of one element, which the walk has just laid into a block of its own. -/
theorem wpList_app1 (E : El P t e z size bytes) {ops : Array Oper} {rest : List Oper} {o : Oper} {a : Act} {Q : Exit → Act → World → Prop} (hgd : o.guard = none) (s x : Operand)
    (ho : o.op = .call { callee := .builtin .append, args := #[s, x], argTypes := #[t, t] }) {base : Nat} {v : Value} {n : Nat} {xs : List Value} (hown : w.ownsRow base e size v n xs) (hs : a.eval s = v)
    {cs : Array Value} (hx : a.eval x = .slice (some ⟨w.heap.size, 0, none⟩) 1 1) (hl : cs.size = size) (h1 : ∀ x ∈ cs.toList, x.oneCell' = true)
    (hb : (n + 1) * bytes ≤ 140737488355328) (hbase : base ≤ w.heap.size)
    (h : ∀ v' w', w'.ownsRow base e size v' (n + 1) (xs ++ cs.toList) → w.grownBy w' v.ownBlock → Newer w v v' → wpList P ops Q rest (a.put o.dst v') w') : wpList P ops Q (o :: rest) a (w.alloc (.cells cs e)) := by
  have hr := Rd.new w e cs.toList 1 (by simp [maxLen])
  rw [Array.toArray_toList] at hr
  refine wpList_app E hgd s x ho (hown.alloc _) hs hr hx (by simp [hl]) h1 hb (by simp; omega) fun v' w' h2 h3 h4 => h v' w' h2 ⟨h3.os, h3.tape, h3.output, Nat.le_trans (by simp) h3.size, fun k hk hne => ?_⟩ ?_
  · exact (h3.block k (by simp; omega) hne).trans (Below.heap_alloc w _ k hk)
  · exact h4.imp id fun ⟨k, h, hk⟩ => ⟨k, h, by simp at hk; omega⟩
/-- make([]T, n), an element of one cell. -/
theorem wpList_mk1 {P : Program} {t e : TypeId} {z : Value} {bytes : Nat} {w : World} (E : El P t e z 1 bytes) (hz1 : z.cells = #[z]) {ops : Array Oper} {rest : List Oper} {o : Oper} {a : Act} {Q : Exit → Act → World → Prop} (hg : o.guard = none) (l c : Operand)
    (hop : o.op = .makeSlice t l c) {kl kc : IntKind} {L C : Int} (n : Nat) (hl : a.eval l = .int kl L) (hc : a.eval c = .int kc C) (hL : L = (n : Int)) (hC : C = (n : Int)) (hb : bytes * n ≤ 281474976710656) (h63 : n ≤ maxLen)
    (hK : wpList P ops Q rest (a.put o.dst (.slice (some ⟨w.heap.size, 0, none⟩) n n)) (w.alloc (.cells (Array.replicate n z) e))) : wpList P ops Q (o :: rest) a w := by
  refine wpList_plain hg fun K hK' => ?_
  obtain ⟨i, hi, hz, hs, hby⟩ := info_parts E.inf
  have hm : n ≤ 9223372036854775807 := by simp only [maxLen] at h63; omega
  have hbi : (i.bytes : Int) * (n : Int) ≤ 281474976710656 := by
    have h : ((i.bytes * n : Nat) : Int) ≤ 281474976710656 := by rw [hby]; omega
    rwa [Int.natCast_mul] at h
  have hrun := run_make (P := P) w t e i z E.und hi hz kl kc n n (by omega) (by omega) hbi (by omega)
  simp only [Int.toNat_natCast, hs, Nat.mul_one] at hrun
  have hcell : madeCells z.cells n = Array.replicate n z := by
    rw [hz1]
    apply Array.ext'
    rw [toList_madeCells_one]
    simp
  rw [hcell] at hrun
  subst hL
  subst hC
  unfold Oper.wp
  simp [execOp, hop, hl, hc, hrun, Result.andThen]
  exact hK' _ _ hK
theorem Blk.rep (w : World) (t : TypeId) (n : Nat) (z : Value) : Blk (w.alloc (.cells (Array.replicate n z) t)) w.heap.size t (List.replicate n z) := by
  have := Blk.new w t (List.replicate n z)
  rwa [List.toArray_replicate] at this
end

/-! ### Bytes -/
def ub (b : UInt8) : Value := .int .u8 b.toNat
def Bs (w : World) (v : Value) (l : List UInt8) : Prop := Rd w v l.length (l.map ub)
theorem ub_one (l : List UInt8) : ∀ x ∈ l.map ub, x.oneCell' = true := by
  intro x hx
  obtain ⟨b, _, rfl⟩ := List.mem_map.1 hx
  rfl

/-! ### Bytes to strings -/
def str (l : List UInt8) : ByteArray := ⟨l.toArray⟩
theorem str_inj {a b : List UInt8} (h : str a = str b) : a = b := by
  unfold str at h
  injection h with h
  exact List.toArray_inj h
theorem str_size (l : List UInt8) : (str l).size = l.length := by simp [str, ByteArray.size]
theorem str_toList (l : List UInt8) : (str l).toList = l := by rw [ByteArray.toList_eq]; rfl
theorem str_beq (a b : List UInt8) : ((str a).toList == (str b).toList) = (a == b) := by rw [str_toList, str_toList]
theorem str_beq_no {a b : List UInt8} (h : a ≠ b) : ((str a).toList == (str b).toList) = false := by rw [str_beq]; simpa using h
theorem str_beq_yes {a b : List UInt8} (h : a = b) : ((str a).toList == (str b).toList) = true := by rw [str_beq]; simpa using h
theorem str_some {a : List UInt8} (h : a ≠ []) : (str a).toList.isEmpty = false := by rw [str_toList]; simpa using h
theorem str_none : (str []).toList.isEmpty = true := by rw [str_toList]; rfl
theorem run_str {P : Program} {src dst e : TypeId} (hs : P.underlying src = some (.slice e)) (he : P.underlying e = some (.int .u8)) (hd : P.underlying dst = some .string)
    {w W : World} {v : Value} {l : List UInt8} (h : Bs w v l) (hW : W.heap = w.heap) : (convert src dst v).run P W = .ok (.string (str l)) W := by
  have hcell : ∀ p, W.cell? p = w.cell? p := fun p => by simp [World.cell?, hW]
  obtain ⟨ao, cap, rfl, _, _, h3⟩ := h
  rw [run_convert_bytes_string W src dst e ao l.length cap hs he hd]
  cases ao with
  | none =>
    have hl : l = [] := by
      refine Classical.byContradiction fun hne => ?_
      obtain ⟨b, off, h, _⟩ := h3 (by simpa using hne)
      cases h
    subst hl
    rfl
  | some a =>
    have hl : (loadCells a l.length).run P W = .ok ((l.map fun b => (b.toNat : Int)).map (Value.int .u8)).toArray W := by
      have hm : (l.map fun b => (b.toNat : Int)).map (Value.int .u8) = l.map ub := by simp [ub]
      rw [hm]
      have := run_loadCells_list (P := P) W a (l.map ub) (fun j u hu => by
        have hne : l.map ub ≠ [] := by intro h; rw [h] at hu; simp at hu
        obtain ⟨b, off, h, hc⟩ := h3 hne
        injection h with h
        subst h
        rw [Addr.add_lit, hcell]
        exact hc j u hu)
      rwa [List.length_map] at this
    rw [run_bytesToString W a l.length cap _ hl]
    rw [foldl_push_bytes]
    have he : ∀ x : List UInt8, (⟨ByteArray.empty.data ++ (x.map fun b => UInt8.ofNat ((b.toNat : Int)).toNat).toArray⟩ : ByteArray) = str x := fun x => by
      simp only [str, Int.toNat_natCast, UInt8.ofNat_toNat, List.map_id']
      congr 1
      exact Array.empty_append
    rw [← he, List.map_map]
    rfl
/-- v reads as byte slices. -/
def Bss (w : World) (v : Value) (ls : List (List UInt8)) : Prop :=
  ∃ vs, vs.length = ls.length ∧ Rd w v ls.length vs ∧ ∀ (i : Nat) (x : Value) (l : List UInt8), vs[i]? = some x → ls[i]? = some l → Bs w x l
theorem Bss.later {w w' : World} {v : Value} {ls : List (List UInt8)} (h : Bss w v ls) (hb : Below w.heap.size w w') : Bss w' v ls := by
  obtain ⟨vs, h1, h2, h3⟩ := h
  exact ⟨vs, h1, h2.later hb, fun i x l hx hl => (h3 i x l hx hl).later hb⟩
theorem Bss.drewN {w : World} {v : Value} {ls : List (List UInt8)} (h : Bss w v ls) (n : Nat) : Bss (w.drewN n) v ls := h
theorem Bs.later {w w' : World} {v : Value} {l : List UInt8} (h : Bs w v l) (hb : Below w.heap.size w w') : Bs w' v l := Rd.later h hb
theorem Bs.of_own {w : World} {base n : Nat} {e : TypeId} {v : Value} {l : List UInt8} (h : w.ownsRow base e 1 v n (l.map ub)) : Bs w v l := by
  have : n = l.length := by simpa using h.1.symm
  subst this
  exact Rd.of_own h
theorem below_drewN {B : Nat} {a w : World} (h : Below B a w) (n : Nat) : Below B a (w.drewN n) := ⟨h.os, h.tape, h.output, h.size, h.block⟩
end Go.Proofs.YtfaemjlemaclbaaGreat
end
section
/- A region that draws its order, walked in a class of worlds. -/
namespace Go.Proofs.YtfaemjlemaclbaaGreat
set_option linter.unusedVariables false
set_option linter.unusedSimpArgs false
open Go.RowKit
/-- a region that draws its order, of reads and of calls that keep a class of worlds: walked in the order of its text. -/
theorem region_class {P : Program} {C : World → Prop} {id : Nat} {Q : Exit → Act → World → Prop} {a : Act} {w : World} {l : List Oper} (hm : P.follows .mixedOrders = true) (hB : Region.lexB .any l.toArray = true) (hC : C w.drew)
    (h : wpQuiet P l.toArray C (fun a' => ∀ w', C w' → Q .normal a' w') l a) : (Code.region id l.toArray true).wp P Q a w :=
  wp_region_quiet (C := C) hm hB hC (by simpa using h)
end Go.Proofs.YtfaemjlemaclbaaGreat
end
section
/- Maps as lists of keys and elements: one word for a map's block, and what each operation does with it. -/
namespace Go.Proofs.YtfaemjlemaclbaaGreat
set_option linter.unusedVariables false
set_option linter.unusedSimpArgs false
set_option linter.unusedSectionVars false
open Go.RowKit Go.Maps
/-- keys of type k are just the values kv s. -/
structure KL (P : Program) (k : TypeId) {κ : Type} (kv : κ → Value) : Prop where
  keyed : Keyed P k
  has : ∀ s, ∃ l, keyOf P k (kv s) = Option.some l
  back : ∀ v l, keyOf P k v = some l → ∃ s, v = kv s
  inj : ∀ s t, kv s = kv t → s = t
def klOf (P : Program) (k : TypeId) {κ : Type} (kv : κ → Value) (s : κ) : Lit := (keyOf P k (kv s)).getD (.bool false)
theorem KL.key {P : Program} {k : TypeId} {κ : Type} {kv : κ → Value} (K : KL P k kv) (s : κ) : keyOf P k (kv s) = some (klOf P k kv s) := by
  obtain ⟨l, hl⟩ := K.has s
  unfold klOf
  rw [hl]
  rfl
theorem KL.ne {P : Program} {k : TypeId} {κ : Type} {kv : κ → Value} (K : KL P k kv) {s t : κ} (h : s ≠ t) : klOf P k kv s ≠ klOf P k kv t := fun e =>
  h (K.inj s t (K.keyed.inj (K.key s) (e ▸ K.key t)))
/-- elements: just the values ev x. -/
structure EL {ε : Type} (ev : ε → Value) (R : Value → Option (DataW Unit × List MemPlace)) (dat : ε → DataW Unit) : Prop where
  rd : ∀ x, R (ev x) = some (dat x, [])
  back : ∀ v y, R v = some y → ∃ x, v = ev x ∧ y = (dat x, [])
  inj : ∀ x y, dat x = dat y → x = y
/-- pointers to whole blocks, and nil. -/
def pv : Option Nat → Value
  | some b => .pointer (some ⟨b, 0, none⟩)
  | none => .pointer none
def pdat : Option Nat → DataW Unit
  | some b => .lit (.int .i64 (b : Int))
  | none => .lit (.bool false)
def pR : Value → Option (DataW Unit × List MemPlace)
  | .pointer none => some (pdat none, [])
  | .pointer (some ⟨b, 0, none⟩) => some (pdat (some b), [])
  | _ => none
theorem pEL : EL pv pR pdat where
  rd x := by cases x <;> rfl
  back v y h := by
    unfold pR at h
    split at h
    · injection h with h; exact ⟨none, rfl, h.symm⟩
    · injection h with h; exact ⟨some _, rfl, h.symm⟩
    · cases h
  inj x y h := by
    cases x <;> cases y <;> simp [pdat] at h ⊢
    omega
section
variable {κ ε : Type} [DecidableEq κ] {P : Program} {k : TypeId} {kv : κ → Value} {R : Value → Option (DataW Unit × List MemPlace)} {ev : ε → Value} {dat : ε → DataW Unit}
def Says (P : Program) (k : TypeId) (kv : κ → Value) (dat : ε → DataW Unit) (D : DataW Unit) (L : List (κ × ε)) : Prop :=
  size D = L.length ∧ (∀ s, has D (klOf P k kv s) = true ↔ ∃ x, (s, x) ∈ L) ∧ ∀ s x, (s, x) ∈ L → ∀ z, D.atKey (klOf P k kv s) z = dat x
/-- block b is a map with just the entries of L. -/
def LMap (P : Program) (k : TypeId) (kv : κ → Value) (R : Value → Option (DataW Unit × List MemPlace)) (dat : ε → DataW Unit) (w : World) (b : Nat) (L : List (κ × ε)) : Prop :=
  (L.map (·.1)).Nodup ∧ ∃ D, w.ownsMap P k R b L.length D ∧ Says P k kv dat D L
variable {w w' : World} {b : Nat} {L : List (κ × ε)}
theorem LMap.lt (h : LMap P k kv R dat w b L) : b < w.heap.size := by
  obtain ⟨_, D, h1, _⟩ := h
  exact h1.lt
theorem LMap.isMap (h : LMap P k kv R dat w b L) : ∃ es clock, w.heap[b]? = some (.map es clock) := by
  obtain ⟨_, D, ⟨es, clock, he, _⟩, _⟩ := h
  exact ⟨es, clock, he⟩
theorem LMap.same {S : Nat → Prop} (h : LMap P k kv R dat w b L) (hs : Same S w w') (hb : ¬ S b) : LMap P k kv R dat w' b L := by
  obtain ⟨h0, D, h1, h2⟩ := h
  have hlt := h1.lt
  obtain ⟨es, clock, he, F, hn, hD⟩ := h1
  exact ⟨h0, D, ⟨es, clock, (hs.block b hlt hb).trans he, F, hn, hD⟩, h2⟩
theorem LMap.later (h : LMap P k kv R dat w b L) (hs : Below w.heap.size w w') : LMap P k kv R dat w' b L := h.same (Same.of_below hs no) (fun h => h)
theorem LMap.drewN (h : LMap P k kv R dat w b L) (n : Nat) : LMap P k kv R dat (w.drewN n) b L := h
theorem LMap.drew (h : LMap P k kv R dat w b L) : LMap P k kv R dat w.drew b L := h
theorem LMap.ne {g : Nat} {t : TypeId} {cs : List Value} (h : LMap P k kv R dat w b L) (hg : Blk w g t cs) : g ≠ b := by
  rintro rfl
  obtain ⟨es, clock, he⟩ := h.isMap
  unfold Blk at hg
  rw [he] at hg
  cases hg
theorem LMap.row_ne (h : LMap P k kv R dat w b L) {base : Nat} {e : TypeId} {sz : Nat} {v : Value} {n : Nat} {cs : List Value} (hr : w.ownsRow base e sz v n cs) : v.ownBlock ≠ some b := by
  obtain ⟨es, clock, he⟩ := h.isMap
  obtain ⟨_, ⟨rfl, _⟩ | ⟨g', cap, cur, rfl, _, h3, _⟩⟩ := hr
  · intro h; cases h
  · intro hh
    have : g' = b := by simpa [Value.ownBlock] using hh
    subst this
    rw [he] at h3
    cases h3
theorem LMap.perm (h : LMap P k kv R dat w b L) {L' : List (κ × ε)} (hp : L.Perm L') : LMap P k kv R dat w b L' := by
  obtain ⟨h0, D, h1, h2, h3, h4⟩ := h
  refine ⟨(hp.map _).nodup_iff.1 h0, D, hp.length_eq ▸ h1, hp.length_eq ▸ h2, fun s => (h3 s).trans ⟨fun ⟨x, hx⟩ => ⟨x, hp.mem_iff.1 hx⟩, fun ⟨x, hx⟩ => ⟨x, hp.mem_iff.2 hx⟩⟩, fun s x hx => h4 s x (hp.mem_iff.2 hx)⟩
theorem own_tight {n : Nat} {D : DataW Unit} (h : w.ownsMap P k R b n D) : w.ownsMap P k R b (size D) D := by
  obtain ⟨es, clock, hb, F, _, rfl⟩ := h
  exact ⟨es, clock, hb, F, by simp [size, length_sorted], rfl⟩
theorem turned_same (h : w.mapTurned w' b) : Same (at1 b) w w' := (Same.of_grown h.grown).mono fun i _ e => by injection e
/-- without the key s. -/
def wo (L : List (κ × ε)) (s : κ) : List (κ × ε) := L.filter fun p => decide (p.1 ≠ s)
theorem mem_wo {s t : κ} {x : ε} : (t, x) ∈ wo L s ↔ (t, x) ∈ L ∧ t ≠ s := by simp [wo]
theorem wo_sub (s : κ) : (wo L s).Sublist L := List.filter_sublist
theorem wo_none {s : κ} (h : ∀ x, (s, x) ∉ L) : wo L s = L := List.filter_eq_self.2 fun p hp => by
  have : p.1 ≠ s := fun e => h p.2 (e ▸ hp)
  simpa using this
theorem wo_perm {s : κ} {x : ε} : ∀ {L : List (κ × ε)}, (L.map (·.1)).Nodup → (s, x) ∈ L → L.Perm ((s, x) :: wo L s)
  | [], _, h => by cases h
  | p :: L, h0, h => by
    rw [List.map_cons, List.nodup_cons] at h0
    rcases List.mem_cons.1 h with rfl | h
    · have e : wo ((s, x) :: L) s = L := by
        unfold wo
        rw [List.filter_cons]
        simp only [ne_eq, not_true, decide_false, Bool.false_eq_true, if_false]
        exact wo_none fun y hy => h0.1 (List.mem_map.2 ⟨_, hy, rfl⟩)
      rw [e]
    · have hne : p.1 ≠ s := fun e => h0.1 (List.mem_map.2 ⟨_, h, e.symm⟩)
      have e : wo (p :: L) s = p :: wo L s := by
        unfold wo
        rw [List.filter_cons, if_pos (by simpa using hne)]
      rw [e]
      exact ((wo_perm h0.2 h).cons p).trans (List.Perm.swap _ _ _)
theorem wo_len {s : κ} {x : ε} (h0 : (L.map (·.1)).Nodup) (h : (s, x) ∈ L) : (wo L s).length + 1 = L.length := by
  rw [(wo_perm h0 h).length_eq]
  rfl
theorem wo_nodup (h0 : (L.map (·.1)).Nodup) (s : κ) : ((wo L s).map (·.1)).Nodup := ((wo_sub s).map _).nodup h0
theorem LMap.made (w : World) : LMap P k kv R dat (w.alloc (.map #[] 0)) w.heap.size ([] : List (κ × ε)) :=
  ⟨by simp, .map [], World.ownsMap_made w P k R, rfl, fun s => ⟨fun h => by simp [has_eq] at h, fun ⟨x, h⟩ => by cases h⟩, fun s x h => by cases h⟩
variable (K : KL P k kv) (E : EL ev R dat) {t e : TypeId} (ht : P.underlying t = some (.map k e))
include K E ht
/-- m[s], which is there. -/
theorem LMap.look (h : LMap P k kv R dat w b L) {z : ε} (hz : (zeroValue e).run P w = .ok (ev z) w) {s : κ} {x : ε} (hx : (s, x) ∈ L) :
    (Instr.lookup t (.map (some b)) (kv s) false).run P w = .ok (ev x) w ∧ (Instr.lookup t (.map (some b)) (kv s) true).run P w = .ok (.tuple #[ev x, .bool true]) w := by
  obtain ⟨h0, D, h1, h2, h3, h4⟩ := h
  have hh := (h3 s).2 ⟨x, hx⟩
  constructor
  · obtain ⟨v, ps, hrun, hv⟩ := h1.lookup K.keyed ht hz (E.rd z) (K.key s)
    rw [h4 s x hx] at hv
    obtain ⟨y, rfl, hy⟩ := E.back _ _ hv
    injection hy with hy _
    rw [E.inj _ _ hy]
    exact hrun
  · obtain ⟨v, ps, hrun, hv⟩ := h1.look_ok K.keyed ht hz (E.rd z) (K.key s)
    rw [h4 s x hx] at hv
    obtain ⟨y, rfl, hy⟩ := E.back _ _ hv
    injection hy with hy _
    rw [E.inj _ _ hy]
    rwa [hh] at hrun
/-- m[s], which is not. -/
theorem LMap.look_none (h : LMap P k kv R dat w b L) {z : ε} (hz : (zeroValue e).run P w = .ok (ev z) w) {s : κ} (hx : ∀ x, (s, x) ∉ L) :
    (Instr.lookup t (.map (some b)) (kv s) false).run P w = .ok (ev z) w ∧ (Instr.lookup t (.map (some b)) (kv s) true).run P w = .ok (.tuple #[ev z, .bool false]) w := by
  obtain ⟨h0, D, h1, h2, h3, h4⟩ := h
  have hh : has D (klOf P k kv s) = false := by
    cases hc : has D (klOf P k kv s)
    · rfl
    · obtain ⟨x, h⟩ := (h3 s).1 hc; exact absurd h (hx x)
  constructor
  · obtain ⟨v, ps, hrun, hv⟩ := h1.lookup K.keyed ht hz (E.rd z) (K.key s)
    rw [atKey_of_not_has hh] at hv
    obtain ⟨y, rfl, hy⟩ := E.back _ _ hv
    injection hy with hy _
    rw [E.inj _ _ hy]
    exact hrun
  · obtain ⟨v, ps, hrun, hv⟩ := h1.look_ok K.keyed ht hz (E.rd z) (K.key s)
    rw [atKey_of_not_has hh] at hv
    obtain ⟨y, rfl, hy⟩ := E.back _ _ hv
    injection hy with hy _
    rw [E.inj _ _ hy]
    rwa [hh] at hrun
/-- delete(m, s). -/
theorem LMap.del (h : LMap P k kv R dat w b L) (s : κ) :
    ∃ w', (∀ ty, (Builtin.delete_ #[t, k] ty #[.map (some b), kv s]).run P w = .ok (.tuple #[]) w') ∧ LMap P k kv R dat w' b (wo L s) ∧ Same (at1 b) w w' := by
  obtain ⟨h0, D, h1, h2, h3, h4⟩ := h
  obtain ⟨w', hrun, q1, q2⟩ := h1.drop K.keyed ht (K.key s) 0
  have hsz : size (D.del (klOf P k kv s)) = (wo L s).length := by
    have := size_del (k := klOf P k kv s) (h1.tidy K.keyed)
    by_cases hc : ∃ x, (s, x) ∈ L
    · rw [if_pos ((h3 s).2 hc), h2] at this
      obtain ⟨x, hx⟩ := hc
      have := wo_len h0 hx
      omega
    · rw [if_neg (fun h => hc ((h3 s).1 h)), h2] at this
      rw [wo_none (fun x hx => hc ⟨x, hx⟩)]
      omega
  refine ⟨w', fun ty => hrun, ⟨wo_nodup h0 s, _, hsz ▸ own_tight q1, hsz, fun u => ?_, fun u x hx z => ?_⟩, turned_same q2⟩
  · by_cases e : u = s
    · subst e
      rw [has_del_same]
      exact ⟨fun h => (by cases h), fun ⟨x, hx⟩ => absurd rfl (mem_wo.1 hx).2⟩
    · rw [has_del_other (K.ne e), h3 u]
      exact ⟨fun ⟨x, hx⟩ => ⟨x, mem_wo.2 ⟨hx, e⟩⟩, fun ⟨x, hx⟩ => ⟨x, (mem_wo.1 hx).1⟩⟩
  · obtain ⟨q, e⟩ := mem_wo.1 hx
    rw [atKey_del_other (K.ne e)]
    exact h4 u x q z
/-- m[s] = x, where it is not. -/
theorem LMap.put (h : LMap P k kv R dat w b L) (hn : L.length < maxLen) {s : κ} (hs : ∀ x, (s, x) ∉ L) (x : ε) :
    ∃ w', (Instr.mapUpdate t (.map (some b)) (kv s) (ev x)).run P w = .ok () w' ∧ LMap P k kv R dat w' b (L ++ [(s, x)]) ∧ Same (at1 b) w w' := by
  obtain ⟨h0, D, h1, h2, h3, h4⟩ := h
  obtain ⟨w', hrun, q1, q2⟩ := h1.store K.keyed ht hn (K.key s) (E.rd x)
  have hh : has D (klOf P k kv s) = false := by
    cases hc : has D (klOf P k kv s)
    · rfl
    · obtain ⟨x, h⟩ := (h3 s).1 hc; exact absurd h (hs x)
  have hsz : size (D.put (klOf P k kv s) (dat x)) = (L ++ [(s, x)]).length := by
    rw [size_put (h1.tidy K.keyed), hh, if_neg (by decide), h2]
    simp
  have hD := h1.isMap
  refine ⟨w', hrun, ⟨?_, _, hsz ▸ own_tight q1, hsz, fun u => ?_, fun u y hy z => ?_⟩, turned_same q2⟩
  · rw [List.map_append, List.nodup_append]
    refine ⟨h0, by simp, fun a ha c hc => ?_⟩
    simp at hc
    subst hc
    rintro rfl
    obtain ⟨p, hp, rfl⟩ := List.mem_map.1 ha
    exact hs p.2 hp
  · by_cases e : u = s
    · subst e
      rw [has_put_same hD (K.keyed.key (K.key u))]
      exact ⟨fun _ => ⟨x, by simp⟩, fun _ => rfl⟩
    · rw [has_put_other (K.ne e), h3 u]
      exact ⟨fun ⟨y, hy⟩ => ⟨y, List.mem_append_left _ hy⟩, fun ⟨y, hy⟩ => by
        rcases List.mem_append.1 hy with h | h
        · exact ⟨y, h⟩
        · simp at h; exact absurd h.1 e⟩
  · rcases List.mem_append.1 hy with h | h
    · have e : u ≠ s := fun e => hs y (e ▸ h)
      rw [atKey_put_other (K.ne e)]
      exact h4 u y h z
    · simp at h
      obtain ⟨rfl, rfl⟩ := h
      exact atKey_put_same hD (K.keyed.key (K.key u)) _ _
omit K E in
/-- len(m). -/
theorem LMap.len (h : LMap P k kv R dat w b L) (ty : TypeId) : (Builtin.len_ #[t] ty #[.map (some b)]).run P w = .ok (.int .i64 (L.length : Int)) w := by
  obtain ⟨h0, D, h1, h2, _⟩ := h
  rw [h1.len ht ty, h2]
omit K E in
/-- clear(m). -/
theorem LMap.clear (h : LMap P k kv R dat w b L) :
    ∃ w', (∀ ty, (Builtin.clear_ #[t] ty #[.map (some b)]).run P w = .ok (.tuple #[]) w') ∧ LMap P k kv R dat w' b ([] : List (κ × ε)) ∧ Same (at1 b) w w' := by
  obtain ⟨h0, D, h1, h2⟩ := h
  obtain ⟨es, clock, hb, F, hs, rfl⟩ := h1
  refine ⟨ChangeMaps.setBlock w b (.map #[] clock), fun ty => ?_, ⟨by simp, .map [], ⟨#[], clock, ChangeMaps.heap_setBlock_same hb _, ⟨by simp, MapKept.stamped_empty clock, by simp⟩, by simp, rfl⟩, rfl, fun s => ⟨fun h => by simp [has_eq] at h, fun ⟨x, h⟩ => by cases h⟩, fun s x h => by cases h⟩,
    ⟨rfl, rfl, rfl, by simp [ChangeMaps.setBlock], fun i _ hi => ChangeMaps.heap_setBlock_other hb _ (fun e => hi e)⟩⟩
  simp [Builtin.clear_, run_underlying ht, MapKept.run_getObj_map hb, MapKept.run_setObj_map _ hb, Result.andThen, ChangeMaps.setBlock]
end
/-! ### a range over it -/
section
variable {κ ε : Type} [DecidableEq κ] {P : Program} {k : TypeId} {kv : κ → Value} {R : Value → Option (DataW Unit × List MemPlace)} {ev : ε → Value} {dat : ε → DataW Unit}
/-- r is an iterator over the map in b; what is in T is still to come. -/
def LRange (P : Program) (k : TypeId) (kv : κ → Value) (R : Value → Option (DataW Unit × List MemPlace)) (dat : ε → DataW Unit) (w : World) (b r : Nat) (L T : List (κ × ε)) : Prop :=
  (L.map (·.1)).Nodup ∧ (T.map (·.1)).Nodup ∧ (∀ p ∈ T, p ∈ L) ∧ ∃ D left cnt, w.ranges P k R b r L.length D left cnt ∧ Says P k kv dat D L ∧ ∀ s, left (klOf P k kv s) = true ↔ ∃ x, (s, x) ∈ T
variable {w w' : World} {b r : Nat} {L T : List (κ × ε)}
theorem LRange.map (h : LRange P k kv R dat w b r L T) : LMap P k kv R dat w b L := by
  obtain ⟨h0, _, _, D, left, cnt, h1, h2, _⟩ := h
  exact ⟨h0, D, h1.owns, h2⟩
theorem LRange.lt (h : LRange P k kv R dat w b r L T) : r < w.heap.size := by
  obtain ⟨h0, _, _, D, left, cnt, h1, h2, _⟩ := h
  exact h1.lt
theorem LRange.iter (h : LRange P k kv R dat w b r L T) : ∃ m s e c, w.heap[r]? = some (.mapIter m s e c) := by
  obtain ⟨h0, _, _, D, left, cnt, ⟨es, clock, since, seen, c0, q1, F, q2, q3, q4, rest⟩, h2⟩ := h
  exact ⟨_, _, _, _, q4⟩
theorem LRange.row_ne (h : LRange P k kv R dat w b r L T) {base : Nat} {e : TypeId} {sz : Nat} {v : Value} {n : Nat} {cs : List Value} (hr : w.ownsRow base e sz v n cs) : v.ownBlock ≠ some r := by
  obtain ⟨m, s, es, c, he⟩ := h.iter
  obtain ⟨_, ⟨rfl, _⟩ | ⟨g', cap, cur, rfl, _, h3, _⟩⟩ := hr
  · intro h; cases h
  · intro hh
    have : g' = r := by simpa [Value.ownBlock] using hh
    subst this
    rw [he] at h3
    cases h3
theorem LRange.blk_ne (h : LRange P k kv R dat w b r L T) {g : Nat} {t : TypeId} {cs : List Value} (hg : Blk w g t cs) : g ≠ r := by
  rintro rfl
  obtain ⟨m, s, es, c, he⟩ := h.iter
  unfold Blk at hg
  rw [he] at hg
  cases hg
theorem LRange.same {S : Nat → Prop} (h : LRange P k kv R dat w b r L T) (hs : Same S w w') (hb : ¬ S b) (hr : ¬ S r) : LRange P k kv R dat w' b r L T := by
  obtain ⟨h0, h0', hT, D, left, cnt, h1, h2⟩ := h
  have l1 := h1.owns.lt
  have l2 := h1.lt
  obtain ⟨es, clock, since, seen, c0, q1, F, q2, q3, q4, rest⟩ := h1
  exact ⟨h0, h0', hT, D, left, cnt, ⟨es, clock, since, seen, c0, (hs.block b l1 hb).trans q1, F, q2, q3, (hs.block r l2 hr).trans q4, rest⟩, h2⟩
theorem LRange.left {S : Nat → Prop} (h : LRange P k kv R dat w b r L T) (hs : Same S w w') (hb : ¬ S b) (hr : ¬ S r) : w'.rangeLeft b r = w.rangeLeft b r := by
  obtain ⟨h0, h0', hT, D, left, cnt, h1, h2⟩ := h
  unfold World.rangeLeft
  rw [hs.block b h1.owns.lt hb, hs.block r h1.lt hr]
variable (K : KL P k kv) (E : EL ev R dat) {t e : TypeId} (ht : P.underlying t = some (.map k e))
include K ht
theorem LMap.range (h : LMap P k kv R dat w b L) :
    ∃ w', (Instr.range t (.map (some b))).run P w = .ok (.pointer (some ⟨w.heap.size, 0, none⟩)) w' ∧ LRange P k kv R dat w' b w.heap.size L L ∧ Below w.heap.size w w' ∧ w'.heap.size = w.heap.size + 1 := by
  obtain ⟨h0, D, h1, h2, h3, h4⟩ := h
  obtain ⟨w', q1, q2, q3, q4⟩ := h1.range K.keyed ht
  exact ⟨w', q1, ⟨h0, h0, fun p hp => hp, D, _, _, q2, ⟨h2, h3, h4⟩, h3⟩, ⟨q3.os, q3.tape, q3.output, q3.size, fun i hi => q3.block i hi (by simp)⟩, q4⟩
omit ht in
include E in
theorem LRange.next (h : LRange P k kv R dat w b r L T) (ty : TypeId) :
    (T = [] ∧ (Instr.next (.pointer (some ⟨r, 0, none⟩)) false ty).run P w = .ok (.tuple #[.bool false]) w) ∨
    ∃ s x w', (s, x) ∈ T ∧ (Instr.next (.pointer (some ⟨r, 0, none⟩)) false ty).run P w = .ok (.tuple #[.bool true, kv s, ev x]) w' ∧ LRange P k kv R dat w' b r L (wo T s) ∧ w'.rangeLeft b r < w.rangeLeft b r ∧
      Same (at1 r) w w' ∧ w'.heap.size = w.heap.size ∧ (Instr.entry (.pointer (some ⟨r, 0, none⟩))).run P w' = .ok (.tuple #[kv s, ev x]) w' := by
  obtain ⟨h0, h0', hT, D, left, cnt, h1, ⟨h2, h3, h4⟩, h5⟩ := h
  rcases h1.next K.keyed ty with ⟨_, hl, hrun⟩ | ⟨key, v, kl, y, w', cnt', hkey, hlk, hv, hat, hrun, hrg, hlt, hgr, hsz, hen⟩
  · refine .inl ⟨List.eq_nil_iff_forall_not_mem.2 fun p hp => ?_, hrun⟩
    have := (h5 p.1).2 ⟨p.2, hp⟩
    rw [hl] at this
    cases this
  · obtain ⟨s, rfl⟩ := K.back _ _ hkey
    have ekl : kl = klOf P k kv s := by
      have := K.key s
      rw [hkey] at this
      injection this
    subst ekl
    obtain ⟨x, hx⟩ := (h5 s).1 hlk
    obtain ⟨x', rfl, hy⟩ := E.back _ _ hv
    have e1 := h4 s x (hT _ hx) (.bool false |> DataW.lit)
    rw [hat, hy] at e1
    have := E.inj _ _ e1
    subst this
    refine .inr ⟨s, x', w', hx, hrun, ⟨h0, wo_nodup h0' s, fun p hp => hT p ((wo_sub s).subset hp), D, _, cnt', hrg, ⟨h2, h3, h4⟩, fun u => ?_⟩, ?_, (Same.of_grown hgr).mono fun i _ e => by injection e, hsz, hen⟩
    · by_cases e : u = s
      · subst e
        have e1 : Lit.sameKey (klOf P k kv u) (klOf P k kv u) = true := WideAt.sameKey_self (K.keyed.key (K.key u))
        simp only [e1, Bool.not_true, Bool.and_false]
        exact ⟨fun h => (by cases h), fun ⟨x, hx⟩ => absurd rfl (mem_wo.1 hx).2⟩
      · have e1 : Lit.sameKey (klOf P k kv u) (klOf P k kv s) = false := by
          cases hc : Lit.sameKey (klOf P k kv u) (klOf P k kv s)
          · rfl
          · exact absurd (WideAt.sameKey_eq hc) (K.ne e)
        simp only [e1, Bool.not_false, Bool.and_true]
        rw [h5 u]
        exact ⟨fun ⟨x, hx⟩ => ⟨x, mem_wo.2 ⟨hx, e⟩⟩, fun ⟨x, hx⟩ => ⟨x, (mem_wo.1 hx).1⟩⟩
    · rw [hrg.left_eq, h1.left_eq]
      exact hlt
end
/-! ### at the operations, for the walk -/
section
variable {κ ε : Type} [DecidableEq κ] {P : Program} {k : TypeId} {kv : κ → Value} {R : Value → Option (DataW Unit × List MemPlace)} {ev : ε → Value} {dat : ε → DataW Unit}
variable (K : KL P k kv) (E : EL ev R dat) {t e : TypeId} (ht : P.underlying t = some (.map k e))
include K
theorem wpList_range_l (w : World) {ops : Array Oper} {rest : List Oper} {o : Oper} {a : Act} {Q : Exit → Act → World → Prop} (ht : P.underlying t = some (.map k e)) (hg : o.guard = none) (m : Operand) (hop : o.op = Op.range t m) (b : Nat) (L : List (κ × ε))
    (hm : a.eval m = .map (some b)) (h : LMap P k kv R dat w b L)
    (hK : ∀ w', LRange P k kv R dat w' b w.heap.size L L → Below w.heap.size w w' → w'.heap.size = w.heap.size + 1 → wpList P ops Q rest (a.put o.dst (.pointer (some ⟨w.heap.size, 0, none⟩))) w') :
    wpList P ops Q (o :: rest) a w := by
  refine wpList_plain hg fun K' hK' => ?_
  obtain ⟨w', hrun, r1, r2, r3⟩ := h.range K ht
  unfold Oper.wp
  simp [execOp, hop, hm, hrun, Result.andThen]
  exact hK' _ _ (hK w' r1 r2 r3)
include E
theorem wpList_next_l (w : World) {ops : Array Oper} {rest : List Oper} {o : Oper} {a : Act} {Q : Exit → Act → World → Prop} (hg : o.guard = none) (it : Operand) (hop : o.op = Op.next it false) (b r : Nat) (L T : List (κ × ε))
    (hit : a.eval it = .pointer (some ⟨r, 0, none⟩)) (h : LRange P k kv R dat w b r L T)
    (hDone : T = [] → wpList P ops Q rest (a.put o.dst (.tuple #[.bool false])) w)
    (hMore : ∀ (s : κ) (x : ε) (w' : World), (s, x) ∈ T → LRange P k kv R dat w' b r L (wo T s) → w'.rangeLeft b r < w.rangeLeft b r → Same (at1 r) w w' → w'.heap.size = w.heap.size →
      (Instr.entry (.pointer (some ⟨r, 0, none⟩))).run P w' = .ok (.tuple #[kv s, ev x]) w' → wpList P ops Q rest (a.put o.dst (.tuple #[.bool true, kv s, ev x])) w') :
    wpList P ops Q (o :: rest) a w := by
  refine wpList_plain hg fun K' hK' => ?_
  unfold Oper.wp
  rcases h.next K E o.type with ⟨h0, hrun⟩ | ⟨s, x, w', hx, hrun, h1, h2, h3, h4, h5⟩
  · simp [execOp, hop, hit, hrun, Result.andThen]
    exact hK' _ _ (hDone h0)
  · simp [execOp, hop, hit, hrun, Result.andThen]
    exact hK' _ _ (hMore s x w' hx h1 h2 h3 h4 h5)
end
end Go.Proofs.YtfaemjlemaclbaaGreat
end
section
/- The element types of this seat's slices, as the program's tables tell them. -/
namespace Go.Proofs.YtfaemjlemaclbaaGreat
set_option linter.unusedVariables false
set_option linter.unusedSimpArgs false
theorem El.u8 : El Tryz.prog 32 5 (.int .u8 0) 1 1 := ⟨Tryz.underlying32, by kernel_rfl, rfl, by decide, by decide⟩
theorem El.bytes : El Tryz.prog 40 32 (.slice none 0 0) 1 24 := ⟨Tryz.underlying40, by kernel_rfl, rfl, by decide, by decide⟩
theorem El.ranges : El Tryz.prog 42 33 (.slice none 0 0) 1 24 := ⟨Tryz.underlying42, by kernel_rfl, rfl, by decide, by decide⟩
theorem run_str8 {w W : World} {v : Value} {l : List UInt8} (h : Bs w v l) (hW : W.heap = w.heap) : (convert 32 9 v).run Tryz.prog W = .ok (.string (str l)) W :=
  run_str Tryz.underlying32 Tryz.underlying5 Tryz.underlying9 h hW
theorem strCells_str (l : List UInt8) : Lib.strCells (str l) = l.map ub := by
  simp [Lib.strCells, str, ub]
/-- append of a string's bytes. -/
theorem wpList_appStr {ops : Array Oper} {rest : List Oper} {o : Oper} {a : Act} {Q : Exit → Act → World → Prop} {w : World} (hgd : o.guard = none) (s x : Operand)
    (ho : o.op = .call { callee := .builtin .append, args := #[s, x], argTypes := #[32, 9] }) {base : Nat} {v : Value} {n : Nat} {xs : List Value} (hown : w.ownsRow base 5 1 v n xs) (hs : a.eval s = v)
    {l : List UInt8} (hx : a.eval x = .string (str l)) (hb : n + l.length ≤ 140737488355328) (hbase : base ≤ w.heap.size)
    (h : ∀ v' w', w'.ownsRow base 5 1 v' (n + l.length) (xs ++ l.map ub) → w.grownBy w' v.ownBlock → wpList Tryz.prog ops Q rest (a.put o.dst v') w') : wpList Tryz.prog ops Q (o :: rest) a w := by
  obtain ⟨i, hi, hz, hs1, hby⟩ := info_parts El.u8.inf
  have hsz := str_size l
  refine Lib.wpList_append_own_string w hgd s x _ _ ho base _ i El.u8.und Tryz.underlying9 hi hz hs1 hby v n xs hs hown (str l) hx (by rw [hsz]; simp only [maxLen]; omega) (by rw [hsz]; exact hb) hbase fun v' w' h2 h3 _ => ?_
  rw [hsz, strCells_str] at h2
  exact h v' w' h2 h3
end Go.Proofs.YtfaemjlemaclbaaGreat
end
section
/- cutter.Cut in plain words. -/
namespace Go.Proofs.YtfaemjlemaclbaaGreat
set_option linter.unusedVariables false
set_option linter.unusedSimpArgs false
open Go.RowKit
def cutErr (n : Nat) (mtu : Int) : Int := if mtu < 1 ∨ 1024 < mtu ∨ n = 0 then 1 else if 1024 < n then 81 else if 64 < ((n : Int) + mtu - 1) / mtu then 2 else 0
/-- the i-th piece of m elements. -/
def piece {α : Type} (m : Nat) (l : List α) (i : Nat) : List α := (l.drop (i * m)).take m
def pieces {α : Type} (m : Nat) (l : List α) (k : Nat) : List (List α) := (List.range k).map (piece m l)

theorem cutErr_1 {n : Nat} {mtu : Int} (h : mtu < 1 ∨ 1024 < mtu ∨ n = 0) : cutErr n mtu = 1 := if_pos h
theorem cutErr_81 {n : Nat} {mtu : Int} (h : ¬ (mtu < 1 ∨ 1024 < mtu ∨ n = 0)) (h2 : 1024 < n) : cutErr n mtu = 81 := by rw [cutErr, if_neg h, if_pos h2]
theorem cutErr_2 {n : Nat} {mtu : Int} (h : ¬ (mtu < 1 ∨ 1024 < mtu ∨ n = 0)) (h2 : ¬ 1024 < n) (h3 : 64 < ((n : Int) + mtu - 1) / mtu) : cutErr n mtu = 2 := by rw [cutErr, if_neg h, if_neg h2, if_pos h3]
theorem cutErr_0 {n : Nat} {mtu : Int} (h : ¬ (mtu < 1 ∨ 1024 < mtu ∨ n = 0)) (h2 : ¬ 1024 < n) (h3 : ¬ 64 < ((n : Int) + mtu - 1) / mtu) : cutErr n mtu = 0 := by rw [cutErr, if_neg h, if_neg h2, if_neg h3]

theorem pieces_succ {α : Type} (m : Nat) (l : List α) (k : Nat) : pieces m l (k + 1) = pieces m l k ++ [piece m l k] := by
  simp [pieces, List.range_succ]
theorem piece_map {α β : Type} (f : α → β) (m : Nat) (l : List α) (k : Nat) : (piece m l k).map f = ((l.map f).drop (k * m)).take m := by
  simp [piece, List.map_drop, List.map_take]

def cutOf {α : Type} (l : List α) (mtu : Int) : List (List α) := if cutErr l.length mtu = 0 then pieces mtu.toNat l ((l.length + mtu.toNat - 1) / mtu.toNat) else []
theorem cutErr_zero {n : Nat} {mtu : Int} (h : cutErr n mtu = 0) : 1 ≤ mtu ∧ mtu ≤ 1024 ∧ 1 ≤ n ∧ n ≤ 1024 ∧ ((n : Int) + mtu - 1) / mtu ≤ 64 := by
  by_cases h1 : mtu < 1 ∨ 1024 < mtu ∨ n = 0
  · rw [cutErr_1 h1] at h; omega
  by_cases h2 : 1024 < n
  · rw [cutErr_81 h1 h2] at h; omega
  by_cases h3 : 64 < ((n : Int) + mtu - 1) / mtu
  · rw [cutErr_2 h1 h2 h3] at h; omega
  · omega
theorem cutErr_zero_nat {n m : Nat} (h : cutErr n (m : Int) = 0) : 1 ≤ m ∧ m ≤ 1024 ∧ 1 ≤ n ∧ n ≤ 1024 ∧ (n + m - 1) / m ≤ 64 ∧ n ≤ m * 64 := by
  obtain ⟨a, b, c, d, e⟩ := cutErr_zero h
  have e' : (((n + m - 1) / m : Nat) : Int) ≤ 64 := by rw [Int.natCast_ediv]; simpa [Int.ofNat_sub (show 1 ≤ n + m by omega)] using e
  have e2 : (n + m - 1) / m ≤ 64 := by omega
  refine ⟨by omega, by omega, c, d, e2, ?_⟩
  have h1 := Nat.lt_div_mul_add (a := n + m - 1) (b := m) (by omega)
  have h2 : (n + m - 1) / m * m ≤ 64 * m := Nat.mul_le_mul_right m e2
  rw [Nat.mul_comm m 64]
  omega
theorem cutOf_length {α : Type} (l : List α) (mtu : Int) : (cutOf l mtu).length ≤ 64 := by
  by_cases he : cutErr l.length mtu = 0
  · obtain ⟨m, rfl⟩ := Int.eq_ofNat_of_zero_le (show 0 ≤ mtu by have := cutErr_zero he; omega)
    obtain ⟨_, _, _, _, h, _⟩ := cutErr_zero_nat he
    simpa [cutOf, he, pieces] using h
  · simp [cutOf, he]
end Go.Proofs.YtfaemjlemaclbaaGreat
end
section
/- The element type of lists of ranges, as the program's tables tell it. -/
namespace Go.Proofs.YtfaemjlemaclbaaGreat
set_option linter.unusedVariables false
set_option linter.unusedSimpArgs false
theorem El.range : El Tryz.prog 33 63 (.agg #[.int .i64 0, .int .i64 0]) 2 16 := ⟨Tryz.underlying33, by kernel_rfl, rfl, by decide, by decide⟩
end Go.Proofs.YtfaemjlemaclbaaGreat
end
section
/- How lists of ranges lie, as words. -/
namespace Go.Proofs.YtfaemjlemaclbaaGreat
set_option linter.unusedVariables false
set_option linter.unusedSimpArgs false
open Go.RowKit
/-- a range's two cells. -/
def rv (x : Int × Int) : List Value := [.int .i64 x.1, .int .i64 x.2]
def rvs (l : List (Int × Int)) : List Value := l.flatMap rv
theorem rvs_len (l : List (Int × Int)) : (rvs l).length = l.length * 2 := by
  induction l with
  | nil => rfl
  | cons x l ih => simp [rvs, rv] at ih ⊢; omega
theorem rvs_app (l m : List (Int × Int)) : rvs (l ++ m) = rvs l ++ rvs m := by simp [rvs]
theorem rvs_one (l : List (Int × Int)) : ∀ x ∈ rvs l, x.oneCell' = true := by
  intro x hx
  simp only [rvs, List.mem_flatMap, rv] at hx
  obtain ⟨a, _, h⟩ := hx
  simp at h
  rcases h with rfl | rfl <;> rfl
theorem rvs_at : ∀ (l : List (Int × Int)) (i : Nat) (x : Int × Int), l[i]? = some x → (rvs l)[i * 2]? = some (.int .i64 x.1) ∧ (rvs l)[i * 2 + 1]? = some (.int .i64 x.2) := by
  intro l
  induction l with
  | nil => intro i x h; simp at h
  | cons y l ih =>
    intro i x h
    cases i with
    | zero =>
      simp at h
      subst h
      exact ⟨rfl, rfl⟩
    | succ i =>
      rw [List.getElem?_cons_succ] at h
      obtain ⟨h1, h2⟩ := ih i x h
      rw [show (i + 1) * 2 = i * 2 + 2 by omega]
      exact ⟨h1, h2⟩
/-- a slice value that reads as these ranges. -/
def Rgs (w : World) (v : Value) (l : List (Int × Int)) : Prop := Rd w v l.length (rvs l)
theorem Rgs.later {w w' : World} {v : Value} {l : List (Int × Int)} (h : Rgs w v l) (hb : Below w.heap.size w w') : Rgs w' v l := Rd.later h hb
theorem Rgs.same {S : Nat → Prop} {w w' : World} {v : Value} {l : List (Int × Int)} (h : Rgs w v l) (hb : Same S w w') (hS : ∀ b, v.ownBlock = some b → ¬ S b) : Rgs w' v l := Rd.same h hb hS
theorem Rgs.of_own {w : World} {base : Nat} {v : Value} {l : List (Int × Int)} (h : w.ownsRow base 63 2 v l.length (rvs l)) : Rgs w v l := Rd.of_own h
theorem Rgs.cells {w : World} {v : Value} {l : List (Int × Int)} (h : Rgs w v l) : ∃ ao cap, v = .slice ao l.length cap ∧ l.length ≤ maxLen ∧
    (0 < l.length → ∃ b off, ao = some ⟨b, off, none⟩ ∧ ∀ i x, l[i]? = some x → w.cell? ⟨b, off + i * 2, none⟩ = some (.int .i64 x.1) ∧ w.cell? ⟨b, off + i * 2 + 1, none⟩ = some (.int .i64 x.2)) := by
  obtain ⟨ao, cap, rfl, h1, h2, h3⟩ := h
  refine ⟨ao, cap, rfl, Nat.le_trans h1 h2, fun hn => ?_⟩
  obtain ⟨b, off, rfl, h4⟩ := h3 (fun e => by have := rvs_len l; rw [e] at this; simp at this; omega)
  refine ⟨b, off, rfl, fun i x hx => ?_⟩
  obtain ⟨h5, h6⟩ := rvs_at l i x hx
  exact ⟨h4 _ _ h5, by rw [Nat.add_assoc]; exact h4 _ _ h6⟩

/-- the last range's end, written anew. -/
theorem rvs_set (init : List (Int × Int)) (k : Int × Int) (z : Int) : (rvs (init ++ [k])).set (init.length * 2 + 1) (.int .i64 z) = rvs (init ++ [(k.1, z)]) := by
  rw [rvs_app, rvs_app, List.set_append_right _ _ (by rw [rvs_len]; omega), rvs_len, show init.length * 2 + 1 - init.length * 2 = 1 by omega]
  rfl
theorem own_setLast {w : World} {base g cap N : Nat} {init : List (Int × Int)} {k : Int × Int} (h : w.ownsRow base 63 2 (.slice (some ⟨g, 0, none⟩) N cap) N (rvs (init ++ [k]))) (hN : N = init.length + 1) (z : Int) :
    (w.setCell ⟨g, init.length * 2 + 1, none⟩ (.int .i64 z)).ownsRow base 63 2 (.slice (some ⟨g, 0, none⟩) N cap) N (rvs (init ++ [(k.1, z)])) := by
  obtain ⟨g', cap', rest, he, h1, h2, h3, h4, h5⟩ := own_blk h (by omega)
  injection he with e1 e2 e3
  injection e1 with e1
  injection e1 with e1
  subst e1; subst e3
  have := h4.set (init.length * 2 + 1) (.int .i64 z)
  rw [List.set_append_left _ _ (by rw [rvs_len]; simp; omega), rvs_set] at this
  exact own_of_blk this h1 (by rw [rvs_len]; simp; omega) h2 h3 (by rw [rvs_len] at h5 ⊢; simpa using h5)
end Go.Proofs.YtfaemjlemaclbaaGreat
end
section
/- A list of ranges that is the call's own, before and behind a sort of its row. -/
namespace Go.Proofs.YtfaemjlemaclbaaGreat
set_option linter.unusedVariables false
set_option linter.unusedSimpArgs false
open Go.RowKit Go.Sort Go.Proofs
theorem flat_rv (d : Array (Int × Int)) : flatK rv 2 d = (rvs d.toList).toArray := by
  apply Array.ext
  · simp [rvs_len]
  · intro t h1 h2
    have ht : t < d.size * 2 := by simpa using h1
    have hk : t / 2 < d.size := by omega
    obtain ⟨e1, e2⟩ := rvs_at d.toList (t / 2) d[t / 2] (by simp [hk])
    have hg := get_flatK rv 2 d t ht
    rw [getElem!_pos _ t h1] at hg
    rw [hg]
    have hd : d[t / 2]! = d[t / 2] := getElem!_pos d (t / 2) hk
    rw [hd]
    rcases Nat.mod_two_eq_zero_or_one t with hm | hm
    · rw [hm]
      rw [show t / 2 * 2 = t by omega] at e1
      have := (List.getElem?_eq_some_iff.1 e1).2
      rw [show (rvs d.toList).toArray[t]'h2 = (rvs d.toList)[t]'(by simpa using h2) from rfl, this]; rfl
    · rw [hm]
      rw [show t / 2 * 2 + 1 = t by omega] at e2
      have := (List.getElem?_eq_some_iff.1 e2).2
      rw [show (rvs d.toList).toArray[t]'h2 = (rvs d.toList)[t]'(by simpa using h2) from rfl, this]; rfl
theorem holds_rv {w : World} {g : Nat} {cur : Array Value} {e : TypeId} {l : List (Int × Int)} (hb : w.heap[g]? = some (.cells cur e (0, 0))) (ht : cur.toList.take (l.length * 2) = rvs l) : HoldsK rv 2 w g 0 l.toArray := by
  intro j hj
  rw [flat_rv] at hj ⊢
  have hj' : j < l.length * 2 := by simpa [rvs_len] using hj
  refine ⟨?_, by simp [World.frozen?, hb]⟩
  have h1 : (cur.toList.take (l.length * 2))[j]? = (rvs l)[j]? := by rw [ht]
  rw [List.getElem?_take_of_lt hj'] at h1
  have hlt : j < (rvs l).length := by rw [rvs_len]; exact hj'
  simp only [World.cell?, hb, Nat.zero_add]
  simp only [Option.isSome_none, Bool.false_eq_true, if_false]
  rw [← Array.getElem?_toList, h1, List.getElem?_eq_getElem hlt]
  simp [hlt]
theorem take_put (cur : Array Value) (xs : List Value) (h : xs.length ≤ cur.size) : (putCells id 0 xs.toArray cur).toList.take xs.length = xs := by
  apply List.ext_getElem?
  intro j
  by_cases hj : j < xs.length
  · rw [List.getElem?_take_of_lt hj, Array.getElem?_toList]
    simp [putCells, hj, show j < cur.size by omega]
  · rw [List.getElem?_take_eq_none (by omega), List.getElem?_eq_none (by omega)]
theorem sorted_rv {w : World} {base g cap n m : Nat} {e : TypeId} {os : Array Obj} {cur : Array Value} (d : Array (Int × Int)) (hd : d.size = m) (hbase : base ≤ g) (hb : w.heap[g]? = some (.cells cur e (0, 0)))
    (h1 : m ≤ cap) (h2 : cap ≤ maxLen) (h3 : cur.size = cap * 2) :
    (sortWorldK rv 2 w g 0 n d os).ownsRow base e 2 (.slice (some ⟨g, 0, none⟩) m cap) m (rvs d.toList) ∧ w.grownBy (sortWorldK rv 2 w g 0 n d os) (some g) := by
  have hg : g < w.heap.size := (Array.getElem?_eq_some_iff.1 hb).1
  have hheap : (sortWorldK rv 2 w g 0 n d os).heap[g]? = some (.cells (putCells id 0 (rvs d.toList).toArray cur) e (0, 0)) := by
    unfold sortWorldK putRowK
    rw [flat_rv, heap_grow_old _ _ (by simpa [Sort.ahead, putRow, mapBlock] using hg)]
    simp [putRow, mapBlock, Sort.ahead, Array.getElem?_modify, hb, onCells]
  have hl : (rvs d.toList).length = m * 2 := by rw [rvs_len]; simp [hd]
  refine ⟨⟨hl, .inr ⟨g, cap, _, rfl, hbase, hheap, h1, h2, by simp [putCells, h3], ?_⟩⟩, rfl, rfl, rfl, by simp [sortWorldK, putRowK, putRow, mapBlock, Sort.ahead, grow], fun k hk hne => ?_⟩
  · rw [← hl]
    exact take_put cur _ (by rw [hl, h3]; exact Nat.mul_le_mul_right 2 h1)
  · unfold sortWorldK putRowK
    rw [heap_grow_old _ _ (by simpa [Sort.ahead, putRow, mapBlock] using hk)]
    have : g ≠ k := fun e => hne (by rw [e])
    simp [putRow, mapBlock, Sort.ahead, Array.getElem?_modify, this]
end Go.Proofs.YtfaemjlemaclbaaGreat
end
section
/- cmp.Compare at two numbers, and the order by which pdu.Least sorts. -/
namespace Go.Proofs.YtfaemjlemaclbaaGreat
set_option linter.unusedVariables false
set_option linter.unusedSimpArgs false
open Go.RowKit Go.Sort Go.Proofs
set_option maxHeartbeats 1000000 in
theorem isNaN_any (a : Int) (w : World) : Calls Tryz.prog 79 #[.int .i64 a] w fun e w' => e = .returned (.bool false) ∧ w = w' := by
  go_enter Tryz.func79, Tryz.ntmps79
  go_wp2
  go_ret
  exact ⟨rfl, rfl⟩
set_option maxHeartbeats 1000000 in
theorem cmp_any (a b : Int) (w : World) : Calls Tryz.prog 60 #[.int .i64 a, .int .i64 b] w fun e w' => e = .returned (.int .i64 (Lib.compareInt a b)) ∧ w = w' := by
  by_cases h1 : a < b
  · go_enter Tryz.func60, Tryz.ntmps60
    go_wp2_with fail
    refine (isNaN_any _ _).mono ?_
    rintro e _ ⟨rfl, rfl⟩
    go_wp2_with fail
    refine (isNaN_any _ _).mono ?_
    rintro e _ ⟨rfl, rfl⟩
    go_wp2_with fail
    go_ret
    exact ⟨by rw [show Lib.compareInt a b = -1 by unfold Lib.compareInt; split <;> (try split) <;> omega]; rfl, rfl⟩
  · by_cases h2 : b < a
    · go_enter Tryz.func60, Tryz.ntmps60
      go_wp2_with fail
      refine (isNaN_any _ _).mono ?_
      rintro e _ ⟨rfl, rfl⟩
      go_wp2_with fail
      refine (isNaN_any _ _).mono ?_
      rintro e _ ⟨rfl, rfl⟩
      go_wp2_with fail
      go_ret
      exact ⟨by rw [show Lib.compareInt a b = 1 by unfold Lib.compareInt; split <;> (try split) <;> omega]; rfl, rfl⟩
    · go_enter Tryz.func60, Tryz.ntmps60
      go_wp2_with fail
      refine (isNaN_any _ _).mono ?_
      rintro e _ ⟨rfl, rfl⟩
      go_wp2_with fail
      refine (isNaN_any _ _).mono ?_
      rintro e _ ⟨rfl, rfl⟩
      go_wp2_with fail
      go_ret
      exact ⟨by rw [show Lib.compareInt a b = 0 by unfold Lib.compareInt; split <;> (try split) <;> omega]; rfl, rfl⟩
set_option maxHeartbeats 1000000 in
/-- pdu.Least's order: two blocks are laid. -/
theorem byFrom_any (x y : Int × Int) (W : World) : Calls Tryz.prog 81 #[.agg #[.int .i64 x.1, .int .i64 x.2], .agg #[.int .i64 y.1, .int .i64 y.2]] W fun e w' => e = .returned (.int .i64 (Lib.compareInt x.1 y.1)) ∧ ∃ q os', w' = grow (W.drewN q) os' := by
  obtain ⟨x1, x2⟩ := x
  obtain ⟨y1, y2⟩ := y
  simp only
  have hcon := fun W' => cmp_any x1 y1 W'
  generalize Lib.compareInt x1 y1 = r at hcon ⊢
  go_enter Tryz.func81, Tryz.ntmps81
  go_wp2_with fail
  refine (hcon _).mono ?_
  rintro e _ ⟨rfl, rfl⟩
  go_wp2_with fail
  go_ret
  exact ⟨rfl, 0, _, by rw [alloc_eq_grow, alloc_eq_grow, grow_grow]; rfl⟩
end Go.Proofs.YtfaemjlemaclbaaGreat
end
section
/-
  DERIVED: THE SHELF's CONTRACTS AT THIS DUMP, IN PLAIN WORDS (tools/lay-plain.mjs out of 'YtfaemjlemaclbaaGreatShelf.lean', which tools/lay-shelf.mjs wrote): THE SAME DECLARATIONS UNDER THE SAME NAMES: 'import', 'namespace', 'open', 'def', 'theorem' AND NOTHING ELSE: no command of the shelf's: FOR A HAND-IN. Each laying: the table of numbers ('.._ren') and one theorem, a field a fact of the dump's own or the kernel's comparison; each contract: ONE APPLICATION.
-/
namespace Go.Proofs
open Go.Shelf
def Tryz.sortRange_ren : Go.Shelf.Ren := ⟨fun | 6 => 80 | 15 => 78 | 14 => 101 | 28 => 99 | 29 => 100 | 20 => 112 | 21 => 113 | 22 => 114 | 23 => 115 | 24 => 116 | 25 => 117 | 26 => 118 | 27 => 119 | 46 => 125 | 47 => 108 | 48 => 109 | 49 => 126 | 50 => 127 | 57 => 130 | n => n, fun | 22 => 33 | 24 => 63 | 25 => 137 | 3 => 3 | 39 => 135 | 0 => 0 | 53 => 159 | 55 => 31 | 4 => 4 | 46 => 152 | 45 => 151 | 50 => 156 | 5 => 5 | 9 => 9 | 66 => 169 | 70 => 91 | 76 => 183 | 77 => 184 | n => n, fun | n => n⟩
theorem Tryz.sortRange : Go.Proofs.SlLaysF0.n6 Tryz.prog Tryz.sortRange_ren := {
  mixed := by kernel_rfl
  f6 := ⟨Tryz.f80.name, by decide, Tryz.func80.trans (congrArg some (by kernel_rfl))⟩
  f14 := ⟨Tryz.f101.name, by decide, Tryz.func101.trans (congrArg some (by kernel_rfl))⟩
  f15 := Tryz.func78.trans (congrArg some (by kernel_rfl))
  f20 := ⟨Tryz.f112.name, by decide, Tryz.func112.trans (congrArg some (by kernel_rfl))⟩
  f21 := ⟨Tryz.f113.name, by decide, Tryz.func113.trans (congrArg some (by kernel_rfl))⟩
  f22 := ⟨Tryz.f114.name, by decide, Tryz.func114.trans (congrArg some (by kernel_rfl))⟩
  f23 := ⟨Tryz.f115.name, by decide, Tryz.func115.trans (congrArg some (by kernel_rfl))⟩
  f24 := ⟨Tryz.f116.name, by decide, Tryz.func116.trans (congrArg some (by kernel_rfl))⟩
  f25 := ⟨Tryz.f117.name, by decide, Tryz.func117.trans (congrArg some (by kernel_rfl))⟩
  f26 := ⟨Tryz.f118.name, by decide, Tryz.func118.trans (congrArg some (by kernel_rfl))⟩
  f27 := ⟨Tryz.f119.name, by decide, Tryz.func119.trans (congrArg some (by kernel_rfl))⟩
  f28 := Tryz.func99.trans (congrArg some (by kernel_rfl))
  f29 := Tryz.func100.trans (congrArg some (by kernel_rfl))
  f46 := ⟨Tryz.f125.name, by decide, Tryz.func125.trans (congrArg some (by kernel_rfl))⟩
  f47 := Tryz.func108.trans (congrArg some (by kernel_rfl))
  f48 := Tryz.func109.trans (congrArg some (by kernel_rfl))
  f49 := ⟨Tryz.f126.name, by decide, Tryz.func126.trans (congrArg some (by kernel_rfl))⟩
  f50 := ⟨Tryz.f127.name, by decide, Tryz.func127.trans (congrArg some (by kernel_rfl))⟩
  f57 := ⟨Tryz.f130.name, by decide, Tryz.func130.trans (congrArg some (by kernel_rfl))⟩
  t0 := Tryz.underlying0
  a0 := Tryz.isAgg0
  z0 := Tryz.sizeOf0
  v0 := Tryz.zeroValue0
  t3 := Tryz.underlying3
  a3 := Tryz.isAgg3
  z3 := Tryz.sizeOf3
  v3 := Tryz.zeroValue3
  t4 := Tryz.underlying4
  a4 := Tryz.isAgg4
  z4 := Tryz.sizeOf4
  v4 := Tryz.zeroValue4
  t5 := Tryz.underlying5
  a5 := Tryz.isAgg5
  z5 := Tryz.sizeOf5
  v5 := Tryz.zeroValue5
  t9 := Tryz.underlying9
  a9 := Tryz.isAgg9
  z9 := Tryz.sizeOf9
  v9 := Tryz.zeroValue9
  t22 := Tryz.underlying33
  a22 := Tryz.isAgg33
  z22 := Tryz.sizeOf33
  v22 := Tryz.zeroValue33
  t25 := Tryz.underlying137
  a25 := Tryz.isAgg137
  z25 := Tryz.sizeOf137
  v25 := Tryz.zeroValue137
  t39 := Tryz.underlying135
  a39 := Tryz.isAgg135
  z39 := Tryz.sizeOf135
  v39 := Tryz.zeroValue135
  t45 := Tryz.underlying151
  a45 := Tryz.isAgg151
  z45 := Tryz.sizeOf151
  v45 := Tryz.zeroValue151
  t46 := Tryz.underlying152
  a46 := Tryz.isAgg152
  z46 := Tryz.sizeOf152
  v46 := Tryz.zeroValue152
  t50 := Tryz.underlying156
  a50 := Tryz.isAgg156
  z50 := Tryz.sizeOf156
  v50 := Tryz.zeroValue156
  t53 := Tryz.underlying159
  a53 := Tryz.isAgg159
  z53 := Tryz.sizeOf159
  v53 := Tryz.zeroValue159
  t55 := Tryz.underlying31
  a55 := Tryz.isAgg31
  z55 := Tryz.sizeOf31
  v55 := Tryz.zeroValue31
  t66 := Tryz.underlying169
  a66 := Tryz.isAgg169
  z66 := Tryz.sizeOf169
  v66 := Tryz.zeroValue169
  t70 := Tryz.underlying91
  a70 := Tryz.isAgg91
  z70 := Tryz.sizeOf91
  v70 := Tryz.zeroValue91
  t76 := Tryz.underlying183
  a76 := Tryz.isAgg183
  z76 := Tryz.sizeOf183
  v76 := Tryz.zeroValue183
  t77 := Tryz.underlying184
  a77 := Tryz.isAgg184
  z77 := Tryz.sizeOf184
  v77 := Tryz.zeroValue184 }
def Tryz.sortSess_ren : Go.Shelf.Ren := ⟨fun | 6 => 58 | 15 => 78 | 14 => 77 | 28 => 99 | 29 => 100 | 20 => 91 | 21 => 92 | 22 => 93 | 23 => 94 | 24 => 95 | 25 => 96 | 26 => 97 | 27 => 98 | 46 => 107 | 47 => 108 | 48 => 109 | 49 => 110 | 50 => 111 | 57 => 124 | n => n, fun | 22 => 50 | 24 => 66 | 25 => 127 | 3 => 3 | 39 => 135 | 0 => 0 | 53 => 159 | 55 => 31 | 4 => 4 | 46 => 152 | 45 => 151 | 50 => 156 | 5 => 5 | 9 => 9 | 66 => 169 | 70 => 91 | 76 => 183 | 77 => 184 | n => n, fun | n => n⟩
theorem Tryz.sortSess : Go.Proofs.SlLaysF0.n6 Tryz.prog Tryz.sortSess_ren := {
  mixed := by kernel_rfl
  f6 := ⟨Tryz.f58.name, by decide, Tryz.func58.trans (congrArg some (by kernel_rfl))⟩
  f14 := ⟨Tryz.f77.name, by decide, Tryz.func77.trans (congrArg some (by kernel_rfl))⟩
  f15 := Tryz.func78.trans (congrArg some (by kernel_rfl))
  f20 := ⟨Tryz.f91.name, by decide, Tryz.func91.trans (congrArg some (by kernel_rfl))⟩
  f21 := ⟨Tryz.f92.name, by decide, Tryz.func92.trans (congrArg some (by kernel_rfl))⟩
  f22 := ⟨Tryz.f93.name, by decide, Tryz.func93.trans (congrArg some (by kernel_rfl))⟩
  f23 := ⟨Tryz.f94.name, by decide, Tryz.func94.trans (congrArg some (by kernel_rfl))⟩
  f24 := ⟨Tryz.f95.name, by decide, Tryz.func95.trans (congrArg some (by kernel_rfl))⟩
  f25 := ⟨Tryz.f96.name, by decide, Tryz.func96.trans (congrArg some (by kernel_rfl))⟩
  f26 := ⟨Tryz.f97.name, by decide, Tryz.func97.trans (congrArg some (by kernel_rfl))⟩
  f27 := ⟨Tryz.f98.name, by decide, Tryz.func98.trans (congrArg some (by kernel_rfl))⟩
  f28 := Tryz.func99.trans (congrArg some (by kernel_rfl))
  f29 := Tryz.func100.trans (congrArg some (by kernel_rfl))
  f46 := ⟨Tryz.f107.name, by decide, Tryz.func107.trans (congrArg some (by kernel_rfl))⟩
  f47 := Tryz.func108.trans (congrArg some (by kernel_rfl))
  f48 := Tryz.func109.trans (congrArg some (by kernel_rfl))
  f49 := ⟨Tryz.f110.name, by decide, Tryz.func110.trans (congrArg some (by kernel_rfl))⟩
  f50 := ⟨Tryz.f111.name, by decide, Tryz.func111.trans (congrArg some (by kernel_rfl))⟩
  f57 := ⟨Tryz.f124.name, by decide, Tryz.func124.trans (congrArg some (by kernel_rfl))⟩
  t0 := Tryz.underlying0
  a0 := Tryz.isAgg0
  z0 := Tryz.sizeOf0
  v0 := Tryz.zeroValue0
  t3 := Tryz.underlying3
  a3 := Tryz.isAgg3
  z3 := Tryz.sizeOf3
  v3 := Tryz.zeroValue3
  t4 := Tryz.underlying4
  a4 := Tryz.isAgg4
  z4 := Tryz.sizeOf4
  v4 := Tryz.zeroValue4
  t5 := Tryz.underlying5
  a5 := Tryz.isAgg5
  z5 := Tryz.sizeOf5
  v5 := Tryz.zeroValue5
  t9 := Tryz.underlying9
  a9 := Tryz.isAgg9
  z9 := Tryz.sizeOf9
  v9 := Tryz.zeroValue9
  t22 := Tryz.underlying50
  a22 := Tryz.isAgg50
  z22 := Tryz.sizeOf50
  v22 := Tryz.zeroValue50
  t25 := Tryz.underlying127
  a25 := Tryz.isAgg127
  z25 := Tryz.sizeOf127
  v25 := Tryz.zeroValue127
  t39 := Tryz.underlying135
  a39 := Tryz.isAgg135
  z39 := Tryz.sizeOf135
  v39 := Tryz.zeroValue135
  t45 := Tryz.underlying151
  a45 := Tryz.isAgg151
  z45 := Tryz.sizeOf151
  v45 := Tryz.zeroValue151
  t46 := Tryz.underlying152
  a46 := Tryz.isAgg152
  z46 := Tryz.sizeOf152
  v46 := Tryz.zeroValue152
  t50 := Tryz.underlying156
  a50 := Tryz.isAgg156
  z50 := Tryz.sizeOf156
  v50 := Tryz.zeroValue156
  t53 := Tryz.underlying159
  a53 := Tryz.isAgg159
  z53 := Tryz.sizeOf159
  v53 := Tryz.zeroValue159
  t55 := Tryz.underlying31
  a55 := Tryz.isAgg31
  z55 := Tryz.sizeOf31
  v55 := Tryz.zeroValue31
  t66 := Tryz.underlying169
  a66 := Tryz.isAgg169
  z66 := Tryz.sizeOf169
  v66 := Tryz.zeroValue169
  t70 := Tryz.underlying91
  a70 := Tryz.isAgg91
  z70 := Tryz.sizeOf91
  v70 := Tryz.zeroValue91
  t76 := Tryz.underlying183
  a76 := Tryz.isAgg183
  z76 := Tryz.sizeOf183
  v76 := Tryz.zeroValue183
  t77 := Tryz.underlying184
  a77 := Tryz.isAgg184
  z77 := Tryz.sizeOf184
  v77 := Tryz.zeroValue184 }
end Go.Proofs
end
section
/- slices.SortFunc at ranges, by where they begin: the row is a sorted permutation of what it was. -/
namespace Go.Proofs.YtfaemjlemaclbaaGreat
set_option linter.unusedVariables false
set_option linter.unusedSimpArgs false
open Go.RowKit Go.Sort Go.Proofs
theorem ltFrom (x y : Int × Int) : ltOf (fun x y : Int × Int => Lib.compareInt x.1 y.1) x y = decide (x.1 < y.1) := by
  unfold ltOf Lib.compareInt
  by_cases h1 : x.1 < y.1
  · simp [h1]
  · by_cases h2 : y.1 < x.1 <;> simp [h1, h2]
theorem swoFrom : SWO (ltOf fun x y : Int × Int => Lib.compareInt x.1 y.1) where
  irrefl x := by rw [ltFrom]; simp
  trans x y z h1 h2 := by rw [ltFrom] at *; simp at *; omega
  ntrans x y z h1 h2 := by rw [ltFrom] at *; simp at *; omega
theorem sort_any (base : Nat) (v : Value) (l : List (Int × Int)) (w : World) (hown : w.ownsRow base 63 2 v l.length (rvs l)) (hl : l.length < 4611686018427387904) :
    Calls Tryz.prog 80 #[v, .func (.func 81) #[] #[]] w fun e w' => e = .returned (.tuple #[]) ∧ ∃ l', l'.Perm l ∧ l'.Pairwise (fun a b => a.1 ≤ b.1) ∧
      w'.ownsRow base 63 2 v l'.length (rvs l') ∧ w.grownBy w' v.ownBlock := by
  rcases hown.2 with ⟨rfl, hn⟩ | ⟨g, cap, cur, rfl, hbase, hb, h1, h2, h3, h4⟩
  · have hl0 : l = [] := List.length_eq_zero_iff.1 hn
    subst hl0
    have hcon := AnyF.slices_SortFunc_none Tryz.sortRange none 0 (.func (.func 81) #[] #[]) w
    change Calls Tryz.prog 80 _ _ _ at hcon
    refine hcon.mono ?_
    rintro e w' ⟨rfl, rfl⟩
    exact ⟨rfl, [], List.Perm.refl _, List.Pairwise.nil, hown, World.grownBy.refl _ _⟩
  · have eg : ∀ args w, (callFunc 81 args).run Tryz.prog w = .ok (.enter 81 args) w := enters_of Tryz.func81 (by kernel_rfl) rfl
    have hcon := AnyQ.slices_SortFunc Tryz.sortRange 2 Tryz.isAgg63 Tryz.sizeOf63 rv (fun _ => rfl) (fun x v hv => by simp [rv] at hv; rcases hv with rfl | rfl <;> rfl) (fun x y => Lib.compareInt x.1 y.1) swoFrom 81 #[] g 0 cap l.toArray w eg
      (fun _ _ _ _ x y => byFrom_any x y _) (holds_rv hb h4) (Array.getElem?_eq_some_iff.1 hb).1 (by simpa using hl)
    change Calls Tryz.prog 80 _ _ _ at hcon
    simp only [List.size_toArray] at hcon
    refine hcon.mono ?_
    rintro e w' ⟨rfl, d, n, os, ⟨hd, _, hp⟩, hs, rfl⟩
    have hd' : d.size = l.length := by simpa using hd
    obtain ⟨o1, o2⟩ := sorted_rv (n := n) (os := os) d hd' hbase hb h1 h2 h3
    refine ⟨rfl, d.toList, ?_, ?_, by simpa [hd'] using o1, o2⟩
    · have e1 : (d.extract 0 l.length).toList = d.toList := by rw [← hd']; simp
      have e2 : (l.toArray.extract 0 l.length).toList = l := by simp
      rw [e1, e2] at hp
      exact hp
    · rw [List.pairwise_iff_getElem]
      intro i j hi hj hij
      have hi' : i < d.size := by simpa using hi
      have hj' : j < d.size := by simpa using hj
      have := hs i j (Nat.zero_le _) hij (by omega)
      rw [ltFrom, getElem!_pos d i hi', getElem!_pos d j hj'] at this
      simpa using this
end Go.Proofs.YtfaemjlemaclbaaGreat
end
section
/- What a call on the holder of some blocks leaves. Nothing of the program in it. -/
namespace Go.Proofs.YtfaemjlemaclbaaGreat
set_option linter.unusedVariables false
set_option linter.unusedSimpArgs false
open Go.RowKit
/-- what a call on the holder of the blocks S does: it keeps to them and to new ones. -/
structure Turn (S S' : Nat → Prop) (w w' : World) : Prop where
  same : Same S w w'
  foot : ∀ b, S' b → S b ∨ w.heap.size ≤ b
theorem Turn.refl (S : Nat → Prop) (w : World) : Turn S S w w := ⟨Same.refl _ _, fun _ h => .inl h⟩
theorem Turn.of_below {w w' : World} (h : Below w.heap.size w w') (S : Nat → Prop) : Turn S S w w' := ⟨Same.of_below h S, fun _ h => .inl h⟩
theorem Turn.trans {S S' S'' : Nat → Prop} {w w' w'' : World} (h : Turn S S' w w') (k : Turn S' S'' w' w'') : Turn S S'' w w'' :=
  ⟨h.same.trans k.same fun i hi e => by
    rcases h.foot i e with e' | e'
    · exact e'
    · omega, fun b hb => by
    rcases k.foot b hb with e | e
    · exact h.foot b e
    · exact .inr (Nat.le_trans h.same.size e)⟩
/-- the holder of more. -/
theorem Turn.frame {S S' R : Nat → Prop} {w w' : World} (h : Turn S S' w w') : Turn (fun b => S b ∨ R b) (fun b => S' b ∨ R b) w w' :=
  ⟨h.same.mono fun _ _ h => .inl h, fun b hb => by
    rcases hb with e | e
    · exact (h.foot b e).imp .inl id
    · exact .inl (.inr e)⟩
theorem Turn.congr {S S' T T' : Nat → Prop} {w w' : World} (h : Turn S S' w w') (h1 : ∀ b, S b → T b) (h2 : ∀ b, T' b → S' b ∨ T b) : Turn T T' w w' :=
  ⟨h.same.mono fun b _ hb => h1 b hb, fun b hb => by
    rcases h2 b hb with e | e
    · exact (h.foot b e).imp (h1 b) id
    · exact .inl e⟩
end Go.Proofs.YtfaemjlemaclbaaGreat
end
section
/- The reference's length: of the first segment that is there and not the last. -/
namespace Go.Proofs.YtfaemjlemaclbaaGreat
set_option linter.unusedVariables false
set_option linter.unusedSimpArgs false
open Go.RowKit
/-- of the segments but the last, the first that is there: its length; 0: none. -/
def lenOf (ls : List (List UInt8)) : Nat := ((ls.take (ls.length - 1)).find? fun p => decide (0 < p.length)).elim 0 List.length
theorem lenOf_at {ls : List (List UInt8)} {k : Nat} (hk : k + 1 < ls.length) (h0 : ∀ j, j < k → ls.getD j [] = []) (h1 : 0 < (ls.getD k []).length) : lenOf ls = (ls.getD k []).length := by
  unfold lenOf
  have hl : k < (ls.take (ls.length - 1)).length := by rw [List.length_take]; omega
  have hf : (ls.take (ls.length - 1)).find? (fun p => decide (0 < p.length)) = some (ls.getD k []) := by
    rw [List.find?_eq_some_iff_getElem]
    refine ⟨by simpa using h1, k, hl, ?_, fun j hj => ?_⟩
    · rw [List.getElem_take, List.getD_eq_getElem?_getD, List.getElem?_eq_getElem (by omega)]; rfl
    · rw [List.getElem_take]
      have := h0 j hj
      rw [List.getD_eq_getElem?_getD, List.getElem?_eq_getElem (by omega)] at this
      simp at this
      simp [this]
  rw [hf]; rfl
theorem lenOf_none {ls : List (List UInt8)} (h0 : ∀ j, j + 1 < ls.length → ls.getD j [] = []) : lenOf ls = 0 := by
  unfold lenOf
  have hf : (ls.take (ls.length - 1)).find? (fun p => decide (0 < p.length)) = none := by
    rw [List.find?_eq_none]
    intro p hp
    obtain ⟨j, hj, rfl⟩ := List.mem_iff_getElem.1 hp
    rw [List.length_take] at hj
    have := h0 j (by omega)
    rw [List.getD_eq_getElem?_getD, List.getElem?_eq_getElem (by omega)] at this
    simp at this
    simp [List.getElem_take, this]
  rw [hf]; rfl
set_option maxHeartbeats 1000000 in
set_option maxRecDepth 100000 in
theorem refLen_any (v : Value) (ls : List (List UInt8)) (w : World) (h : Bss w v ls) (hl : ls.length ≤ 140737488355328) :
    Calls Tryz.prog 102 #[v] w fun e w' => e = .returned (.int .i64 (lenOf ls)) ∧ w = w' := by
  obtain ⟨vs, hvl, ⟨ao, cap, rfl, _, _, hr⟩, hin⟩ := h
  go_enter Tryz.func102, Tryz.ntmps102
  go_wp2
  go_loopw [3] (fun i wr => ∃ k : Nat, (k ≤ ls.length) ∧ i = .int .i64 k ∧ (∀ j, j < k → ls.getD j [] = []) ∧ wr = w) (fun i _ => ls.length - (intOf i).toNat)
  case atStart => exact ⟨0, Nat.zero_le _, rfl, fun j hj => by omega, rfl⟩
  case round =>
    obtain ⟨k, hk, rfl, h0, rfl⟩ := hrel
    by_cases hlt : k + 1 < ls.length
    · obtain ⟨x, hx⟩ : ∃ x, vs[k]? = some x := ⟨_, List.getElem?_eq_getElem (by omega)⟩
      obtain ⟨b, off, rfl, hc⟩ := hr (by intro h; rw [h] at hx; simp at hx)
      have e1 := hc k x hx
      have b1 := hin k x _ hx (List.getElem?_eq_getElem (by omega))
      obtain ⟨p, hp⟩ : ∃ p, p = ls[k] := ⟨_, rfl⟩
      rw [← hp] at b1
      have hpd : ls.getD k [] = p := by rw [List.getD_eq_getElem?_getD, List.getElem?_eq_getElem (by omega), hp]; rfl
      obtain ⟨xp, xc, rfl, -⟩ := id b1
      have ix : (k : Int) < ls.length := by omega
      have H0 := Lib.hid h0; have HPD := Lib.hid hpd
      clear hp hin hr hc hx h0 hpd b1
      by_cases hpz : 0 < p.length
      · go_wp2
        go_ret
        exact ⟨by rw [lenOf_at hlt H0.out (by rw [HPD.out]; exact hpz), HPD.out]; rfl, rfl⟩
      · go_wp2
        go_roundw
        case rel => exact ⟨k + 1, by omega, by go_num, fun j hj => by
          by_cases e : j = k
          · subst e; rw [HPD.out]; exact List.length_eq_zero_iff.1 (by omega)
          · exact H0.out j (by omega), by first | rfl | trivial⟩
        case measure => simp [intOf]; omega
    · have H0 := Lib.hid h0
      clear hin hr h0
      go_wp2
      go_ret
      exact ⟨by rw [lenOf_none fun j hj => H0.out j (by omega)]; rfl, rfl⟩
end Go.Proofs.YtfaemjlemaclbaaGreat
end
section
/- Lists of byte slices, each in a block of its own. -/
namespace Go.Proofs.YtfaemjlemaclbaaGreat
set_option linter.unusedVariables false
set_option linter.unusedSimpArgs false
open Go.RowKit

/-- v owns slices of bytes, each in a block of its own. -/
def Parts (w : World) (base : Nat) (v : Value) (ls : List (List UInt8)) : Prop :=
  ∃ vs : List Value, w.ownsRow base 32 1 v ls.length vs ∧ (∀ (i : Nat) (x : Value) (l : List UInt8), vs[i]? = some x → ls[i]? = some l → w.ownsRow base 5 1 x l.length (l.map ub)) ∧
    (∀ (i j : Nat) (x y : Value), i < j → vs[i]? = some x → vs[j]? = some y → x.ownBlock = none ∨ x.ownBlock ≠ y.ownBlock)

theorem parts_nil (w : World) (base : Nat) : Parts w base (.slice none 0 0) [] := ⟨[], World.ownsRow_nil _ _ _ _, by simp, by simp⟩
theorem parts_snoc {w w1 w2 : World} {base : Nat} {v v1 v2 : Value} {vs : List Value} {ls : List (List UInt8)} {l : List UInt8} (hb : base ≤ w.heap.size)
    (h0 : w.ownsRow base 32 1 v ls.length vs) (hin : ∀ (i : Nat) (x : Value) (l : List UInt8), vs[i]? = some x → ls[i]? = some l → w.ownsRow base 5 1 x l.length (l.map ub))
    (hne : ∀ (i j : Nat) (x y : Value), i < j → vs[i]? = some x → vs[j]? = some y → x.ownBlock = none ∨ x.ownBlock ≠ y.ownBlock)
    (h1 : w1.ownsRow w.heap.size 5 1 v1 l.length (l.map ub)) (hB : Below w.heap.size w w1)
    (h2 : w2.ownsRow base 32 1 v2 (ls.length + 1) (vs ++ [v1])) (hg : w1.grownBy w2 v.ownBlock) : Parts w2 base v2 (ls ++ [l]) := by
  have hvl : vs.length = ls.length := by simpa using h0.1
  have h0' := own_later h0 hB
  have step : ∀ {x : Value} {m : Nat} {xs : List Value} {base : Nat}, w1.ownsRow base 5 1 x m xs → w2.ownsRow base 5 1 x m xs := fun h =>
    own_same h (Same.of_grown hg) (fun b hb he => by
      rcases own_ne h h0' (by decide) with hh | hh
      · rw [hb] at hh; cases hh
      · exact hh (hb.trans he))
  refine ⟨vs ++ [v1], by simpa using h2, fun i x l' hx hl => ?_, fun i j x y hij hx hy => ?_⟩
  · by_cases hi : i < vs.length
    · rw [List.getElem?_append_left hi] at hx
      rw [List.getElem?_append_left (by omega)] at hl
      exact step (own_later (hin i x l' hx hl) hB)
    · rw [List.getElem?_append_right (by omega)] at hx hl
      have : i = vs.length := by
        have := (List.getElem?_eq_some_iff.1 hx).1
        simp at this; omega
      subst this
      simp at hx
      rw [hvl] at hl
      simp at hl
      subst hx; subst hl
      exact own_mono (step h1) hb
  · by_cases hj : j < vs.length
    · rw [List.getElem?_append_left hj] at hy
      rw [List.getElem?_append_left (by omega)] at hx
      exact hne i j x y hij hx hy
    · rw [List.getElem?_append_right (by omega)] at hy
      have : j = vs.length := by
        have := (List.getElem?_eq_some_iff.1 hy).1
        simp at this; omega
      subst this
      simp at hy
      subst hy
      rw [List.getElem?_append_left hij] at hx
      have hx' := hin i x _ hx (List.getElem?_eq_getElem (hvl ▸ hij))
      cases hxo : x.ownBlock with
      | none => exact .inl rfl
      | some k =>
        refine .inr fun he => ?_
        have a := (hx'.lt k hxo).2
        have b := (h1.lt k he.symm).1
        omega
/-- the last of the slices has grown, and lies in the list again. -/
theorem parts_put {w w1 : World} {base g c n : Nat} {x x1 : Value} {vs : List Value} {ls : List (List UInt8)} {t : List UInt8} {u : UInt8} (hn : ls.length = n)
    (h0 : w.ownsRow base 32 1 (.slice (some ⟨g, 0, none⟩) (n + 1) c) (n + 1) vs) (hin : ∀ (i : Nat) (x : Value) (l : List UInt8), vs[i]? = some x → (ls ++ [t])[i]? = some l → w.ownsRow base 5 1 x l.length (l.map ub))
    (hne : ∀ (i j : Nat) (x y : Value), i < j → vs[i]? = some x → vs[j]? = some y → x.ownBlock = none ∨ x.ownBlock ≠ y.ownBlock) (hx : vs[n]? = some x)
    (h1 : w1.ownsRow base 5 1 x1 (t.length + 1) (t.map ub ++ [ub u])) (hg : w.grownBy w1 x.ownBlock) (hN : Newer w x x1) :
    Parts (w1.setCell ⟨g, n, none⟩ x1) base (.slice (some ⟨g, 0, none⟩) (n + 1) c) (ls ++ [t ++ [u]]) := by
  subst hn
  have hvl : vs.length = ls.length + 1 := by simpa using h0.1
  have hxo := hin _ x t hx (by simp)
  have hox := own_ne hxo h0 (by decide)
  have h0' := h0.kept hg (by rcases hox with h | h; (right; rw [h]; simp [Value.ownBlock]); exact .inr (Ne.symm h))
  have hs := h0'.stored ls.length x1
  have hkeep : ∀ {y : Value} {n : Nat} {xs : List Value}, w1.ownsRow base 5 1 y n xs → (w1.setCell ⟨g, ls.length, none⟩ x1).ownsRow base 5 1 y n xs := fun h => h.kept hs.2 (own_ne h h0' (by decide))
  refine ⟨vs.set ls.length x1, by simpa using hs.1, fun i y l hy hl => ?_, fun i j y z hij hy hz => ?_⟩
  · rw [List.getElem?_set] at hy
    split at hy
    · next he =>
      subst he
      rw [if_pos (by omega)] at hy
      obtain rfl : x1 = y := by simpa using hy
      obtain rfl : t ++ [u] = l := by simpa using hl
      exact hkeep (by simpa using h1)
    · next he =>
      have hi : i < ls.length := by have := (List.getElem?_eq_some_iff.1 hy).1; omega
      rw [List.getElem?_append_left hi] at hl
      have hy' := hin i y l hy (by rw [List.getElem?_append_left hi]; exact hl)
      refine hkeep (hy'.kept hg ?_)
      exact hne i ls.length y x hi hy hx
  · have hjl : j < ls.length + 1 := by have := (List.getElem?_eq_some_iff.1 hz).1; simp at this; omega
    rw [List.getElem?_set_ne (by omega)] at hy
    have hy' := hin i y _ hy (List.getElem?_eq_getElem (by simp; omega))
    rw [List.getElem?_set] at hz
    split at hz
    · next he =>
      rw [if_pos (by omega)] at hz
      obtain rfl : x1 = z := by simpa using hz
      rcases hN with hN | ⟨k, hk, hlt⟩
      · rw [hN]
        exact hne i ls.length y x (by omega) hy hx
      · cases hyo : y.ownBlock with
        | none => exact .inl rfl
        | some b =>
          have := (hy'.lt b hyo).2
          exact .inr fun h => by rw [hk] at h; injection h; omega
    · exact hne i j y z hij hy hz

theorem Parts.same {S : Nat → Prop} {w w' : World} {base : Nat} {v : Value} {ls : List (List UInt8)} (h : Parts w base v ls) (hb : Same S w w') (hS : ∀ b, base ≤ b → ¬ S b) : Parts w' base v ls := by
  obtain ⟨vs, h1, h2, h3⟩ := h
  exact ⟨vs, own_same h1 hb (fun b e => hS b (h1.lt b e).1), fun i x l hx hl => own_same (h2 i x l hx hl) hb (fun b e => hS b ((h2 i x l hx hl).lt b e).1), h3⟩
theorem Parts.later {w w' : World} {base : Nat} {v : Value} {ls : List (List UInt8)} (h : Parts w base v ls) (hb : Below w.heap.size w w') : Parts w' base v ls := by
  obtain ⟨vs, h1, h2, h3⟩ := h
  exact ⟨vs, own_later h1 hb, fun i x l hx hl => own_later (h2 i x l hx hl) hb, h3⟩
theorem Parts.bss {w : World} {base : Nat} {v : Value} {ls : List (List UInt8)} (h : Parts w base v ls) : Bss w v ls := by
  obtain ⟨vs, h1, h2, _⟩ := h
  exact ⟨vs, by simpa using h1.1, Rd.of_own h1, fun i x l hx hl => Rd.of_own (h2 i x l hx hl)⟩
end Go.Proofs.YtfaemjlemaclbaaGreat
end
section
/- How the arguments of a statement read: a codec for each type, out of smaller ones. Nothing of the program in it. -/
namespace Go.Proofs.YtfaemjlemaclbaaGreat
set_option linter.unusedVariables false
set_option linter.unusedSimpArgs false
open Go.RowKit Go.ChangeShapes Go.WideShapes Go.Deep

structure Codec (P : Program) (t : TypeId) (α : Type) where
  k : Nat
  rep : World → List Value → α → Prop
  size : P.cellsOf t = k
  len : ∀ {w : World} {cs : List Value} {a : α}, rep w cs a → cs.length = k
  one : ∀ {w : World} {cs : List Value} {a : α}, rep w cs a → ∀ v ∈ cs, v.oneCell' = true
  later : ∀ {w w' : World} {cs : List Value} {a : α}, rep w cs a → Below w.heap.size w w' → rep w' cs a
  get : ∀ {H : Type} {enc : TypeId × Value → H} {w : World} {fuel : Nat} {cs : List Value} {x : DataW H × List MemPlace},
    DataW.trod enc P w 0 (fun _ => true) true fuel t cs = some x → (x.1.weights P t).all (fun n => decide (n ≤ reachBytes)) = true → ∃ a, rep w cs a

section
variable {P : Program} {t e : TypeId} {α β : Type}
def Codec.map (c : Codec P t α) (f : α → β) : Codec P t β where
  k := c.k
  rep w cs b := ∃ a, f a = b ∧ c.rep w cs a
  size := c.size
  len := fun ⟨_, _, h⟩ => c.len h
  one := fun ⟨_, _, h⟩ => c.one h
  later := fun ⟨a, e, h⟩ hb => ⟨a, e, c.later h hb⟩
  get h hw := let ⟨a, ha⟩ := c.get h hw; ⟨f a, a, rfl, ha⟩

def Codec.int (kd : IntKind) (ht : P.underlying t = some (.int kd)) (hs : P.cellsOf t = 1) : Codec P t Int where
  k := 1
  rep _ cs n := cs = [.int kd n] ∧ (Lit.int kd n).wf = true
  size := hs
  len := fun ⟨h, _⟩ => by rw [h]; rfl
  one := fun ⟨h, _⟩ v hv => by rw [h] at hv; simp at hv; rw [hv]; rfl
  later h _ := h
  get h _ := by
    obtain ⟨n, h1, _, h3⟩ := DataW.trod_int ht h
    exact ⟨n, h1, h3⟩

def Codec.bool (ht : P.underlying t = some .bool) (hs : P.cellsOf t = 1) : Codec P t Bool where
  k := 1
  rep _ cs n := cs = [.bool n]
  size := hs
  len := fun h => by rw [h]; rfl
  one := fun h v hv => by rw [h] at hv; simp at hv; rw [hv]; rfl
  later h _ := h
  get h _ := by
    obtain ⟨n, h1, _⟩ := DataW.trod_bool ht h
    exact ⟨n, h1⟩

def Codec.u8 (ht : P.underlying t = some (.int .u8)) (hs : P.cellsOf t = 1) : Codec P t UInt8 where
  k := 1
  rep _ cs n := cs = [ub n]
  size := hs
  len := fun h => by rw [h]; rfl
  one := fun h v hv => by rw [h] at hv; simp at hv; rw [hv]; rfl
  later h _ := h
  get h _ := by
    obtain ⟨n, h1, _, h3⟩ := DataW.trod_int ht h
    have hb : 0 ≤ n ∧ n < 256 := by
      simp only [Lit.wf, Bool.and_eq_true, decide_eq_true_eq] at h3
      have e1 : IntKind.u8.min = 0 := by decide
      have e2 : IntKind.u8.max = 255 := by decide
      omega
    refine ⟨UInt8.ofNat n.toNat, ?_⟩
    rw [h1]
    unfold ub
    rw [UInt8.toNat_ofNat', Nat.mod_eq_of_lt (by omega), Int.toNat_of_nonneg hb.1]

/-- A list of fields, from cell o on. -/
structure FCodec (P : Program) (fs : List Field) (o : Nat) (α : Type) where
  k : Nat
  rep : World → List Value → α → Prop
  len : ∀ {w : World} {cs : List Value} {a : α}, rep w cs a → cs.length = k
  one : ∀ {w : World} {cs : List Value} {a : α}, rep w cs a → ∀ v ∈ cs, v.oneCell' = true
  later : ∀ {w w' : World} {cs : List Value} {a : α}, rep w cs a → Below w.heap.size w w' → rep w' cs a
  get : ∀ {H : Type} {enc : TypeId × Value → H} {w : World} {fuel : Nat} {cs : List Value} {xs : List (DataW H × List MemPlace)}, cs.length = o + k → xs.length = fs.length →
    (∀ (i : Nat) (f : Field), fs[i]? = some f → DataW.trod enc P w 0 (fun _ => true) true fuel f.type ((cs.drop f.offset).take (P.cellsOf f.type)) = xs[i]?) →
    (DataW.weightsEach P (fs.map (·.type)) (xs.map (·.1))).all (fun n => decide (n ≤ reachBytes)) = true → ∃ a, rep w (cs.drop o) a
def FCodec.nil (P : Program) (o : Nat) : FCodec P [] o Unit where
  k := 0
  rep _ cs _ := cs = []
  len h := by rw [h]; rfl
  one h v hv := by rw [h] at hv; simp at hv
  later h _ := h
  get hl _ _ _ := ⟨(), by rw [List.drop_eq_nil_iff]; omega⟩
def FCodec.cons {f : Field} {fs : List Field} {o : Nat} (ho : f.offset = o) (c : Codec P f.type α) (r : FCodec P fs (o + c.k) β) : FCodec P (f :: fs) o (α × β) where
  k := c.k + r.k
  rep w cs a := ∃ c1 c2, cs = c1 ++ c2 ∧ c.rep w c1 a.1 ∧ r.rep w c2 a.2
  len := fun ⟨c1, c2, h, h1, h2⟩ => by rw [h, List.length_append, c.len h1, r.len h2]
  one := fun ⟨c1, c2, h, h1, h2⟩ v hv => by
    rw [h, List.mem_append] at hv
    rcases hv with hv | hv
    · exact c.one h1 v hv
    · exact r.one h2 v hv
  later := fun ⟨c1, c2, h, h1, h2⟩ hb => ⟨c1, c2, h, c.later h1 hb, r.later h2 hb⟩
  get {H enc w fuel cs xs} hl hx h hw := by
    match xs, hx with
    | x :: xs, hx =>
      simp only [List.map_cons, DataW.weightsEach, List.all_append, Bool.and_eq_true] at hw
      have h0 := h 0 f rfl
      obtain ⟨a, ha⟩ := c.get h0 hw.1
      obtain ⟨b, hb⟩ := r.get (cs := cs) (xs := xs) (by omega) (by simpa using hx) (fun i f hf => h (i + 1) f (by simpa using hf)) hw.2
      refine ⟨(a, b), (cs.drop o).take c.k, cs.drop (o + c.k), ?_, ?_, hb⟩
      · rw [← List.drop_drop, List.take_append_drop]
      · rw [ho, c.size] at ha
        exact ha
def Codec.struct {fs : Array Field} (ht : P.underlying t = some (.struct fs)) (r : FCodec P fs.toList 0 α) (hs : P.cellsOf t = r.k) : Codec P t α where
  k := r.k
  rep := r.rep
  size := hs
  len := r.len
  one := r.one
  later := r.later
  get {H enc w fuel cs x} h hw := by
    obtain ⟨xs, n, _, hx, hl, hxl, hf⟩ := DataW.trod_struct ht h
    rw [hx] at hw
    simp only [DataW.weights, ht] at hw
    exact r.get (cs := cs) (xs := xs) (by omega) (by simpa using hxl) (fun i f hi => hf i f (by simpa using hi)) hw

def Codec.slice (ht : P.underlying t = some (.slice e)) (hs : P.cellsOf t = 1) (c : Codec P e α) (hk : 0 < c.k) : Codec P t (List α) where
  k := 1
  rep w cs l := ∃ (v : Value) (css : List (List Value)), cs = [v] ∧ css.length = l.length ∧ Rd w v l.length css.flatten ∧ (∀ (i : Nat) (x : List Value) (a : α), css[i]? = some x → l[i]? = some a → c.rep w x a) ∧ l.length * P.bytesOf e ≤ reachBytes
  size := hs
  len := fun ⟨v, css, h, _⟩ => by rw [h]; rfl
  one := fun ⟨v, css, h, _, ⟨ao, cap, hv, _⟩, _⟩ u hu => by rw [h] at hu; simp at hu; rw [hu, hv]; rfl
  later := fun ⟨v, css, h, h1, h2, h3, h4⟩ hb => ⟨v, css, h, h1, h2.later hb, fun i x a hx ha => c.later (h3 i x a hx ha) hb, h4⟩
  get {H enc w fuel cs x} h hw := by
    rcases DataW.trod_slice ht h with ⟨h1, h2⟩ | ⟨a, len, cap, elems, rest, n, _, hcs, hx, _, hlc, hcm, hel, hget, _, _⟩
    · exact ⟨[], _, [], h1, rfl, Rd.nil w, by simp, by simp⟩
    · rw [hx] at hw
      simp only [DataW.weights, ht, List.all_cons, Bool.and_eq_true, List.all_append] at hw
      obtain ⟨hw0, hw1, _⟩ := hw
      have hwe : ∀ y ∈ elems, (y.1.weights P e).all (fun n => decide (n ≤ reachBytes)) = true := by
        clear hget hx hel
        induction elems with
        | nil => simp
        | cons y ys ih =>
          simp only [List.map_cons, DataW.weightsAll, List.all_append, Bool.and_eq_true] at hw1
          intro z hz
          rcases List.mem_cons.1 hz with rfl | hz
          · exact hw1.1
          · exact ih (by simp at hw0 ⊢; exact Nat.le_trans (Nat.mul_le_mul_right _ (by omega)) hw0) hw1.2 z hz
      have each : ∀ i, i < len → ∃ y : List Value × α, c.rep w y.1 y.2 ∧ ∀ j, j < c.k → w.cell? (a.add (i * c.k + j)) = y.1[j]? := by
        intro i hi
        have hg := hget i hi
        rw [List.getElem?_eq_getElem (by omega), Option.bind_eq_some_iff] at hg
        obtain ⟨cs', hc1, hc2⟩ := hg
        obtain ⟨b, hb⟩ := c.get hc2 (hwe _ (List.getElem_mem _))
        obtain ⟨_, hl', hcell⟩ := World.cells?_some hc1
        refine ⟨(cs', b), hb, fun j hj => ?_⟩
        rw [← hcell j (by rw [c.size]; exact hj), c.size, add_add]
      have hbuild : ∀ m, m ≤ len → ∃ ys : List (List Value × α), ys.length = m ∧ ∀ i y, ys[i]? = some y → c.rep w y.1 y.2 ∧ ∀ j, j < c.k → w.cell? (a.add (i * c.k + j)) = y.1[j]? := by
        intro m
        induction m with
        | zero => exact fun _ => ⟨[], rfl, by simp⟩
        | succ m ih =>
          intro hm
          obtain ⟨ys, hy1, hy2⟩ := ih (by omega)
          obtain ⟨y, hy⟩ := each m (by omega)
          refine ⟨ys ++ [y], by simp [hy1], fun i z hz => ?_⟩
          by_cases hi : i < m
          · rw [List.getElem?_append_left (by omega)] at hz
            exact hy2 i z hz
          · have hil := (List.getElem?_eq_some_iff.1 hz).1
            simp at hil
            have : i = m := by omega
            subst this
            rw [List.getElem?_append_right (by omega)] at hz
            simp [hy1] at hz
            subst hz
            exact hy
      obtain ⟨ys, hy1, hy2⟩ := hbuild len (Nat.le_refl _)
      refine ⟨ys.map (·.2), _, ys.map (·.1), hcs, by simp, ?_, ?_, ?_⟩
      · rw [List.length_map, hy1]
        have hfl : ∀ (i : Nat) (u : Value), ((ys.map (·.1)).flatten)[i]? = some u → w.cell? (a.add i) = some u := by
          have key : ∀ (zs : List (List Value × α)) (o : Nat), (∀ i y, zs[i]? = some y → c.rep w y.1 y.2 ∧ ∀ j, j < c.k → w.cell? (a.add ((o + i) * c.k + j)) = y.1[j]?) →
              ∀ (i : Nat) (u : Value), ((zs.map (·.1)).flatten)[i]? = some u → w.cell? (a.add (o * c.k + i)) = some u := by
            intro zs
            induction zs with
            | nil => intro o _ i u hu; simp at hu
            | cons z zs ih =>
              intro o hz i u hu
              obtain ⟨hz1, hz2⟩ := hz 0 z rfl
              have hzl := c.len hz1
              rw [List.map_cons, List.flatten_cons] at hu
              by_cases hi : i < c.k
              · rw [List.getElem?_append_left (by omega)] at hu
                have := hz2 i hi
                rw [Nat.add_zero] at this
                rw [this, hu]
              · rw [List.getElem?_append_right (by omega), hzl] at hu
                have := ih (o + 1) (fun i y hy => by
                  have := hz (i + 1) y (by simpa using hy)
                  rwa [show o + 1 + i = o + (i + 1) by omega]) (i - c.k) u hu
                rwa [Nat.add_mul, Nat.one_mul, Nat.add_assoc, Nat.add_sub_cancel' (by omega)] at this
          intro i u hu
          have := key ys 0 (fun i y hy => by rw [Nat.zero_add]; exact hy2 i y hy) i u hu
          rwa [Nat.zero_mul, Nat.zero_add] at this
        refine ⟨some a, cap, rfl, hlc, hcm, fun hne => ?_⟩
        obtain ⟨b, off, spot⟩ := a
        obtain ⟨z, zs, hzz⟩ := List.exists_cons_of_ne_nil hne
        have h00 := hfl 0 z (by rw [hzz]; rfl)
        have hspot : spot = none := by simpa [Addr.add] using World.cell?_spot h00
        subst hspot
        exact ⟨b, off, rfl, fun j u hu => by have := hfl j u hu; rwa [Addr.add_lit] at this⟩
      · intro i x' a' hx' ha'
        rw [List.getElem?_map, Option.map_eq_some_iff] at hx' ha'
        obtain ⟨y, hy, rfl⟩ := hx'
        obtain ⟨y', hy', rfl⟩ := ha'
        rw [hy] at hy'
        injection hy' with hy'
        subst hy'
        exact (hy2 i y hy).1
      · rw [List.length_map, hy1]
        simp only [List.length_map, decide_eq_true_eq] at hw0
        exact Nat.le_trans (Nat.mul_le_mul_right _ (by omega)) hw0
theorem bs_of_slice {ht : P.underlying t = some (.slice e)} {hs : P.cellsOf t = 1} {he : P.underlying e = some (.int .u8)} {hs' : P.cellsOf e = 1} {hk : 0 < (Codec.u8 he hs').k} {w : World} {cs : List Value} {l : List UInt8}
    (h : (Codec.slice ht hs (Codec.u8 he hs') hk).rep w cs l) : ∃ v, cs = [v] ∧ Bs w v l ∧ l.length * P.bytesOf e ≤ reachBytes := by
  obtain ⟨v, css, h1, h2, h3, h4, h5⟩ := h
  refine ⟨v, h1, ?_, h5⟩
  have : css.flatten = l.map ub := by
    clear h3 h5 h1
    induction css generalizing l with
    | nil => cases l with | nil => rfl | cons => simp at h2
    | cons c css ih =>
      cases l with
      | nil => simp at h2
      | cons a l =>
        rw [List.flatten_cons, List.map_cons, ih (by simpa using h2) (fun i x a hx ha => h4 (i + 1) x a (by simpa using hx) (by simpa using ha))]
        have := h4 0 c a rfl rfl
        have : c = [ub a] := this
        rw [this]; rfl
  rw [this] at h3
  exact h3
theorem ints_of_slice {kd : IntKind} {ht : P.underlying t = some (.slice e)} {hs : P.cellsOf t = 1} {he : P.underlying e = some (.int kd)} {hs' : P.cellsOf e = 1} {hk : 0 < (Codec.int kd he hs').k} {w : World} {cs : List Value} {l : List Int}
    (h : (Codec.slice ht hs (Codec.int kd he hs') hk).rep w cs l) : ∃ v, cs = [v] ∧ Rd w v l.length (l.map (Value.int kd)) ∧ l.length * P.bytesOf e ≤ reachBytes ∧ ∀ x ∈ l, (Lit.int kd x).wf = true := by
  obtain ⟨v, css, h1, h2, h3, h4, h5⟩ := h
  refine ⟨v, h1, ?_, h5, fun x hx => ?_⟩
  · have : css.flatten = l.map (Value.int kd) := by
      clear h3 h5 h1
      induction css generalizing l with
      | nil => cases l with | nil => rfl | cons => simp at h2
      | cons c css ih =>
        cases l with
        | nil => simp at h2
        | cons a l =>
          rw [List.flatten_cons, List.map_cons, ih (by simpa using h2) (fun i x a hx ha => h4 (i + 1) x a (by simpa using hx) (by simpa using ha))]
          have : c = [.int kd a] := (h4 0 c a rfl rfl).1
          rw [this]; rfl
    rw [this] at h3
    exact h3
  · obtain ⟨i, hi, rfl⟩ := List.getElem_of_mem hx
    exact (h4 i css[i] l[i] (List.getElem?_eq_getElem (by omega)) (List.getElem?_eq_getElem hi)).2
theorem Codec.opens (c : Codec P t α) {H : Type} {enc : TypeId × Value → H} {w : World} {v : Value} {d : DataW H} {p : List MemPlace} (h : DataW.Trod enc P w 0 (fun _ => true) true t v d p)
    (hw : (d.weights P t).all (fun n => decide (n ≤ reachBytes)) = true) : ∃ a, c.rep w v.cells.toList a := by
  obtain ⟨fuel, hf⟩ := h
  exact c.get hf hw
theorem trod_lt_all {H : Type} {enc : TypeId × Value → H} {w : World} {v : Value} {d : DataW H} {p : List MemPlace} (h : DataW.Trod enc P w 0 (fun _ => true) true t v d p) : ∀ x ∈ p, x.block < w.heap.size := by
  obtain ⟨m, hm⟩ := h
  exact DataW.trod_lt m _ _ _ hm
theorem weights_split {H : Type} {t : TypeId} {ts : List TypeId} {d : DataW H} {ds : List (DataW H)} (h : (DataW.weightsEach P (t :: ts) (d :: ds)).all (fun n => decide (n ≤ reachBytes)) = true) :
    (d.weights P t).all (fun n => decide (n ≤ reachBytes)) = true ∧ (DataW.weightsEach P ts ds).all (fun n => decide (n ≤ reachBytes)) = true := by
  simpa [DataW.weightsEach, List.all_append, Bool.and_eq_true] using h
end
end Go.Proofs.YtfaemjlemaclbaaGreat
end
section
/- The codecs of this seat's argument types. -/
namespace Go.Proofs.YtfaemjlemaclbaaGreat
set_option linter.unusedVariables false
set_option linter.unusedSimpArgs false
abbrev cInt : Codec Tryz.prog 3 Int := Codec.int .i64 Tryz.underlying3 (by kernel_rfl)
abbrev cU64 : Codec Tryz.prog 31 Int := Codec.int .u64 Tryz.underlying31 (by kernel_rfl)
abbrev cBytes : Codec Tryz.prog 32 (List UInt8) := Codec.slice Tryz.underlying32 (by kernel_rfl) (Codec.u8 Tryz.underlying5 (by kernel_rfl)) (by decide)
theorem bytesU8 : Tryz.prog.bytesOf 5 = 1 := by kernel_rfl
set_option maxRecDepth 100000 in
theorem cBytes_bs {w : World} {v : Value} {l : List UInt8} (h : cBytes.rep w [v] l) : Bs w v l ∧ l.length ≤ 140737488351232 := by
  obtain ⟨v', h1, h2, h3⟩ := bs_of_slice h
  rw [bytesU8] at h3
  simp only [List.cons.injEq, and_true] at h1
  subst h1
  exact ⟨h2, by simp only [reachBytes] at h3; omega⟩
/-- element i of a slice of k cells each. -/
theorem rd_elem {P : Program} {t e : TypeId} {α : Type} {ht : P.underlying t = some (.slice e)} {hs : P.cellsOf t = 1} {c : Codec P e α} {hk : 0 < c.k} {w : World} {v : Value} {l : List α}
    (h : (Codec.slice ht hs c hk).rep w [v] l) : ∃ ao cap, v = .slice ao l.length cap ∧ l.length ≤ cap ∧ cap ≤ maxLen ∧ l.length * P.bytesOf e ≤ reachBytes ∧
      (0 < l.length → ∃ b off, ao = some ⟨b, off, none⟩ ∧ ∀ i a, l[i]? = some a → ∃ x, c.rep w x a ∧ ∀ j u, x[j]? = some u → w.cell? ⟨b, off + (i * c.k + j), none⟩ = some u) := by
  obtain ⟨v', css, h1, h2, ⟨ao, cap, hv, h3, h4, h5⟩, h6, h7⟩ := h
  simp only [List.cons.injEq, and_true] at h1
  subst h1
  refine ⟨ao, cap, hv, h3, h4, h7, fun hn => ?_⟩
  have hlen : ∀ x ∈ css, x.length = c.k := fun x hx => by
    obtain ⟨i, hi, rfl⟩ := List.getElem_of_mem hx
    exact c.len (h6 i _ _ (List.getElem?_eq_getElem hi) (List.getElem?_eq_getElem (by omega)))
  have hidx : ∀ (cs : List (List Value)), (∀ x ∈ cs, x.length = c.k) → ∀ i x j u, cs[i]? = some x → x[j]? = some u → cs.flatten[i * c.k + j]? = some u := by
    intro cs
    induction cs with
    | nil => intro _ i x j u hx; simp at hx
    | cons y ys ih =>
      intro hl i x j u hx hu
      have hy := hl y (by simp)
      rw [List.flatten_cons]
      cases i with
      | zero =>
        obtain rfl : y = x := by simpa using hx
        rw [Nat.zero_mul, Nat.zero_add, List.getElem?_append_left (List.getElem?_eq_some_iff.1 hu).1]
        exact hu
      | succ i =>
        rw [List.getElem?_append_right (by rw [hy, Nat.add_mul]; omega), hy, Nat.add_mul, Nat.one_mul, show i * c.k + c.k + j - c.k = i * c.k + j by omega]
        exact ih (fun z hz => hl z (by simp [hz])) i x j u (by simpa using hx) hu
  have hne : css.flatten ≠ [] := by
    intro he
    have h0 : 0 < css.length := by omega
    have hk0 : 0 < css[0].length := by rw [hlen _ (List.getElem_mem _)]; exact hk
    have := hidx css hlen 0 css[0] 0 css[0][0] (List.getElem?_eq_getElem h0) (List.getElem?_eq_getElem hk0)
    rw [he] at this
    simp at this
  obtain ⟨b, off, ha, hc⟩ := h5 hne
  refine ⟨b, off, ha, fun i a hi => ?_⟩
  have hil : i < css.length := by rw [h2]; exact (List.getElem?_eq_some_iff.1 hi).1
  exact ⟨css[i], h6 i _ a (List.getElem?_eq_getElem hil) hi, fun j u hu => hc _ _ (hidx css hlen i _ j u (List.getElem?_eq_getElem hil) hu)⟩
end Go.Proofs.YtfaemjlemaclbaaGreat
end
section
/- The codec of lists of ranges. -/
namespace Go.Proofs.YtfaemjlemaclbaaGreat
set_option linter.unusedVariables false
set_option linter.unusedSimpArgs false
open Go.RowKit
abbrev cRange : Codec Tryz.prog 63 (Int × Int) :=
  (Codec.struct Tryz.underlying63 (FCodec.cons rfl cInt (FCodec.cons rfl cInt (FCodec.nil _ _))) (by kernel_rfl)).map fun x => (x.1, x.2.1)
abbrev cRanges : Codec Tryz.prog 33 (List (Int × Int)) := Codec.slice Tryz.underlying33 (by kernel_rfl) cRange (by decide)
theorem bytesRange : Tryz.prog.bytesOf 63 = 16 := by kernel_rfl
/-- both ends are ints. -/
def In64 (l : List (Int × Int)) : Prop := ∀ g ∈ l, -9223372036854775808 ≤ g.1 ∧ g.1 ≤ 9223372036854775807 ∧ -9223372036854775808 ≤ g.2 ∧ g.2 ≤ 9223372036854775807
theorem wf_int {n : Int} (h : (Lit.int .i64 n).wf = true) : -9223372036854775808 ≤ n ∧ n ≤ 9223372036854775807 := by
  have h1 : IntKind.i64.min = -9223372036854775808 := by decide
  have h2 : IntKind.i64.max = 9223372036854775807 := by decide
  simp only [Lit.wf, Bool.and_eq_true, decide_eq_true_eq, h1, h2] at h
  exact h
theorem cRange_rd {w : World} {cs : List Value} {g : Int × Int} (h : cRange.rep w cs g) : cs = rv g ∧ In64 [g] := by
  obtain ⟨⟨a, b, u⟩, rfl, c1, c2, rfl, ⟨rfl, ha⟩, c3, c4, rfl, ⟨rfl, hb⟩, h4⟩ := h
  obtain rfl : c4 = [] := h4
  have ha' := wf_int ha
  have hb' := wf_int hb
  simp only at ha' hb'
  exact ⟨rfl, fun g hg => by simp at hg; subst hg; simp only; omega⟩
set_option maxRecDepth 100000 in
theorem cRanges_rd {w : World} {v : Value} {l : List (Int × Int)} (h : cRanges.rep w [v] l) : Rgs w v l ∧ l.length * 16 ≤ 140737488351232 ∧ In64 l := by
  obtain ⟨ao, cap, rfl, h1, h2, h3, h4⟩ := rd_elem h
  rw [bytesRange] at h3
  simp only [reachBytes] at h3
  have hl : l.length * 16 ≤ 140737488351232 := by omega
  by_cases hn : 0 < l.length
  · obtain ⟨b, off, rfl, h5⟩ := h4 hn
    have key : ∀ i x, l[i]? = some x → In64 [x] ∧ ∀ j u, (rv x)[j]? = some u → w.cell? ⟨b, off + (i * 2 + j), none⟩ = some u := fun i x hx => by
      obtain ⟨cs, hc, hcell⟩ := h5 i x hx
      obtain ⟨rfl, h64⟩ := cRange_rd hc
      exact ⟨h64, fun j u hu => hcell j u hu⟩
    refine ⟨⟨_, cap, rfl, h1, h2, fun _ => ⟨b, off, rfl, fun j u hu => ?_⟩⟩, hl, fun g hg => ?_⟩
    · have hj : j < l.length * 2 := by
        have := (List.getElem?_eq_some_iff.1 hu).1
        rwa [rvs_len] at this
      have hi : j / 2 < l.length := by omega
      obtain ⟨e0, e1⟩ := rvs_at l (j / 2) _ (List.getElem?_eq_getElem hi)
      obtain ⟨_, hc⟩ := key (j / 2) _ (List.getElem?_eq_getElem hi)
      rcases Nat.mod_two_eq_zero_or_one j with hm | hm
      · have hj2 : j / 2 * 2 = j := by omega
        rw [hj2] at e0
        rw [e0] at hu
        have := hc 0 u hu
        rwa [Nat.add_zero, hj2] at this
      · have hj2 : j / 2 * 2 + 1 = j := by omega
        rw [hj2] at e1
        rw [e1] at hu
        have := hc 1 u hu
        rwa [hj2] at this
    · obtain ⟨i, hi, rfl⟩ := List.mem_iff_getElem.1 hg
      exact (key i _ (List.getElem?_eq_getElem hi)).1 _ (by simp)
  · obtain rfl : l = [] := List.length_eq_zero_iff.1 (by omega)
    exact ⟨Rd.empty h2, hl, fun g hg => by simp at hg⟩
end Go.Proofs.YtfaemjlemaclbaaGreat
end
