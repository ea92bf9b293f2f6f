/- Base, ElR, Rgs, SortOwn, Cmp, Shelf, Sort, Class, Types, Codec, Codecs, CodecR: joined. -/
import Derived.WalkKit
import Derived.WalkSpells
import Derived.WalkLawsBesides
import Derived.Laws.CopyOwn
import Derived.Deep.AppendLies
import Derived.Deep.Draws
import Derived.Maps.AppendAt
import Derived.Lib.Hide
import Derived.KernelRfl
import Derived.Test.YtghjffgaebnhiaaDoorProg
import Derived.BigQuiet
import Derived.Deep.QuietTactic
import Derived.Shelf.GgSortFunc.InsertionK
import Derived.Sort.Grow
import Derived.Shelf.SlicesG.Cmp
import Derived.Shelf.SlSortCmp.NoneTotal
import Derived.Ground.SlsfProg
import Derived.Lib.AppendStr
import Derived.ProofKit
import Derived.Deep.Slices
section
/- Words on worlds, blocks and slices for the walks of this seat; nothing of the program in it. -/
namespace Go.Proofs.YtghjffgaebnhiaaDoor
set_option linter.unusedVariables false
set_option linter.unusedSimpArgs false
open Go.RowKit

theorem ret_congr {v v' : Value} (h : v = v') : Ending.returned v = Ending.returned v' := by rw [h]

/-! ### Worlds that part from one another at the blocks S alone, and by new blocks -/
structure Same (S : Nat → Prop) (w w' : World) : Prop where
  os : w'.os = w.os
  tape : w'.tape = w.tape
  output : w'.output = w.output
  size : w.heap.size ≤ w'.heap.size
  block : ∀ k, k < w.heap.size → ¬ S k → w'.heap[k]? = w.heap[k]?
def no : Nat → Prop := fun _ => False
def at1 (b : Nat) : Nat → Prop := fun k => k = b
section
variable {S T : Nat → Prop} {a w w' w'' : World}
theorem Same.refl (S : Nat → Prop) (w : World) : Same S w w := ⟨rfl, rfl, rfl, Nat.le_refl _, fun _ _ _ => rfl⟩
theorem Same.trans (h : Same S a w) (k : Same T w w') (hs : ∀ i, i < a.heap.size → T i → S i) : Same S a w' :=
  ⟨k.os.trans h.os, k.tape.trans h.tape, k.output.trans h.output, Nat.le_trans h.size k.size,
    fun i hi hn => (k.block i (Nat.lt_of_lt_of_le hi h.size) (fun ht => hn (hs i hi ht))).trans (h.block i hi hn)⟩
theorem Same.mono (h : Same S a w) (hs : ∀ i, i < a.heap.size → S i → T i) : Same T a w :=
  ⟨h.os, h.tape, h.output, h.size, fun i hi hn => h.block i hi (fun h' => hn (hs i hi h'))⟩
theorem Same.of_below (h : Below w.heap.size w w') (S : Nat → Prop) : Same S w w' := ⟨h.os, h.tape, h.output, h.size, fun i hi _ => h.block i hi⟩
theorem Same.below (h : Same no w w') : Below w.heap.size w w' := ⟨h.os, h.tape, h.output, h.size, fun i hi => h.block i hi (fun h => h)⟩
theorem Same.belowB {B : Nat} (h : Same S w w') (hB : ∀ i, i < B → i < w.heap.size ∧ ¬ S i) : Below B w w' := ⟨h.os, h.tape, h.output, h.size, fun i hi => h.block i (hB i hi).1 (hB i hi).2⟩
theorem Same.of_belowB {B : Nat} (h : Below B w w') : Same (fun k => B ≤ k) w w' := ⟨h.os, h.tape, h.output, h.size, fun i _ hn => h.block i (by omega)⟩
theorem Same.of_grown {row : Option Nat} (h : w.grownBy w' row) : Same (fun k => some k = row) w w' := ⟨h.os, h.tape, h.output, h.size, fun i hi hn => h.block i hi hn⟩
theorem Same.drew (h : Same S a w) : Same S a w.drew := ⟨h.os, h.tape, h.output, h.size, h.block⟩
theorem Same.drewN (h : Same S a w) (n : Nat) : Same S a (w.drewN n) := ⟨h.os, h.tape, h.output, h.size, h.block⟩
theorem Same.alloc (h : Same S a w) (o : Obj) : Same S a (w.alloc o) :=
  ⟨h.os, h.tape, h.output, Nat.le_trans h.size (by simp), fun i hi hn => (Below.heap_alloc w o i (Nat.lt_of_lt_of_le hi h.size)).trans (h.block i hi hn)⟩
theorem Same.setCell (h : Same S a w) {p : Addr} (hp : p.block < a.heap.size → S p.block) (u : Value) : Same S a (w.setCell p u) :=
  ⟨h.os, h.tape, h.output, by simpa [World.setCell] using h.size, fun i hi hn => (Below.heap_setCell w p u i (fun e => hn (by rw [e]; exact hp (e ▸ hi)))).trans (h.block i hi hn)⟩
theorem Same.setRow (h : Same S a w) {g : Nat} (hp : g < a.heap.size → S g) (cs : Array Value) : Same S a (w.setRow g cs) :=
  ⟨h.os, h.tape, h.output, by simpa [World.setRow] using h.size, fun i hi hn => (setRow_other w g i cs (fun e => hn (by rw [e]; exact hp (e ▸ hi)))).trans (h.block i hi hn)⟩
theorem Same.grown (h : Same S a w) {row : Option Nat} (hg : w.grownBy w' row) (hr : ∀ k, row = some k → k < a.heap.size → S k) : Same S a w' :=
  h.trans (Same.of_grown hg) (fun i hi hs => hr i hs.symm hi)
theorem Same.cell (h : Same S w w') {p : Addr} (hp : p.block < w.heap.size) (hn : ¬ S p.block) : w'.cell? p = w.cell? p := World.cell?_of_block (w := w) (h.block p.block hp hn)
theorem Same.cell_some (h : Same S w w') {p : Addr} {v : Value} (hc : w.cell? p = some v) (hn : ¬ S p.block) : w'.cell? p = some v := (h.cell (World.block_lt_of_cell? _ _ hc) hn).trans hc
theorem Same.frozen (h : Same S w w') {p : Addr} (hp : p.block < w.heap.size) (hn : ¬ S p.block) : w'.frozen? p = w.frozen? p := World.frozen?_of_block (w := w) (h.block p.block hp hn)
theorem grown_pre {row : Option Nat} (hb : Below w.heap.size w w') (hg : w'.grownBy w'' row) : w.grownBy w'' row :=
  ⟨hg.os.trans hb.os, hg.tape.trans hb.tape, hg.output.trans hb.output, Nat.le_trans hb.size hg.size, fun k hk hn => (hg.block k (Nat.lt_of_lt_of_le hk hb.size) hn).trans (hb.block k hk)⟩
theorem below_trans (h : Below w.heap.size w w') (h' : Below w'.heap.size w' w'') : Below w.heap.size w w'' := h.trans (h'.mono h.size)
theorem below_cell {B : Nat} (h : Below B w w') {p : Addr} {v : Value} (hc : w.cell? p = some v) (hp : p.block < B) : w'.cell? p = some v := (h.cell hp).trans hc
end

/-! ### A block that is known whole -/
def Blk (w : World) (g : Nat) (t : TypeId) (cs : List Value) : Prop := w.heap[g]? = some (.cells cs.toArray t (0, 0))
section
variable {S : Nat → Prop} {w w' : World} {g : Nat} {t : TypeId} {cs : List Value}
theorem Blk.lt (h : Blk w g t cs) : g < w.heap.size := (Array.getElem?_eq_some_iff.1 h).1
theorem Blk.cell (h : Blk w g t cs) (i : Nat) : w.cell? ⟨g, i, none⟩ = cs[i]? := by
  have := cell_of_row w g i cs.toArray t (0, 0) h
  simpa using this
theorem Blk.cell_some (h : Blk w g t cs) {i : Nat} {v : Value} (hv : cs[i]? = some v) : w.cell? ⟨g, i, none⟩ = some v := (h.cell i).trans hv
theorem Blk.frozen (h : Blk w g t cs) (i : Nat) : w.frozen? ⟨g, i, none⟩ = false := by
  unfold Blk at h
  simp [World.frozen?, h]
theorem Blk.new (w : World) (t : TypeId) (cs : List Value) : Blk (w.alloc (.cells cs.toArray t)) w.heap.size t cs := heap_alloc_new w _
theorem Blk.drew (h : Blk w g t cs) : Blk w.drew g t cs := h
theorem Blk.drewN (h : Blk w g t cs) (n : Nat) : Blk (w.drewN n) g t cs := h
theorem Blk.alloc (h : Blk w g t cs) (o : Obj) : Blk (w.alloc o) g t cs := (Below.heap_alloc w o g h.lt).trans h
theorem Blk.set (h : Blk w g t cs) (i : Nat) (u : Value) : Blk (w.setCell ⟨g, i, none⟩ u) g t (cs.set i u) := by
  unfold Blk at h ⊢
  simp [World.setCell, Array.getElem?_modify, h]
theorem Blk.far (h : Blk w g t cs) {p : Addr} (hp : g ≠ p.block) (u : Value) : Blk (w.setCell p u) g t cs := (Below.heap_setCell w p u g hp).trans h
theorem Blk.same (h : Blk w g t cs) (hb : Same S w w') (hg : ¬ S g) : Blk w' g t cs := (hb.block g h.lt hg).trans h
theorem Blk.below {B : Nat} (h : Blk w g t cs) (hb : Below B w w') (hg : g < B) : Blk w' g t cs := (hb.block g hg).trans h
theorem Blk.later (h : Blk w g t cs) (hb : Below w.heap.size w w') : Blk w' g t cs := h.below hb h.lt
theorem Blk.grown {row : Option Nat} (h : Blk w g t cs) (hb : w.grownBy w' row) (hg : row ≠ some g) : Blk w' g t cs := (hb.block g h.lt (Ne.symm hg)).trans h
theorem Blk.setRow (h : Blk w g t cs) (ds : List Value) : Blk (w.setRow g ds.toArray) g t ds := setRow_heap w g cs.toArray ds.toArray t _ h
theorem Blk.ne {g' : Nat} {t' : TypeId} {cs' : List Value} (h : Blk w g t cs) (h' : Blk w g' t' cs') (hne : t ≠ t') : g ≠ g' := by
  rintro rfl
  unfold Blk at h h'
  rw [h] at h'
  injection h' with h'
  injection h' with _ ht
  exact hne ht
end

/-! ### A slice that reads as cells -/
def Rd (w : World) (v : Value) (n : Nat) (cs : List Value) : Prop :=
  ∃ ao cap, v = .slice ao n cap ∧ n ≤ cap ∧ cap ≤ maxLen ∧ (cs ≠ [] → ∃ b off, ao = some ⟨b, off, none⟩ ∧ ∀ j u, cs[j]? = some u → w.cell? ⟨b, off + j, none⟩ = some u)
section
variable {S : Nat → Prop} {w w' : World} {v : Value} {n : Nat} {cs : List Value}
theorem Rd.nil (w : World) : Rd w (.slice none 0 0) 0 [] := ⟨none, 0, rfl, Nat.le_refl _, by simp [maxLen], fun h => absurd rfl h⟩
theorem Rd.mk {b off cap : Nat} (hn : n ≤ cap) (hm : cap ≤ maxLen) (h : ∀ j u, cs[j]? = some u → w.cell? ⟨b, off + j, none⟩ = some u) : Rd w (.slice (some ⟨b, off, none⟩) n cap) n cs :=
  ⟨_, cap, rfl, hn, hm, fun _ => ⟨b, off, rfl, h⟩⟩
theorem Rd.empty {ao : Option Addr} {cap : Nat} (hm : cap ≤ maxLen) : Rd w (.slice ao 0 cap) 0 [] := ⟨_, cap, rfl, Nat.zero_le _, hm, fun h => absurd rfl h⟩
theorem Rd.carry (h : Rd w v n cs) (hk : ∀ p u, w.cell? p = some u → v.ownBlock = some p.block → w'.cell? p = some u) : Rd w' v n cs := by
  obtain ⟨ao, cap, rfl, h1, h2, h3⟩ := h
  refine ⟨ao, cap, rfl, h1, h2, fun hc => ?_⟩
  obtain ⟨b, off, rfl, h4⟩ := h3 hc
  exact ⟨b, off, rfl, fun j u hu => hk _ _ (h4 j u hu) rfl⟩
theorem Rd.same (h : Rd w v n cs) (hb : Same S w w') (hS : ∀ b, v.ownBlock = some b → ¬ S b) : Rd w' v n cs :=
  h.carry fun p u hc hv => hb.cell_some hc (hS _ hv)
theorem Rd.later (h : Rd w v n cs) (hb : Below w.heap.size w w') : Rd w' v n cs := h.carry fun _ _ hc _ => below_cell hb hc (World.block_lt_of_cell? _ _ hc)
theorem Rd.below {B : Nat} (h : Rd w v n cs) (hb : Below B w w') (hB : ∀ b, v.ownBlock = some b → b < B) : Rd w' v n cs := h.carry fun _ _ hc hv => below_cell hb hc (hB _ hv)
theorem Rd.drew (h : Rd w v n cs) : Rd w.drew v n cs := h
theorem Rd.drewN (h : Rd w v n cs) (k : Nat) : Rd (w.drewN k) v n cs := h
theorem Rd.alloc (h : Rd w v n cs) (o : Obj) : Rd (w.alloc o) v n cs := h.later ((Below.refl _ _).alloc (Nat.le_refl _) o)
theorem Rd.setCell (h : Rd w v n cs) {p : Addr} (hp : v.ownBlock ≠ some p.block) (u : Value) : Rd (w.setCell p u) v n cs :=
  h.carry fun q x hc hv => (World.cell?_setCell_other w p q u (fun e => hp (by rw [hv, e]))).trans hc
theorem Rd.grown (h : Rd w v n cs) {row : Option Nat} (hg : w.grownBy w' row) (hr : v.ownBlock = none ∨ v.ownBlock ≠ row) : Rd w' v n cs :=
  h.same (Same.of_grown hg) (fun b hb he => by rcases hr with hr | hr; (rw [hb] at hr; cases hr); exact hr (hb.trans he))
theorem Rd.of_blk {g : Nat} {t : TypeId} {cap : Nat} (h : Blk w g t cs) (hn : n ≤ cap) (hm : cap ≤ maxLen) : Rd w (.slice (some ⟨g, 0, none⟩) n cap) n cs :=
  Rd.mk hn hm fun j u hu => by rw [Nat.zero_add]; exact h.cell_some hu
theorem Rd.new (w : World) (t : TypeId) (cs : List Value) (n : Nat) (hm : n ≤ maxLen) : Rd (w.alloc (.cells cs.toArray t)) (.slice (some ⟨w.heap.size, 0, none⟩) n n) n cs :=
  Rd.of_blk (Blk.new w t cs) (Nat.le_refl _) hm
theorem Rd.of_own {base : Nat} {e : TypeId} {size : Nat} (h : w.ownsRow base e size v n cs) : Rd w v n cs := by
  obtain ⟨hl, ⟨rfl, rfl⟩ | ⟨g, cap, cur, rfl, hb, hh, h1, h2, h3, h4⟩⟩ := h
  · have : cs = [] := List.eq_nil_of_length_eq_zero (by simpa using hl)
    subst this
    exact Rd.nil w
  · refine Rd.mk h1 h2 fun j u hu => ?_
    rw [Nat.zero_add]
    have hj : j < n * size := by rw [← hl]; exact (List.getElem?_eq_some_iff.1 hu).1
    have hB : Blk w g e cur.toList := by unfold Blk; simpa using hh
    refine hB.cell_some ?_
    rw [← h4, List.getElem?_take_of_lt hj] at hu
    exact hu
theorem Rd.form (h : Rd w v n cs) (hc : cs ≠ []) : ∃ b off cap, v = .slice (some ⟨b, off, none⟩) n cap ∧ n ≤ cap ∧ cap ≤ maxLen ∧ b < w.heap.size ∧ ∀ j u, cs[j]? = some u → w.cell? ⟨b, off + j, none⟩ = some u := by
  obtain ⟨ao, cap, rfl, h1, h2, h3⟩ := h
  obtain ⟨b, off, rfl, h4⟩ := h3 hc
  refine ⟨b, off, cap, rfl, h1, h2, ?_, h4⟩
  obtain ⟨x, l, rfl⟩ := List.exists_cons_of_ne_nil hc
  exact World.block_lt_of_cell? _ _ (h4 0 x rfl)
theorem Rd.cut {b off : Nat} (hc : ∀ j u, cs[j]? = some u → w.cell? ⟨b, off + j, none⟩ = some u) (s n c : Nat) (hn : n ≤ c) (hm : c ≤ maxLen) :
    Rd w (.slice (some ⟨b, off + s, none⟩) n c) n ((cs.drop s).take n) := by
  refine Rd.mk hn hm fun j u hu => ?_
  rw [List.getElem?_take] at hu
  split at hu
  · rw [List.getElem?_drop] at hu
    rw [Nat.add_assoc]
    exact hc _ u hu
  · cases hu
theorem own_mono {base base' : Nat} {e : TypeId} {size : Nat} (h : w.ownsRow base e size v n cs) (hb : base' ≤ base) : w.ownsRow base' e size v n cs := by
  obtain ⟨hl, h | ⟨g, cap, cur, h1, h2, h3⟩⟩ := h
  · exact ⟨hl, .inl h⟩
  · exact ⟨hl, .inr ⟨g, cap, cur, h1, Nat.le_trans hb h2, h3⟩⟩
theorem own_same {base : Nat} {e : TypeId} {size : Nat} (h : w.ownsRow base e size v n cs) (hb : Same S w w') (hS : ∀ b, v.ownBlock = some b → ¬ S b) : w'.ownsRow base e size v n cs := by
  obtain ⟨hl, h | ⟨g, cap, cur, rfl, h2, h3, h4⟩⟩ := h
  · exact ⟨hl, .inl h⟩
  · exact ⟨hl, .inr ⟨g, cap, cur, rfl, h2, (hb.block g (Array.getElem?_eq_some_iff.1 h3).1 (hS g rfl)).trans h3, h4⟩⟩
theorem own_later {base : Nat} {e : TypeId} {size : Nat} (h : w.ownsRow base e size v n cs) (hb : Below w.heap.size w w') : w'.ownsRow base e size v n cs :=
  own_same h (Same.of_below hb no) (fun _ _ h => h)
theorem own_grow0 {base : Nat} {e : TypeId} {size : Nat} (h : w.ownsRow base e size v n cs) (hg : w.grownBy w' none) : w'.ownsRow base e size v n cs :=
  own_same h (Same.of_grown hg) (fun _ _ h => by cases h)
theorem own_ne {base base' : Nat} {e e' : TypeId} {size size' : Nat} {v' : Value} {n' : Nat} {cs' : List Value} (h : w.ownsRow base e size v n cs) (h' : w.ownsRow base' e' size' v' n' cs') (hne : e ≠ e') :
    v.ownBlock = none ∨ v.ownBlock ≠ v'.ownBlock := by
  obtain ⟨_, ⟨rfl, _⟩ | ⟨g, cap, cur, rfl, _, h3, _⟩⟩ := h
  · exact .inl rfl
  · refine .inr fun he => ?_
    obtain ⟨_, ⟨rfl, _⟩ | ⟨g', cap', cur', rfl, _, h3', _⟩⟩ := h'
    · cases he
    · have : g = g' := by simpa [Value.ownBlock] using he
      subst this
      rw [h3] at h3'
      injection h3' with h3'
      injection h3' with _ ht
      exact hne ht
theorem own_blk_ne {base : Nat} {e : TypeId} {size : Nat} (h : w.ownsRow base e size v n cs) {g : Nat} {t : TypeId} {ds : List Value} (hg : Blk w g t ds) (hne : e ≠ t) : v.ownBlock ≠ some g := by
  obtain ⟨_, ⟨rfl, _⟩ | ⟨g', cap, cur, rfl, _, h3, _⟩⟩ := h
  · intro he; cases he
  · intro he
    have : g' = g := by simpa [Value.ownBlock] using he
    subst this
    unfold Blk at hg
    rw [h3] at hg
    injection hg with hg
    injection hg with _ ht
    exact hne ht
/-- what is owned, as a block: value, capacity, and all the block's cells. -/
theorem own_blk {base : Nat} {e : TypeId} {size : Nat} (h : w.ownsRow base e size v n cs) (hn : 0 < n) :
    ∃ g cap rest, v = .slice (some ⟨g, 0, none⟩) n cap ∧ base ≤ g ∧ n ≤ cap ∧ cap ≤ maxLen ∧ Blk w g e (cs ++ rest) ∧ cs.length + rest.length = cap * size := by
  obtain ⟨hl, ⟨rfl, rfl⟩ | ⟨g, cap, cur, rfl, h2, h3, h4, h5, h6, h7⟩⟩ := h
  · omega
  · refine ⟨g, cap, cur.toList.drop (n * size), rfl, h2, h4, h5, ?_, ?_⟩
    · unfold Blk
      rw [← h7, List.take_append_drop]
      simpa using h3
    · have := Nat.mul_le_mul_right size h4
      rw [hl, List.length_drop, Array.length_toList, h6]
      omega
theorem own_of_blk {base g : Nat} {e : TypeId} {size cap : Nat} {rest : List Value} (h : Blk w g e (cs ++ rest)) (hb : base ≤ g) (hl : cs.length = n * size) (hn : n ≤ cap) (hm : cap ≤ maxLen) (hr : cs.length + rest.length = cap * size) :
    w.ownsRow base e size (.slice (some ⟨g, 0, none⟩) n cap) n cs :=
  ⟨hl, .inr ⟨g, cap, _, rfl, hb, h, hn, hm, by simpa using hr, by simp [← hl]⟩⟩
end

/-! ### Element types, append -/
/-- v' lies where v lay, or in a block that w did not have. -/
def Newer (w : World) (v v' : Value) : Prop := v'.ownBlock = v.ownBlock ∨ ∃ k, v'.ownBlock = some k ∧ w.heap.size ≤ k
structure El (P : Program) (t e : TypeId) (z : Value) (size bytes : Nat) : Prop where
  und : P.underlying t = some (.slice e)
  inf : (P.info? e).map (fun i => (i.zero, i.size, i.bytes)) = some (some z, size, bytes)
  zs : z.cells.size = size
  pos : 0 < size
  bpos : 0 < bytes
theorem Newer.pre {w w' : World} {v v' : Value} (h : Newer w' v v') (hb : w.heap.size ≤ w'.heap.size) : Newer w v v' := h.imp id fun ⟨k, h, hk⟩ => ⟨k, h, Nat.le_trans hb hk⟩
section
variable {P : Program} {t e : TypeId} {z : Value} {size bytes : Nat} {w : World}
theorem own_lt_maxLen {n m : Nat} (hb : 0 < bytes) (h : (n + m) * bytes ≤ 140737488355328) : n + m ≤ maxLen := by
  have := Nat.le_mul_of_pos_right (n + m) hb
  simp only [maxLen]; omega
theorem run_app (E : El P t e z size bytes) (ty : TypeId) {base : Nat} {v : Value} {n : Nat} {xs : List Value} (hown : w.ownsRow base e size v n xs)
    {u : Value} {m : Nat} {news : List Value} (hr : Rd w u m news) (hl : news.length = m * size) (h1 : ∀ x ∈ news, x.oneCell' = true)
    (hb : (n + m) * bytes ≤ 140737488355328) (hbase : base ≤ w.heap.size) :
    ∃ v' w', (Builtin.append_ #[t, t] ty #[v, u]).run P w = .ok v' w' ∧ w'.ownsRow base e size v' (n + m) (xs ++ news) ∧ w.grownBy w' v.ownBlock ∧ (v'.ownBlock = v.ownBlock ∨ v'.ownBlock = some w.heap.size) := by
  obtain ⟨i, hi, hz, hs, hby⟩ := info_parts E.inf
  obtain ⟨ao, cap, rfl, g1, g2, g3⟩ := hr
  by_cases hne : news = []
  · subst hne
    have hm : m = 0 := by
      rcases Nat.eq_zero_or_pos m with h | h
      · exact h
      · have := Nat.mul_pos h E.pos; simp at hl; omega
    subst hm
    cases ao with
    | none =>
      refine ⟨v, w, ?_, by simpa using hown, World.grownBy.refl w _, .inl rfl⟩
      rcases hown.2 with ⟨rfl, rfl⟩ | ⟨g, cap', cur, rfl, _, _, hnc, _⟩
      · simp [Builtin.append_, run_underlying E.und, sizeOf, typeInfo, hi, Builtin.lenOf, Builtin.firstCells]
      · simp [Builtin.append_, run_underlying E.und, sizeOf, typeInfo, hi, Builtin.lenOf, Builtin.firstCells, hnc, storeCells]
    | some a =>
      obtain ⟨v', w', hrun, h2, h3, _, h5⟩ := run_append_own_at (P := P) w base t ty e i z size bytes E.und hi hz hs hby E.zs E.pos v n xs hown a 0 cap [] (by simp) (by simp) (by simp) (own_lt_maxLen E.bpos hb) hb hbase
      exact ⟨v', w', hrun, h2, h3, h5⟩
  · obtain ⟨b, off, rfl, hc⟩ := g3 hne
    obtain ⟨v', w', hrun, h2, h3, _, h5⟩ := run_append_own_at (P := P) w base t ty e i z size bytes E.und hi hz hs hby E.zs E.pos v n xs hown ⟨b, off, none⟩ m cap news hl
      (fun j u hu => by rw [Addr.add_lit]; exact hc j u hu) h1 (own_lt_maxLen E.bpos hb) hb hbase
    exact ⟨v', w', hrun, h2, h3, h5⟩
theorem wp_app (E : El P t e z size bytes) {o : Oper} {a : Act} {K : Act → World → Prop} {Q : Exit → Act → World → Prop} (s x : Operand)
    (ho : o.op = .call { callee := .builtin .append, args := #[s, x], argTypes := #[t, t] }) {base : Nat} {v : Value} {n : Nat} {xs : List Value} (hown : w.ownsRow base e size v n xs) (hs : a.eval s = v)
    {u : Value} {m : Nat} {news : List Value} (hr : Rd w u m news) (hx : a.eval x = u) (hl : news.length = m * size) (h1 : ∀ x ∈ news, x.oneCell' = true)
    (hb : (n + m) * bytes ≤ 140737488355328) (hbase : base ≤ w.heap.size)
    (h : ∀ v' w', w'.ownsRow base e size v' (n + m) (xs ++ news) → w.grownBy w' v.ownBlock → Newer w v v' → K (a.put o.dst v') w') : o.wp P a w K Q := by
  obtain ⟨v', w', hrun, h2, h3, h4⟩ := run_app (P := P) E o.type hown hr hl h1 hb hbase
  unfold Oper.wp execOp
  simp only [ho, resolve, invoke, builtin, Sem.run_bind, Sem.run_pure, Result.andThen_ok, List.map_toArray, List.map_cons, List.map_nil, hs, hx, hrun]
  exact h v' w' h2 h3 (h4.imp id fun h => ⟨_, h, Nat.le_refl _⟩)
/-- append of whatever reads as cells. -/
theorem wpList_app (E : El P t e z size bytes) {ops : Array Oper} {rest : List Oper} {o : Oper} {a : Act} {Q : Exit → Act → World → Prop} (hgd : o.guard = none) (s x : Operand)
    (ho : o.op = .call { callee := .builtin .append, args := #[s, x], argTypes := #[t, t] }) {base : Nat} {v : Value} {n : Nat} {xs : List Value} (hown : w.ownsRow base e size v n xs) (hs : a.eval s = v)
    {u : Value} {m : Nat} {news : List Value} (hr : Rd w u m news) (hx : a.eval x = u) (hl : news.length = m * size) (h1 : ∀ x ∈ news, x.oneCell' = true)
    (hb : (n + m) * bytes ≤ 140737488355328) (hbase : base ≤ w.heap.size)
    (h : ∀ v' w', w'.ownsRow base e size v' (n + m) (xs ++ news) → w.grownBy w' v.ownBlock → Newer w v v' → wpList P ops Q rest (a.put o.dst v') w') : wpList P ops Q (o :: rest) a w :=
  wpList_plain hgd fun _ hK => wp_app E s x ho hown hs hr hx hl h1 hb hbase fun v' w' h2 h3 h4 => hK _ _ (h v' w' h2 h3 h4)
/-- append of whatever reads as cells, as one step of a region that draws its order. -/
theorem step_app (E : El P t e z size bytes) {ops : Array Oper} {o : Oper} {a : Act} {K : Act → World → Prop} {Q : Exit → Act → World → Prop} {F : Prop} (hgd : o.guard = none) (s x : Operand)
    (ho : o.op = .call { callee := .builtin .append, args := #[s, x], argTypes := #[t, t] }) {base : Nat} {v : Value} {n : Nat} {xs : List Value} (hown : w.ownsRow base e size v n xs) (hs : a.eval s = v)
    {u : Value} {m : Nat} {news : List Value} (hr : Rd w u m news) (hx : a.eval x = u) (hl : news.length = m * size) (h1 : ∀ x ∈ news, x.oneCell' = true)
    (hb : (n + m) * bytes ≤ 140737488355328) (hbase : base ≤ w.heap.size)
    (h : ∀ v' w', w'.ownsRow base e size v' (n + m) (xs ++ news) → w.grownBy w' v.ownBlock → Newer w v v' → K (a.put o.dst v') w') :
    if Region.wanted o (yielded ops a.tmps) = true then Oper.wp P o a w K Q else F := by
  have hw : Region.wanted o (yielded ops a.tmps) = true := by simp [Region.wanted, hgd]
  rw [if_pos hw]
  exact wp_app E s x ho hown hs hr hx hl h1 hb hbase h
/-- append of one element, which the walk has just laid into a block of its own. -/
theorem wpList_app1 (E : El P t e z size bytes) {ops : Array Oper} {rest : List Oper} {o : Oper} {a : Act} {Q : Exit → Act → World → Prop} (hgd : o.guard = none) (s x : Operand)
    (ho : o.op = .call { callee := .builtin .append, args := #[s, x], argTypes := #[t, t] }) {base : Nat} {v : Value} {n : Nat} {xs : List Value} (hown : w.ownsRow base e size v n xs) (hs : a.eval s = v)
    {cs : Array Value} (hx : a.eval x = .slice (some ⟨w.heap.size, 0, none⟩) 1 1) (hl : cs.size = size) (h1 : ∀ x ∈ cs.toList, x.oneCell' = true)
    (hb : (n + 1) * bytes ≤ 140737488355328) (hbase : base ≤ w.heap.size)
    (h : ∀ v' w', w'.ownsRow base e size v' (n + 1) (xs ++ cs.toList) → w.grownBy w' v.ownBlock → Newer w v v' → wpList P ops Q rest (a.put o.dst v') w') : wpList P ops Q (o :: rest) a (w.alloc (.cells cs e)) := by
  have hr := Rd.new w e cs.toList 1 (by simp [maxLen])
  rw [Array.toArray_toList] at hr
  refine wpList_app E hgd s x ho (hown.alloc _) hs hr hx (by simp [hl]) h1 hb (by simp; omega) fun v' w' h2 h3 h4 => h v' w' h2 ⟨h3.os, h3.tape, h3.output, Nat.le_trans (by simp) h3.size, fun k hk hne => ?_⟩ ?_
  · exact (h3.block k (by simp; omega) hne).trans (Below.heap_alloc w _ k hk)
  · exact h4.imp id fun ⟨k, h, hk⟩ => ⟨k, h, by simp at hk; omega⟩
/-- make([]T, n), an element of one cell. -/
theorem wpList_mk1 {P : Program} {t e : TypeId} {z : Value} {bytes : Nat} {w : World} (E : El P t e z 1 bytes) (hz1 : z.cells = #[z]) {ops : Array Oper} {rest : List Oper} {o : Oper} {a : Act} {Q : Exit → Act → World → Prop} (hg : o.guard = none) (l c : Operand)
    (hop : o.op = .makeSlice t l c) {kl kc : IntKind} {L C : Int} (n : Nat) (hl : a.eval l = .int kl L) (hc : a.eval c = .int kc C) (hL : L = (n : Int)) (hC : C = (n : Int)) (hb : bytes * n ≤ 281474976710656) (h63 : n ≤ maxLen)
    (hK : wpList P ops Q rest (a.put o.dst (.slice (some ⟨w.heap.size, 0, none⟩) n n)) (w.alloc (.cells (Array.replicate n z) e))) : wpList P ops Q (o :: rest) a w := by
  refine wpList_plain hg fun K hK' => ?_
  obtain ⟨i, hi, hz, hs, hby⟩ := info_parts E.inf
  have hm : n ≤ 9223372036854775807 := by simp only [maxLen] at h63; omega
  have hbi : (i.bytes : Int) * (n : Int) ≤ 281474976710656 := by
    have h : ((i.bytes * n : Nat) : Int) ≤ 281474976710656 := by rw [hby]; omega
    rwa [Int.natCast_mul] at h
  have hrun := run_make (P := P) w t e i z E.und hi hz kl kc n n (by omega) (by omega) hbi (by omega)
  simp only [Int.toNat_natCast, hs, Nat.mul_one] at hrun
  have hcell : madeCells z.cells n = Array.replicate n z := by
    rw [hz1]
    apply Array.ext'
    rw [toList_madeCells_one]
    simp
  rw [hcell] at hrun
  subst hL
  subst hC
  unfold Oper.wp
  simp [execOp, hop, hl, hc, hrun, Result.andThen]
  exact hK' _ _ hK
theorem Blk.rep (w : World) (t : TypeId) (n : Nat) (z : Value) : Blk (w.alloc (.cells (Array.replicate n z) t)) w.heap.size t (List.replicate n z) := by
  have := Blk.new w t (List.replicate n z)
  rwa [List.toArray_replicate] at this
end

/-! ### Bytes -/
def ub (b : UInt8) : Value := .int .u8 b.toNat
def Bs (w : World) (v : Value) (l : List UInt8) : Prop := Rd w v l.length (l.map ub)
theorem ub_one (l : List UInt8) : ∀ x ∈ l.map ub, x.oneCell' = true := by
  intro x hx
  obtain ⟨b, _, rfl⟩ := List.mem_map.1 hx
  rfl

/-! ### Bytes to strings -/
def str (l : List UInt8) : ByteArray := ⟨l.toArray⟩
theorem str_inj {a b : List UInt8} (h : str a = str b) : a = b := by
  unfold str at h
  injection h with h
  exact List.toArray_inj h
theorem str_size (l : List UInt8) : (str l).size = l.length := by simp [str, ByteArray.size]
theorem str_toList (l : List UInt8) : (str l).toList = l := by rw [ByteArray.toList_eq]; rfl
theorem str_beq (a b : List UInt8) : ((str a).toList == (str b).toList) = (a == b) := by rw [str_toList, str_toList]
theorem str_beq_no {a b : List UInt8} (h : a ≠ b) : ((str a).toList == (str b).toList) = false := by rw [str_beq]; simpa using h
theorem str_beq_yes {a b : List UInt8} (h : a = b) : ((str a).toList == (str b).toList) = true := by rw [str_beq]; simpa using h
theorem str_some {a : List UInt8} (h : a ≠ []) : (str a).toList.isEmpty = false := by rw [str_toList]; simpa using h
theorem str_none : (str []).toList.isEmpty = true := by rw [str_toList]; rfl
theorem run_str {P : Program} {src dst e : TypeId} (hs : P.underlying src = some (.slice e)) (he : P.underlying e = some (.int .u8)) (hd : P.underlying dst = some .string)
    {w W : World} {v : Value} {l : List UInt8} (h : Bs w v l) (hW : W.heap = w.heap) : (convert src dst v).run P W = .ok (.string (str l)) W := by
  have hcell : ∀ p, W.cell? p = w.cell? p := fun p => by simp [World.cell?, hW]
  obtain ⟨ao, cap, rfl, _, _, h3⟩ := h
  rw [run_convert_bytes_string W src dst e ao l.length cap hs he hd]
  cases ao with
  | none =>
    have hl : l = [] := by
      refine Classical.byContradiction fun hne => ?_
      obtain ⟨b, off, h, _⟩ := h3 (by simpa using hne)
      cases h
    subst hl
    rfl
  | some a =>
    have hl : (loadCells a l.length).run P W = .ok ((l.map fun b => (b.toNat : Int)).map (Value.int .u8)).toArray W := by
      have hm : (l.map fun b => (b.toNat : Int)).map (Value.int .u8) = l.map ub := by simp [ub]
      rw [hm]
      have := run_loadCells_list (P := P) W a (l.map ub) (fun j u hu => by
        have hne : l.map ub ≠ [] := by intro h; rw [h] at hu; simp at hu
        obtain ⟨b, off, h, hc⟩ := h3 hne
        injection h with h
        subst h
        rw [Addr.add_lit, hcell]
        exact hc j u hu)
      rwa [List.length_map] at this
    rw [run_bytesToString W a l.length cap _ hl]
    rw [foldl_push_bytes]
    have he : ∀ x : List UInt8, (⟨ByteArray.empty.data ++ (x.map fun b => UInt8.ofNat ((b.toNat : Int)).toNat).toArray⟩ : ByteArray) = str x := fun x => by
      simp only [str, Int.toNat_natCast, UInt8.ofNat_toNat, List.map_id']
      congr 1
      exact Array.empty_append
    rw [← he, List.map_map]
    rfl
/-- v reads as byte slices. -/
def Bss (w : World) (v : Value) (ls : List (List UInt8)) : Prop :=
  ∃ vs, vs.length = ls.length ∧ Rd w v ls.length vs ∧ ∀ (i : Nat) (x : Value) (l : List UInt8), vs[i]? = some x → ls[i]? = some l → Bs w x l
theorem Bss.later {w w' : World} {v : Value} {ls : List (List UInt8)} (h : Bss w v ls) (hb : Below w.heap.size w w') : Bss w' v ls := by
  obtain ⟨vs, h1, h2, h3⟩ := h
  exact ⟨vs, h1, h2.later hb, fun i x l hx hl => (h3 i x l hx hl).later hb⟩
theorem Bss.drewN {w : World} {v : Value} {ls : List (List UInt8)} (h : Bss w v ls) (n : Nat) : Bss (w.drewN n) v ls := h
theorem Bs.later {w w' : World} {v : Value} {l : List UInt8} (h : Bs w v l) (hb : Below w.heap.size w w') : Bs w' v l := Rd.later h hb
theorem Bs.of_own {w : World} {base n : Nat} {e : TypeId} {v : Value} {l : List UInt8} (h : w.ownsRow base e 1 v n (l.map ub)) : Bs w v l := by
  have : n = l.length := by simpa using h.1.symm
  subst this
  exact Rd.of_own h
theorem below_drewN {B : Nat} {a w : World} (h : Below B a w) (n : Nat) : Below B a (w.drewN n) := ⟨h.os, h.tape, h.output, h.size, h.block⟩
end Go.Proofs.YtghjffgaebnhiaaDoor
end
section
/- The element type of lists of ranges, as the program's tables tell it. -/
namespace Go.Proofs.YtghjffgaebnhiaaDoor
set_option linter.unusedVariables false
set_option linter.unusedSimpArgs false
theorem El.range : El Tryd.prog 24 57 (.agg #[.int .i64 0, .int .i64 0]) 2 16 := ⟨Tryd.underlying24, by kernel_rfl, rfl, by decide, by decide⟩
end Go.Proofs.YtghjffgaebnhiaaDoor
end
section
/- How lists of ranges lie, as words. -/
namespace Go.Proofs.YtghjffgaebnhiaaDoor
set_option linter.unusedVariables false
set_option linter.unusedSimpArgs false
open Go.RowKit
/-- a range's two cells. -/
def rv (x : Int × Int) : List Value := [.int .i64 x.1, .int .i64 x.2]
def rvs (l : List (Int × Int)) : List Value := l.flatMap rv
theorem rvs_len (l : List (Int × Int)) : (rvs l).length = l.length * 2 := by
  induction l with
  | nil => rfl
  | cons x l ih => simp [rvs, rv] at ih ⊢; omega
theorem rvs_app (l m : List (Int × Int)) : rvs (l ++ m) = rvs l ++ rvs m := by simp [rvs]
theorem rvs_one (l : List (Int × Int)) : ∀ x ∈ rvs l, x.oneCell' = true := by
  intro x hx
  simp only [rvs, List.mem_flatMap, rv] at hx
  obtain ⟨a, _, h⟩ := hx
  simp at h
  rcases h with rfl | rfl <;> rfl
theorem rvs_at : ∀ (l : List (Int × Int)) (i : Nat) (x : Int × Int), l[i]? = some x → (rvs l)[i * 2]? = some (.int .i64 x.1) ∧ (rvs l)[i * 2 + 1]? = some (.int .i64 x.2) := by
  intro l
  induction l with
  | nil => intro i x h; simp at h
  | cons y l ih =>
    intro i x h
    cases i with
    | zero =>
      simp at h
      subst h
      exact ⟨rfl, rfl⟩
    | succ i =>
      rw [List.getElem?_cons_succ] at h
      obtain ⟨h1, h2⟩ := ih i x h
      rw [show (i + 1) * 2 = i * 2 + 2 by omega]
      exact ⟨h1, h2⟩
/-- a slice value that reads as these ranges. -/
def Rgs (w : World) (v : Value) (l : List (Int × Int)) : Prop := Rd w v l.length (rvs l)
theorem Rgs.later {w w' : World} {v : Value} {l : List (Int × Int)} (h : Rgs w v l) (hb : Below w.heap.size w w') : Rgs w' v l := Rd.later h hb
theorem Rgs.same {S : Nat → Prop} {w w' : World} {v : Value} {l : List (Int × Int)} (h : Rgs w v l) (hb : Same S w w') (hS : ∀ b, v.ownBlock = some b → ¬ S b) : Rgs w' v l := Rd.same h hb hS
theorem Rgs.of_own {w : World} {base : Nat} {v : Value} {l : List (Int × Int)} (h : w.ownsRow base 57 2 v l.length (rvs l)) : Rgs w v l := Rd.of_own h
theorem Rgs.cells {w : World} {v : Value} {l : List (Int × Int)} (h : Rgs w v l) : ∃ ao cap, v = .slice ao l.length cap ∧ l.length ≤ maxLen ∧
    (0 < l.length → ∃ b off, ao = some ⟨b, off, none⟩ ∧ ∀ i x, l[i]? = some x → w.cell? ⟨b, off + i * 2, none⟩ = some (.int .i64 x.1) ∧ w.cell? ⟨b, off + i * 2 + 1, none⟩ = some (.int .i64 x.2)) := by
  obtain ⟨ao, cap, rfl, h1, h2, h3⟩ := h
  refine ⟨ao, cap, rfl, Nat.le_trans h1 h2, fun hn => ?_⟩
  obtain ⟨b, off, rfl, h4⟩ := h3 (fun e => by have := rvs_len l; rw [e] at this; simp at this; omega)
  refine ⟨b, off, rfl, fun i x hx => ?_⟩
  obtain ⟨h5, h6⟩ := rvs_at l i x hx
  exact ⟨h4 _ _ h5, by rw [Nat.add_assoc]; exact h4 _ _ h6⟩

/-- the last range's end, written anew. -/
theorem rvs_set (init : List (Int × Int)) (k : Int × Int) (z : Int) : (rvs (init ++ [k])).set (init.length * 2 + 1) (.int .i64 z) = rvs (init ++ [(k.1, z)]) := by
  rw [rvs_app, rvs_app, List.set_append_right _ _ (by rw [rvs_len]; omega), rvs_len, show init.length * 2 + 1 - init.length * 2 = 1 by omega]
  rfl
theorem own_setLast {w : World} {base g cap N : Nat} {init : List (Int × Int)} {k : Int × Int} (h : w.ownsRow base 57 2 (.slice (some ⟨g, 0, none⟩) N cap) N (rvs (init ++ [k]))) (hN : N = init.length + 1) (z : Int) :
    (w.setCell ⟨g, init.length * 2 + 1, none⟩ (.int .i64 z)).ownsRow base 57 2 (.slice (some ⟨g, 0, none⟩) N cap) N (rvs (init ++ [(k.1, z)])) := by
  obtain ⟨g', cap', rest, he, h1, h2, h3, h4, h5⟩ := own_blk h (by omega)
  injection he with e1 e2 e3
  injection e1 with e1
  injection e1 with e1
  subst e1; subst e3
  have := h4.set (init.length * 2 + 1) (.int .i64 z)
  rw [List.set_append_left _ _ (by rw [rvs_len]; simp; omega), rvs_set] at this
  exact own_of_blk this h1 (by rw [rvs_len]; simp; omega) h2 h3 (by rw [rvs_len] at h5 ⊢; simpa using h5)
end Go.Proofs.YtghjffgaebnhiaaDoor
end
section
/- A list of ranges that is the call's own, before and behind a sort of its row. -/
namespace Go.Proofs.YtghjffgaebnhiaaDoor
set_option linter.unusedVariables false
set_option linter.unusedSimpArgs false
open Go.RowKit Go.Sort Go.Proofs
theorem flat_rv (d : Array (Int × Int)) : flatK rv 2 d = (rvs d.toList).toArray := by
  apply Array.ext
  · simp [rvs_len]
  · intro t h1 h2
    have ht : t < d.size * 2 := by simpa using h1
    have hk : t / 2 < d.size := by omega
    obtain ⟨e1, e2⟩ := rvs_at d.toList (t / 2) d[t / 2] (by simp [hk])
    have hg := get_flatK rv 2 d t ht
    rw [getElem!_pos _ t h1] at hg
    rw [hg]
    have hd : d[t / 2]! = d[t / 2] := getElem!_pos d (t / 2) hk
    rw [hd]
    rcases Nat.mod_two_eq_zero_or_one t with hm | hm
    · rw [hm]
      rw [show t / 2 * 2 = t by omega] at e1
      have := (List.getElem?_eq_some_iff.1 e1).2
      rw [show (rvs d.toList).toArray[t]'h2 = (rvs d.toList)[t]'(by simpa using h2) from rfl, this]; rfl
    · rw [hm]
      rw [show t / 2 * 2 + 1 = t by omega] at e2
      have := (List.getElem?_eq_some_iff.1 e2).2
      rw [show (rvs d.toList).toArray[t]'h2 = (rvs d.toList)[t]'(by simpa using h2) from rfl, this]; rfl
theorem holds_rv {w : World} {g : Nat} {cur : Array Value} {e : TypeId} {l : List (Int × Int)} (hb : w.heap[g]? = some (.cells cur e (0, 0))) (ht : cur.toList.take (l.length * 2) = rvs l) : HoldsK rv 2 w g 0 l.toArray := by
  intro j hj
  rw [flat_rv] at hj ⊢
  have hj' : j < l.length * 2 := by simpa [rvs_len] using hj
  refine ⟨?_, by simp [World.frozen?, hb]⟩
  have h1 : (cur.toList.take (l.length * 2))[j]? = (rvs l)[j]? := by rw [ht]
  rw [List.getElem?_take_of_lt hj'] at h1
  have hlt : j < (rvs l).length := by rw [rvs_len]; exact hj'
  simp only [World.cell?, hb, Nat.zero_add]
  simp only [Option.isSome_none, Bool.false_eq_true, if_false]
  rw [← Array.getElem?_toList, h1, List.getElem?_eq_getElem hlt]
  simp [hlt]
theorem take_put (cur : Array Value) (xs : List Value) (h : xs.length ≤ cur.size) : (putCells id 0 xs.toArray cur).toList.take xs.length = xs := by
  apply List.ext_getElem?
  intro j
  by_cases hj : j < xs.length
  · rw [List.getElem?_take_of_lt hj, Array.getElem?_toList]
    simp [putCells, hj, show j < cur.size by omega]
  · rw [List.getElem?_take_eq_none (by omega), List.getElem?_eq_none (by omega)]
theorem sorted_rv {w : World} {base g cap n m : Nat} {e : TypeId} {os : Array Obj} {cur : Array Value} (d : Array (Int × Int)) (hd : d.size = m) (hbase : base ≤ g) (hb : w.heap[g]? = some (.cells cur e (0, 0)))
    (h1 : m ≤ cap) (h2 : cap ≤ maxLen) (h3 : cur.size = cap * 2) :
    (sortWorldK rv 2 w g 0 n d os).ownsRow base e 2 (.slice (some ⟨g, 0, none⟩) m cap) m (rvs d.toList) ∧ w.grownBy (sortWorldK rv 2 w g 0 n d os) (some g) := by
  have hg : g < w.heap.size := (Array.getElem?_eq_some_iff.1 hb).1
  have hheap : (sortWorldK rv 2 w g 0 n d os).heap[g]? = some (.cells (putCells id 0 (rvs d.toList).toArray cur) e (0, 0)) := by
    unfold sortWorldK putRowK
    rw [flat_rv, heap_grow_old _ _ (by simpa [Sort.ahead, putRow, mapBlock] using hg)]
    simp [putRow, mapBlock, Sort.ahead, Array.getElem?_modify, hb, onCells]
  have hl : (rvs d.toList).length = m * 2 := by rw [rvs_len]; simp [hd]
  refine ⟨⟨hl, .inr ⟨g, cap, _, rfl, hbase, hheap, h1, h2, by simp [putCells, h3], ?_⟩⟩, rfl, rfl, rfl, by simp [sortWorldK, putRowK, putRow, mapBlock, Sort.ahead, grow], fun k hk hne => ?_⟩
  · rw [← hl]
    exact take_put cur _ (by rw [hl, h3]; exact Nat.mul_le_mul_right 2 h1)
  · unfold sortWorldK putRowK
    rw [heap_grow_old _ _ (by simpa [Sort.ahead, putRow, mapBlock] using hk)]
    have : g ≠ k := fun e => hne (by rw [e])
    simp [putRow, mapBlock, Sort.ahead, Array.getElem?_modify, this]
end Go.Proofs.YtghjffgaebnhiaaDoor
end
section
/- cmp.Compare at two numbers, and the order by which pdu.Least sorts. -/
namespace Go.Proofs.YtghjffgaebnhiaaDoor
set_option linter.unusedVariables false
set_option linter.unusedSimpArgs false
open Go.RowKit Go.Sort Go.Proofs
set_option maxHeartbeats 1000000 in
theorem isNaN_any (a : Int) (w : World) : Calls Tryd.prog 92 #[.int .i64 a] w fun e w' => e = .returned (.bool false) ∧ w = w' := by
  go_enter Tryd.func92, Tryd.ntmps92
  go_wp2
  go_ret
  exact ⟨rfl, rfl⟩
set_option maxHeartbeats 1000000 in
theorem cmp_any (a b : Int) (w : World) : Calls Tryd.prog 64 #[.int .i64 a, .int .i64 b] w fun e w' => e = .returned (.int .i64 (Lib.compareInt a b)) ∧ w = w' := by
  by_cases h1 : a < b
  · go_enter Tryd.func64, Tryd.ntmps64
    go_wp2_with fail
    refine (isNaN_any _ _).mono ?_
    rintro e _ ⟨rfl, rfl⟩
    go_wp2_with fail
    refine (isNaN_any _ _).mono ?_
    rintro e _ ⟨rfl, rfl⟩
    go_wp2_with fail
    go_ret
    exact ⟨by rw [show Lib.compareInt a b = -1 by unfold Lib.compareInt; split <;> (try split) <;> omega]; rfl, rfl⟩
  · by_cases h2 : b < a
    · go_enter Tryd.func64, Tryd.ntmps64
      go_wp2_with fail
      refine (isNaN_any _ _).mono ?_
      rintro e _ ⟨rfl, rfl⟩
      go_wp2_with fail
      refine (isNaN_any _ _).mono ?_
      rintro e _ ⟨rfl, rfl⟩
      go_wp2_with fail
      go_ret
      exact ⟨by rw [show Lib.compareInt a b = 1 by unfold Lib.compareInt; split <;> (try split) <;> omega]; rfl, rfl⟩
    · go_enter Tryd.func64, Tryd.ntmps64
      go_wp2_with fail
      refine (isNaN_any _ _).mono ?_
      rintro e _ ⟨rfl, rfl⟩
      go_wp2_with fail
      refine (isNaN_any _ _).mono ?_
      rintro e _ ⟨rfl, rfl⟩
      go_wp2_with fail
      go_ret
      exact ⟨by rw [show Lib.compareInt a b = 0 by unfold Lib.compareInt; split <;> (try split) <;> omega]; rfl, rfl⟩
set_option maxHeartbeats 1000000 in
/-- pdu.Least's order: two blocks are laid. -/
theorem byFrom_any (x y : Int × Int) (W : World) : Calls Tryd.prog 63 #[.agg #[.int .i64 x.1, .int .i64 x.2], .agg #[.int .i64 y.1, .int .i64 y.2]] W fun e w' => e = .returned (.int .i64 (Lib.compareInt x.1 y.1)) ∧ ∃ q os', w' = grow (W.drewN q) os' := by
  obtain ⟨x1, x2⟩ := x
  obtain ⟨y1, y2⟩ := y
  simp only
  have hcon := fun W' => cmp_any x1 y1 W'
  generalize Lib.compareInt x1 y1 = r at hcon ⊢
  go_enter Tryd.func63, Tryd.ntmps63
  go_wp2_with fail
  refine (hcon _).mono ?_
  rintro e _ ⟨rfl, rfl⟩
  go_wp2_with fail
  go_ret
  exact ⟨rfl, 0, _, by rw [alloc_eq_grow, alloc_eq_grow, grow_grow]; rfl⟩
end Go.Proofs.YtghjffgaebnhiaaDoor
end
section
/-
  DERIVED: THE SHELF's CONTRACTS AT THIS DUMP, IN PLAIN WORDS (tools/lay-plain.mjs out of 'YtghjffgaebnhiaaDoorShelf.lean', which tools/lay-shelf.mjs wrote): THE SAME DECLARATIONS UNDER THE SAME NAMES: 'import', 'namespace', 'open', 'def', 'theorem' AND NOTHING ELSE: no command of the shelf's: FOR A HAND-IN. Each laying: the table of numbers ('.._ren') and one theorem, a field a fact of the dump's own or the kernel's comparison; each contract: ONE APPLICATION.
-/
namespace Go.Proofs
open Go.Shelf
def Tryd.sortRange_ren : Go.Shelf.Ren := ⟨fun | 6 => 62 | 15 => 91 | 14 => 90 | 28 => 108 | 29 => 109 | 20 => 100 | 21 => 101 | 22 => 102 | 23 => 103 | 24 => 104 | 25 => 105 | 26 => 106 | 27 => 107 | 46 => 113 | 47 => 114 | 48 => 115 | 49 => 116 | 50 => 117 | 57 => 119 | n => n, fun | 22 => 24 | 24 => 57 | 25 => 96 | 3 => 3 | 39 => 93 | 0 => 0 | 53 => 46 | 55 => 22 | 4 => 4 | 46 => 123 | 45 => 122 | 50 => 98 | 5 => 5 | 9 => 9 | 66 => 132 | 70 => 136 | 76 => 139 | 77 => 140 | n => n, fun | n => n⟩
theorem Tryd.sortRange : Go.Proofs.SlLaysF0.n6 Tryd.prog Tryd.sortRange_ren := {
  mixed := by kernel_rfl
  f6 := ⟨Tryd.f62.name, by decide, Tryd.func62.trans (congrArg some (by kernel_rfl))⟩
  f14 := ⟨Tryd.f90.name, by decide, Tryd.func90.trans (congrArg some (by kernel_rfl))⟩
  f15 := Tryd.func91.trans (congrArg some (by kernel_rfl))
  f20 := ⟨Tryd.f100.name, by decide, Tryd.func100.trans (congrArg some (by kernel_rfl))⟩
  f21 := ⟨Tryd.f101.name, by decide, Tryd.func101.trans (congrArg some (by kernel_rfl))⟩
  f22 := ⟨Tryd.f102.name, by decide, Tryd.func102.trans (congrArg some (by kernel_rfl))⟩
  f23 := ⟨Tryd.f103.name, by decide, Tryd.func103.trans (congrArg some (by kernel_rfl))⟩
  f24 := ⟨Tryd.f104.name, by decide, Tryd.func104.trans (congrArg some (by kernel_rfl))⟩
  f25 := ⟨Tryd.f105.name, by decide, Tryd.func105.trans (congrArg some (by kernel_rfl))⟩
  f26 := ⟨Tryd.f106.name, by decide, Tryd.func106.trans (congrArg some (by kernel_rfl))⟩
  f27 := ⟨Tryd.f107.name, by decide, Tryd.func107.trans (congrArg some (by kernel_rfl))⟩
  f28 := Tryd.func108.trans (congrArg some (by kernel_rfl))
  f29 := Tryd.func109.trans (congrArg some (by kernel_rfl))
  f46 := ⟨Tryd.f113.name, by decide, Tryd.func113.trans (congrArg some (by kernel_rfl))⟩
  f47 := Tryd.func114.trans (congrArg some (by kernel_rfl))
  f48 := Tryd.func115.trans (congrArg some (by kernel_rfl))
  f49 := ⟨Tryd.f116.name, by decide, Tryd.func116.trans (congrArg some (by kernel_rfl))⟩
  f50 := ⟨Tryd.f117.name, by decide, Tryd.func117.trans (congrArg some (by kernel_rfl))⟩
  f57 := ⟨Tryd.f119.name, by decide, Tryd.func119.trans (congrArg some (by kernel_rfl))⟩
  t0 := Tryd.underlying0
  a0 := Tryd.isAgg0
  z0 := Tryd.sizeOf0
  v0 := Tryd.zeroValue0
  t3 := Tryd.underlying3
  a3 := Tryd.isAgg3
  z3 := Tryd.sizeOf3
  v3 := Tryd.zeroValue3
  t4 := Tryd.underlying4
  a4 := Tryd.isAgg4
  z4 := Tryd.sizeOf4
  v4 := Tryd.zeroValue4
  t5 := Tryd.underlying5
  a5 := Tryd.isAgg5
  z5 := Tryd.sizeOf5
  v5 := Tryd.zeroValue5
  t9 := Tryd.underlying9
  a9 := Tryd.isAgg9
  z9 := Tryd.sizeOf9
  v9 := Tryd.zeroValue9
  t22 := Tryd.underlying24
  a22 := Tryd.isAgg24
  z22 := Tryd.sizeOf24
  v22 := Tryd.zeroValue24
  t25 := Tryd.underlying96
  a25 := Tryd.isAgg96
  z25 := Tryd.sizeOf96
  v25 := Tryd.zeroValue96
  t39 := Tryd.underlying93
  a39 := Tryd.isAgg93
  z39 := Tryd.sizeOf93
  v39 := Tryd.zeroValue93
  t45 := Tryd.underlying122
  a45 := Tryd.isAgg122
  z45 := Tryd.sizeOf122
  v45 := Tryd.zeroValue122
  t46 := Tryd.underlying123
  a46 := Tryd.isAgg123
  z46 := Tryd.sizeOf123
  v46 := Tryd.zeroValue123
  t50 := Tryd.underlying98
  a50 := Tryd.isAgg98
  z50 := Tryd.sizeOf98
  v50 := Tryd.zeroValue98
  t53 := Tryd.underlying46
  a53 := Tryd.isAgg46
  z53 := Tryd.sizeOf46
  v53 := Tryd.zeroValue46
  t55 := Tryd.underlying22
  a55 := Tryd.isAgg22
  z55 := Tryd.sizeOf22
  v55 := Tryd.zeroValue22
  t66 := Tryd.underlying132
  a66 := Tryd.isAgg132
  z66 := Tryd.sizeOf132
  v66 := Tryd.zeroValue132
  t70 := Tryd.underlying136
  a70 := Tryd.isAgg136
  z70 := Tryd.sizeOf136
  v70 := Tryd.zeroValue136
  t76 := Tryd.underlying139
  a76 := Tryd.isAgg139
  z76 := Tryd.sizeOf139
  v76 := Tryd.zeroValue139
  t77 := Tryd.underlying140
  a77 := Tryd.isAgg140
  z77 := Tryd.sizeOf140
  v77 := Tryd.zeroValue140 }
end Go.Proofs
end
section
/- slices.SortFunc at ranges, by where they begin: the row is a sorted permutation of what it was. -/
namespace Go.Proofs.YtghjffgaebnhiaaDoor
set_option linter.unusedVariables false
set_option linter.unusedSimpArgs false
open Go.RowKit Go.Sort Go.Proofs
theorem ltFrom (x y : Int × Int) : ltOf (fun x y : Int × Int => Lib.compareInt x.1 y.1) x y = decide (x.1 < y.1) := by
  unfold ltOf Lib.compareInt
  by_cases h1 : x.1 < y.1
  · simp [h1]
  · by_cases h2 : y.1 < x.1 <;> simp [h1, h2]
theorem swoFrom : SWO (ltOf fun x y : Int × Int => Lib.compareInt x.1 y.1) where
  irrefl x := by rw [ltFrom]; simp
  trans x y z h1 h2 := by rw [ltFrom] at *; simp at *; omega
  ntrans x y z h1 h2 := by rw [ltFrom] at *; simp at *; omega
theorem sort_any (base : Nat) (v : Value) (l : List (Int × Int)) (w : World) (hown : w.ownsRow base 57 2 v l.length (rvs l)) (hl : l.length < 4611686018427387904) :
    Calls Tryd.prog 62 #[v, .func (.func 63) #[] #[]] w fun e w' => e = .returned (.tuple #[]) ∧ ∃ l', l'.Perm l ∧ l'.Pairwise (fun a b => a.1 ≤ b.1) ∧
      w'.ownsRow base 57 2 v l'.length (rvs l') ∧ w.grownBy w' v.ownBlock := by
  rcases hown.2 with ⟨rfl, hn⟩ | ⟨g, cap, cur, rfl, hbase, hb, h1, h2, h3, h4⟩
  · have hl0 : l = [] := List.length_eq_zero_iff.1 hn
    subst hl0
    have hcon := AnyF.slices_SortFunc_none Tryd.sortRange none 0 (.func (.func 63) #[] #[]) w
    change Calls Tryd.prog 62 _ _ _ at hcon
    refine hcon.mono ?_
    rintro e w' ⟨rfl, rfl⟩
    exact ⟨rfl, [], List.Perm.refl _, List.Pairwise.nil, hown, World.grownBy.refl _ _⟩
  · have eg : ∀ args w, (callFunc 63 args).run Tryd.prog w = .ok (.enter 63 args) w := enters_of Tryd.func63 (by kernel_rfl) rfl
    have hcon := AnyQ.slices_SortFunc Tryd.sortRange 2 Tryd.isAgg57 Tryd.sizeOf57 rv (fun _ => rfl) (fun x v hv => by simp [rv] at hv; rcases hv with rfl | rfl <;> rfl) (fun x y => Lib.compareInt x.1 y.1) swoFrom 63 #[] g 0 cap l.toArray w eg
      (fun _ _ _ _ x y => byFrom_any x y _) (holds_rv hb h4) (Array.getElem?_eq_some_iff.1 hb).1 (by simpa using hl)
    change Calls Tryd.prog 62 _ _ _ at hcon
    simp only [List.size_toArray] at hcon
    refine hcon.mono ?_
    rintro e w' ⟨rfl, d, n, os, ⟨hd, _, hp⟩, hs, rfl⟩
    have hd' : d.size = l.length := by simpa using hd
    obtain ⟨o1, o2⟩ := sorted_rv (n := n) (os := os) d hd' hbase hb h1 h2 h3
    refine ⟨rfl, d.toList, ?_, ?_, by simpa [hd'] using o1, o2⟩
    · have e1 : (d.extract 0 l.length).toList = d.toList := by rw [← hd']; simp
      have e2 : (l.toArray.extract 0 l.length).toList = l := by simp
      rw [e1, e2] at hp
      exact hp
    · rw [List.pairwise_iff_getElem]
      intro i j hi hj hij
      have hi' : i < d.size := by simpa using hi
      have hj' : j < d.size := by simpa using hj
      have := hs i j (Nat.zero_le _) hij (by omega)
      rw [ltFrom, getElem!_pos d i hi', getElem!_pos d j hj'] at this
      simpa using this
end Go.Proofs.YtghjffgaebnhiaaDoor
end
section
/- A region that draws its order, walked in a class of worlds. -/
namespace Go.Proofs.YtghjffgaebnhiaaDoor
set_option linter.unusedVariables false
set_option linter.unusedSimpArgs false
open Go.RowKit
/-- a region that draws its order, of reads and of calls that keep a class of worlds: walked in the order of its text. -/
theorem region_class {P : Program} {C : World → Prop} {id : Nat} {Q : Exit → Act → World → Prop} {a : Act} {w : World} {l : List Oper} (hm : P.follows .mixedOrders = true) (hB : Region.lexB .any l.toArray = true) (hC : C w.drew)
    (h : wpQuiet P l.toArray C (fun a' => ∀ w', C w' → Q .normal a' w') l a) : (Code.region id l.toArray true).wp P Q a w :=
  wp_region_quiet (C := C) hm hB hC (by simpa using h)
end Go.Proofs.YtghjffgaebnhiaaDoor
end
section
/- The element types of this seat's slices, as the program's tables tell them. -/
namespace Go.Proofs.YtghjffgaebnhiaaDoor
set_option linter.unusedVariables false
set_option linter.unusedSimpArgs false
theorem El.u8 : El Tryd.prog 23 5 (.int .u8 0) 1 1 := ⟨Tryd.underlying23, by kernel_rfl, rfl, by decide, by decide⟩
theorem El.bytes : El Tryd.prog 49 23 (.slice none 0 0) 1 24 := ⟨Tryd.underlying49, by kernel_rfl, rfl, by decide, by decide⟩
theorem El.ranges : El Tryd.prog 50 24 (.slice none 0 0) 1 24 := ⟨Tryd.underlying50, by kernel_rfl, rfl, by decide, by decide⟩
theorem run_str8 {w W : World} {v : Value} {l : List UInt8} (h : Bs w v l) (hW : W.heap = w.heap) : (convert 23 9 v).run Tryd.prog W = .ok (.string (str l)) W :=
  run_str Tryd.underlying23 Tryd.underlying5 Tryd.underlying9 h hW
theorem strCells_str (l : List UInt8) : Lib.strCells (str l) = l.map ub := by
  simp [Lib.strCells, str, ub]
/-- append of a string's bytes. -/
theorem wpList_appStr {ops : Array Oper} {rest : List Oper} {o : Oper} {a : Act} {Q : Exit → Act → World → Prop} {w : World} (hgd : o.guard = none) (s x : Operand)
    (ho : o.op = .call { callee := .builtin .append, args := #[s, x], argTypes := #[23, 9] }) {base : Nat} {v : Value} {n : Nat} {xs : List Value} (hown : w.ownsRow base 5 1 v n xs) (hs : a.eval s = v)
    {l : List UInt8} (hx : a.eval x = .string (str l)) (hb : n + l.length ≤ 140737488355328) (hbase : base ≤ w.heap.size)
    (h : ∀ v' w', w'.ownsRow base 5 1 v' (n + l.length) (xs ++ l.map ub) → w.grownBy w' v.ownBlock → wpList Tryd.prog ops Q rest (a.put o.dst v') w') : wpList Tryd.prog ops Q (o :: rest) a w := by
  obtain ⟨i, hi, hz, hs1, hby⟩ := info_parts El.u8.inf
  have hsz := str_size l
  refine Lib.wpList_append_own_string w hgd s x _ _ ho base _ i El.u8.und Tryd.underlying9 hi hz hs1 hby v n xs hs hown (str l) hx (by rw [hsz]; simp only [maxLen]; omega) (by rw [hsz]; exact hb) hbase fun v' w' h2 h3 _ => ?_
  rw [hsz, strCells_str] at h2
  exact h v' w' h2 h3
end Go.Proofs.YtghjffgaebnhiaaDoor
end
section
/- How the arguments of a statement read: a codec for each type, out of smaller ones. Nothing of the program in it. -/
namespace Go.Proofs.YtghjffgaebnhiaaDoor
set_option linter.unusedVariables false
set_option linter.unusedSimpArgs false
open Go.RowKit Go.ChangeShapes Go.WideShapes Go.Deep

structure Codec (P : Program) (t : TypeId) (α : Type) where
  k : Nat
  rep : World → List Value → α → Prop
  size : P.cellsOf t = k
  len : ∀ {w : World} {cs : List Value} {a : α}, rep w cs a → cs.length = k
  one : ∀ {w : World} {cs : List Value} {a : α}, rep w cs a → ∀ v ∈ cs, v.oneCell' = true
  later : ∀ {w w' : World} {cs : List Value} {a : α}, rep w cs a → Below w.heap.size w w' → rep w' cs a
  get : ∀ {H : Type} {enc : TypeId × Value → H} {w : World} {fuel : Nat} {cs : List Value} {x : DataW H × List MemPlace},
    DataW.trod enc P w 0 (fun _ => true) true fuel t cs = some x → (x.1.weights P t).all (fun n => decide (n ≤ reachBytes)) = true → ∃ a, rep w cs a

section
variable {P : Program} {t e : TypeId} {α β : Type}
def Codec.map (c : Codec P t α) (f : α → β) : Codec P t β where
  k := c.k
  rep w cs b := ∃ a, f a = b ∧ c.rep w cs a
  size := c.size
  len := fun ⟨_, _, h⟩ => c.len h
  one := fun ⟨_, _, h⟩ => c.one h
  later := fun ⟨a, e, h⟩ hb => ⟨a, e, c.later h hb⟩
  get h hw := let ⟨a, ha⟩ := c.get h hw; ⟨f a, a, rfl, ha⟩

def Codec.int (kd : IntKind) (ht : P.underlying t = some (.int kd)) (hs : P.cellsOf t = 1) : Codec P t Int where
  k := 1
  rep _ cs n := cs = [.int kd n] ∧ (Lit.int kd n).wf = true
  size := hs
  len := fun ⟨h, _⟩ => by rw [h]; rfl
  one := fun ⟨h, _⟩ v hv => by rw [h] at hv; simp at hv; rw [hv]; rfl
  later h _ := h
  get h _ := by
    obtain ⟨n, h1, _, h3⟩ := DataW.trod_int ht h
    exact ⟨n, h1, h3⟩

def Codec.bool (ht : P.underlying t = some .bool) (hs : P.cellsOf t = 1) : Codec P t Bool where
  k := 1
  rep _ cs n := cs = [.bool n]
  size := hs
  len := fun h => by rw [h]; rfl
  one := fun h v hv => by rw [h] at hv; simp at hv; rw [hv]; rfl
  later h _ := h
  get h _ := by
    obtain ⟨n, h1, _⟩ := DataW.trod_bool ht h
    exact ⟨n, h1⟩

def Codec.u8 (ht : P.underlying t = some (.int .u8)) (hs : P.cellsOf t = 1) : Codec P t UInt8 where
  k := 1
  rep _ cs n := cs = [ub n]
  size := hs
  len := fun h => by rw [h]; rfl
  one := fun h v hv => by rw [h] at hv; simp at hv; rw [hv]; rfl
  later h _ := h
  get h _ := by
    obtain ⟨n, h1, _, h3⟩ := DataW.trod_int ht h
    have hb : 0 ≤ n ∧ n < 256 := by
      simp only [Lit.wf, Bool.and_eq_true, decide_eq_true_eq] at h3
      have e1 : IntKind.u8.min = 0 := by decide
      have e2 : IntKind.u8.max = 255 := by decide
      omega
    refine ⟨UInt8.ofNat n.toNat, ?_⟩
    rw [h1]
    unfold ub
    rw [UInt8.toNat_ofNat', Nat.mod_eq_of_lt (by omega), Int.toNat_of_nonneg hb.1]

/-- A list of fields, from cell o on. -/
structure FCodec (P : Program) (fs : List Field) (o : Nat) (α : Type) where
  k : Nat
  rep : World → List Value → α → Prop
  len : ∀ {w : World} {cs : List Value} {a : α}, rep w cs a → cs.length = k
  one : ∀ {w : World} {cs : List Value} {a : α}, rep w cs a → ∀ v ∈ cs, v.oneCell' = true
  later : ∀ {w w' : World} {cs : List Value} {a : α}, rep w cs a → Below w.heap.size w w' → rep w' cs a
  get : ∀ {H : Type} {enc : TypeId × Value → H} {w : World} {fuel : Nat} {cs : List Value} {xs : List (DataW H × List MemPlace)}, cs.length = o + k → xs.length = fs.length →
    (∀ (i : Nat) (f : Field), fs[i]? = some f → DataW.trod enc P w 0 (fun _ => true) true fuel f.type ((cs.drop f.offset).take (P.cellsOf f.type)) = xs[i]?) →
    (DataW.weightsEach P (fs.map (·.type)) (xs.map (·.1))).all (fun n => decide (n ≤ reachBytes)) = true → ∃ a, rep w (cs.drop o) a
def FCodec.nil (P : Program) (o : Nat) : FCodec P [] o Unit where
  k := 0
  rep _ cs _ := cs = []
  len h := by rw [h]; rfl
  one h v hv := by rw [h] at hv; simp at hv
  later h _ := h
  get hl _ _ _ := ⟨(), by rw [List.drop_eq_nil_iff]; omega⟩
def FCodec.cons {f : Field} {fs : List Field} {o : Nat} (ho : f.offset = o) (c : Codec P f.type α) (r : FCodec P fs (o + c.k) β) : FCodec P (f :: fs) o (α × β) where
  k := c.k + r.k
  rep w cs a := ∃ c1 c2, cs = c1 ++ c2 ∧ c.rep w c1 a.1 ∧ r.rep w c2 a.2
  len := fun ⟨c1, c2, h, h1, h2⟩ => by rw [h, List.length_append, c.len h1, r.len h2]
  one := fun ⟨c1, c2, h, h1, h2⟩ v hv => by
    rw [h, List.mem_append] at hv
    rcases hv with hv | hv
    · exact c.one h1 v hv
    · exact r.one h2 v hv
  later := fun ⟨c1, c2, h, h1, h2⟩ hb => ⟨c1, c2, h, c.later h1 hb, r.later h2 hb⟩
  get {H enc w fuel cs xs} hl hx h hw := by
    match xs, hx with
    | x :: xs, hx =>
      simp only [List.map_cons, DataW.weightsEach, List.all_append, Bool.and_eq_true] at hw
      have h0 := h 0 f rfl
      obtain ⟨a, ha⟩ := c.get h0 hw.1
      obtain ⟨b, hb⟩ := r.get (cs := cs) (xs := xs) (by omega) (by simpa using hx) (fun i f hf => h (i + 1) f (by simpa using hf)) hw.2
      refine ⟨(a, b), (cs.drop o).take c.k, cs.drop (o + c.k), ?_, ?_, hb⟩
      · rw [← List.drop_drop, List.take_append_drop]
      · rw [ho, c.size] at ha
        exact ha
def Codec.struct {fs : Array Field} (ht : P.underlying t = some (.struct fs)) (r : FCodec P fs.toList 0 α) (hs : P.cellsOf t = r.k) : Codec P t α where
  k := r.k
  rep := r.rep
  size := hs
  len := r.len
  one := r.one
  later := r.later
  get {H enc w fuel cs x} h hw := by
    obtain ⟨xs, n, _, hx, hl, hxl, hf⟩ := DataW.trod_struct ht h
    rw [hx] at hw
    simp only [DataW.weights, ht] at hw
    exact r.get (cs := cs) (xs := xs) (by omega) (by simpa using hxl) (fun i f hi => hf i f (by simpa using hi)) hw

def Codec.slice (ht : P.underlying t = some (.slice e)) (hs : P.cellsOf t = 1) (c : Codec P e α) (hk : 0 < c.k) : Codec P t (List α) where
  k := 1
  rep w cs l := ∃ (v : Value) (css : List (List Value)), cs = [v] ∧ css.length = l.length ∧ Rd w v l.length css.flatten ∧ (∀ (i : Nat) (x : List Value) (a : α), css[i]? = some x → l[i]? = some a → c.rep w x a) ∧ l.length * P.bytesOf e ≤ reachBytes
  size := hs
  len := fun ⟨v, css, h, _⟩ => by rw [h]; rfl
  one := fun ⟨v, css, h, _, ⟨ao, cap, hv, _⟩, _⟩ u hu => by rw [h] at hu; simp at hu; rw [hu, hv]; rfl
  later := fun ⟨v, css, h, h1, h2, h3, h4⟩ hb => ⟨v, css, h, h1, h2.later hb, fun i x a hx ha => c.later (h3 i x a hx ha) hb, h4⟩
  get {H enc w fuel cs x} h hw := by
    rcases DataW.trod_slice ht h with ⟨h1, h2⟩ | ⟨a, len, cap, elems, rest, n, _, hcs, hx, _, hlc, hcm, hel, hget, _, _⟩
    · exact ⟨[], _, [], h1, rfl, Rd.nil w, by simp, by simp⟩
    · rw [hx] at hw
      simp only [DataW.weights, ht, List.all_cons, Bool.and_eq_true, List.all_append] at hw
      obtain ⟨hw0, hw1, _⟩ := hw
      have hwe : ∀ y ∈ elems, (y.1.weights P e).all (fun n => decide (n ≤ reachBytes)) = true := by
        clear hget hx hel
        induction elems with
        | nil => simp
        | cons y ys ih =>
          simp only [List.map_cons, DataW.weightsAll, List.all_append, Bool.and_eq_true] at hw1
          intro z hz
          rcases List.mem_cons.1 hz with rfl | hz
          · exact hw1.1
          · exact ih (by simp at hw0 ⊢; exact Nat.le_trans (Nat.mul_le_mul_right _ (by omega)) hw0) hw1.2 z hz
      have each : ∀ i, i < len → ∃ y : List Value × α, c.rep w y.1 y.2 ∧ ∀ j, j < c.k → w.cell? (a.add (i * c.k + j)) = y.1[j]? := by
        intro i hi
        have hg := hget i hi
        rw [List.getElem?_eq_getElem (by omega), Option.bind_eq_some_iff] at hg
        obtain ⟨cs', hc1, hc2⟩ := hg
        obtain ⟨b, hb⟩ := c.get hc2 (hwe _ (List.getElem_mem _))
        obtain ⟨_, hl', hcell⟩ := World.cells?_some hc1
        refine ⟨(cs', b), hb, fun j hj => ?_⟩
        rw [← hcell j (by rw [c.size]; exact hj), c.size, add_add]
      have hbuild : ∀ m, m ≤ len → ∃ ys : List (List Value × α), ys.length = m ∧ ∀ i y, ys[i]? = some y → c.rep w y.1 y.2 ∧ ∀ j, j < c.k → w.cell? (a.add (i * c.k + j)) = y.1[j]? := by
        intro m
        induction m with
        | zero => exact fun _ => ⟨[], rfl, by simp⟩
        | succ m ih =>
          intro hm
          obtain ⟨ys, hy1, hy2⟩ := ih (by omega)
          obtain ⟨y, hy⟩ := each m (by omega)
          refine ⟨ys ++ [y], by simp [hy1], fun i z hz => ?_⟩
          by_cases hi : i < m
          · rw [List.getElem?_append_left (by omega)] at hz
            exact hy2 i z hz
          · have hil := (List.getElem?_eq_some_iff.1 hz).1
            simp at hil
            have : i = m := by omega
            subst this
            rw [List.getElem?_append_right (by omega)] at hz
            simp [hy1] at hz
            subst hz
            exact hy
      obtain ⟨ys, hy1, hy2⟩ := hbuild len (Nat.le_refl _)
      refine ⟨ys.map (·.2), _, ys.map (·.1), hcs, by simp, ?_, ?_, ?_⟩
      · rw [List.length_map, hy1]
        have hfl : ∀ (i : Nat) (u : Value), ((ys.map (·.1)).flatten)[i]? = some u → w.cell? (a.add i) = some u := by
          have key : ∀ (zs : List (List Value × α)) (o : Nat), (∀ i y, zs[i]? = some y → c.rep w y.1 y.2 ∧ ∀ j, j < c.k → w.cell? (a.add ((o + i) * c.k + j)) = y.1[j]?) →
              ∀ (i : Nat) (u : Value), ((zs.map (·.1)).flatten)[i]? = some u → w.cell? (a.add (o * c.k + i)) = some u := by
            intro zs
            induction zs with
            | nil => intro o _ i u hu; simp at hu
            | cons z zs ih =>
              intro o hz i u hu
              obtain ⟨hz1, hz2⟩ := hz 0 z rfl
              have hzl := c.len hz1
              rw [List.map_cons, List.flatten_cons] at hu
              by_cases hi : i < c.k
              · rw [List.getElem?_append_left (by omega)] at hu
                have := hz2 i hi
                rw [Nat.add_zero] at this
                rw [this, hu]
              · rw [List.getElem?_append_right (by omega), hzl] at hu
                have := ih (o + 1) (fun i y hy => by
                  have := hz (i + 1) y (by simpa using hy)
                  rwa [show o + 1 + i = o + (i + 1) by omega]) (i - c.k) u hu
                rwa [Nat.add_mul, Nat.one_mul, Nat.add_assoc, Nat.add_sub_cancel' (by omega)] at this
          intro i u hu
          have := key ys 0 (fun i y hy => by rw [Nat.zero_add]; exact hy2 i y hy) i u hu
          rwa [Nat.zero_mul, Nat.zero_add] at this
        refine ⟨some a, cap, rfl, hlc, hcm, fun hne => ?_⟩
        obtain ⟨b, off, spot⟩ := a
        obtain ⟨z, zs, hzz⟩ := List.exists_cons_of_ne_nil hne
        have h00 := hfl 0 z (by rw [hzz]; rfl)
        have hspot : spot = none := by simpa [Addr.add] using World.cell?_spot h00
        subst hspot
        exact ⟨b, off, rfl, fun j u hu => by have := hfl j u hu; rwa [Addr.add_lit] at this⟩
      · intro i x' a' hx' ha'
        rw [List.getElem?_map, Option.map_eq_some_iff] at hx' ha'
        obtain ⟨y, hy, rfl⟩ := hx'
        obtain ⟨y', hy', rfl⟩ := ha'
        rw [hy] at hy'
        injection hy' with hy'
        subst hy'
        exact (hy2 i y hy).1
      · rw [List.length_map, hy1]
        simp only [List.length_map, decide_eq_true_eq] at hw0
        exact Nat.le_trans (Nat.mul_le_mul_right _ (by omega)) hw0
theorem bs_of_slice {ht : P.underlying t = some (.slice e)} {hs : P.cellsOf t = 1} {he : P.underlying e = some (.int .u8)} {hs' : P.cellsOf e = 1} {hk : 0 < (Codec.u8 he hs').k} {w : World} {cs : List Value} {l : List UInt8}
    (h : (Codec.slice ht hs (Codec.u8 he hs') hk).rep w cs l) : ∃ v, cs = [v] ∧ Bs w v l ∧ l.length * P.bytesOf e ≤ reachBytes := by
  obtain ⟨v, css, h1, h2, h3, h4, h5⟩ := h
  refine ⟨v, h1, ?_, h5⟩
  have : css.flatten = l.map ub := by
    clear h3 h5 h1
    induction css generalizing l with
    | nil => cases l with | nil => rfl | cons => simp at h2
    | cons c css ih =>
      cases l with
      | nil => simp at h2
      | cons a l =>
        rw [List.flatten_cons, List.map_cons, ih (by simpa using h2) (fun i x a hx ha => h4 (i + 1) x a (by simpa using hx) (by simpa using ha))]
        have := h4 0 c a rfl rfl
        have : c = [ub a] := this
        rw [this]; rfl
  rw [this] at h3
  exact h3
theorem ints_of_slice {kd : IntKind} {ht : P.underlying t = some (.slice e)} {hs : P.cellsOf t = 1} {he : P.underlying e = some (.int kd)} {hs' : P.cellsOf e = 1} {hk : 0 < (Codec.int kd he hs').k} {w : World} {cs : List Value} {l : List Int}
    (h : (Codec.slice ht hs (Codec.int kd he hs') hk).rep w cs l) : ∃ v, cs = [v] ∧ Rd w v l.length (l.map (Value.int kd)) ∧ l.length * P.bytesOf e ≤ reachBytes ∧ ∀ x ∈ l, (Lit.int kd x).wf = true := by
  obtain ⟨v, css, h1, h2, h3, h4, h5⟩ := h
  refine ⟨v, h1, ?_, h5, fun x hx => ?_⟩
  · have : css.flatten = l.map (Value.int kd) := by
      clear h3 h5 h1
      induction css generalizing l with
      | nil => cases l with | nil => rfl | cons => simp at h2
      | cons c css ih =>
        cases l with
        | nil => simp at h2
        | cons a l =>
          rw [List.flatten_cons, List.map_cons, ih (by simpa using h2) (fun i x a hx ha => h4 (i + 1) x a (by simpa using hx) (by simpa using ha))]
          have : c = [.int kd a] := (h4 0 c a rfl rfl).1
          rw [this]; rfl
    rw [this] at h3
    exact h3
  · obtain ⟨i, hi, rfl⟩ := List.getElem_of_mem hx
    exact (h4 i css[i] l[i] (List.getElem?_eq_getElem (by omega)) (List.getElem?_eq_getElem hi)).2
theorem Codec.opens (c : Codec P t α) {H : Type} {enc : TypeId × Value → H} {w : World} {v : Value} {d : DataW H} {p : List MemPlace} (h : DataW.Trod enc P w 0 (fun _ => true) true t v d p)
    (hw : (d.weights P t).all (fun n => decide (n ≤ reachBytes)) = true) : ∃ a, c.rep w v.cells.toList a := by
  obtain ⟨fuel, hf⟩ := h
  exact c.get hf hw
theorem trod_lt_all {H : Type} {enc : TypeId × Value → H} {w : World} {v : Value} {d : DataW H} {p : List MemPlace} (h : DataW.Trod enc P w 0 (fun _ => true) true t v d p) : ∀ x ∈ p, x.block < w.heap.size := by
  obtain ⟨m, hm⟩ := h
  exact DataW.trod_lt m _ _ _ hm
theorem weights_split {H : Type} {t : TypeId} {ts : List TypeId} {d : DataW H} {ds : List (DataW H)} (h : (DataW.weightsEach P (t :: ts) (d :: ds)).all (fun n => decide (n ≤ reachBytes)) = true) :
    (d.weights P t).all (fun n => decide (n ≤ reachBytes)) = true ∧ (DataW.weightsEach P ts ds).all (fun n => decide (n ≤ reachBytes)) = true := by
  simpa [DataW.weightsEach, List.all_append, Bool.and_eq_true] using h
end
end Go.Proofs.YtghjffgaebnhiaaDoor
end
section
/- The codecs of this seat's argument types. -/
namespace Go.Proofs.YtghjffgaebnhiaaDoor
set_option linter.unusedVariables false
set_option linter.unusedSimpArgs false
abbrev cInt : Codec Tryd.prog 3 Int := Codec.int .i64 Tryd.underlying3 (by kernel_rfl)
abbrev cU64 : Codec Tryd.prog 22 Int := Codec.int .u64 Tryd.underlying22 (by kernel_rfl)
abbrev cBytes : Codec Tryd.prog 23 (List UInt8) := Codec.slice Tryd.underlying23 (by kernel_rfl) (Codec.u8 Tryd.underlying5 (by kernel_rfl)) (by decide)
theorem bytesU8 : Tryd.prog.bytesOf 5 = 1 := by kernel_rfl
set_option maxRecDepth 100000 in
theorem cBytes_bs {w : World} {v : Value} {l : List UInt8} (h : cBytes.rep w [v] l) : Bs w v l ∧ l.length ≤ 140737488351232 := by
  obtain ⟨v', h1, h2, h3⟩ := bs_of_slice h
  rw [bytesU8] at h3
  simp only [List.cons.injEq, and_true] at h1
  subst h1
  exact ⟨h2, by simp only [reachBytes] at h3; omega⟩
/-- element i of a slice of k cells each. -/
theorem rd_elem {P : Program} {t e : TypeId} {α : Type} {ht : P.underlying t = some (.slice e)} {hs : P.cellsOf t = 1} {c : Codec P e α} {hk : 0 < c.k} {w : World} {v : Value} {l : List α}
    (h : (Codec.slice ht hs c hk).rep w [v] l) : ∃ ao cap, v = .slice ao l.length cap ∧ l.length ≤ cap ∧ cap ≤ maxLen ∧ l.length * P.bytesOf e ≤ reachBytes ∧
      (0 < l.length → ∃ b off, ao = some ⟨b, off, none⟩ ∧ ∀ i a, l[i]? = some a → ∃ x, c.rep w x a ∧ ∀ j u, x[j]? = some u → w.cell? ⟨b, off + (i * c.k + j), none⟩ = some u) := by
  obtain ⟨v', css, h1, h2, ⟨ao, cap, hv, h3, h4, h5⟩, h6, h7⟩ := h
  simp only [List.cons.injEq, and_true] at h1
  subst h1
  refine ⟨ao, cap, hv, h3, h4, h7, fun hn => ?_⟩
  have hlen : ∀ x ∈ css, x.length = c.k := fun x hx => by
    obtain ⟨i, hi, rfl⟩ := List.getElem_of_mem hx
    exact c.len (h6 i _ _ (List.getElem?_eq_getElem hi) (List.getElem?_eq_getElem (by omega)))
  have hidx : ∀ (cs : List (List Value)), (∀ x ∈ cs, x.length = c.k) → ∀ i x j u, cs[i]? = some x → x[j]? = some u → cs.flatten[i * c.k + j]? = some u := by
    intro cs
    induction cs with
    | nil => intro _ i x j u hx; simp at hx
    | cons y ys ih =>
      intro hl i x j u hx hu
      have hy := hl y (by simp)
      rw [List.flatten_cons]
      cases i with
      | zero =>
        obtain rfl : y = x := by simpa using hx
        rw [Nat.zero_mul, Nat.zero_add, List.getElem?_append_left (List.getElem?_eq_some_iff.1 hu).1]
        exact hu
      | succ i =>
        rw [List.getElem?_append_right (by rw [hy, Nat.add_mul]; omega), hy, Nat.add_mul, Nat.one_mul, show i * c.k + c.k + j - c.k = i * c.k + j by omega]
        exact ih (fun z hz => hl z (by simp [hz])) i x j u (by simpa using hx) hu
  have hne : css.flatten ≠ [] := by
    intro he
    have h0 : 0 < css.length := by omega
    have hk0 : 0 < css[0].length := by rw [hlen _ (List.getElem_mem _)]; exact hk
    have := hidx css hlen 0 css[0] 0 css[0][0] (List.getElem?_eq_getElem h0) (List.getElem?_eq_getElem hk0)
    rw [he] at this
    simp at this
  obtain ⟨b, off, ha, hc⟩ := h5 hne
  refine ⟨b, off, ha, fun i a hi => ?_⟩
  have hil : i < css.length := by rw [h2]; exact (List.getElem?_eq_some_iff.1 hi).1
  exact ⟨css[i], h6 i _ a (List.getElem?_eq_getElem hil) hi, fun j u hu => hc _ _ (hidx css hlen i _ j u (List.getElem?_eq_getElem hil) hu)⟩
end Go.Proofs.YtghjffgaebnhiaaDoor
end
section
/- The codec of lists of ranges. -/
namespace Go.Proofs.YtghjffgaebnhiaaDoor
set_option linter.unusedVariables false
set_option linter.unusedSimpArgs false
open Go.RowKit
abbrev cRange : Codec Tryd.prog 57 (Int × Int) :=
  (Codec.struct Tryd.underlying57 (FCodec.cons rfl cInt (FCodec.cons rfl cInt (FCodec.nil _ _))) (by kernel_rfl)).map fun x => (x.1, x.2.1)
abbrev cRanges : Codec Tryd.prog 24 (List (Int × Int)) := Codec.slice Tryd.underlying24 (by kernel_rfl) cRange (by decide)
theorem bytesRange : Tryd.prog.bytesOf 57 = 16 := by kernel_rfl
/-- both ends are ints. -/
def In64 (l : List (Int × Int)) : Prop := ∀ g ∈ l, -9223372036854775808 ≤ g.1 ∧ g.1 ≤ 9223372036854775807 ∧ -9223372036854775808 ≤ g.2 ∧ g.2 ≤ 9223372036854775807
theorem wf_int {n : Int} (h : (Lit.int .i64 n).wf = true) : -9223372036854775808 ≤ n ∧ n ≤ 9223372036854775807 := by
  have h1 : IntKind.i64.min = -9223372036854775808 := by decide
  have h2 : IntKind.i64.max = 9223372036854775807 := by decide
  simp only [Lit.wf, Bool.and_eq_true, decide_eq_true_eq, h1, h2] at h
  exact h
theorem cRange_rd {w : World} {cs : List Value} {g : Int × Int} (h : cRange.rep w cs g) : cs = rv g ∧ In64 [g] := by
  obtain ⟨⟨a, b, u⟩, rfl, c1, c2, rfl, ⟨rfl, ha⟩, c3, c4, rfl, ⟨rfl, hb⟩, h4⟩ := h
  obtain rfl : c4 = [] := h4
  have ha' := wf_int ha
  have hb' := wf_int hb
  simp only at ha' hb'
  exact ⟨rfl, fun g hg => by simp at hg; subst hg; simp only; omega⟩
set_option maxRecDepth 100000 in
theorem cRanges_rd {w : World} {v : Value} {l : List (Int × Int)} (h : cRanges.rep w [v] l) : Rgs w v l ∧ l.length * 16 ≤ 140737488351232 ∧ In64 l := by
  obtain ⟨ao, cap, rfl, h1, h2, h3, h4⟩ := rd_elem h
  rw [bytesRange] at h3
  simp only [reachBytes] at h3
  have hl : l.length * 16 ≤ 140737488351232 := by omega
  by_cases hn : 0 < l.length
  · obtain ⟨b, off, rfl, h5⟩ := h4 hn
    have key : ∀ i x, l[i]? = some x → In64 [x] ∧ ∀ j u, (rv x)[j]? = some u → w.cell? ⟨b, off + (i * 2 + j), none⟩ = some u := fun i x hx => by
      obtain ⟨cs, hc, hcell⟩ := h5 i x hx
      obtain ⟨rfl, h64⟩ := cRange_rd hc
      exact ⟨h64, fun j u hu => hcell j u hu⟩
    refine ⟨⟨_, cap, rfl, h1, h2, fun _ => ⟨b, off, rfl, fun j u hu => ?_⟩⟩, hl, fun g hg => ?_⟩
    · have hj : j < l.length * 2 := by
        have := (List.getElem?_eq_some_iff.1 hu).1
        rwa [rvs_len] at this
      have hi : j / 2 < l.length := by omega
      obtain ⟨e0, e1⟩ := rvs_at l (j / 2) _ (List.getElem?_eq_getElem hi)
      obtain ⟨_, hc⟩ := key (j / 2) _ (List.getElem?_eq_getElem hi)
      rcases Nat.mod_two_eq_zero_or_one j with hm | hm
      · have hj2 : j / 2 * 2 = j := by omega
        rw [hj2] at e0
        rw [e0] at hu
        have := hc 0 u hu
        rwa [Nat.add_zero, hj2] at this
      · have hj2 : j / 2 * 2 + 1 = j := by omega
        rw [hj2] at e1
        rw [e1] at hu
        have := hc 1 u hu
        rwa [hj2] at this
    · obtain ⟨i, hi, rfl⟩ := List.mem_iff_getElem.1 hg
      exact (key i _ (List.getElem?_eq_getElem hi)).1 _ (by simp)
  · obtain rfl : l = [] := List.length_eq_zero_iff.1 (by omega)
    exact ⟨Rd.empty h2, hl, fun g hg => by simp at hg⟩
end Go.Proofs.YtghjffgaebnhiaaDoor
end
