/- Words on worlds, blocks and slices for the walks of this seat; nothing of the program in it. -/
import Derived.WalkKit
import Derived.WalkSpells
import Derived.WalkLawsBesides
import Derived.Laws.CopyOwn
import Derived.Deep.AppendLies
import Derived.Deep.Draws
import Derived.Maps.AppendAt
import Derived.Lib.Hide
import Derived.KernelRfl
namespace Go.Proofs.YtghjffgaebnhiaaDoor
set_option linter.unusedVariables false
set_option linter.unusedSimpArgs false
open Go.RowKit

theorem ret_congr {v v' : Value} (h : v = v') : Ending.returned v = Ending.returned v' := by rw [h]

/-! ### Worlds that part from one another at the blocks S alone, and by new blocks -/
structure Same (S : Nat → Prop) (w w' : World) : Prop where
  os : w'.os = w.os
  tape : w'.tape = w.tape
  output : w'.output = w.output
  size : w.heap.size ≤ w'.heap.size
  block : ∀ k, k < w.heap.size → ¬ S k → w'.heap[k]? = w.heap[k]?
def no : Nat → Prop := fun _ => False
def at1 (b : Nat) : Nat → Prop := fun k => k = b
section
variable {S T : Nat → Prop} {a w w' w'' : World}
theorem Same.refl (S : Nat → Prop) (w : World) : Same S w w := ⟨rfl, rfl, rfl, Nat.le_refl _, fun _ _ _ => rfl⟩
theorem Same.trans (h : Same S a w) (k : Same T w w') (hs : ∀ i, i < a.heap.size → T i → S i) : Same S a w' :=
  ⟨k.os.trans h.os, k.tape.trans h.tape, k.output.trans h.output, Nat.le_trans h.size k.size,
    fun i hi hn => (k.block i (Nat.lt_of_lt_of_le hi h.size) (fun ht => hn (hs i hi ht))).trans (h.block i hi hn)⟩
theorem Same.mono (h : Same S a w) (hs : ∀ i, i < a.heap.size → S i → T i) : Same T a w :=
  ⟨h.os, h.tape, h.output, h.size, fun i hi hn => h.block i hi (fun h' => hn (hs i hi h'))⟩
theorem Same.of_below (h : Below w.heap.size w w') (S : Nat → Prop) : Same S w w' := ⟨h.os, h.tape, h.output, h.size, fun i hi _ => h.block i hi⟩
theorem Same.below (h : Same no w w') : Below w.heap.size w w' := ⟨h.os, h.tape, h.output, h.size, fun i hi => h.block i hi (fun h => h)⟩
theorem Same.belowB {B : Nat} (h : Same S w w') (hB : ∀ i, i < B → i < w.heap.size ∧ ¬ S i) : Below B w w' := ⟨h.os, h.tape, h.output, h.size, fun i hi => h.block i (hB i hi).1 (hB i hi).2⟩
theorem Same.of_belowB {B : Nat} (h : Below B w w') : Same (fun k => B ≤ k) w w' := ⟨h.os, h.tape, h.output, h.size, fun i _ hn => h.block i (by omega)⟩
theorem Same.of_grown {row : Option Nat} (h : w.grownBy w' row) : Same (fun k => some k = row) w w' := ⟨h.os, h.tape, h.output, h.size, fun i hi hn => h.block i hi hn⟩
theorem Same.drew (h : Same S a w) : Same S a w.drew := ⟨h.os, h.tape, h.output, h.size, h.block⟩
theorem Same.drewN (h : Same S a w) (n : Nat) : Same S a (w.drewN n) := ⟨h.os, h.tape, h.output, h.size, h.block⟩
theorem Same.alloc (h : Same S a w) (o : Obj) : Same S a (w.alloc o) :=
  ⟨h.os, h.tape, h.output, Nat.le_trans h.size (by simp), fun i hi hn => (Below.heap_alloc w o i (Nat.lt_of_lt_of_le hi h.size)).trans (h.block i hi hn)⟩
theorem Same.setCell (h : Same S a w) {p : Addr} (hp : p.block < a.heap.size → S p.block) (u : Value) : Same S a (w.setCell p u) :=
  ⟨h.os, h.tape, h.output, by simpa [World.setCell] using h.size, fun i hi hn => (Below.heap_setCell w p u i (fun e => hn (by rw [e]; exact hp (e ▸ hi)))).trans (h.block i hi hn)⟩
theorem Same.setRow (h : Same S a w) {g : Nat} (hp : g < a.heap.size → S g) (cs : Array Value) : Same S a (w.setRow g cs) :=
  ⟨h.os, h.tape, h.output, by simpa [World.setRow] using h.size, fun i hi hn => (setRow_other w g i cs (fun e => hn (by rw [e]; exact hp (e ▸ hi)))).trans (h.block i hi hn)⟩
theorem Same.grown (h : Same S a w) {row : Option Nat} (hg : w.grownBy w' row) (hr : ∀ k, row = some k → k < a.heap.size → S k) : Same S a w' :=
  h.trans (Same.of_grown hg) (fun i hi hs => hr i hs.symm hi)
theorem Same.cell (h : Same S w w') {p : Addr} (hp : p.block < w.heap.size) (hn : ¬ S p.block) : w'.cell? p = w.cell? p := World.cell?_of_block (w := w) (h.block p.block hp hn)
theorem Same.cell_some (h : Same S w w') {p : Addr} {v : Value} (hc : w.cell? p = some v) (hn : ¬ S p.block) : w'.cell? p = some v := (h.cell (World.block_lt_of_cell? _ _ hc) hn).trans hc
theorem Same.frozen (h : Same S w w') {p : Addr} (hp : p.block < w.heap.size) (hn : ¬ S p.block) : w'.frozen? p = w.frozen? p := World.frozen?_of_block (w := w) (h.block p.block hp hn)
theorem grown_pre {row : Option Nat} (hb : Below w.heap.size w w') (hg : w'.grownBy w'' row) : w.grownBy w'' row :=
  ⟨hg.os.trans hb.os, hg.tape.trans hb.tape, hg.output.trans hb.output, Nat.le_trans hb.size hg.size, fun k hk hn => (hg.block k (Nat.lt_of_lt_of_le hk hb.size) hn).trans (hb.block k hk)⟩
theorem below_trans (h : Below w.heap.size w w') (h' : Below w'.heap.size w' w'') : Below w.heap.size w w'' := h.trans (h'.mono h.size)
theorem below_cell {B : Nat} (h : Below B w w') {p : Addr} {v : Value} (hc : w.cell? p = some v) (hp : p.block < B) : w'.cell? p = some v := (h.cell hp).trans hc
end

/-! ### A block that is known whole -/
def Blk (w : World) (g : Nat) (t : TypeId) (cs : List Value) : Prop := w.heap[g]? = some (.cells cs.toArray t (0, 0))
section
variable {S : Nat → Prop} {w w' : World} {g : Nat} {t : TypeId} {cs : List Value}
theorem Blk.lt (h : Blk w g t cs) : g < w.heap.size := (Array.getElem?_eq_some_iff.1 h).1
theorem Blk.cell (h : Blk w g t cs) (i : Nat) : w.cell? ⟨g, i, none⟩ = cs[i]? := by
  have := cell_of_row w g i cs.toArray t (0, 0) h
  simpa using this
theorem Blk.cell_some (h : Blk w g t cs) {i : Nat} {v : Value} (hv : cs[i]? = some v) : w.cell? ⟨g, i, none⟩ = some v := (h.cell i).trans hv
theorem Blk.frozen (h : Blk w g t cs) (i : Nat) : w.frozen? ⟨g, i, none⟩ = false := by
  unfold Blk at h
  simp [World.frozen?, h]
theorem Blk.new (w : World) (t : TypeId) (cs : List Value) : Blk (w.alloc (.cells cs.toArray t)) w.heap.size t cs := heap_alloc_new w _
theorem Blk.drew (h : Blk w g t cs) : Blk w.drew g t cs := h
theorem Blk.drewN (h : Blk w g t cs) (n : Nat) : Blk (w.drewN n) g t cs := h
theorem Blk.alloc (h : Blk w g t cs) (o : Obj) : Blk (w.alloc o) g t cs := (Below.heap_alloc w o g h.lt).trans h
theorem Blk.set (h : Blk w g t cs) (i : Nat) (u : Value) : Blk (w.setCell ⟨g, i, none⟩ u) g t (cs.set i u) := by
  unfold Blk at h ⊢
  simp [World.setCell, Array.getElem?_modify, h]
theorem Blk.far (h : Blk w g t cs) {p : Addr} (hp : g ≠ p.block) (u : Value) : Blk (w.setCell p u) g t cs := (Below.heap_setCell w p u g hp).trans h
theorem Blk.same (h : Blk w g t cs) (hb : Same S w w') (hg : ¬ S g) : Blk w' g t cs := (hb.block g h.lt hg).trans h
theorem Blk.below {B : Nat} (h : Blk w g t cs) (hb : Below B w w') (hg : g < B) : Blk w' g t cs := (hb.block g hg).trans h
theorem Blk.later (h : Blk w g t cs) (hb : Below w.heap.size w w') : Blk w' g t cs := h.below hb h.lt
theorem Blk.grown {row : Option Nat} (h : Blk w g t cs) (hb : w.grownBy w' row) (hg : row ≠ some g) : Blk w' g t cs := (hb.block g h.lt (Ne.symm hg)).trans h
theorem Blk.setRow (h : Blk w g t cs) (ds : List Value) : Blk (w.setRow g ds.toArray) g t ds := setRow_heap w g cs.toArray ds.toArray t _ h
theorem Blk.ne {g' : Nat} {t' : TypeId} {cs' : List Value} (h : Blk w g t cs) (h' : Blk w g' t' cs') (hne : t ≠ t') : g ≠ g' := by
  rintro rfl
  unfold Blk at h h'
  rw [h] at h'
  injection h' with h'
  injection h' with _ ht
  exact hne ht
end

/-! ### A slice that reads as cells -/
def Rd (w : World) (v : Value) (n : Nat) (cs : List Value) : Prop :=
  ∃ ao cap, v = .slice ao n cap ∧ n ≤ cap ∧ cap ≤ maxLen ∧ (cs ≠ [] → ∃ b off, ao = some ⟨b, off, none⟩ ∧ ∀ j u, cs[j]? = some u → w.cell? ⟨b, off + j, none⟩ = some u)
section
variable {S : Nat → Prop} {w w' : World} {v : Value} {n : Nat} {cs : List Value}
theorem Rd.nil (w : World) : Rd w (.slice none 0 0) 0 [] := ⟨none, 0, rfl, Nat.le_refl _, by simp [maxLen], fun h => absurd rfl h⟩
theorem Rd.mk {b off cap : Nat} (hn : n ≤ cap) (hm : cap ≤ maxLen) (h : ∀ j u, cs[j]? = some u → w.cell? ⟨b, off + j, none⟩ = some u) : Rd w (.slice (some ⟨b, off, none⟩) n cap) n cs :=
  ⟨_, cap, rfl, hn, hm, fun _ => ⟨b, off, rfl, h⟩⟩
theorem Rd.empty {ao : Option Addr} {cap : Nat} (hm : cap ≤ maxLen) : Rd w (.slice ao 0 cap) 0 [] := ⟨_, cap, rfl, Nat.zero_le _, hm, fun h => absurd rfl h⟩
theorem Rd.carry (h : Rd w v n cs) (hk : ∀ p u, w.cell? p = some u → v.ownBlock = some p.block → w'.cell? p = some u) : Rd w' v n cs := by
  obtain ⟨ao, cap, rfl, h1, h2, h3⟩ := h
  refine ⟨ao, cap, rfl, h1, h2, fun hc => ?_⟩
  obtain ⟨b, off, rfl, h4⟩ := h3 hc
  exact ⟨b, off, rfl, fun j u hu => hk _ _ (h4 j u hu) rfl⟩
theorem Rd.same (h : Rd w v n cs) (hb : Same S w w') (hS : ∀ b, v.ownBlock = some b → ¬ S b) : Rd w' v n cs :=
  h.carry fun p u hc hv => hb.cell_some hc (hS _ hv)
theorem Rd.later (h : Rd w v n cs) (hb : Below w.heap.size w w') : Rd w' v n cs := h.carry fun _ _ hc _ => below_cell hb hc (World.block_lt_of_cell? _ _ hc)
theorem Rd.below {B : Nat} (h : Rd w v n cs) (hb : Below B w w') (hB : ∀ b, v.ownBlock = some b → b < B) : Rd w' v n cs := h.carry fun _ _ hc hv => below_cell hb hc (hB _ hv)
theorem Rd.drew (h : Rd w v n cs) : Rd w.drew v n cs := h
theorem Rd.drewN (h : Rd w v n cs) (k : Nat) : Rd (w.drewN k) v n cs := h
theorem Rd.alloc (h : Rd w v n cs) (o : Obj) : Rd (w.alloc o) v n cs := h.later ((Below.refl _ _).alloc (Nat.le_refl _) o)
theorem Rd.setCell (h : Rd w v n cs) {p : Addr} (hp : v.ownBlock ≠ some p.block) (u : Value) : Rd (w.setCell p u) v n cs :=
  h.carry fun q x hc hv => (World.cell?_setCell_other w p q u (fun e => hp (by rw [hv, e]))).trans hc
theorem Rd.grown (h : Rd w v n cs) {row : Option Nat} (hg : w.grownBy w' row) (hr : v.ownBlock = none ∨ v.ownBlock ≠ row) : Rd w' v n cs :=
  h.same (Same.of_grown hg) (fun b hb he => by rcases hr with hr | hr; (rw [hb] at hr; cases hr); exact hr (hb.trans he))
theorem Rd.of_blk {g : Nat} {t : TypeId} {cap : Nat} (h : Blk w g t cs) (hn : n ≤ cap) (hm : cap ≤ maxLen) : Rd w (.slice (some ⟨g, 0, none⟩) n cap) n cs :=
  Rd.mk hn hm fun j u hu => by rw [Nat.zero_add]; exact h.cell_some hu
theorem Rd.new (w : World) (t : TypeId) (cs : List Value) (n : Nat) (hm : n ≤ maxLen) : Rd (w.alloc (.cells cs.toArray t)) (.slice (some ⟨w.heap.size, 0, none⟩) n n) n cs :=
  Rd.of_blk (Blk.new w t cs) (Nat.le_refl _) hm
theorem Rd.of_own {base : Nat} {e : TypeId} {size : Nat} (h : w.ownsRow base e size v n cs) : Rd w v n cs := by
  obtain ⟨hl, ⟨rfl, rfl⟩ | ⟨g, cap, cur, rfl, hb, hh, h1, h2, h3, h4⟩⟩ := h
  · have : cs = [] := List.eq_nil_of_length_eq_zero (by simpa using hl)
    subst this
    exact Rd.nil w
  · refine Rd.mk h1 h2 fun j u hu => ?_
    rw [Nat.zero_add]
    have hj : j < n * size := by rw [← hl]; exact (List.getElem?_eq_some_iff.1 hu).1
    have hB : Blk w g e cur.toList := by unfold Blk; simpa using hh
    refine hB.cell_some ?_
    rw [← h4, List.getElem?_take_of_lt hj] at hu
    exact hu
theorem Rd.form (h : Rd w v n cs) (hc : cs ≠ []) : ∃ b off cap, v = .slice (some ⟨b, off, none⟩) n cap ∧ n ≤ cap ∧ cap ≤ maxLen ∧ b < w.heap.size ∧ ∀ j u, cs[j]? = some u → w.cell? ⟨b, off + j, none⟩ = some u := by
  obtain ⟨ao, cap, rfl, h1, h2, h3⟩ := h
  obtain ⟨b, off, rfl, h4⟩ := h3 hc
  refine ⟨b, off, cap, rfl, h1, h2, ?_, h4⟩
  obtain ⟨x, l, rfl⟩ := List.exists_cons_of_ne_nil hc
  exact World.block_lt_of_cell? _ _ (h4 0 x rfl)
theorem Rd.cut {b off : Nat} (hc : ∀ j u, cs[j]? = some u → w.cell? ⟨b, off + j, none⟩ = some u) (s n c : Nat) (hn : n ≤ c) (hm : c ≤ maxLen) :
    Rd w (.slice (some ⟨b, off + s, none⟩) n c) n ((cs.drop s).take n) := by
  refine Rd.mk hn hm fun j u hu => ?_
  rw [List.getElem?_take] at hu
  split at hu
  · rw [List.getElem?_drop] at hu
    rw [Nat.add_assoc]
    exact hc _ u hu
  · cases hu
theorem own_mono {base base' : Nat} {e : TypeId} {size : Nat} (h : w.ownsRow base e size v n cs) (hb : base' ≤ base) : w.ownsRow base' e size v n cs := by
  obtain ⟨hl, h | ⟨g, cap, cur, h1, h2, h3⟩⟩ := h
  · exact ⟨hl, .inl h⟩
  · exact ⟨hl, .inr ⟨g, cap, cur, h1, Nat.le_trans hb h2, h3⟩⟩
theorem own_same {base : Nat} {e : TypeId} {size : Nat} (h : w.ownsRow base e size v n cs) (hb : Same S w w') (hS : ∀ b, v.ownBlock = some b → ¬ S b) : w'.ownsRow base e size v n cs := by
  obtain ⟨hl, h | ⟨g, cap, cur, rfl, h2, h3, h4⟩⟩ := h
  · exact ⟨hl, .inl h⟩
  · exact ⟨hl, .inr ⟨g, cap, cur, rfl, h2, (hb.block g (Array.getElem?_eq_some_iff.1 h3).1 (hS g rfl)).trans h3, h4⟩⟩
theorem own_later {base : Nat} {e : TypeId} {size : Nat} (h : w.ownsRow base e size v n cs) (hb : Below w.heap.size w w') : w'.ownsRow base e size v n cs :=
  own_same h (Same.of_below hb no) (fun _ _ h => h)
theorem own_grow0 {base : Nat} {e : TypeId} {size : Nat} (h : w.ownsRow base e size v n cs) (hg : w.grownBy w' none) : w'.ownsRow base e size v n cs :=
  own_same h (Same.of_grown hg) (fun _ _ h => by cases h)
theorem own_ne {base base' : Nat} {e e' : TypeId} {size size' : Nat} {v' : Value} {n' : Nat} {cs' : List Value} (h : w.ownsRow base e size v n cs) (h' : w.ownsRow base' e' size' v' n' cs') (hne : e ≠ e') :
    v.ownBlock = none ∨ v.ownBlock ≠ v'.ownBlock := by
  obtain ⟨_, ⟨rfl, _⟩ | ⟨g, cap, cur, rfl, _, h3, _⟩⟩ := h
  · exact .inl rfl
  · refine .inr fun he => ?_
    obtain ⟨_, ⟨rfl, _⟩ | ⟨g', cap', cur', rfl, _, h3', _⟩⟩ := h'
    · cases he
    · have : g = g' := by simpa [Value.ownBlock] using he
      subst this
      rw [h3] at h3'
      injection h3' with h3'
      injection h3' with _ ht
      exact hne ht
theorem own_blk_ne {base : Nat} {e : TypeId} {size : Nat} (h : w.ownsRow base e size v n cs) {g : Nat} {t : TypeId} {ds : List Value} (hg : Blk w g t ds) (hne : e ≠ t) : v.ownBlock ≠ some g := by
  obtain ⟨_, ⟨rfl, _⟩ | ⟨g', cap, cur, rfl, _, h3, _⟩⟩ := h
  · intro he; cases he
  · intro he
    have : g' = g := by simpa [Value.ownBlock] using he
    subst this
    unfold Blk at hg
    rw [h3] at hg
    injection hg with hg
    injection hg with _ ht
    exact hne ht
/-- what is owned, as a block: value, capacity, and all the block's cells. -/
theorem own_blk {base : Nat} {e : TypeId} {size : Nat} (h : w.ownsRow base e size v n cs) (hn : 0 < n) :
    ∃ g cap rest, v = .slice (some ⟨g, 0, none⟩) n cap ∧ base ≤ g ∧ n ≤ cap ∧ cap ≤ maxLen ∧ Blk w g e (cs ++ rest) ∧ cs.length + rest.length = cap * size := by
  obtain ⟨hl, ⟨rfl, rfl⟩ | ⟨g, cap, cur, rfl, h2, h3, h4, h5, h6, h7⟩⟩ := h
  · omega
  · refine ⟨g, cap, cur.toList.drop (n * size), rfl, h2, h4, h5, ?_, ?_⟩
    · unfold Blk
      rw [← h7, List.take_append_drop]
      simpa using h3
    · have := Nat.mul_le_mul_right size h4
      rw [hl, List.length_drop, Array.length_toList, h6]
      omega
theorem own_of_blk {base g : Nat} {e : TypeId} {size cap : Nat} {rest : List Value} (h : Blk w g e (cs ++ rest)) (hb : base ≤ g) (hl : cs.length = n * size) (hn : n ≤ cap) (hm : cap ≤ maxLen) (hr : cs.length + rest.length = cap * size) :
    w.ownsRow base e size (.slice (some ⟨g, 0, none⟩) n cap) n cs :=
  ⟨hl, .inr ⟨g, cap, _, rfl, hb, h, hn, hm, by simpa using hr, by simp [← hl]⟩⟩
end

/-! ### Element types, append -/
/-- v' lies where v lay, or in a block that w did not have. -/
def Newer (w : World) (v v' : Value) : Prop := v'.ownBlock = v.ownBlock ∨ ∃ k, v'.ownBlock = some k ∧ w.heap.size ≤ k
structure El (P : Program) (t e : TypeId) (z : Value) (size bytes : Nat) : Prop where
  und : P.underlying t = some (.slice e)
  inf : (P.info? e).map (fun i => (i.zero, i.size, i.bytes)) = some (some z, size, bytes)
  zs : z.cells.size = size
  pos : 0 < size
  bpos : 0 < bytes
theorem Newer.pre {w w' : World} {v v' : Value} (h : Newer w' v v') (hb : w.heap.size ≤ w'.heap.size) : Newer w v v' := h.imp id fun ⟨k, h, hk⟩ => ⟨k, h, Nat.le_trans hb hk⟩
section
variable {P : Program} {t e : TypeId} {z : Value} {size bytes : Nat} {w : World}
theorem own_lt_maxLen {n m : Nat} (hb : 0 < bytes) (h : (n + m) * bytes ≤ 140737488355328) : n + m ≤ maxLen := by
  have := Nat.le_mul_of_pos_right (n + m) hb
  simp only [maxLen]; omega
theorem run_app (E : El P t e z size bytes) (ty : TypeId) {base : Nat} {v : Value} {n : Nat} {xs : List Value} (hown : w.ownsRow base e size v n xs)
    {u : Value} {m : Nat} {news : List Value} (hr : Rd w u m news) (hl : news.length = m * size) (h1 : ∀ x ∈ news, x.oneCell' = true)
    (hb : (n + m) * bytes ≤ 140737488355328) (hbase : base ≤ w.heap.size) :
    ∃ v' w', (Builtin.append_ #[t, t] ty #[v, u]).run P w = .ok v' w' ∧ w'.ownsRow base e size v' (n + m) (xs ++ news) ∧ w.grownBy w' v.ownBlock ∧ (v'.ownBlock = v.ownBlock ∨ v'.ownBlock = some w.heap.size) := by
  obtain ⟨i, hi, hz, hs, hby⟩ := info_parts E.inf
  obtain ⟨ao, cap, rfl, g1, g2, g3⟩ := hr
  by_cases hne : news = []
  · subst hne
    have hm : m = 0 := by
      rcases Nat.eq_zero_or_pos m with h | h
      · exact h
      · have := Nat.mul_pos h E.pos; simp at hl; omega
    subst hm
    cases ao with
    | none =>
      refine ⟨v, w, ?_, by simpa using hown, World.grownBy.refl w _, .inl rfl⟩
      rcases hown.2 with ⟨rfl, rfl⟩ | ⟨g, cap', cur, rfl, _, _, hnc, _⟩
      · simp [Builtin.append_, run_underlying E.und, sizeOf, typeInfo, hi, Builtin.lenOf, Builtin.firstCells]
      · simp [Builtin.append_, run_underlying E.und, sizeOf, typeInfo, hi, Builtin.lenOf, Builtin.firstCells, hnc, storeCells]
    | some a =>
      obtain ⟨v', w', hrun, h2, h3, _, h5⟩ := run_append_own_at (P := P) w base t ty e i z size bytes E.und hi hz hs hby E.zs E.pos v n xs hown a 0 cap [] (by simp) (by simp) (by simp) (own_lt_maxLen E.bpos hb) hb hbase
      exact ⟨v', w', hrun, h2, h3, h5⟩
  · obtain ⟨b, off, rfl, hc⟩ := g3 hne
    obtain ⟨v', w', hrun, h2, h3, _, h5⟩ := run_append_own_at (P := P) w base t ty e i z size bytes E.und hi hz hs hby E.zs E.pos v n xs hown ⟨b, off, none⟩ m cap news hl
      (fun j u hu => by rw [Addr.add_lit]; exact hc j u hu) h1 (own_lt_maxLen E.bpos hb) hb hbase
    exact ⟨v', w', hrun, h2, h3, h5⟩
theorem wp_app (E : El P t e z size bytes) {o : Oper} {a : Act} {K : Act → World → Prop} {Q : Exit → Act → World → Prop} (s x : Operand)
    (ho : o.op = .call { callee := .builtin .append, args := #[s, x], argTypes := #[t, t] }) {base : Nat} {v : Value} {n : Nat} {xs : List Value} (hown : w.ownsRow base e size v n xs) (hs : a.eval s = v)
    {u : Value} {m : Nat} {news : List Value} (hr : Rd w u m news) (hx : a.eval x = u) (hl : news.length = m * size) (h1 : ∀ x ∈ news, x.oneCell' = true)
    (hb : (n + m) * bytes ≤ 140737488355328) (hbase : base ≤ w.heap.size)
    (h : ∀ v' w', w'.ownsRow base e size v' (n + m) (xs ++ news) → w.grownBy w' v.ownBlock → Newer w v v' → K (a.put o.dst v') w') : o.wp P a w K Q := by
  obtain ⟨v', w', hrun, h2, h3, h4⟩ := run_app (P := P) E o.type hown hr hl h1 hb hbase
  unfold Oper.wp execOp
  simp only [ho, resolve, invoke, builtin, Sem.run_bind, Sem.run_pure, Result.andThen_ok, List.map_toArray, List.map_cons, List.map_nil, hs, hx, hrun]
  exact h v' w' h2 h3 (h4.imp id fun h => ⟨_, h, Nat.le_refl _⟩)
/-- append of whatever reads as cells. -/
theorem wpList_app (E : El P t e z size bytes) {ops : Array Oper} {rest : List Oper} {o : Oper} {a : Act} {Q : Exit → Act → World → Prop} (hgd : o.guard = none) (s x : Operand)
    (ho : o.op = .call { callee := .builtin .append, args := #[s, x], argTypes := #[t, t] }) {base : Nat} {v : Value} {n : Nat} {xs : List Value} (hown : w.ownsRow base e size v n xs) (hs : a.eval s = v)
    {u : Value} {m : Nat} {news : List Value} (hr : Rd w u m news) (hx : a.eval x = u) (hl : news.length = m * size) (h1 : ∀ x ∈ news, x.oneCell' = true)
    (hb : (n + m) * bytes ≤ 140737488355328) (hbase : base ≤ w.heap.size)
    (h : ∀ v' w', w'.ownsRow base e size v' (n + m) (xs ++ news) → w.grownBy w' v.ownBlock → Newer w v v' → wpList P ops Q rest (a.put o.dst v') w') : wpList P ops Q (o :: rest) a w :=
  wpList_plain hgd fun _ hK => wp_app E s x ho hown hs hr hx hl h1 hb hbase fun v' w' h2 h3 h4 => hK _ _ (h v' w' h2 h3 h4)
/-- append of whatever reads as cells, as one step of a region that draws its order. -/
theorem step_app (E : El P t e z size bytes) {ops : Array Oper} {o : Oper} {a : Act} {K : Act → World → Prop} {Q : Exit → Act → World → Prop} {F : Prop} (hgd : o.guard = none) (s x : Operand)
    (ho : o.op = .call { callee := .builtin .append, args := #[s, x], argTypes := #[t, t] }) {base : Nat} {v : Value} {n : Nat} {xs : List Value} (hown : w.ownsRow base e size v n xs) (hs : a.eval s = v)
    {u : Value} {m : Nat} {news : List Value} (hr : Rd w u m news) (hx : a.eval x = u) (hl : news.length = m * size) (h1 : ∀ x ∈ news, x.oneCell' = true)
    (hb : (n + m) * bytes ≤ 140737488355328) (hbase : base ≤ w.heap.size)
    (h : ∀ v' w', w'.ownsRow base e size v' (n + m) (xs ++ news) → w.grownBy w' v.ownBlock → Newer w v v' → K (a.put o.dst v') w') :
    if Region.wanted o (yielded ops a.tmps) = true then Oper.wp P o a w K Q else F := by
  have hw : Region.wanted o (yielded ops a.tmps) = true := by simp [Region.wanted, hgd]
  rw [if_pos hw]
  exact wp_app E s x ho hown hs hr hx hl h1 hb hbase h
/-- append of one element, which the walk has just laid into a block of its own. -/
theorem wpList_app1 (E : El P t e z size bytes) {ops : Array Oper} {rest : List Oper} {o : Oper} {a : Act} {Q : Exit → Act → World → Prop} (hgd : o.guard = none) (s x : Operand)
    (ho : o.op = .call { callee := .builtin .append, args := #[s, x], argTypes := #[t, t] }) {base : Nat} {v : Value} {n : Nat} {xs : List Value} (hown : w.ownsRow base e size v n xs) (hs : a.eval s = v)
    {cs : Array Value} (hx : a.eval x = .slice (some ⟨w.heap.size, 0, none⟩) 1 1) (hl : cs.size = size) (h1 : ∀ x ∈ cs.toList, x.oneCell' = true)
    (hb : (n + 1) * bytes ≤ 140737488355328) (hbase : base ≤ w.heap.size)
    (h : ∀ v' w', w'.ownsRow base e size v' (n + 1) (xs ++ cs.toList) → w.grownBy w' v.ownBlock → Newer w v v' → wpList P ops Q rest (a.put o.dst v') w') : wpList P ops Q (o :: rest) a (w.alloc (.cells cs e)) := by
  have hr := Rd.new w e cs.toList 1 (by simp [maxLen])
  rw [Array.toArray_toList] at hr
  refine wpList_app E hgd s x ho (hown.alloc _) hs hr hx (by simp [hl]) h1 hb (by simp; omega) fun v' w' h2 h3 h4 => h v' w' h2 ⟨h3.os, h3.tape, h3.output, Nat.le_trans (by simp) h3.size, fun k hk hne => ?_⟩ ?_
  · exact (h3.block k (by simp; omega) hne).trans (Below.heap_alloc w _ k hk)
  · exact h4.imp id fun ⟨k, h, hk⟩ => ⟨k, h, by simp at hk; omega⟩
/-- make([]T, n), an element of one cell. -/
theorem wpList_mk1 {P : Program} {t e : TypeId} {z : Value} {bytes : Nat} {w : World} (E : El P t e z 1 bytes) (hz1 : z.cells = #[z]) {ops : Array Oper} {rest : List Oper} {o : Oper} {a : Act} {Q : Exit → Act → World → Prop} (hg : o.guard = none) (l c : Operand)
    (hop : o.op = .makeSlice t l c) {kl kc : IntKind} {L C : Int} (n : Nat) (hl : a.eval l = .int kl L) (hc : a.eval c = .int kc C) (hL : L = (n : Int)) (hC : C = (n : Int)) (hb : bytes * n ≤ 281474976710656) (h63 : n ≤ maxLen)
    (hK : wpList P ops Q rest (a.put o.dst (.slice (some ⟨w.heap.size, 0, none⟩) n n)) (w.alloc (.cells (Array.replicate n z) e))) : wpList P ops Q (o :: rest) a w := by
  refine wpList_plain hg fun K hK' => ?_
  obtain ⟨i, hi, hz, hs, hby⟩ := info_parts E.inf
  have hm : n ≤ 9223372036854775807 := by simp only [maxLen] at h63; omega
  have hbi : (i.bytes : Int) * (n : Int) ≤ 281474976710656 := by
    have h : ((i.bytes * n : Nat) : Int) ≤ 281474976710656 := by rw [hby]; omega
    rwa [Int.natCast_mul] at h
  have hrun := run_make (P := P) w t e i z E.und hi hz kl kc n n (by omega) (by omega) hbi (by omega)
  simp only [Int.toNat_natCast, hs, Nat.mul_one] at hrun
  have hcell : madeCells z.cells n = Array.replicate n z := by
    rw [hz1]
    apply Array.ext'
    rw [toList_madeCells_one]
    simp
  rw [hcell] at hrun
  subst hL
  subst hC
  unfold Oper.wp
  simp [execOp, hop, hl, hc, hrun, Result.andThen]
  exact hK' _ _ hK
theorem Blk.rep (w : World) (t : TypeId) (n : Nat) (z : Value) : Blk (w.alloc (.cells (Array.replicate n z) t)) w.heap.size t (List.replicate n z) := by
  have := Blk.new w t (List.replicate n z)
  rwa [List.toArray_replicate] at this
end

/-! ### Bytes -/
def ub (b : UInt8) : Value := .int .u8 b.toNat
def Bs (w : World) (v : Value) (l : List UInt8) : Prop := Rd w v l.length (l.map ub)
theorem ub_one (l : List UInt8) : ∀ x ∈ l.map ub, x.oneCell' = true := by
  intro x hx
  obtain ⟨b, _, rfl⟩ := List.mem_map.1 hx
  rfl

/-! ### Bytes to strings -/
def str (l : List UInt8) : ByteArray := ⟨l.toArray⟩
theorem str_inj {a b : List UInt8} (h : str a = str b) : a = b := by
  unfold str at h
  injection h with h
  exact List.toArray_inj h
theorem str_size (l : List UInt8) : (str l).size = l.length := by simp [str, ByteArray.size]
theorem str_toList (l : List UInt8) : (str l).toList = l := by rw [ByteArray.toList_eq]; rfl
theorem str_beq (a b : List UInt8) : ((str a).toList == (str b).toList) = (a == b) := by rw [str_toList, str_toList]
theorem str_beq_no {a b : List UInt8} (h : a ≠ b) : ((str a).toList == (str b).toList) = false := by rw [str_beq]; simpa using h
theorem str_beq_yes {a b : List UInt8} (h : a = b) : ((str a).toList == (str b).toList) = true := by rw [str_beq]; simpa using h
theorem str_some {a : List UInt8} (h : a ≠ []) : (str a).toList.isEmpty = false := by rw [str_toList]; simpa using h
theorem str_none : (str []).toList.isEmpty = true := by rw [str_toList]; rfl
theorem run_str {P : Program} {src dst e : TypeId} (hs : P.underlying src = some (.slice e)) (he : P.underlying e = some (.int .u8)) (hd : P.underlying dst = some .string)
    {w W : World} {v : Value} {l : List UInt8} (h : Bs w v l) (hW : W.heap = w.heap) : (convert src dst v).run P W = .ok (.string (str l)) W := by
  have hcell : ∀ p, W.cell? p = w.cell? p := fun p => by simp [World.cell?, hW]
  obtain ⟨ao, cap, rfl, _, _, h3⟩ := h
  rw [run_convert_bytes_string W src dst e ao l.length cap hs he hd]
  cases ao with
  | none =>
    have hl : l = [] := by
      refine Classical.byContradiction fun hne => ?_
      obtain ⟨b, off, h, _⟩ := h3 (by simpa using hne)
      cases h
    subst hl
    rfl
  | some a =>
    have hl : (loadCells a l.length).run P W = .ok ((l.map fun b => (b.toNat : Int)).map (Value.int .u8)).toArray W := by
      have hm : (l.map fun b => (b.toNat : Int)).map (Value.int .u8) = l.map ub := by simp [ub]
      rw [hm]
      have := run_loadCells_list (P := P) W a (l.map ub) (fun j u hu => by
        have hne : l.map ub ≠ [] := by intro h; rw [h] at hu; simp at hu
        obtain ⟨b, off, h, hc⟩ := h3 hne
        injection h with h
        subst h
        rw [Addr.add_lit, hcell]
        exact hc j u hu)
      rwa [List.length_map] at this
    rw [run_bytesToString W a l.length cap _ hl]
    rw [foldl_push_bytes]
    have he : ∀ x : List UInt8, (⟨ByteArray.empty.data ++ (x.map fun b => UInt8.ofNat ((b.toNat : Int)).toNat).toArray⟩ : ByteArray) = str x := fun x => by
      simp only [str, Int.toNat_natCast, UInt8.ofNat_toNat, List.map_id']
      congr 1
      exact Array.empty_append
    rw [← he, List.map_map]
    rfl
/-- v reads as byte slices. -/
def Bss (w : World) (v : Value) (ls : List (List UInt8)) : Prop :=
  ∃ vs, vs.length = ls.length ∧ Rd w v ls.length vs ∧ ∀ (i : Nat) (x : Value) (l : List UInt8), vs[i]? = some x → ls[i]? = some l → Bs w x l
theorem Bss.later {w w' : World} {v : Value} {ls : List (List UInt8)} (h : Bss w v ls) (hb : Below w.heap.size w w') : Bss w' v ls := by
  obtain ⟨vs, h1, h2, h3⟩ := h
  exact ⟨vs, h1, h2.later hb, fun i x l hx hl => (h3 i x l hx hl).later hb⟩
theorem Bss.drewN {w : World} {v : Value} {ls : List (List UInt8)} (h : Bss w v ls) (n : Nat) : Bss (w.drewN n) v ls := h
theorem Bs.later {w w' : World} {v : Value} {l : List UInt8} (h : Bs w v l) (hb : Below w.heap.size w w') : Bs w' v l := Rd.later h hb
theorem Bs.of_own {w : World} {base n : Nat} {e : TypeId} {v : Value} {l : List UInt8} (h : w.ownsRow base e 1 v n (l.map ub)) : Bs w v l := by
  have : n = l.length := by simpa using h.1.symm
  subst this
  exact Rd.of_own h
theorem below_drewN {B : Nat} {a w : World} (h : Below B a w) (n : Nat) : Below B a (w.drewN n) := ⟨h.os, h.tape, h.output, h.size, h.block⟩
end Go.Proofs.YtghjffgaebnhiaaDoor
