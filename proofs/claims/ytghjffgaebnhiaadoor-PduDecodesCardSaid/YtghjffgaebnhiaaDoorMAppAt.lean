/- append of one element: where the new slice lies. -/
import Derived.Test.YtghjffgaebnhiaaDoorMBase
import Derived.Test.YtghjffgaebnhiaaDoorMClass
namespace Go.Proofs.YtghjffgaebnhiaaDoor
set_option linter.unusedVariables false
set_option linter.unusedSimpArgs false
open Go.RowKit
theorem below_undrew {w w' : World} (h : Below w.drew.heap.size w.drew w') : Below w.heap.size w w' := ⟨h.os, h.tape, h.output, h.size, h.block⟩
theorem below_drew {B : Nat} {a w : World} (h : Below B a w) : Below B a w.drew := ⟨h.os, h.tape, h.output, h.size, h.block⟩
theorem own_prefix {w : World} {base g cap n n' size : Nat} {e : TypeId} {cs : List Value} (h : w.ownsRow base e size (.slice (some ⟨g, 0, none⟩) n' cap) n' cs) (hn : n ≤ n') : w.ownsRow base e size (.slice (some ⟨g, 0, none⟩) n cap) n (cs.take (n * size)) := by
  have hm := Nat.mul_le_mul_right size hn
  obtain ⟨hl, ⟨h, _⟩ | ⟨g', cap', cur, he, hb, hh, h1, h2, h3, h4⟩⟩ := h
  · cases h
  · injection he with e1 e2 e3
    injection e1 with e1
    injection e1 with e1
    subst e1; subst e3
    refine ⟨by rw [List.length_take, hl]; omega, .inr ⟨g, cap, cur, rfl, hb, hh, by omega, h2, h3, ?_⟩⟩
    rw [← h4, List.take_take, Nat.min_eq_left hm]
theorem own_open {w : World} {base n size : Nat} {e : TypeId} {v : Value} {xs : List Value} (h : w.ownsRow base e size v n xs) :
    ∃ ao cap, v = .slice ao n cap ∧ n ≤ cap ∧ cap ≤ maxLen ∧ (0 < n → ∃ b, ao = some ⟨b, 0, none⟩) := by
  rcases h.2 with ⟨rfl, h0⟩ | ⟨b, cap, cur, rfl, _, _, h1, h2, _⟩
  · exact ⟨none, 0, by rw [h0], by omega, by simp [maxLen], fun h => by omega⟩
  · exact ⟨_, cap, rfl, h1, h2, fun _ => ⟨b, rfl⟩⟩
/-- where an append leaves its slice: in the row where it was, of which the old slice is the front; or in a new block. -/
def Lies (w w' : World) (base : Nat) (e : TypeId) (size : Nat) (v v' : Value) (n n' : Nat) : Prop :=
  (v'.ownBlock = v.ownBlock ∧ ∀ (w'' : World) (cs : List Value), w''.ownsRow base e size v' n' cs → w''.ownsRow base e size v n (cs.take (n * size))) ∨ (∃ k, v'.ownBlock = some k ∧ w.heap.size ≤ k ∧ Below w.heap.size w w')
section
variable {P : Program} {t e : TypeId} {z : Value} {size bytes : Nat} {w : World}
theorem run_app_at (E : El P t e z size bytes) (ty : TypeId) {base : Nat} {v : Value} {n : Nat} {xs : List Value} (hown : w.ownsRow base e size v n xs)
    {a : Addr} {m c : Nat} {news : List Value} (hl : news.length = m * size) (hnews : ∀ j u, news[j]? = some u → w.cell? (a.add j) = some u) (h1 : ∀ x ∈ news, x.oneCell' = true) (hm : 0 < m)
    (hb : (n + m) * bytes ≤ 140737488355328) (hbase : base ≤ w.heap.size) :
    ∃ v' w', (Builtin.append_ #[t, t] ty #[v, .slice (some a) m c]).run P w = .ok v' w' ∧ w'.ownsRow base e size v' (n + m) (xs ++ news) ∧ w.grownBy w' v.ownBlock ∧ Lies w w' base e size v v' n (n + m) := by
  obtain ⟨i, hi, hz, hs, hby⟩ := info_parts E.inf
  have h63 := own_lt_maxLen E.bpos hb
  have h63' : n + m ≤ 9223372036854775807 := by simp only [maxLen] at h63; omega
  obtain ⟨v', w', hrun, h2, h3, _, h5⟩ := run_append_own_at (P := P) w base t ty e i z size bytes E.und hi hz hs hby E.zs E.pos v n xs hown a m c news hl hnews h1 h63 hb hbase
  refine ⟨v', w', hrun, h2, h3, ?_⟩
  have fresh : ∀ (o : Obj), Below w.heap.size w (w.drew.alloc o) := fun o => ⟨rfl, rfl, rfl, by simp, fun k hk => Below.heap_alloc w.drew o k hk⟩
  subst hs
  subst hby
  rcases hown.2 with ⟨rfl, rfl⟩ | ⟨g, cap, cur, rfl, hbg, hg, hnc, hcm, hcs, htake⟩
  · have hx : xs = [] := List.eq_nil_of_length_eq_zero (by simpa using hown.1)
    subst hx
    have hr := run_append_nil (P := P) w t ty e i z E.und hi hz a m c news hl hnews (by omega) (by omega) (by have hb := hb; simp only [Nat.zero_add] at hb; omega)
    rw [hrun] at hr
    injection hr with e1 e2
    subst e1; subst e2
    exact .inr ⟨w.heap.size, rfl, Nat.le_refl _, fresh _⟩
  · by_cases hroom : n + m ≤ cap
    · have hfit : n * i.size + news.length ≤ cur.size := by rw [hl, hcs, ← Nat.add_mul]; exact Nat.mul_le_mul_right _ hroom
      have hr := run_append_room (P := P) w t ty e i E.und hi g n cap cur hg a m c news hl hnews h1 hroom hfit
      rw [hrun] at hr
      injection hr with e1 e2
      subst e1
      exact .inl ⟨rfl, fun w'' cs h => own_prefix h (by omega)⟩
    · have holds : ∀ j u, xs[j]? = some u → w.cell? ((⟨g, 0, none⟩ : Addr).add j) = some u := hown.cells (g := g) rfl
      have hr := run_append_grow (P := P) w t ty e i z E.und hi hz ⟨g, 0, none⟩ n cap xs hown.1 holds a m c news hl hnews (by omega) (by omega) (growslice_fits (by omega) hb)
      rw [hrun] at hr
      injection hr with e1 e2
      subst e1; subst e2
      exact .inr ⟨w.heap.size, rfl, Nat.le_refl _, fresh _⟩
theorem wp_app_at (E : El P t e z size bytes) {o : Oper} {a : Act} {K : Act → World → Prop} {Q : Exit → Act → World → Prop} (s x : Operand)
    (ho : o.op = .call { callee := .builtin .append, args := #[s, x], argTypes := #[t, t] }) {base : Nat} {v : Value} {n : Nat} {xs : List Value} (hown : w.ownsRow base e size v n xs) (hs : a.eval s = v)
    {ad : Addr} {m c : Nat} {news : List Value} (hx : a.eval x = .slice (some ad) m c) (hl : news.length = m * size) (hnews : ∀ j u, news[j]? = some u → w.cell? (ad.add j) = some u) (h1 : ∀ x ∈ news, x.oneCell' = true) (hm : 0 < m)
    (hb : (n + m) * bytes ≤ 140737488355328) (hbase : base ≤ w.heap.size)
    (h : ∀ v' w', w'.ownsRow base e size v' (n + m) (xs ++ news) → w.grownBy w' v.ownBlock → Lies w w' base e size v v' n (n + m) → K (a.put o.dst v') w') : o.wp P a w K Q := by
  obtain ⟨v', w', hrun, h2, h3, h4⟩ := run_app_at (P := P) E o.type hown hl hnews h1 hm hb hbase
  unfold Oper.wp execOp
  simp only [ho, resolve, invoke, builtin, Sem.run_bind, Sem.run_pure, Result.andThen_ok, List.map_toArray, List.map_cons, List.map_nil, hs, hx]
  rw [hrun]
  exact h v' w' h2 h3 h4
/-- append of one element, which the walk has just laid into a block of its own. -/
theorem wpList_app1_at (E : El P t e z size bytes) {ops : Array Oper} {rest : List Oper} {o : Oper} {a : Act} {Q : Exit → Act → World → Prop} (hgd : o.guard = none) (s x : Operand)
    (ho : o.op = .call { callee := .builtin .append, args := #[s, x], argTypes := #[t, t] }) {base : Nat} {v : Value} {n : Nat} {xs : List Value} (hown : w.ownsRow base e size v n xs) (hs : a.eval s = v)
    {cs : Array Value} (hx : a.eval x = .slice (some ⟨w.heap.size, 0, none⟩) 1 1) (hl : cs.size = size) (h1 : ∀ x ∈ cs.toList, x.oneCell' = true)
    (hb : (n + 1) * bytes ≤ 140737488355328) (hbase : base ≤ w.heap.size)
    (h : ∀ v' w', w'.ownsRow base e size v' (n + 1) (xs ++ cs.toList) → w.grownBy w' v.ownBlock → Lies w w' base e size v v' n (n + 1) → wpList P ops Q rest (a.put o.dst v') w') : wpList P ops Q (o :: rest) a (w.alloc (.cells cs e)) := by
  have hB := Blk.new w e cs.toList
  rw [Array.toArray_toList] at hB
  refine wpList_plain hgd fun _ hK => wp_app_at (w := w.alloc (.cells cs e)) E s x ho (hown.alloc _) hs hx (by simp [hl]) (fun j u hu => by rw [Addr.add_lit, Nat.zero_add]; exact hB.cell_some hu) h1 (by omega) hb (by simp; omega) fun v' w' h2 h3 h4 => hK _ _ (h v' w' h2 ⟨h3.os, h3.tape, h3.output, Nat.le_trans (by simp) h3.size, fun k hk hne => ?_⟩ ?_)
  · exact (h3.block k (by simp; omega) hne).trans (Below.heap_alloc w _ k hk)
  · rcases h4 with h4 | ⟨k, h4, h5, h6⟩
    · exact .inl h4
    · exact .inr ⟨k, h4, by simp at h5; omega, (((Below.refl _ _).alloc (Nat.le_refl _) _).trans (h6.mono (by simp)))⟩
end
/-! ### Slices that are owned, each in a block of its own -/
structure Rows (w : World) (base : Nat) (E : TypeId) (size : Nat) (vs : List Value) (ns : Nat → Nat) (f : Nat → List Value) : Prop where
  own : ∀ (i : Nat) (x : Value), vs[i]? = some x → w.ownsRow base E size x (ns i) (f i)
  ne : ∀ (i j : Nat) (x y : Value), i ≠ j → vs[i]? = some x → vs[j]? = some y → x.ownBlock = none ∨ x.ownBlock ≠ y.ownBlock
section
variable {w w' : World} {base size : Nat} {E : TypeId} {vs : List Value} {ns : Nat → Nat} {f : Nat → List Value}
theorem Rows.later (h : Rows w base E size vs ns f) (hb : Below w.heap.size w w') : Rows w' base E size vs ns f := ⟨fun i x hx => own_later (h.own i x hx) hb, h.ne⟩
/-- row k alone was written. -/
theorem Rows.upd (h : Rows w base E size vs ns f) {k : Nat} {x : Value} {c : List Value} (hx : vs[k]? = some x) (hown : w'.ownsRow base E size x (ns k) c) (hg : w.grownBy w' x.ownBlock) : Rows w' base E size vs ns (fun i => if i = k then c else f i) := by
  refine ⟨fun i y hy => ?_, h.ne⟩
  by_cases hi : i = k
  · subst hi
    rw [hx] at hy
    injection hy with hy
    subst hy
    simp only [if_true]
    exact hown
  · simp only [if_neg hi]
    exact (h.own i y hy).kept hg (h.ne i k y x hi hy hx)
def Foot (vs : List Value) : Nat → Prop := fun b => ∃ x ∈ vs, x.ownBlock = some b
theorem grown_foot {k : Nat} {x : Value} (hx : vs[k]? = some x) (hg : w.grownBy w' x.ownBlock) : Same (Foot vs) w w' :=
  ⟨hg.os, hg.tape, hg.output, hg.size, fun i hi hn => hg.block i hi fun e => hn ⟨x, List.mem_of_getElem? hx, e.symm⟩⟩
end
/-- n marks. -/
def fill (m : List Value) (n : Nat) : List Value := (List.replicate n m).flatten
theorem fill_zero (m : List Value) : fill m 0 = [] := rfl
theorem fill_succ (m : List Value) (n : Nat) : fill m (n + 1) = fill m n ++ m := by
  unfold fill
  rw [List.replicate_succ', List.flatten_append]
  simp
theorem fill_len (m : List Value) (n : Nat) : (fill m n).length = n * m.length := by
  induction n with
  | zero => simp [fill]
  | succ n ih => rw [fill_succ, List.length_append, ih, Nat.add_mul, Nat.one_mul]
theorem fill_take (m : List Value) {n n' : Nat} (h : n ≤ n') : (fill m n').take (n * m.length) = fill m n := by
  obtain ⟨d, rfl⟩ := Nat.le.dest h
  have : fill m (n + d) = fill m n ++ fill m d := by
    unfold fill
    rw [← List.flatten_append, List.replicate_append_replicate]
  rw [this, List.take_left' (fill_len m n)]
theorem fill_at (m : List Value) (n j o : Nat) (hj : j < n) (ho : o < m.length) : (fill m n)[j * m.length + o]? = m[o]? := by
  have h := fill_take m (show j + 1 ≤ n by omega)
  have h2 : (fill m (j + 1))[j * m.length + o]? = m[o]? := by
    rw [fill_succ, List.getElem?_append_right (by rw [fill_len]; omega), fill_len]
    congr 1
    omega
  rw [← h2, ← h, List.getElem?_take, if_pos]
  rw [Nat.add_mul, Nat.one_mul]; omega
/-- cells written at o, the front seen. -/
theorem take_store {c c' m : List Value} {o : Nat} (h : ∀ p, p < o + m.length → c'[p]? = if p < o then c[p]? else m[p - o]?) (hl : o ≤ c.length) : c'.take (o + m.length) = c.take o ++ m := by
  apply List.ext_getElem?
  intro p
  rw [List.getElem?_take]
  by_cases hp : p < o + m.length
  · rw [if_pos hp, h p hp]
    by_cases ho : p < o
    · rw [if_pos ho, List.getElem?_append_left (by rw [List.length_take]; omega), List.getElem?_take, if_pos ho]
    · rw [if_neg ho, List.getElem?_append_right (by rw [List.length_take]; omega), List.length_take, Nat.min_eq_left hl]
  · rw [if_neg hp, List.getElem?_eq_none (by rw [List.length_append, List.length_take]; omega)]
section
variable {w w' : World} {base size : Nat} {E : TypeId} {vs : List Value} {ns : Nat → Nat} {f : Nat → List Value}
theorem Rows.cell (h : Rows w base E size vs ns f) {k g N cap : Nat} (hx : vs[k]? = some (.slice (some ⟨g, 0, none⟩) N cap)) (hN : N = ns k) (o : Nat) (u : Value) :
    Rows (w.setCell ⟨g, o, none⟩ u) base E size vs ns (fun i => if i = k then (f k).set o u else f i) ∧ Same (Foot vs) w (w.setCell ⟨g, o, none⟩ u) := by
  subst hN
  have hs := (h.own k _ hx).stored o u
  exact ⟨h.upd hx hs.1 hs.2, grown_foot hx hs.2⟩
/-- row k has grown by j marks: where the grown slice lies. -/
structure Grow (wi w : World) (base : Nat) (E : TypeId) (size : Nat) (x G : Value) (N M : Nat) (m : List Value) : Prop where
  own : w.ownsRow base E size G M (fill m M)
  old : w.ownsRow base E size x N (fill m N)
  lies : (G.ownBlock = x.ownBlock ∧ ∀ (w'' : World) (cs : List Value), w''.ownsRow base E size G M cs → w''.ownsRow base E size x N (cs.take (N * size))) ∨ ∃ b, G.ownBlock = some b ∧ wi.heap.size ≤ b
  same : Same (fun b => x.ownBlock = some b) wi w
  lt : ∀ b, x.ownBlock = some b → b < wi.heap.size
theorem Grow.start {wi : World} {x : Value} {N : Nat} {m : List Value} (h : wi.ownsRow base E size x N (fill m N)) : Grow wi wi base E size x x N N m :=
  ⟨h, h, .inl ⟨rfl, fun w'' cs h => by rw [List.take_of_length_le (by rw [h.1]; exact Nat.le_refl _)]; exact h⟩, Same.refl _ _, fun b hb => (h.lt b hb).2⟩
theorem Grow.step {wi : World} {x G G' : Value} {N M : Nat} {m : List Value} (h : Grow wi w base E size x G N M m) (hN : N ≤ M) (hm : m.length = size) (hown : w'.ownsRow base E size G' (M + 1) (fill m M ++ m)) (hg : w.grownBy w' G.ownBlock)
    (hl : Lies w w' base E size G G' M (M + 1)) : Grow wi w' base E size x G' N (M + 1) m := by
  rw [← fill_succ] at hown
  rcases hl with ⟨hb, hp⟩ | ⟨k, hb, hk, hbel⟩
  · rcases h.lies with ⟨hb', hp'⟩ | ⟨b, hb', hbw⟩
    · have halias : ∀ (w'' : World) (cs : List Value), w''.ownsRow base E size G' (M + 1) cs → w''.ownsRow base E size x N (cs.take (N * size)) := fun w'' cs hh => by
        have := hp' w'' _ (hp w'' cs hh)
        rwa [List.take_take, Nat.min_eq_left (Nat.mul_le_mul_right _ hN)] at this
      have hold := halias w' _ hown
      rw [← hm, fill_take m (by omega), hm] at hold
      exact ⟨hown, hold, .inl ⟨hb.trans hb', halias⟩, h.same.trans (Same.of_grown hg) (fun i _ e => by rw [hb'] at e; exact e.symm), h.lt⟩
    · refine ⟨hown, h.old.kept hg ?_, .inr ⟨b, hb.trans hb', hbw⟩, h.same.trans (Same.of_grown hg) (fun i hi e => by rw [hb'] at e; injection e with e; omega), h.lt⟩
      rw [hb']
      cases hxo : x.ownBlock with
      | none => exact .inl rfl
      | some c => exact .inr fun e => by injection e with e; have := h.lt c hxo; omega
  · have hs := h.same.size
    exact ⟨hown, own_later h.old hbel, .inr ⟨k, hb, by omega⟩, h.same.trans (Same.of_below hbel no) (fun _ _ h => h.elim), h.lt⟩
theorem Grow.later {wi : World} {x G : Value} {N M : Nat} {m : List Value} (h : Grow wi w base E size x G N M m) (hb : Below w.heap.size w w') : Grow wi w' base E size x G N M m :=
  ⟨own_later h.own hb, own_later h.old hb, h.lies, h.same.trans (Same.of_below hb no) (fun _ _ h => h.elim), h.lt⟩
/-- slices that have grown out of rows: each is owned; it lies where its row lies, or in a block from H on. -/
def Grown (w : World) (base H : Nat) (E : TypeId) (size : Nat) (vs ys : List Value) (ns : Nat → Nat) (m : Nat → List Value) : Prop :=
  ∀ (i : Nat) (y : Value), ys[i]? = some y → w.ownsRow base E size y (ns i + 64) (fill (m i) (ns i + 64)) ∧ ∀ b, y.ownBlock = some b → (∃ x, vs[i]? = some x ∧ x.ownBlock = some b) ∨ H ≤ b
theorem Grown.snoc {wi wx : World} {H k : Nat} {ys : List Value} {m : Nat → List Value} {x G : Value} (h : Grown wi base H E size vs ys ns m) (hk : ys.length = k) (hR : Rows wi base E size vs ns f) (hx : vs[k]? = some x) (hH : H ≤ wi.heap.size) (hvH : ∀ b, Foot vs b → b < H)
    (hg : Grow wi wx base E size x G (ns k) (ns k + 64) (m k)) : Grown wx base H E size vs (ys ++ [G]) ns m := by
  intro i y hy
  by_cases hi : i < k
  · rw [List.getElem?_append_left (by omega)] at hy
    obtain ⟨h1, h2⟩ := h i y hy
    refine ⟨own_same h1 hg.same fun b hb he => ?_, h2⟩
    rcases h2 b hb with ⟨z, hz, hzb⟩ | hb2
    · rcases hR.ne i k z x (by omega) hz hx with e | e
      · rw [e] at hzb; cases hzb
      · exact e (hzb.trans he.symm)
    · have := hvH b ⟨x, List.mem_of_getElem? hx, he⟩
      omega
  · rw [List.getElem?_append_right (by omega)] at hy
    obtain rfl : i = k := by
      have := (List.getElem?_eq_some_iff.1 hy).1
      simp at this; omega
    rw [hk, Nat.sub_self] at hy
    simp at hy
    subst hy
    refine ⟨hg.own, fun b hb => ?_⟩
    rcases hg.lies with ⟨e, _⟩ | ⟨c, e, hc⟩
    · exact .inl ⟨x, hx, e.symm.trans hb⟩
    · rw [hb] at e; injection e with e; right; omega
end
section
variable {w w' : World} {base size : Nat} {E : TypeId} {vs : List Value} {ns : Nat → Nat} {f : Nat → List Value}
theorem Rows.of_grow {wi wx : World} {q : Nat} {x G : Value} {M : Nat} {m : List Value} (h : Rows wi base E size vs ns f) (hx : vs[q]? = some x) (hf : f q = fill m (ns q)) (hg : Grow wi wx base E size x G (ns q) M m) : Rows wx base E size vs ns f := by
  refine ⟨fun i y hy => ?_, h.ne⟩
  by_cases hi : i = q
  · subst hi
    rw [hx] at hy
    injection hy with hy
    subst hy
    rw [hf]
    exact hg.old
  · refine own_same (h.own i y hy) hg.same fun b hb e => ?_
    rcases h.ne i q y x hi hy hx with h' | h'
    · rw [h'] at hb; cases hb
    · exact h' (hb.trans e.symm)
theorem Rows.kept {b' s' n' : Nat} {E' : TypeId} {v' : Value} {zs : List Value} (h : Rows w base E size vs ns f) (hv : w.ownsRow b' E' s' v' n' zs) (hE : E ≠ E') (hg : w.grownBy w' v'.ownBlock) : Rows w' base E size vs ns f :=
  ⟨fun i x hx => (h.own i x hx).kept hg (own_ne (h.own i x hx) hv hE), h.ne⟩
theorem Grown.kept {H b' s' n' : Nat} {E' : TypeId} {v' : Value} {zs ys : List Value} {m : Nat → List Value} (h : Grown w base H E size vs ys ns m) (hv : w.ownsRow b' E' s' v' n' zs) (hE : E ≠ E') (hg : w.grownBy w' v'.ownBlock) : Grown w' base H E size vs ys ns m :=
  fun i y hy => ⟨(h i y hy).1.kept hg (own_ne (h i y hy).1 hv hE), (h i y hy).2⟩
end
end Go.Proofs.YtghjffgaebnhiaaDoor
