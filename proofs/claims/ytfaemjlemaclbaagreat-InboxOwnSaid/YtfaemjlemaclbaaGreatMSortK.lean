/- SortK, IRow: joined. -/
import Derived.Test.YtfaemjlemaclbaaGreatMBase
import Derived.Shelf.GgSortFunc.InsertionK
import Derived.Shelf.SlSortCmp.NoneTotal
import Derived.Sort.Grow
import Derived.Test.YtfaemjlemaclbaaGreatMRefGot
section
/- slices.SortFunc at elements of k cells, in the words of owned rows. -/
namespace Go.Proofs.YtfaemjlemaclbaaGreat
set_option linter.unusedVariables false
set_option linter.unusedSimpArgs false
open Go.RowKit Go.Sort Go.Proofs
section
variable {α : Type} [Inhabited α] (enc : α → List Value) {k : Nat}
omit [Inhabited α] in
theorem flat_len (hk : ∀ x, (enc x).length = k) : ∀ l : List α, (l.flatMap enc).length = l.length * k
  | [] => by simp
  | t :: l => by rw [List.flatMap_cons, List.length_append, flat_len hk l, hk, List.length_cons, Nat.succ_mul]; omega
omit [Inhabited α] in
theorem flat_at (hk : ∀ x, (enc x).length = k) : ∀ (l : List α) (i : Nat) (t : α), l[i]? = some t → ∀ o, o < k → (l.flatMap enc)[i * k + o]? = (enc t)[o]?
  | [], i, t, h, o, ho => by simp at h
  | x :: l, 0, t, h, o, ho => by
    simp at h
    subst h
    rw [List.flatMap_cons, Nat.zero_mul, Nat.zero_add, List.getElem?_append_left (by rw [hk]; exact ho)]
  | x :: l, i + 1, t, h, o, ho => by
    rw [List.flatMap_cons, List.getElem?_append_right (by rw [hk, Nat.succ_mul]; omega)]
    have := flat_at hk l i t (by simpa using h) o ho
    rw [← this]
    congr 1
    rw [hk, Nat.succ_mul]
    omega
theorem flat_row (hk : ∀ x, (enc x).length = k) (h0 : 0 < k) (d : Array α) : flatK enc k d = (d.toList.flatMap enc).toArray := by
  apply Array.ext
  · simp [flat_len enc hk]
  · intro t h1 h2
    have ht : t < d.size * k := by simpa using h1
    have hlt : t / k < d.size := Nat.div_lt_of_lt_mul (by rw [Nat.mul_comm]; exact ht)
    have e := flat_at enc hk d.toList (t / k) d[t / k] (by simp [hlt]) (t % k) (Nat.mod_lt _ h0)
    rw [Nat.div_add_mod' t k] at e
    have hg := get_flatK enc k d t ht
    rw [getElem!_pos _ t h1] at hg
    rw [hg]
    have hd : d[t / k]! = d[t / k] := getElem!_pos d (t / k) hlt
    rw [hd]
    have h3 : t < (d.toList.flatMap enc).length := by simpa using h2
    rw [List.getElem?_eq_getElem h3] at e
    rw [show (d.toList.flatMap enc).toArray[t]'h2 = (d.toList.flatMap enc)[t]'h3 from rfl]
    have hl : t % k < (enc d[t / k]).length := by rw [hk]; exact Nat.mod_lt _ h0
    rw [List.getElem?_eq_getElem hl] at e
    injection e with e
    rw [e, getElem!_pos (enc d[t / k]) (t % k) hl]
theorem holds_row (hk : ∀ x, (enc x).length = k) (h0 : 0 < k) {w : World} {g : Nat} {cur : Array Value} {e : TypeId} {l : List α} (hb : w.heap[g]? = some (.cells cur e (0, 0))) (ht : cur.toList.take (l.length * k) = l.flatMap enc) : HoldsK enc k w g 0 l.toArray := by
  intro j hj
  rw [flat_row enc hk h0] at hj ⊢
  have hj' : j < l.length * k := by simpa [flat_len enc hk] using hj
  refine ⟨?_, by simp [World.frozen?, hb]⟩
  have h1 : (cur.toList.take (l.length * k))[j]? = (l.flatMap enc)[j]? := by rw [ht]
  rw [List.getElem?_take_of_lt hj'] at h1
  have hlt : j < (l.flatMap enc).length := by rw [flat_len enc hk]; exact hj'
  simp only [World.cell?, hb, Nat.zero_add]
  simp only [Option.isSome_none, Bool.false_eq_true, if_false]
  rw [← Array.getElem?_toList, h1, List.getElem?_eq_getElem hlt]
  simp only [List.getElem!_toArray, List.getElem!_eq_getElem?_getD, List.getElem?_eq_getElem hlt, Option.getD_some, id]
omit [Inhabited α] in
theorem take_put_row (cur : Array Value) (xs : List Value) (h : xs.length ≤ cur.size) : (putCells id 0 xs.toArray cur).toList.take xs.length = xs := by
  apply List.ext_getElem?
  intro j
  by_cases hj : j < xs.length
  · rw [List.getElem?_take_of_lt hj, Array.getElem?_toList]
    simp [putCells, hj, show j < cur.size by omega]
  · rw [List.getElem?_take_eq_none (by omega), List.getElem?_eq_none (by omega)]
theorem sort_grown {w : World} {g n : Nat} (d : Array α) (os : Array Obj) (hg : g < w.heap.size) : w.grownBy (sortWorldK enc k w g 0 n d os) (some g) := by
  refine ⟨rfl, rfl, rfl, by simp [sortWorldK, putRowK, putRow, mapBlock, Sort.ahead, grow], fun i hi hne => ?_⟩
  unfold sortWorldK putRowK
  rw [heap_grow_old _ _ (by simpa [Sort.ahead, putRow, mapBlock] using hi)]
  have : g ≠ i := fun e => hne (by rw [e])
  simp [putRow, mapBlock, Sort.ahead, Array.getElem?_modify, this]
theorem sorted_row (hk : ∀ x, (enc x).length = k) (h0 : 0 < k) {w : World} {base g cap n m : Nat} {e : TypeId} {os : Array Obj} {cur : Array Value} (d : Array α) (hd : d.size = m) (hbase : base ≤ g) (hb : w.heap[g]? = some (.cells cur e (0, 0)))
    (h1 : m ≤ cap) (h2 : cap ≤ maxLen) (h3 : cur.size = cap * k) :
    (sortWorldK enc k w g 0 n d os).ownsRow base e k (.slice (some ⟨g, 0, none⟩) m cap) m (d.toList.flatMap enc) := by
  have hg : g < w.heap.size := (Array.getElem?_eq_some_iff.1 hb).1
  have hheap : (sortWorldK enc k w g 0 n d os).heap[g]? = some (.cells (putCells id 0 (d.toList.flatMap enc).toArray cur) e (0, 0)) := by
    unfold sortWorldK putRowK
    rw [flat_row enc hk h0, heap_grow_old _ _ (by simpa [Sort.ahead, putRow, mapBlock] using hg)]
    simp [putRow, mapBlock, Sort.ahead, Array.getElem?_modify, hb, onCells]
  have hl : (d.toList.flatMap enc).length = m * k := by rw [flat_len enc hk]; simp [hd]
  refine ⟨hl, .inr ⟨g, cap, _, rfl, hbase, hheap, h1, h2, by simp [putCells, h3], ?_⟩⟩
  rw [← hl]
  exact take_put_row cur _ (by rw [hl, h3]; exact Nat.mul_le_mul_right k h1)
theorem sort_own {P : Program} {ρ : Go.Shelf.Ren} (L : Go.Proofs.SlLaysF0.n6 P ρ) (aE : ∀ w, (isAgg (ρ.t 24)).run P w = .ok true w) (zE : ∀ w, (Go.sizeOf (ρ.t 24)).run P w = .ok k w) (hk : ∀ x, (enc x).length = k) (h0 : 0 < k)
    (h1 : ∀ x, ∀ v ∈ enc x, v.oneCell' = true) (cf : α → α → Int) (hO : SWO (ltOf cf)) (g : Nat) (cb : Array Value) (eg : ∀ args w, (callFunc g args).run P w = .ok (.enter g args) w)
    (base : Nat) (v : Value) (l : List α) (w : World) (hown : w.ownsRow base (ρ.t 24) k v l.length (l.flatMap enc)) (hl : l.length < 4611686018427387904)
    (hcmp : ∀ W, w.grownBy W v.ownBlock → ∀ x y, Calls P g (#[.agg (enc x).toArray, .agg (enc y).toArray] ++ cb) W fun e w' => e = .returned (.int .i64 (cf x y)) ∧ ∃ q os', w' = grow (W.drewN q) os') :
    Calls P (ρ.f 6) #[v, .func (.func g) #[] cb] w fun e w' => e = .returned (.tuple #[]) ∧ ∃ l' : List α, l'.Perm l ∧ l'.Pairwise (fun a b => ltOf cf b a = false) ∧
      w'.ownsRow base (ρ.t 24) k v l'.length (l'.flatMap enc) ∧ w.grownBy w' v.ownBlock := by
  rcases hown.2 with ⟨rfl, hn⟩ | ⟨b, cap, cur, rfl, hbase, hb, q1, q2, q3, q4⟩
  · have hl0 : l = [] := List.length_eq_zero_iff.1 hn
    subst hl0
    refine (AnyF.slices_SortFunc_none L none 0 (.func (.func g) #[] cb) w).mono ?_
    rintro e w' ⟨rfl, rfl⟩
    exact ⟨rfl, [], List.Perm.refl _, List.Pairwise.nil, hown, World.grownBy.refl _ _⟩
  · have hbl := (Array.getElem?_eq_some_iff.1 hb).1
    have hcon := AnyQ.slices_SortFunc L k aE zE enc hk h1 cf hO g cb b 0 cap l.toArray w eg (fun m os dk _ x y => hcmp _ (sort_grown enc dk os hbl) x y) (holds_row enc hk h0 hb q4) hbl (by simpa using hl)
    simp only [List.size_toArray] at hcon
    refine hcon.mono ?_
    rintro e w' ⟨rfl, d, n, os, ⟨hd, _, hp⟩, hs, rfl⟩
    have hd' : d.size = l.length := by simpa using hd
    refine ⟨rfl, d.toList, ?_, ?_, by simpa [hd'] using sorted_row enc hk h0 (n := n) (os := os) d hd' hbase hb q1 q2 q3, sort_grown enc d os hbl⟩
    · have e1 : (d.extract 0 l.length).toList = d.toList := by rw [← hd']; simp
      have e2 : (l.toArray.extract 0 l.length).toList = l := by simp
      rw [e1, e2] at hp
      exact hp
    · rw [List.pairwise_iff_getElem]
      intro i j hi hj hij
      have hi' : i < d.size := by simpa using hi
      have hj' : j < d.size := by simpa using hj
      have := hs i j (Nat.zero_le _) hij (by omega)
      rw [getElem!_pos d i hi', getElem!_pos d j hj'] at this
      simpa using this
end
end Go.Proofs.YtfaemjlemaclbaaGreat
end
section
/- row of the open ones: the sessions of a map, by when they were touched. -/
namespace Go.Proofs.YtfaemjlemaclbaaGreat
set_option linter.unusedVariables false
set_option linter.unusedSimpArgs false
open Go.RowKit Go.Maps Go.Sort Go.Proofs
theorem El.sess : El Tryz.prog 50 66 (.agg #[.int .u64 0, .int .u64 0]) 2 16 := ⟨Tryz.underlying50, by kernel_rfl, rfl, by decide, by decide⟩
/-- sessions as cells. -/
def sc (s : Sess) : List Value := [.int .u64 (s.1.toNat : Int), .int .u64 (s.2.toNat : Int)]
theorem sc_one (l : List Sess) : ∀ x ∈ l.flatMap sc, x.oneCell' = true := by
  intro x hx
  obtain ⟨t, _, ht⟩ := List.mem_flatMap.1 hx
  simp [sc] at ht
  rcases ht with rfl | rfl <;> rfl
theorem sc_len (l : List Sess) : (l.flatMap sc).length = l.length * 2 := flat_len sc (fun _ => rfl) l
/-- an entry: the session, its block, when it was touched. -/
structure RE where
  s : Sess
  kb : Nat
  wh : Nat
instance : Inhabited RE := ⟨⟨(0, 0), 0, 0⟩⟩
def RE.kv (r : RE) : Sess × Option Nat := (r.s, some r.kb)
def rc (r : RE) : List Value := sc r.s
abbrev MapAt (w : World) (b : Nat) (L : List (Sess × Option Nat)) : Prop := LMap Tryz.prog 66 sv pR pdat w b L
def whenCmp (x y : RE) : Int := Lib.compareInt (x.wh : Int) (y.wh : Int)
theorem ltWhen (x y : RE) : ltOf whenCmp x y = decide (x.wh < y.wh) := by
  unfold ltOf whenCmp Lib.compareInt
  by_cases h1 : x.wh < y.wh
  · simp [h1]
  · by_cases h2 : y.wh < x.wh <;> simp [h1, h2]
theorem swoWhen : SWO (ltOf whenCmp) where
  irrefl x := by rw [ltWhen]; simp
  trans x y z h1 h2 := by rw [ltWhen] at *; simp at *; omega
  ntrans x y z h1 h2 := by rw [ltWhen] at *; simp at *; omega
theorem sorted_uniq : ∀ {l l' : List RE}, l.Perm l' → l.Pairwise (fun a b => a.wh < b.wh) → l'.Pairwise (fun a b => a.wh ≤ b.wh) → l = l'
  | [], l', h, _, _ => (List.Perm.nil_eq h)
  | a :: l, [], h, _, _ => absurd h.length_eq (by simp)
  | a :: l, b :: l', h, h1, h2 => by
    rw [List.pairwise_cons] at h1 h2
    have e : a = b := by
      rcases List.mem_cons.1 (h.mem_iff.2 (List.mem_cons_self ..) : b ∈ a :: l) with e | e
      · exact e.symm
      · rcases List.mem_cons.1 (h.mem_iff.1 (List.mem_cons_self ..) : a ∈ b :: l') with e' | e'
        · exact e'
        · have := h1.1 b e
          have := h2.1 a e'
          omega
    subst e
    rw [sorted_uniq (List.Perm.cons_inv h) h1.2 h2.2]
theorem alloc2_grow (W : World) (o1 o2 : Obj) (q : Nat) : ((W.alloc o1).alloc o2).drewN q = grow (W.drewN q) #[o1, o2] := by
  rw [alloc_eq_grow, alloc_eq_grow, grow_grow]
  rfl
theorem lift_mem {R : List RE} : ∀ (l : List RE), (∀ r ∈ l, r ∈ R) → ∃ L : List { r : RE // r ∈ R }, L.map (·.1) = l
  | [], _ => ⟨[], rfl⟩
  | r :: l, h => by
    obtain ⟨L, hL⟩ := lift_mem l fun u hu => h u (List.mem_cons_of_mem _ hu)
    exact ⟨⟨r, h r (List.mem_cons_self ..)⟩ :: L, by rw [List.map_cons, hL]⟩
theorem lift_flat {R : List RE} (L : List { r : RE // r ∈ R }) : L.flatMap (fun r => rc r.1) = (L.map (·.1)).flatMap rc := by rw [List.flatMap_map]
theorem swoSub {R : List RE} : SWO (ltOf fun x y : { r : RE // r ∈ R } => whenCmp x.1 y.1) where
  irrefl x := swoWhen.irrefl x.1
  trans x y z := swoWhen.trans x.1 y.1 z.1
  ntrans x y z := swoWhen.ntrans x.1 y.1 z.1
theorem re_wo (T : List RE) (s : Sess) : wo (T.map RE.kv) s = (T.filter fun q => decide (q.s ≠ s)).map RE.kv := by
  unfold wo
  rw [List.filter_map]
  rfl
theorem re_perm : ∀ {T : List RE}, ((T.map RE.kv).map (·.1)).Nodup → ∀ {r : RE}, r ∈ T → T.Perm (r :: T.filter fun q => decide (q.s ≠ r.s))
  | [], _, r, h => by cases h
  | p :: T, h0, r, h => by
    rw [List.map_cons, List.map_cons, List.nodup_cons] at h0
    have hno : ∀ q ∈ T, q.s ≠ p.s := fun q hq e => h0.1 (by rw [List.map_map]; exact List.mem_map.2 ⟨q, hq, e⟩)
    rcases List.mem_cons.1 h with rfl | h
    · rw [List.filter_cons, if_neg (by simp), List.filter_eq_self.2 (fun q hq => by simpa using hno q hq)]
    · rw [List.filter_cons, if_pos (by simpa using (hno r h).symm)]
      exact ((re_perm h0.2 h).cons p).trans (List.Perm.swap _ _ _)
end Go.Proofs.YtfaemjlemaclbaaGreat
end
