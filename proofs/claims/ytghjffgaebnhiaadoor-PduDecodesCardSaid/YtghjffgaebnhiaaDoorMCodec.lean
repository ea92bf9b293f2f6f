/- Codec, Codecs, CodecR, CodecU: joined. -/
import Derived.Test.YtghjffgaebnhiaaDoorMBase
import Derived.ProofKit
import Derived.Deep.Slices
import Derived.Test.YtghjffgaebnhiaaDoorProg
import Derived.Test.YtghjffgaebnhiaaDoorMElR
import Derived.Test.YtghjffgaebnhiaaDoorMCrc
section
/- How the arguments of a statement read: a codec for each type, out of smaller ones. Nothing of the program in it. -/
namespace Go.Proofs.YtghjffgaebnhiaaDoor
set_option linter.unusedVariables false
set_option linter.unusedSimpArgs false
open Go.RowKit Go.ChangeShapes Go.WideShapes Go.Deep

structure Codec (P : Program) (t : TypeId) (α : Type) where
  k : Nat
  rep : World → List Value → α → Prop
  size : P.cellsOf t = k
  len : ∀ {w : World} {cs : List Value} {a : α}, rep w cs a → cs.length = k
  one : ∀ {w : World} {cs : List Value} {a : α}, rep w cs a → ∀ v ∈ cs, v.oneCell' = true
  later : ∀ {w w' : World} {cs : List Value} {a : α}, rep w cs a → Below w.heap.size w w' → rep w' cs a
  get : ∀ {H : Type} {enc : TypeId × Value → H} {w : World} {fuel : Nat} {cs : List Value} {x : DataW H × List MemPlace},
    DataW.trod enc P w 0 (fun _ => true) true fuel t cs = some x → (x.1.weights P t).all (fun n => decide (n ≤ reachBytes)) = true → ∃ a, rep w cs a

section
variable {P : Program} {t e : TypeId} {α β : Type}
def Codec.map (c : Codec P t α) (f : α → β) : Codec P t β where
  k := c.k
  rep w cs b := ∃ a, f a = b ∧ c.rep w cs a
  size := c.size
  len := fun ⟨_, _, h⟩ => c.len h
  one := fun ⟨_, _, h⟩ => c.one h
  later := fun ⟨a, e, h⟩ hb => ⟨a, e, c.later h hb⟩
  get h hw := let ⟨a, ha⟩ := c.get h hw; ⟨f a, a, rfl, ha⟩

def Codec.int (kd : IntKind) (ht : P.underlying t = some (.int kd)) (hs : P.cellsOf t = 1) : Codec P t Int where
  k := 1
  rep _ cs n := cs = [.int kd n] ∧ (Lit.int kd n).wf = true
  size := hs
  len := fun ⟨h, _⟩ => by rw [h]; rfl
  one := fun ⟨h, _⟩ v hv => by rw [h] at hv; simp at hv; rw [hv]; rfl
  later h _ := h
  get h _ := by
    obtain ⟨n, h1, _, h3⟩ := DataW.trod_int ht h
    exact ⟨n, h1, h3⟩

def Codec.bool (ht : P.underlying t = some .bool) (hs : P.cellsOf t = 1) : Codec P t Bool where
  k := 1
  rep _ cs n := cs = [.bool n]
  size := hs
  len := fun h => by rw [h]; rfl
  one := fun h v hv => by rw [h] at hv; simp at hv; rw [hv]; rfl
  later h _ := h
  get h _ := by
    obtain ⟨n, h1, _⟩ := DataW.trod_bool ht h
    exact ⟨n, h1⟩

def Codec.u8 (ht : P.underlying t = some (.int .u8)) (hs : P.cellsOf t = 1) : Codec P t UInt8 where
  k := 1
  rep _ cs n := cs = [ub n]
  size := hs
  len := fun h => by rw [h]; rfl
  one := fun h v hv => by rw [h] at hv; simp at hv; rw [hv]; rfl
  later h _ := h
  get h _ := by
    obtain ⟨n, h1, _, h3⟩ := DataW.trod_int ht h
    have hb : 0 ≤ n ∧ n < 256 := by
      simp only [Lit.wf, Bool.and_eq_true, decide_eq_true_eq] at h3
      have e1 : IntKind.u8.min = 0 := by decide
      have e2 : IntKind.u8.max = 255 := by decide
      omega
    refine ⟨UInt8.ofNat n.toNat, ?_⟩
    rw [h1]
    unfold ub
    rw [UInt8.toNat_ofNat', Nat.mod_eq_of_lt (by omega), Int.toNat_of_nonneg hb.1]

/-- A list of fields, from cell o on. -/
structure FCodec (P : Program) (fs : List Field) (o : Nat) (α : Type) where
  k : Nat
  rep : World → List Value → α → Prop
  len : ∀ {w : World} {cs : List Value} {a : α}, rep w cs a → cs.length = k
  one : ∀ {w : World} {cs : List Value} {a : α}, rep w cs a → ∀ v ∈ cs, v.oneCell' = true
  later : ∀ {w w' : World} {cs : List Value} {a : α}, rep w cs a → Below w.heap.size w w' → rep w' cs a
  get : ∀ {H : Type} {enc : TypeId × Value → H} {w : World} {fuel : Nat} {cs : List Value} {xs : List (DataW H × List MemPlace)}, cs.length = o + k → xs.length = fs.length →
    (∀ (i : Nat) (f : Field), fs[i]? = some f → DataW.trod enc P w 0 (fun _ => true) true fuel f.type ((cs.drop f.offset).take (P.cellsOf f.type)) = xs[i]?) →
    (DataW.weightsEach P (fs.map (·.type)) (xs.map (·.1))).all (fun n => decide (n ≤ reachBytes)) = true → ∃ a, rep w (cs.drop o) a
def FCodec.nil (P : Program) (o : Nat) : FCodec P [] o Unit where
  k := 0
  rep _ cs _ := cs = []
  len h := by rw [h]; rfl
  one h v hv := by rw [h] at hv; simp at hv
  later h _ := h
  get hl _ _ _ := ⟨(), by rw [List.drop_eq_nil_iff]; omega⟩
def FCodec.cons {f : Field} {fs : List Field} {o : Nat} (ho : f.offset = o) (c : Codec P f.type α) (r : FCodec P fs (o + c.k) β) : FCodec P (f :: fs) o (α × β) where
  k := c.k + r.k
  rep w cs a := ∃ c1 c2, cs = c1 ++ c2 ∧ c.rep w c1 a.1 ∧ r.rep w c2 a.2
  len := fun ⟨c1, c2, h, h1, h2⟩ => by rw [h, List.length_append, c.len h1, r.len h2]
  one := fun ⟨c1, c2, h, h1, h2⟩ v hv => by
    rw [h, List.mem_append] at hv
    rcases hv with hv | hv
    · exact c.one h1 v hv
    · exact r.one h2 v hv
  later := fun ⟨c1, c2, h, h1, h2⟩ hb => ⟨c1, c2, h, c.later h1 hb, r.later h2 hb⟩
  get {H enc w fuel cs xs} hl hx h hw := by
    match xs, hx with
    | x :: xs, hx =>
      simp only [List.map_cons, DataW.weightsEach, List.all_append, Bool.and_eq_true] at hw
      have h0 := h 0 f rfl
      obtain ⟨a, ha⟩ := c.get h0 hw.1
      obtain ⟨b, hb⟩ := r.get (cs := cs) (xs := xs) (by omega) (by simpa using hx) (fun i f hf => h (i + 1) f (by simpa using hf)) hw.2
      refine ⟨(a, b), (cs.drop o).take c.k, cs.drop (o + c.k), ?_, ?_, hb⟩
      · rw [← List.drop_drop, List.take_append_drop]
      · rw [ho, c.size] at ha
        exact ha
def Codec.struct {fs : Array Field} (ht : P.underlying t = some (.struct fs)) (r : FCodec P fs.toList 0 α) (hs : P.cellsOf t = r.k) : Codec P t α where
  k := r.k
  rep := r.rep
  size := hs
  len := r.len
  one := r.one
  later := r.later
  get {H enc w fuel cs x} h hw := by
    obtain ⟨xs, n, _, hx, hl, hxl, hf⟩ := DataW.trod_struct ht h
    rw [hx] at hw
    simp only [DataW.weights, ht] at hw
    exact r.get (cs := cs) (xs := xs) (by omega) (by simpa using hxl) (fun i f hi => hf i f (by simpa using hi)) hw

def Codec.slice (ht : P.underlying t = some (.slice e)) (hs : P.cellsOf t = 1) (c : Codec P e α) (hk : 0 < c.k) : Codec P t (List α) where
  k := 1
  rep w cs l := ∃ (v : Value) (css : List (List Value)), cs = [v] ∧ css.length = l.length ∧ Rd w v l.length css.flatten ∧ (∀ (i : Nat) (x : List Value) (a : α), css[i]? = some x → l[i]? = some a → c.rep w x a) ∧ l.length * P.bytesOf e ≤ reachBytes
  size := hs
  len := fun ⟨v, css, h, _⟩ => by rw [h]; rfl
  one := fun ⟨v, css, h, _, ⟨ao, cap, hv, _⟩, _⟩ u hu => by rw [h] at hu; simp at hu; rw [hu, hv]; rfl
  later := fun ⟨v, css, h, h1, h2, h3, h4⟩ hb => ⟨v, css, h, h1, h2.later hb, fun i x a hx ha => c.later (h3 i x a hx ha) hb, h4⟩
  get {H enc w fuel cs x} h hw := by
    rcases DataW.trod_slice ht h with ⟨h1, h2⟩ | ⟨a, len, cap, elems, rest, n, _, hcs, hx, _, hlc, hcm, hel, hget, _, _⟩
    · exact ⟨[], _, [], h1, rfl, Rd.nil w, by simp, by simp⟩
    · rw [hx] at hw
      simp only [DataW.weights, ht, List.all_cons, Bool.and_eq_true, List.all_append] at hw
      obtain ⟨hw0, hw1, _⟩ := hw
      have hwe : ∀ y ∈ elems, (y.1.weights P e).all (fun n => decide (n ≤ reachBytes)) = true := by
        clear hget hx hel
        induction elems with
        | nil => simp
        | cons y ys ih =>
          simp only [List.map_cons, DataW.weightsAll, List.all_append, Bool.and_eq_true] at hw1
          intro z hz
          rcases List.mem_cons.1 hz with rfl | hz
          · exact hw1.1
          · exact ih (by simp at hw0 ⊢; exact Nat.le_trans (Nat.mul_le_mul_right _ (by omega)) hw0) hw1.2 z hz
      have each : ∀ i, i < len → ∃ y : List Value × α, c.rep w y.1 y.2 ∧ ∀ j, j < c.k → w.cell? (a.add (i * c.k + j)) = y.1[j]? := by
        intro i hi
        have hg := hget i hi
        rw [List.getElem?_eq_getElem (by omega), Option.bind_eq_some_iff] at hg
        obtain ⟨cs', hc1, hc2⟩ := hg
        obtain ⟨b, hb⟩ := c.get hc2 (hwe _ (List.getElem_mem _))
        obtain ⟨_, hl', hcell⟩ := World.cells?_some hc1
        refine ⟨(cs', b), hb, fun j hj => ?_⟩
        rw [← hcell j (by rw [c.size]; exact hj), c.size, add_add]
      have hbuild : ∀ m, m ≤ len → ∃ ys : List (List Value × α), ys.length = m ∧ ∀ i y, ys[i]? = some y → c.rep w y.1 y.2 ∧ ∀ j, j < c.k → w.cell? (a.add (i * c.k + j)) = y.1[j]? := by
        intro m
        induction m with
        | zero => exact fun _ => ⟨[], rfl, by simp⟩
        | succ m ih =>
          intro hm
          obtain ⟨ys, hy1, hy2⟩ := ih (by omega)
          obtain ⟨y, hy⟩ := each m (by omega)
          refine ⟨ys ++ [y], by simp [hy1], fun i z hz => ?_⟩
          by_cases hi : i < m
          · rw [List.getElem?_append_left (by omega)] at hz
            exact hy2 i z hz
          · have hil := (List.getElem?_eq_some_iff.1 hz).1
            simp at hil
            have : i = m := by omega
            subst this
            rw [List.getElem?_append_right (by omega)] at hz
            simp [hy1] at hz
            subst hz
            exact hy
      obtain ⟨ys, hy1, hy2⟩ := hbuild len (Nat.le_refl _)
      refine ⟨ys.map (·.2), _, ys.map (·.1), hcs, by simp, ?_, ?_, ?_⟩
      · rw [List.length_map, hy1]
        have hfl : ∀ (i : Nat) (u : Value), ((ys.map (·.1)).flatten)[i]? = some u → w.cell? (a.add i) = some u := by
          have key : ∀ (zs : List (List Value × α)) (o : Nat), (∀ i y, zs[i]? = some y → c.rep w y.1 y.2 ∧ ∀ j, j < c.k → w.cell? (a.add ((o + i) * c.k + j)) = y.1[j]?) →
              ∀ (i : Nat) (u : Value), ((zs.map (·.1)).flatten)[i]? = some u → w.cell? (a.add (o * c.k + i)) = some u := by
            intro zs
            induction zs with
            | nil => intro o _ i u hu; simp at hu
            | cons z zs ih =>
              intro o hz i u hu
              obtain ⟨hz1, hz2⟩ := hz 0 z rfl
              have hzl := c.len hz1
              rw [List.map_cons, List.flatten_cons] at hu
              by_cases hi : i < c.k
              · rw [List.getElem?_append_left (by omega)] at hu
                have := hz2 i hi
                rw [Nat.add_zero] at this
                rw [this, hu]
              · rw [List.getElem?_append_right (by omega), hzl] at hu
                have := ih (o + 1) (fun i y hy => by
                  have := hz (i + 1) y (by simpa using hy)
                  rwa [show o + 1 + i = o + (i + 1) by omega]) (i - c.k) u hu
                rwa [Nat.add_mul, Nat.one_mul, Nat.add_assoc, Nat.add_sub_cancel' (by omega)] at this
          intro i u hu
          have := key ys 0 (fun i y hy => by rw [Nat.zero_add]; exact hy2 i y hy) i u hu
          rwa [Nat.zero_mul, Nat.zero_add] at this
        refine ⟨some a, cap, rfl, hlc, hcm, fun hne => ?_⟩
        obtain ⟨b, off, spot⟩ := a
        obtain ⟨z, zs, hzz⟩ := List.exists_cons_of_ne_nil hne
        have h00 := hfl 0 z (by rw [hzz]; rfl)
        have hspot : spot = none := by simpa [Addr.add] using World.cell?_spot h00
        subst hspot
        exact ⟨b, off, rfl, fun j u hu => by have := hfl j u hu; rwa [Addr.add_lit] at this⟩
      · intro i x' a' hx' ha'
        rw [List.getElem?_map, Option.map_eq_some_iff] at hx' ha'
        obtain ⟨y, hy, rfl⟩ := hx'
        obtain ⟨y', hy', rfl⟩ := ha'
        rw [hy] at hy'
        injection hy' with hy'
        subst hy'
        exact (hy2 i y hy).1
      · rw [List.length_map, hy1]
        simp only [List.length_map, decide_eq_true_eq] at hw0
        exact Nat.le_trans (Nat.mul_le_mul_right _ (by omega)) hw0
theorem bs_of_slice {ht : P.underlying t = some (.slice e)} {hs : P.cellsOf t = 1} {he : P.underlying e = some (.int .u8)} {hs' : P.cellsOf e = 1} {hk : 0 < (Codec.u8 he hs').k} {w : World} {cs : List Value} {l : List UInt8}
    (h : (Codec.slice ht hs (Codec.u8 he hs') hk).rep w cs l) : ∃ v, cs = [v] ∧ Bs w v l ∧ l.length * P.bytesOf e ≤ reachBytes := by
  obtain ⟨v, css, h1, h2, h3, h4, h5⟩ := h
  refine ⟨v, h1, ?_, h5⟩
  have : css.flatten = l.map ub := by
    clear h3 h5 h1
    induction css generalizing l with
    | nil => cases l with | nil => rfl | cons => simp at h2
    | cons c css ih =>
      cases l with
      | nil => simp at h2
      | cons a l =>
        rw [List.flatten_cons, List.map_cons, ih (by simpa using h2) (fun i x a hx ha => h4 (i + 1) x a (by simpa using hx) (by simpa using ha))]
        have := h4 0 c a rfl rfl
        have : c = [ub a] := this
        rw [this]; rfl
  rw [this] at h3
  exact h3
theorem ints_of_slice {kd : IntKind} {ht : P.underlying t = some (.slice e)} {hs : P.cellsOf t = 1} {he : P.underlying e = some (.int kd)} {hs' : P.cellsOf e = 1} {hk : 0 < (Codec.int kd he hs').k} {w : World} {cs : List Value} {l : List Int}
    (h : (Codec.slice ht hs (Codec.int kd he hs') hk).rep w cs l) : ∃ v, cs = [v] ∧ Rd w v l.length (l.map (Value.int kd)) ∧ l.length * P.bytesOf e ≤ reachBytes ∧ ∀ x ∈ l, (Lit.int kd x).wf = true := by
  obtain ⟨v, css, h1, h2, h3, h4, h5⟩ := h
  refine ⟨v, h1, ?_, h5, fun x hx => ?_⟩
  · have : css.flatten = l.map (Value.int kd) := by
      clear h3 h5 h1
      induction css generalizing l with
      | nil => cases l with | nil => rfl | cons => simp at h2
      | cons c css ih =>
        cases l with
        | nil => simp at h2
        | cons a l =>
          rw [List.flatten_cons, List.map_cons, ih (by simpa using h2) (fun i x a hx ha => h4 (i + 1) x a (by simpa using hx) (by simpa using ha))]
          have : c = [.int kd a] := (h4 0 c a rfl rfl).1
          rw [this]; rfl
    rw [this] at h3
    exact h3
  · obtain ⟨i, hi, rfl⟩ := List.getElem_of_mem hx
    exact (h4 i css[i] l[i] (List.getElem?_eq_getElem (by omega)) (List.getElem?_eq_getElem hi)).2
theorem Codec.opens (c : Codec P t α) {H : Type} {enc : TypeId × Value → H} {w : World} {v : Value} {d : DataW H} {p : List MemPlace} (h : DataW.Trod enc P w 0 (fun _ => true) true t v d p)
    (hw : (d.weights P t).all (fun n => decide (n ≤ reachBytes)) = true) : ∃ a, c.rep w v.cells.toList a := by
  obtain ⟨fuel, hf⟩ := h
  exact c.get hf hw
theorem trod_lt_all {H : Type} {enc : TypeId × Value → H} {w : World} {v : Value} {d : DataW H} {p : List MemPlace} (h : DataW.Trod enc P w 0 (fun _ => true) true t v d p) : ∀ x ∈ p, x.block < w.heap.size := by
  obtain ⟨m, hm⟩ := h
  exact DataW.trod_lt m _ _ _ hm
theorem weights_split {H : Type} {t : TypeId} {ts : List TypeId} {d : DataW H} {ds : List (DataW H)} (h : (DataW.weightsEach P (t :: ts) (d :: ds)).all (fun n => decide (n ≤ reachBytes)) = true) :
    (d.weights P t).all (fun n => decide (n ≤ reachBytes)) = true ∧ (DataW.weightsEach P ts ds).all (fun n => decide (n ≤ reachBytes)) = true := by
  simpa [DataW.weightsEach, List.all_append, Bool.and_eq_true] using h
end
end Go.Proofs.YtghjffgaebnhiaaDoor
end
section
/- The codecs of this seat's argument types. -/
namespace Go.Proofs.YtghjffgaebnhiaaDoor
set_option linter.unusedVariables false
set_option linter.unusedSimpArgs false
abbrev cInt : Codec Tryd.prog 3 Int := Codec.int .i64 Tryd.underlying3 (by kernel_rfl)
abbrev cU64 : Codec Tryd.prog 22 Int := Codec.int .u64 Tryd.underlying22 (by kernel_rfl)
abbrev cBytes : Codec Tryd.prog 23 (List UInt8) := Codec.slice Tryd.underlying23 (by kernel_rfl) (Codec.u8 Tryd.underlying5 (by kernel_rfl)) (by decide)
theorem bytesU8 : Tryd.prog.bytesOf 5 = 1 := by kernel_rfl
set_option maxRecDepth 100000 in
theorem cBytes_bs {w : World} {v : Value} {l : List UInt8} (h : cBytes.rep w [v] l) : Bs w v l ∧ l.length ≤ 140737488351232 := by
  obtain ⟨v', h1, h2, h3⟩ := bs_of_slice h
  rw [bytesU8] at h3
  simp only [List.cons.injEq, and_true] at h1
  subst h1
  exact ⟨h2, by simp only [reachBytes] at h3; omega⟩
/-- element i of a slice of k cells each. -/
theorem rd_elem {P : Program} {t e : TypeId} {α : Type} {ht : P.underlying t = some (.slice e)} {hs : P.cellsOf t = 1} {c : Codec P e α} {hk : 0 < c.k} {w : World} {v : Value} {l : List α}
    (h : (Codec.slice ht hs c hk).rep w [v] l) : ∃ ao cap, v = .slice ao l.length cap ∧ l.length ≤ cap ∧ cap ≤ maxLen ∧ l.length * P.bytesOf e ≤ reachBytes ∧
      (0 < l.length → ∃ b off, ao = some ⟨b, off, none⟩ ∧ ∀ i a, l[i]? = some a → ∃ x, c.rep w x a ∧ ∀ j u, x[j]? = some u → w.cell? ⟨b, off + (i * c.k + j), none⟩ = some u) := by
  obtain ⟨v', css, h1, h2, ⟨ao, cap, hv, h3, h4, h5⟩, h6, h7⟩ := h
  simp only [List.cons.injEq, and_true] at h1
  subst h1
  refine ⟨ao, cap, hv, h3, h4, h7, fun hn => ?_⟩
  have hlen : ∀ x ∈ css, x.length = c.k := fun x hx => by
    obtain ⟨i, hi, rfl⟩ := List.getElem_of_mem hx
    exact c.len (h6 i _ _ (List.getElem?_eq_getElem hi) (List.getElem?_eq_getElem (by omega)))
  have hidx : ∀ (cs : List (List Value)), (∀ x ∈ cs, x.length = c.k) → ∀ i x j u, cs[i]? = some x → x[j]? = some u → cs.flatten[i * c.k + j]? = some u := by
    intro cs
    induction cs with
    | nil => intro _ i x j u hx; simp at hx
    | cons y ys ih =>
      intro hl i x j u hx hu
      have hy := hl y (by simp)
      rw [List.flatten_cons]
      cases i with
      | zero =>
        obtain rfl : y = x := by simpa using hx
        rw [Nat.zero_mul, Nat.zero_add, List.getElem?_append_left (List.getElem?_eq_some_iff.1 hu).1]
        exact hu
      | succ i =>
        rw [List.getElem?_append_right (by rw [hy, Nat.add_mul]; omega), hy, Nat.add_mul, Nat.one_mul, show i * c.k + c.k + j - c.k = i * c.k + j by omega]
        exact ih (fun z hz => hl z (by simp [hz])) i x j u (by simpa using hx) hu
  have hne : css.flatten ≠ [] := by
    intro he
    have h0 : 0 < css.length := by omega
    have hk0 : 0 < css[0].length := by rw [hlen _ (List.getElem_mem _)]; exact hk
    have := hidx css hlen 0 css[0] 0 css[0][0] (List.getElem?_eq_getElem h0) (List.getElem?_eq_getElem hk0)
    rw [he] at this
    simp at this
  obtain ⟨b, off, ha, hc⟩ := h5 hne
  refine ⟨b, off, ha, fun i a hi => ?_⟩
  have hil : i < css.length := by rw [h2]; exact (List.getElem?_eq_some_iff.1 hi).1
  exact ⟨css[i], h6 i _ a (List.getElem?_eq_getElem hil) hi, fun j u hu => hc _ _ (hidx css hlen i _ j u (List.getElem?_eq_getElem hil) hu)⟩
end Go.Proofs.YtghjffgaebnhiaaDoor
end
section
/- The codec of lists of ranges. -/
namespace Go.Proofs.YtghjffgaebnhiaaDoor
set_option linter.unusedVariables false
set_option linter.unusedSimpArgs false
open Go.RowKit
abbrev cRange : Codec Tryd.prog 57 (Int × Int) :=
  (Codec.struct Tryd.underlying57 (FCodec.cons rfl cInt (FCodec.cons rfl cInt (FCodec.nil _ _))) (by kernel_rfl)).map fun x => (x.1, x.2.1)
abbrev cRanges : Codec Tryd.prog 24 (List (Int × Int)) := Codec.slice Tryd.underlying24 (by kernel_rfl) cRange (by decide)
theorem bytesRange : Tryd.prog.bytesOf 57 = 16 := by kernel_rfl
/-- both ends are ints. -/
def In64 (l : List (Int × Int)) : Prop := ∀ g ∈ l, -9223372036854775808 ≤ g.1 ∧ g.1 ≤ 9223372036854775807 ∧ -9223372036854775808 ≤ g.2 ∧ g.2 ≤ 9223372036854775807
theorem wf_int {n : Int} (h : (Lit.int .i64 n).wf = true) : -9223372036854775808 ≤ n ∧ n ≤ 9223372036854775807 := by
  have h1 : IntKind.i64.min = -9223372036854775808 := by decide
  have h2 : IntKind.i64.max = 9223372036854775807 := by decide
  simp only [Lit.wf, Bool.and_eq_true, decide_eq_true_eq, h1, h2] at h
  exact h
theorem cRange_rd {w : World} {cs : List Value} {g : Int × Int} (h : cRange.rep w cs g) : cs = rv g ∧ In64 [g] := by
  obtain ⟨⟨a, b, u⟩, rfl, c1, c2, rfl, ⟨rfl, ha⟩, c3, c4, rfl, ⟨rfl, hb⟩, h4⟩ := h
  obtain rfl : c4 = [] := h4
  have ha' := wf_int ha
  have hb' := wf_int hb
  simp only at ha' hb'
  exact ⟨rfl, fun g hg => by simp at hg; subst hg; simp only; omega⟩
set_option maxRecDepth 100000 in
theorem cRanges_rd {w : World} {v : Value} {l : List (Int × Int)} (h : cRanges.rep w [v] l) : Rgs w v l ∧ l.length * 16 ≤ 140737488351232 ∧ In64 l := by
  obtain ⟨ao, cap, rfl, h1, h2, h3, h4⟩ := rd_elem h
  rw [bytesRange] at h3
  simp only [reachBytes] at h3
  have hl : l.length * 16 ≤ 140737488351232 := by omega
  by_cases hn : 0 < l.length
  · obtain ⟨b, off, rfl, h5⟩ := h4 hn
    have key : ∀ i x, l[i]? = some x → In64 [x] ∧ ∀ j u, (rv x)[j]? = some u → w.cell? ⟨b, off + (i * 2 + j), none⟩ = some u := fun i x hx => by
      obtain ⟨cs, hc, hcell⟩ := h5 i x hx
      obtain ⟨rfl, h64⟩ := cRange_rd hc
      exact ⟨h64, fun j u hu => hcell j u hu⟩
    refine ⟨⟨_, cap, rfl, h1, h2, fun _ => ⟨b, off, rfl, fun j u hu => ?_⟩⟩, hl, fun g hg => ?_⟩
    · have hj : j < l.length * 2 := by
        have := (List.getElem?_eq_some_iff.1 hu).1
        rwa [rvs_len] at this
      have hi : j / 2 < l.length := by omega
      obtain ⟨e0, e1⟩ := rvs_at l (j / 2) _ (List.getElem?_eq_getElem hi)
      obtain ⟨_, hc⟩ := key (j / 2) _ (List.getElem?_eq_getElem hi)
      rcases Nat.mod_two_eq_zero_or_one j with hm | hm
      · have hj2 : j / 2 * 2 = j := by omega
        rw [hj2] at e0
        rw [e0] at hu
        have := hc 0 u hu
        rwa [Nat.add_zero, hj2] at this
      · have hj2 : j / 2 * 2 + 1 = j := by omega
        rw [hj2] at e1
        rw [e1] at hu
        have := hc 1 u hu
        rwa [hj2] at this
    · obtain ⟨i, hi, rfl⟩ := List.mem_iff_getElem.1 hg
      exact (key i _ (List.getElem?_eq_getElem hi)).1 _ (by simp)
  · obtain rfl : l = [] := List.length_eq_zero_iff.1 (by omega)
    exact ⟨Rd.empty h2, hl, fun g hg => by simp at hg⟩
end Go.Proofs.YtghjffgaebnhiaaDoor
end
section
/- How a unit reads. -/
namespace Go.Proofs.YtghjffgaebnhiaaDoor
set_option linter.unusedVariables false
set_option linter.unusedSimpArgs false
open Go.RowKit
abbrev UT := Int × Int × Int × Int × Int × Int × List UInt8 × Int × List (Int × Int) × Unit
abbrev cUnit : Codec Tryd.prog 26 UT :=
  Codec.struct Tryd.underlying26 (FCodec.cons rfl cInt (FCodec.cons rfl cU64 (FCodec.cons rfl cU64 (FCodec.cons rfl cInt (FCodec.cons rfl cInt (FCodec.cons rfl cInt (FCodec.cons rfl cBytes (FCodec.cons rfl cInt (FCodec.cons rfl cRanges (FCodec.nil _ _)))))))))) (by kernel_rfl)
def u64n (x : Int) : UInt64 := UInt64.ofNat x.toNat
theorem u64n_eq {x : Int} (h : (Lit.int .u64 x).wf = true) : ((u64n x).toNat : Int) = x := by
  simp only [Lit.wf, Bool.and_eq_true, decide_eq_true_eq] at h
  have e1 : IntKind.u64.min = 0 := by decide
  have e2 : IntKind.u64.max = 18446744073709551615 := by decide
  unfold u64n
  rw [UInt64.toNat_ofNat_of_lt' (by show x.toNat < 18446744073709551616; omega)]
  omega
def udT (x : UT) : UD := ⟨x.1, u64n x.2.1, u64n x.2.2.1, x.2.2.2.1, x.2.2.2.2.1, x.2.2.2.2.2.1, x.2.2.2.2.2.2.1, x.2.2.2.2.2.2.2.1, x.2.2.2.2.2.2.2.2.1⟩
def ucells (u : UD) (dv gv : Value) : List Value := [.int .i64 u.kind, .int .u64 (u.ep.toNat : Int), .int .u64 (u.ses.toNat : Int), .int .i64 u.path, .int .i64 u.idx, .int .i64 u.cnt, dv, .int .i64 u.code, gv]
/-- how a unit's lists read. -/
structure URd (w : World) (u : UD) (dv gv : Value) : Prop where
  dat : Bs w dv u.data
  got : Rgs w gv u.got
  l1 : u.data.length ≤ 140737488351232
  l2 : u.got.length ≤ 8796093022000
theorem URd.later {w w' : World} {u : UD} {dv gv : Value} (h : URd w u dv gv) (hb : Below w.heap.size w w') : URd w' u dv gv := ⟨Rd.later h.dat hb, h.got.later hb, h.l1, h.l2⟩
theorem rd_far {w : World} {v : Value} {n : Nat} {cs : List Value} (h : Rd w v n cs) (hc : cs ≠ []) : ∀ b, v.ownBlock = some b → b < w.heap.size := fun b e => by
  obtain ⟨b', off, cap, rfl, -, -, h1, -⟩ := h.form hc
  have : b' = b := Option.some.inj e
  omega
theorem URd.dfar {w : World} {u : UD} {dv gv : Value} (h : URd w u dv gv) : u.data ≠ [] → ∀ b, dv.ownBlock = some b → b < w.heap.size := fun hn => rd_far h.dat (by simpa using hn)
theorem URd.gfar {w : World} {u : UD} {dv gv : Value} (h : URd w u dv gv) : u.got ≠ [] → ∀ b, gv.ownBlock = some b → b < w.heap.size := fun hn => rd_far h.got fun e => hn (by
  have := rvs_len u.got
  rw [e] at this
  exact List.length_eq_zero_iff.1 (by simp at this; omega))
set_option maxRecDepth 100000 in
theorem cUnit_rd {w : World} {cs : List Value} {x : UT} (h : cUnit.rep w cs x) : ∃ dv gv, cs = ucells (udT x) dv gv ∧ URd w (udT x) dv gv := by
  obtain ⟨a, b, c, d, e, f, g, hh, i, u⟩ := x
  obtain ⟨c1, c2, rfl, ⟨rfl, wa⟩, c3, c4, rfl, ⟨rfl, wb⟩, c5, c6, rfl, ⟨rfl, wc⟩, c7, c8, rfl, ⟨rfl, wd⟩, c9, c10, rfl, ⟨rfl, we⟩, c11, c12, rfl, ⟨rfl, wf⟩, c13, c14, rfl, hg, c15, c16, rfl, ⟨rfl, wh⟩, c17, c18, rfl, hi, h9⟩ := h
  obtain rfl : c18 = [] := h9
  simp only at hg hi
  obtain ⟨dv, rfl⟩ : ∃ dv, c13 = [dv] := by obtain ⟨v, css, h, _⟩ := hg; exact ⟨v, h⟩
  obtain ⟨gv, rfl⟩ : ∃ gv, c17 = [gv] := by obtain ⟨v, css, h, _⟩ := hi; exact ⟨v, h⟩
  obtain ⟨h1, h2⟩ := cBytes_bs hg
  obtain ⟨h3, h4, -⟩ := cRanges_rd hi
  refine ⟨dv, gv, ?_, h1, h3, h2, by show i.length ≤ _; omega⟩
  show [_, _, _, _, _, _, _, _, _] = [_, _, _, _, _, _, _, _, _]
  have e1 : ((udT (a, b, c, d, e, f, g, hh, i, u)).ep.toNat : Int) = b := u64n_eq wb
  have e2 : ((udT (a, b, c, d, e, f, g, hh, i, u)).ses.toNat : Int) = c := u64n_eq wc
  rw [e1, e2]
  rfl
end Go.Proofs.YtghjffgaebnhiaaDoor
end
