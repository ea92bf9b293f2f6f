/- The codecs of this seat's argument types. -/
import Derived.Test.YtghjffgaebnhiaaDoorProg
import Derived.Test.YtghjffgaebnhiaaDoorCodec
namespace Go.Proofs.YtghjffgaebnhiaaDoor
set_option linter.unusedVariables false
set_option linter.unusedSimpArgs false
abbrev cInt : Codec Tryd.prog 3 Int := Codec.int .i64 Tryd.underlying3 (by kernel_rfl)
abbrev cU64 : Codec Tryd.prog 22 Int := Codec.int .u64 Tryd.underlying22 (by kernel_rfl)
abbrev cBytes : Codec Tryd.prog 23 (List UInt8) := Codec.slice Tryd.underlying23 (by kernel_rfl) (Codec.u8 Tryd.underlying5 (by kernel_rfl)) (by decide)
theorem bytesU8 : Tryd.prog.bytesOf 5 = 1 := by kernel_rfl
set_option maxRecDepth 100000 in
theorem cBytes_bs {w : World} {v : Value} {l : List UInt8} (h : cBytes.rep w [v] l) : Bs w v l ∧ l.length ≤ 140737488351232 := by
  obtain ⟨v', h1, h2, h3⟩ := bs_of_slice h
  rw [bytesU8] at h3
  simp only [List.cons.injEq, and_true] at h1
  subst h1
  exact ⟨h2, by simp only [reachBytes] at h3; omega⟩
/-- element i of a slice of k cells each. -/
theorem rd_elem {P : Program} {t e : TypeId} {α : Type} {ht : P.underlying t = some (.slice e)} {hs : P.cellsOf t = 1} {c : Codec P e α} {hk : 0 < c.k} {w : World} {v : Value} {l : List α}
    (h : (Codec.slice ht hs c hk).rep w [v] l) : ∃ ao cap, v = .slice ao l.length cap ∧ l.length ≤ cap ∧ cap ≤ maxLen ∧ l.length * P.bytesOf e ≤ reachBytes ∧
      (0 < l.length → ∃ b off, ao = some ⟨b, off, none⟩ ∧ ∀ i a, l[i]? = some a → ∃ x, c.rep w x a ∧ ∀ j u, x[j]? = some u → w.cell? ⟨b, off + (i * c.k + j), none⟩ = some u) := by
  obtain ⟨v', css, h1, h2, ⟨ao, cap, hv, h3, h4, h5⟩, h6, h7⟩ := h
  simp only [List.cons.injEq, and_true] at h1
  subst h1
  refine ⟨ao, cap, hv, h3, h4, h7, fun hn => ?_⟩
  have hlen : ∀ x ∈ css, x.length = c.k := fun x hx => by
    obtain ⟨i, hi, rfl⟩ := List.getElem_of_mem hx
    exact c.len (h6 i _ _ (List.getElem?_eq_getElem hi) (List.getElem?_eq_getElem (by omega)))
  have hidx : ∀ (cs : List (List Value)), (∀ x ∈ cs, x.length = c.k) → ∀ i x j u, cs[i]? = some x → x[j]? = some u → cs.flatten[i * c.k + j]? = some u := by
    intro cs
    induction cs with
    | nil => intro _ i x j u hx; simp at hx
    | cons y ys ih =>
      intro hl i x j u hx hu
      have hy := hl y (by simp)
      rw [List.flatten_cons]
      cases i with
      | zero =>
        obtain rfl : y = x := by simpa using hx
        rw [Nat.zero_mul, Nat.zero_add, List.getElem?_append_left (List.getElem?_eq_some_iff.1 hu).1]
        exact hu
      | succ i =>
        rw [List.getElem?_append_right (by rw [hy, Nat.add_mul]; omega), hy, Nat.add_mul, Nat.one_mul, show i * c.k + c.k + j - c.k = i * c.k + j by omega]
        exact ih (fun z hz => hl z (by simp [hz])) i x j u (by simpa using hx) hu
  have hne : css.flatten ≠ [] := by
    intro he
    have h0 : 0 < css.length := by omega
    have hk0 : 0 < css[0].length := by rw [hlen _ (List.getElem_mem _)]; exact hk
    have := hidx css hlen 0 css[0] 0 css[0][0] (List.getElem?_eq_getElem h0) (List.getElem?_eq_getElem hk0)
    rw [he] at this
    simp at this
  obtain ⟨b, off, ha, hc⟩ := h5 hne
  refine ⟨b, off, ha, fun i a hi => ?_⟩
  have hil : i < css.length := by rw [h2]; exact (List.getElem?_eq_some_iff.1 hi).1
  exact ⟨css[i], h6 i _ a (List.getElem?_eq_getElem hil) hi, fun j u hu => hc _ _ (hidx css hlen i _ j u (List.getElem?_eq_getElem hil) hu)⟩
end Go.Proofs.YtghjffgaebnhiaaDoor
