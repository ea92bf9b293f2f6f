/- The calls on a wheel and on the reference's wheel, over the list of timers. -/
import Derived.Test.YtnnkchgkebcblaaWAdv
import Derived.Test.YtnnkchgkebcblaaWNext
import Derived.Test.YtnnkchgkebcblaaWRef2
import Derived.Test.YtnnkchgkebcblaaWRef4
namespace Go.Proofs.Ytnnkchgkebcblaa
set_option linter.unusedVariables false
set_option linter.unusedSimpArgs false
open Go.RowKit
structure Wh (w : World) (g : Nat) (S : Nat → Prop) (now sets : Nat) (T : List Tm) : Prop where
  len : T.length ≤ sets
  ex : ∃ mb sl R m N, WAt w g mb sl now sets R m N ∧ TInv now sets T R m N ∧ ∀ b, WF g mb sl b ↔ S b
structure Rf (w : World) (r : Nat) (S : Nat → Prop) (now : Nat) (T : List Tm) : Prop where
  ex : ∃ v, RfAt w r now v T ∧ ∀ b, RF r v b ↔ S b
/-- what a call on the holder of the blocks S does: it keeps to them and to new ones. -/
structure Turn (S S' : Nat → Prop) (w w' : World) : Prop where
  same : Same S w w'
  foot : ∀ b, S' b → S b ∨ w.heap.size ≤ b
theorem Turn.refl (S : Nat → Prop) (w : World) : Turn S S w w := ⟨Same.refl _ _, fun _ h => .inl h⟩
theorem Turn.of_below {w w' : World} (h : Below w.heap.size w w') (S : Nat → Prop) : Turn S S w w' := ⟨Same.of_below h S, fun _ h => .inl h⟩
theorem Turn.trans {S S' S'' : Nat → Prop} {w w' w'' : World} (h : Turn S S' w w') (k : Turn S' S'' w' w'') : Turn S S'' w w'' :=
  ⟨h.same.trans k.same fun i hi e => by
    rcases h.foot i e with e' | e'
    · exact e'
    · omega, fun b hb => by
    rcases k.foot b hb with e | e
    · exact h.foot b e
    · exact .inr (Nat.le_trans h.same.size e)⟩
section
variable {w w' : World} {g r : Nat} {S U : Nat → Prop} {now sets : Nat} {T : List Tm}
theorem Wh.same (h : Wh w g S now sets T) (hs : Same U w w') (hS : ∀ b, S b → ¬ U b) : Wh w' g S now sets T := by
  obtain ⟨hl, mb, sl, R, m, N, h1, h2, h3⟩ := h
  exact ⟨hl, mb, sl, R, m, N, h1.same hs fun b hb => hS b ((h3 b).1 hb), h2, h3⟩
theorem Wh.later (h : Wh w g S now sets T) (hb : Below w.heap.size w w') : Wh w' g S now sets T := h.same (Same.of_below hb no) fun _ _ h => h
theorem Wh.lt (h : Wh w g S now sets T) {b : Nat} (hb : S b) : b < w.heap.size := by
  obtain ⟨hl, mb, sl, R, m, N, h1, h2, h3⟩ := h
  exact h1.foot_lt ((h3 b).2 hb)
theorem Wh.ids (h : Wh w g S now sets T) : T.Pairwise fun a b => a.id ≠ b.id := by
  obtain ⟨hl, mb, sl, R, m, N, h1, h2, h3⟩ := h
  exact h2.ids
theorem Wh.top (h : Wh w g S now sets T) : now ≤ 281474976710655 := by
  obtain ⟨hl, mb, sl, R, m, N, h1, h2, h3⟩ := h
  exact h2.top
theorem Wh.live (h : Wh w g S now sets T) : ∀ t ∈ T, t.nev = false → now < t.at_ ∧ t.at_ ≤ 281474976710655 := by
  obtain ⟨hl, mb, sl, R, m, N, h1, h2, h3⟩ := h
  exact h2.live
theorem Wh.rings_nil (h : Wh w g S now sets T) : rings T now = [] := rings_none fun t ht hv => (h.live t ht hv).1
theorem Wh.stay_all (h : Wh w g S now sets T) : stay T now = T := by
  obtain ⟨hl, mb, sl, R, m, N, h1, h2, h3⟩ := h
  exact h2.stay_all
theorem Rf.same (h : Rf w r S now T) (hs : Same U w w') (hS : ∀ b, S b → ¬ U b) : Rf w' r S now T := by
  obtain ⟨v, h1, h2⟩ := h
  exact ⟨v, h1.same hs fun b hb => hS b ((h2 b).1 hb), h2⟩
theorem Rf.later (h : Rf w r S now T) (hb : Below w.heap.size w w') : Rf w' r S now T := h.same (Same.of_below hb no) fun _ _ h => h
theorem Rf.lt (h : Rf w r S now T) {b : Nat} (hb : S b) : b < w.heap.size := by
  obtain ⟨v, h1, h2⟩ := h
  exact h1.foot_lt ((h2 b).2 hb)
end
theorem without_len_le (T : List Tm) (i : Int) : (without T i).length ≤ T.length := List.length_filter_le _ _
theorem setR_len (T : List Tm) (i : Int) (x now ord : Nat) : (setR T i x now ord).length ≤ T.length + 1 := by
  unfold setR
  rw [List.length_append]
  have := without_len_le T i
  simp
  omega
theorem stay_len (T : List Tm) (n : Nat) : (stay T n).length ≤ T.length := List.length_filter_le _ _
theorem wh_new (x : Nat) (w : World) :
    Calls Try.prog 13 #[.int .u64 (x : Int)] w fun e w' => ∃ g S, e = .returned (.tuple #[.pointer (some ⟨g, 0, none⟩), .int .i64 0]) ∧ Wh w' g S (min x 281474976710655) 0 [] ∧ (∀ b, S b → w.heap.size ≤ b) ∧ Below w.heap.size w w' := by
  refine (new_any x w).mono ?_
  rintro e w' ⟨g, mb, rfl, h1, h2, h3, h4⟩
  refine ⟨g, _, rfl, ⟨Nat.le_refl _, mb, _, _, _, _, h1, TInv.made _ (by omega), fun b => Iff.rfl⟩, fun b hb => ?_, h4⟩
  rcases hb with rfl | rfl | ⟨y, hy, hb⟩
  · exact h2
  · exact h3
  · rw [List.eq_of_mem_replicate hy] at hb
    cases hb
theorem wh_now {w : World} {g : Nat} {S : Nat → Prop} {now sets : Nat} {T : List Tm} (h : Wh w g S now sets T) :
    Calls Try.prog 26 #[.pointer (some ⟨g, 0, none⟩)] w fun e w' => e = .returned (.int .u64 (now : Int)) ∧ w' = w := by
  obtain ⟨hl, mb, sl, R, m, N, h1, h2, h3⟩ := h
  exact now_any g mb sl now sets R m N w h1
theorem wh_len {w : World} {g : Nat} {S : Nat → Prop} {now sets : Nat} {T : List Tm} (h : Wh w g S now sets T) :
    Calls Try.prog 27 #[.pointer (some ⟨g, 0, none⟩)] w fun e w' => e = .returned (.int .i64 (T.length : Int)) ∧ w' = w := by
  obtain ⟨hl, mb, sl, R, m, N, h1, h2, h3⟩ := h
  have := len_any g mb sl now sets R m N w h1
  rwa [h2.cnt] at this
theorem lst_le : ∀ (l : List Tm) (a : Nat), lst a l ≤ a ∧ ∀ t ∈ l, lst a l ≤ t.at_
  | [], a => ⟨Nat.le_refl _, fun t h => by cases h⟩
  | t :: l, a => by
    obtain ⟨h1, h2⟩ := lst_le l (min a t.at_)
    have h1' : lst a (t :: l) ≤ min a t.at_ := h1
    exact ⟨by omega, fun u hu => by
      rcases List.mem_cons.1 hu with rfl | hu
      · omega
      · exact h2 u hu⟩
theorem lst_mem : ∀ (l : List Tm) (a : Nat), lst a l = a ∨ ∃ t ∈ l, lst a l = t.at_
  | [], a => .inl rfl
  | t :: l, a => by
    have e : lst a (t :: l) = lst (min a t.at_) l := rfl
    rw [e]
    rcases lst_mem l (min a t.at_) with h | ⟨u, hu, h⟩
    · rw [h]
      rcases Nat.le_total a t.at_ with h' | h'
      · exact .inl (Nat.min_eq_left h')
      · exact .inr ⟨t, List.mem_cons_self .., Nat.min_eq_right h'⟩
    · exact .inr ⟨u, List.mem_cons_of_mem _ hu, h⟩
theorem wh_next {w : World} {g : Nat} {S : Nat → Prop} {now sets : Nat} {T : List Tm} (h : Wh w g S now sets T) (hs : sets ≤ 4398046511104) :
    Calls Try.prog 25 #[.pointer (some ⟨g, 0, none⟩)] w fun e w' => e = .returned (.tuple #[.int .u64 ((((least T).getD 0 : Nat)) : Int), .bool (least T).isSome]) ∧ Below w.heap.size w w' := by
  obtain ⟨hl, mb, sl, R, m, N, h1, h2, h3⟩ := h
  refine (next_any g mb sl now sets R m N w h1 (by have := h2.top; omega) fun k => by have := h2.rowLen k; omega).mono ?_
  rintro e w' ⟨hB, ⟨rfl, hno⟩ | ⟨L, s, t, ts, hN, hR, rfl⟩⟩
  · refine ⟨?_, hB⟩
    have : least T = none := least_nil fun t ht => by
      cases hv : t.nev with
      | true => rfl
      | false =>
        have hlv := h2.live t ht hv
        obtain ⟨K, hK⟩ := lv_exists hlv.1 (show t.at_ < 64 ^ 8 by omega)
        have := hno K hK.lt (dg t.at_ K) hK.dig (dg_lt _ _)
        have hin : t ∈ R (K * 64 + dg t.at_ K) := h2.inR.2 ⟨ht, hv, hK.ix⟩
        rw [this] at hin
        cases hin
    rw [this]
    rfl
  · refine ⟨?_, hB⟩
    have hlt : now < 281474976710655 := by
      have ht : t ∈ R (L * 64 + s) := by rw [hR]; exact List.mem_cons_self ..
      have := h2.inR.1 ht
      have := h2.live t this.1 this.2.1
      omega
    have hmem : ∀ u, u ∈ t :: ts ↔ u ∈ T ∧ u.nev = false ∧ ix u.at_ now = L * 64 + s := fun u => by rw [← hR]; exact h2.inR
    have hle := lst_le (t :: ts) t.at_
    have hin : ∃ u ∈ t :: ts, lst t.at_ (t :: ts) = u.at_ := by
      rcases lst_mem (t :: ts) t.at_ with h | h
      · exact ⟨t, List.mem_cons_self .., h⟩
      · exact h
    have : least T = some (lst t.at_ (t :: ts)) := by
      refine least_eq ?_ fun u hu hv => ?_
      · obtain ⟨u, hu, e⟩ := hin
        exact ⟨u, ((hmem u).1 hu).1, by simp [on, e, ((hmem u).1 hu).2.1]⟩
      · by_cases hx : ix u.at_ now = L * 64 + s
        · exact hle.2 u ((hmem u).2 ⟨hu, hv, hx⟩)
        · obtain ⟨y, hy, e⟩ := hin
          have hy' := (hmem y).1 hy
          have c1 := (h2.cls hlt hN hu).1
          have c2 := (h2.cls hlt hN hy'.1).1
          rw [e]
          refine Nat.le_of_lt (lt_of_hi (l := L) ?_)
          rcases c1 with ⟨a, b⟩ | ⟨a, b⟩
          · exact absurd a hx
          · rcases c2 with ⟨c, d⟩ | ⟨c, d⟩
            · rw [d]; exact b
            · exact absurd hy'.2.2 c
    rw [this]
    rfl
theorem wh_stop {w : World} {g : Nat} {S : Nat → Prop} {now sets : Nat} {T : List Tm} (h : Wh w g S now sets T) (i : Int) (hi : (key i).wf = true) (hs : sets ≤ 4398046511104) :
    Calls Try.prog 31 #[.pointer (some ⟨g, 0, none⟩), .int .i64 i] w fun e w' => e = .returned (.bool (T.any fun t => t.id == i)) ∧ ∃ S', Wh w' g S' now sets (without T i) ∧ Turn S S' w w' := by
  obtain ⟨hl, mb, sl, R, m, N, h1, h2, h3⟩ := h
  refine (stop_any g mb sl now sets R m N w h1 i hi (fun p hp => h2.plOk hp) fun k => by have := h2.rowLen k; omega).mono ?_
  rintro e w' ⟨rfl, sl', a1, a2, a3⟩
  refine ⟨?_, _, ⟨Nat.le_trans (without_len_le T i) hl, mb, sl', _, _, _, a1, h2.stop i, fun b => Iff.rfl⟩, ⟨a2.mono fun b _ hb => (h3 b).1 hb, fun b hb => (a3 b hb).imp (h3 b).1 id⟩⟩
  congr 2
  rw [Bool.eq_iff_iff, h2.has i, List.any_eq_true]
  exact ⟨fun ⟨t, ht, e⟩ => ⟨t, ht, by simpa using e⟩, fun ⟨t, ht, e⟩ => ⟨t, ht, by simpa using e⟩⟩
theorem nevOf_max : nevOf 281474976710655 = true := by decide
theorem nevOf_lt {now : Nat} (h : now < 281474976710655) : nevOf now = false := by unfold nevOf; simp; omega
theorem wh_set {w : World} {g : Nat} {S : Nat → Prop} {now sets : Nat} {T : List Tm} (h : Wh w g S now sets T) (i : Int) (x : Nat) (hi : (key i).wf = true) (hs : sets < 4398046511104) :
    Calls Try.prog 28 #[.pointer (some ⟨g, 0, none⟩), .int .i64 i, .int .u64 (x : Int)] w fun e w' => e = .returned (.int .i64 0) ∧ ∃ S', Wh w' g S' now (sets + 1) (setR T i x now (sets + 1)) ∧ Turn S S' w w' := by
  obtain ⟨hl, mb, sl, R, m, N, h1, h2, h3⟩ := h
  have hR : ∀ k, (R k).length < 4611686018427 := fun k => by have := h2.rowLen k; omega
  have hR2 : ∀ k, (rowsStop R m i k).length < 4611686018427 := fun k => by have := (h2.stop i).rowLen k; have := without_len_le T i; omega
  have hN : cntd m i N < 4611686018427 := by have := (h2.stop i).cnt; have := without_len_le T i; omega
  have hlen := setR_len T i x now (sets + 1)
  rcases Nat.lt_or_ge now 281474976710655 with hlt | hge
  · refine (set_lt g mb sl now sets R m N w h1 i x hi (fun p hp => h2.plOk hp) hR hR2 hN (by omega) hlt).mono ?_
    rintro e w' ⟨rfl, sl', a1, a2, a3⟩
    refine ⟨rfl, _, ⟨by omega, mb, sl', _, _, _, a1, ?_, fun b => Iff.rfl⟩, ⟨a2.mono fun b _ hb => (h3 b).1 hb, fun b hb => (a3 b hb).imp (h3 b).1 id⟩⟩
    unfold setR
    rw [nevOf_lt hlt]
    exact h2.setLt i x hi hlt
  · have hnow : now = 281474976710655 := by have := h2.top; omega
    subst hnow
    refine (set_max g mb sl sets R m N w h1 i x hi (fun p hp => h2.plOk hp) hR hR2 hN (by omega)).mono ?_
    rintro e w' ⟨rfl, sl', a1, a2, a3⟩
    refine ⟨rfl, _, ⟨by omega, mb, sl', _, _, _, a1, ?_, fun b => Iff.rfl⟩, ⟨a2.mono fun b _ hb => (h3 b).1 hb, fun b hb => (a3 b hb).imp (h3 b).1 id⟩⟩
    unfold setR
    rw [nevOf_max]
    exact h2.setMax i x hi
/-- a list of numbers that is the caller's own. -/
structure Told (w0 w : World) (v : Value) (l : List Int) : Prop where
  own : w.ownsRow w0.heap.size 3 1 v l.length (l.map (Value.int .i64))
theorem wh_adv {w : World} {g : Nat} {S : Nat → Prop} {now sets : Nat} {T : List Tm} (h : Wh w g S now sets T) (x : Nat) (hs : sets ≤ 4398046511104) :
    Calls Try.prog 20 #[.pointer (some ⟨g, 0, none⟩), .int .u64 (x : Int)] w fun e w' => ∃ v S', e = .returned v ∧ w'.ownsRow w.heap.size 3 1 v (rings T (advTime x now)).length (ivs (rings T (advTime x now))) ∧ (rings T (advTime x now)).length ≤ T.length ∧
      Wh w' g S' (advTime x now) sets (stay T (advTime x now)) ∧ Turn S S' w w' ∧ ∀ b, v.ownBlock = some b → ¬ S' b := by
  have hrn := h.rings_nil
  have hst := h.stay_all
  obtain ⟨hl, mb, sl, R, m, N, h1, h2, h3⟩ := h
  rcases Nat.lt_or_ge now (min x 281474976710655) with hlt | hge
  · have he : advTime x now = min x 281474976710655 := Nat.max_eq_right (Nat.le_of_lt hlt)
    rw [he]
    refine (adv_yes g mb sl now sets T R m N w h1 h2 x _ rfl hlt (by omega) (by omega)).mono ?_
    rintro e w' ⟨v, sl', R', m', N', rfl, hA⟩
    have hlen := hA.len
    refine ⟨v, _, rfl, hA.own, by omega, ⟨Nat.le_trans (stay_len _ _) hl, mb, sl', R', m', N', hA.at_, hA.inv, fun b => Iff.rfl⟩, ⟨hA.same.mono fun b _ hb => (h3 b).1 hb, fun b hb => (hA.foot b hb).imp (h3 b).1 id⟩, own_far hA.own hA.at_⟩
  · have he : advTime x now = now := Nat.max_eq_left hge
    rw [he, hrn, hst]
    refine (adv_no g mb sl now sets R m N w h1 x hge).mono ?_
    rintro e w' ⟨rfl, rfl⟩
    exact ⟨_, S, rfl, World.ownsRow_nil _ _ _ _, Nat.zero_le _, ⟨hl, mb, sl, R, m, N, h1, h2, h3⟩, Turn.refl _ _, fun b hb => by cases hb⟩
theorem rf_new (x : Nat) (w : World) :
    Calls Try.prog 16 #[.int .u64 (x : Int)] w fun e w' => ∃ r S, e = .returned (.pointer (some ⟨r, 0, none⟩)) ∧ Rf w' r S (min x 281474976710655) [] ∧ (∀ b, S b → w.heap.size ≤ b) ∧ Below w.heap.size w w' := by
  refine (rnew_any x w).mono ?_
  rintro e w' ⟨r, rfl, h1, h2, h3⟩
  refine ⟨r, _, rfl, ⟨_, h1, fun b => Iff.rfl⟩, fun b hb => ?_, h3⟩
  rcases hb with rfl | hb
  · exact h2
  · cases hb
theorem rf_stop {w : World} {r : Nat} {S : Nat → Prop} {now : Nat} {T : List Tm} (h : Rf w r S now T) (i : Int) (hids : T.Pairwise fun a b => a.id ≠ b.id) (hl : T.length ≤ 4398046511104) :
    Calls Try.prog 38 #[.pointer (some ⟨r, 0, none⟩), .int .i64 i] w fun e w' => e = .returned (.bool (T.any fun t => t.id == i)) ∧ ∃ S', Rf w' r S' now (without T i) ∧ Turn S S' w w' := by
  obtain ⟨v, h1, h2⟩ := h
  refine (rstop_any r now v T w h1 i hids (by omega)).mono ?_
  rintro e w' ⟨rfl, v', a1, a2, a3⟩
  exact ⟨rfl, _, ⟨v', a1, fun b => Iff.rfl⟩, ⟨a2.mono fun b _ hb => (h2 b).1 hb, fun b hb => (a3 b hb).imp (h2 b).1 id⟩⟩
theorem rf_set {w : World} {r : Nat} {S : Nat → Prop} {now : Nat} {T : List Tm} (h : Rf w r S now T) (i : Int) (x ord : Nat) (hids : T.Pairwise fun a b => a.id ≠ b.id) (hl : T.length ≤ 4398046511104) (hnow : now ≤ 281474976710655) :
    Calls Try.prog 37 #[.pointer (some ⟨r, 0, none⟩), .int .i64 i, .int .u64 (x : Int)] w fun e w' => e = .returned (.tuple #[]) ∧ ∃ S', Rf w' r S' now (setR T i x now ord) ∧ Turn S S' w w' := by
  obtain ⟨v, h1, h2⟩ := h
  refine (rset_any r now v T w h1 i x ord hids (by omega) hnow).mono ?_
  rintro e w' ⟨rfl, v', a1, a2, a3⟩
  exact ⟨rfl, _, ⟨v', a1, fun b => Iff.rfl⟩, ⟨a2.mono fun b _ hb => (h2 b).1 hb, fun b hb => (a3 b hb).imp (h2 b).1 id⟩⟩
theorem rf_next {w : World} {r : Nat} {S : Nat → Prop} {now : Nat} {T : List Tm} (h : Rf w r S now T) (hl : T.length ≤ 4398046511104) :
    Calls Try.prog 34 #[.pointer (some ⟨r, 0, none⟩)] w fun e w' => e = .returned (.tuple #[.int .u64 ((((least T).getD 0 : Nat)) : Int), .bool (least T).isSome]) ∧ Below w.heap.size w w' := by
  obtain ⟨v, h1, h2⟩ := h
  exact rnext_any r now v T w h1 (by omega)
theorem rf_adv {w : World} {r : Nat} {S : Nat → Prop} {now : Nat} {T : List Tm} (h : Rf w r S now T) (x : Nat) (hids : T.Pairwise fun a b => a.id ≠ b.id) (hl : T.length ≤ 4398046511104) (hlive : ∀ t ∈ T, t.nev = false → now < t.at_) :
    Calls Try.prog 21 #[.pointer (some ⟨r, 0, none⟩), .int .u64 (x : Int)] w fun e w' => ∃ v S', e = .returned v ∧ w'.ownsRow w.heap.size 3 1 v (rings T (advTime x now)).length (ivs (rings T (advTime x now))) ∧
      Rf w' r S' (advTime x now) (stay T (advTime x now)) ∧ Turn S S' w w' ∧ ∀ b, v.ownBlock = some b → ¬ S' b := by
  obtain ⟨v, h1, h2⟩ := h
  rcases Nat.lt_or_ge now (min x 281474976710655) with hlt | hge
  · have he : advTime x now = min x 281474976710655 := Nat.max_eq_right (Nat.le_of_lt hlt)
    rw [he]
    refine (radv_yes r now v T w h1 x _ rfl hlt hids (by omega)).mono ?_
    rintro e w' ⟨vo, v1, rfl, hA⟩
    refine ⟨vo, _, rfl, hA.own, ⟨v1, hA.rf, fun b => Iff.rfl⟩, ⟨hA.same.mono fun b _ hb => (h2 b).1 hb, fun b hb => (hA.foot b hb).imp (h2 b).1 id⟩, fun b hb hr => ?_⟩
    rcases hr with rfl | hr
    · exact own_blk_ne hA.own hA.rf.blk (by decide) hb
    · rcases own_ne hA.own hA.rf.own (by decide) with e | e
      · rw [e] at hb; cases hb
      · exact e (hb.trans hr.symm)
  · have he : advTime x now = now := Nat.max_eq_left hge
    have hst : stay T now = T := by
      unfold stay
      rw [List.filter_eq_self]
      intro t ht
      cases hv : t.nev with
      | true => rfl
      | false => simpa using hlive t ht hv
    rw [he, rings_none hlive, hst]
    refine (radv_no r now v T w h1 x hge).mono ?_
    rintro e w' ⟨rfl, rfl⟩
    exact ⟨_, S, rfl, World.ownsRow_nil _ _ _ _, ⟨v, h1, h2⟩, Turn.refl _ _, fun b hb => by cases hb⟩
end Go.Proofs.Ytnnkchgkebcblaa
