/- WheelOnce returns true. -/
import Derived.Test.YtnnkchgkebcblaaWBook
import Derived.Test.YtnnkchgkebcblaaWSteps
namespace Go.Proofs.Ytnnkchgkebcblaa
set_option linter.unusedVariables false
set_option linter.unusedSimpArgs false
open Go.RowKit
theorem Wh.far {w : World} {g : Nat} {S : Nat → Prop} {now sets : Nat} {T : List Tm} (h : Wh w g S now sets T) {base E sz n : Nat} {v : Value} {xs : List Value} (ho : w.ownsRow base E sz v n xs) (h1 : E ≠ 69) (h2 : 82 ≠ E) : ∀ b, v.ownBlock = some b → ¬ S b := by
  obtain ⟨hl, mb, sl, R, m, N, a1, a2, a3⟩ := h
  intro b hb hS
  rcases (a3 b).2 hS with rfl | rfl | ⟨x, hx, hxb⟩
  · exact own_blk_ne ho a1.blk h1 hb
  · exact a1.map.row_ne ho hb
  · obtain ⟨i, hi⟩ := List.getElem?_of_mem hx
    rcases own_ne (a1.rows.own i x hi) ho h2 with e | e
    · rw [e] at hxb; cases hxb
    · exact e (hxb.trans hb.symm)
structure OnceInv (w wr : World) (g now sets : Nat) (T : List Tm) (S : Nat → Prop) (bv : Value) : Prop where
  wh : Wh wr g S now sets T
  own : wr.ownsRow w.heap.size 58 2 bv T.length (dvs T)
  lo : ∀ b, S b → w.heap.size ≤ b
  below : Below w.heap.size w wr
  nev : ∀ t ∈ T, t.nev = true → 281474976710655 < t.at_
theorem OnceInv.later {w wr w' : World} {g now sets : Nat} {T : List Tm} {S : Nat → Prop} {bv : Value} (h : OnceInv w wr g now sets T S bv) (hb : Below wr.heap.size wr w') : OnceInv w w' g now sets T S bv :=
  ⟨h.wh.later hb, own_later h.own hb, h.lo, below_trans h.below hb, h.nev⟩
/-- the wheel has turned; the book is as it was. -/
structure Half (w wr w' : World) (g now sets : Nat) (T T' : List Tm) (S' : Nat → Prop) (bv : Value) : Prop where
  wh : Wh w' g S' now sets T'
  own : w'.ownsRow w.heap.size 58 2 bv T.length (dvs T)
  lo : ∀ b, S' b → w.heap.size ≤ b
  below : Below w.heap.size w w'
theorem OnceInv.half {w wr w' : World} {g now now' sets sets' : Nat} {T T' : List Tm} {S S' : Nat → Prop} {bv : Value} (h : OnceInv w wr g now sets T S bv) (hw : Wh w' g S' now' sets' T') (t : Turn S S' wr w') : Half w wr w' g now' sets' T T' S' bv :=
  ⟨hw, own_same h.own t.same fun b hb e => h.wh.far h.own (by decide) (by decide) b hb e, fun b hb => by
    rcases t.foot b hb with e | e
    · exact h.lo b e
    · exact Nat.le_trans h.below.size e, h.below.trans (t.same.belowB fun i hi => ⟨Nat.lt_of_lt_of_le hi h.below.size, fun e => by have := h.lo i e; omega⟩)⟩
theorem Half.later {w wr w' w2 : World} {g now sets : Nat} {T T' : List Tm} {S' : Nat → Prop} {bv : Value} (h : Half w wr w' g now sets T T' S' bv) (hb : Below w'.heap.size w' w2) : Half w wr w2 g now sets T T' S' bv :=
  ⟨h.wh.later hb, own_later h.own hb, h.lo, below_trans h.below hb⟩
theorem Half.done {w wr w' w2 : World} {g now sets : Nat} {T T' : List Tm} {S' : Nat → Prop} {bv bv' : Value} (h : Half w wr w' g now sets T T' S' bv) (hb : Below w'.heap.size w' w2) (ho : w2.ownsRow w.heap.size 58 2 bv' T'.length (dvs T')) (hn : ∀ t ∈ T', t.nev = true → 281474976710655 < t.at_) : OnceInv w w2 g now sets T' S' bv' :=
  ⟨h.wh.later hb, ho, h.lo, below_trans h.below hb, hn⟩
theorem nev_without {T : List Tm} (h : ∀ t ∈ T, t.nev = true → 281474976710655 < t.at_) (i : Int) : ∀ t ∈ without T i, t.nev = true → 281474976710655 < t.at_ := fun t ht => h t (List.mem_filter.1 ht).1
theorem nev_stay' {T : List Tm} (h : ∀ t ∈ T, t.nev = true → 281474976710655 < t.at_) (n : Nat) : ∀ t ∈ stay T n, t.nev = true → 281474976710655 < t.at_ := fun t ht => h t (List.mem_filter.1 ht).1
theorem nev_setR {T : List Tm} (h : ∀ t ∈ T, t.nev = true → 281474976710655 < t.at_) (i : Int) (x now ord : Nat) : ∀ t ∈ setR T i x now ord, t.nev = true → 281474976710655 < t.at_ := fun t ht hv => by
  rcases List.mem_append.1 ht with ht | ht
  · exact nev_without h i t ht hv
  · have : t = ⟨i, atOf x now, ord, nevOf now⟩ := by simpa using ht
    subst this
    have hn : now = 281474976710655 := by simp only [nevOf, beq_iff_eq] at hv; omega
    show 281474976710655 < atOf x now
    unfold atOf
    omega
theorem once_app {w wr w8 W w9 W2 w10 : World} {g now sets : Nat} {T T' : List Tm} {S8 : Nat → Prop} {bv v9 v10 : Value} {t : Tm} {i : Int} {k : Nat} (h : Half w wr w8 g now sets T T' S8 bv) (hT : T' = without T i ++ [t]) (hn : ∀ t ∈ T', t.nev = true → 281474976710655 < t.at_)
    (hb1 : Below w8.heap.size w8 W) (hb2 : Below W.heap.size W w9) (hb3 : Below w9.heap.size w9 W2) (h9 : w9.ownsRow W.heap.size 58 2 v9 (without T i).length (dvs (without T i))) (hk : k = (without T i).length)
    (h10 : w10.ownsRow W.heap.size 58 2 v10 (k + 1) (dvs (without T i) ++ [.int .i64 t.id, .int .u64 (t.at_ : Int)])) (hg : W2.grownBy w10 v9.ownBlock) : OnceInv w w10 g now sets T' S8 v10 := by
  have b2 : Below w8.heap.size w8 W2 := below_trans hb1 (below_trans hb2 hb3)
  have b10 : Below w8.heap.size w8 w10 := b2.grown hg b2.size fun q hq => Nat.le_trans hb1.size (h9.lt q hq).1
  refine h.done b10 ?_ hn
  rw [hT, List.length_append, dvs_append, ← hk]
  exact own_mono h10 (Nat.le_trans h.below.size hb1.size)
set_option maxHeartbeats 8000000 in
set_option maxRecDepth 100000 in
theorem once_in (a : Nat) (v : Value) (ops : List Opd) (w : World) (hv : OpsRd w v ops) :
    Calls Try.prog 10 #[.int .u64 (a : Int), v] w fun e w' => e = .returned (.bool true) ∧ Below w.heap.size w w' := by
  obtain ⟨ao, cap, rfl, hl, -⟩ := id hv
  have HV := Lib.hid hv
  clear hv
  obtain ⟨n, hn⟩ : ∃ n, n = ops.length := ⟨_, rfl⟩
  rw [← hn] at hl
  have HN := Lib.hid hn
  rw [← hn]
  clear hn
  have hnew := wh_new a w
  obtain ⟨a', ha⟩ : ∃ a' : Nat, a' = min a 281474976710655 := ⟨_, rfl⟩
  have hmn : min (a : Int) 281474976710655 = (a' : Int) := by omega
  rw [← ha] at hnew
  clear ha
  go_enter Try.func10, Try.ntmps10
  go_wp2_with fail
  refine hnew.mono ?_
  clear hnew
  rintro e w1 ⟨g, S, rfl, h1, hS, hB1⟩
  have hI : OnceInv w w1 g a' 0 [] S (.slice none 0 0) := ⟨h1, World.ownsRow_nil _ _ _ _, hS, hB1, fun t ht => by cases ht⟩
  have HI := Lib.hid hI
  clear h1 hS hB1 hI
  go_wp2_with fail
  refine (knows_any w1).mono ?_
  rintro e w2 ⟨rfl, hB2⟩
  have HI2 := Lib.hid (HI.out.later hB2)
  clear hB2
  go_wp2_with fail
  refine (wh_now HI2.out.wh).mono ?_
  rintro e w3 ⟨rfl, rfl⟩
  have c := wh_len HI2.out.wh
  change Calls Try.prog _ _ _ (fun e w' => e = .returned (.int .i64 0) ∧ w' = w3) at c
  go_wp2_with fail
  refine c.mono ?_
  clear c
  rintro e w4 ⟨rfl, rfl⟩
  clear hmn
  go_wp2_with fail
  go_loopw [7, 8] (fun bv i wr => ∃ (t now sets : Nat) (T : List Tm) (S : Nat → Prop), t ≤ n ∧ i = .int .i64 (t : Int) ∧ sets ≤ t ∧ Hid (OnceInv w wr g now sets T S bv)) (fun _ i _ => n - (intOf i).toNat)
  case atStart => exact ⟨0, a', 0, [], S, Nat.zero_le _, rfl, Nat.le_refl _, HI2⟩
  case round =>
    clear HI HI2
    obtain ⟨t, now, sets, T, S, ht, rfl, hst, HI⟩ := hrel
    by_cases hlt : t < n
    · have ix : (t : Int) < (n : Int) := by omega
      obtain ⟨o, ho⟩ : ∃ o, ops[t]? = some o := ⟨_, List.getElem?_eq_getElem (by rw [← HN.out]; exact hlt)⟩
      obtain ⟨bb, off, rfl, hwf, -, e0, e1, e2, e3⟩ := HV.out.at HI.out.below ho rfl
      obtain ⟨W6, hW6⟩ : ∃ W6, W6 = wr.alloc (.cells #[.int .i64 o.on, .int .i64 o.kind, .int .i64 o.id, .int .u64 (o.at_ : Int)] 41) := ⟨_, rfl⟩
      have hB6 : Below wr.heap.size wr W6 := hW6 ▸ (Below.refl _ _).alloc (Nat.le_refl _) _
      have hO6 : Blk W6 wr.heap.size 41 [.int .i64 o.on, .int .i64 o.kind, .int .i64 o.id, .int .u64 (o.at_ : Int)] := hW6 ▸ Blk.new wr _ _
      obtain ⟨ob, hob⟩ : ∃ ob, ob = wr.heap.size := ⟨_, rfl⟩
      rw [← hob] at hO6
      have HI6 := Lib.hid (HI.out.later hB6)
      have HTL := HI6.out.wh.len
      have HTOP := HI6.out.wh.top
      have hnS : ¬ S ob := fun e => by have := HI.out.wh.lt e; omega
      have hnB : w.heap.size ≤ ob := by have := HI.out.below.size; omega
      have HW6 := Lib.hid hW6; have HOB := Lib.hid hob
      have g1 := hO6.cell_some (i := 1) rfl
      have g2 := hO6.cell_some (i := 2) rfl
      have g3 := hO6.cell_some (i := 3) rfl
      have HO6 := Lib.hid hO6
      obtain ⟨bo, bc, rfl, -⟩ := own_open HI.out.own
      obtain ⟨m, hm⟩ : ∃ m, m = T.length := ⟨_, rfl⟩
      rw [← hm] at HTL ⊢
      have HM := Lib.hid hm
      obtain ⟨on, kind, id, at_⟩ := o
      simp only at e0 e1 e2 e3 hwf g1 g2 g3
      clear hob hO6 hW6 hB6 ho hm
      go_wp2_with fail
      rw [← HW6.out, ← HOB.out]
      refine (wh_now HI6.out.wh).mono ?_
      rintro e w7 ⟨rfl, rfl⟩
      clear e0 e1 e2 e3
      by_cases k1 : kind = 1
      · subst k1
        obtain ⟨q, hq⟩ : ∃ q, q = atOf at_ now := ⟨_, rfl⟩
        have hmx : max (min (at_ : Int) 281474976710655) ((now : Int) + 1) = (q : Int) := by unfold atOf at hq; omega
        have HQ := Lib.hid hq
        clear hq
        go_wp2_with fail
        refine (wh_set HI6.out.wh id at_ hwf (by omega)).mono ?_
        rintro e w8 ⟨rfl, S8, h8, t8⟩
        have hO8 := HO6.out.same t8.same hnS
        have hhalf := HI6.out.half h8 t8
        have hRB := Rd.of_own hhalf.own
        rw [← HM.out] at hRB
        have g2 := hO8.cell_some (i := 2) rfl
        have hol8 := hO8.lt
        have HH := Lib.hid hhalf; have RB := Lib.hid hRB; have HO8 := Lib.hid hO8
        have hlw := without_len_le T id
        obtain ⟨k, hk⟩ : ∃ k, k = (without T id).length := ⟨_, rfl⟩
        rw [← HM.out, ← hk] at hlw
        have HK := Lib.hid hk
        have hwo : ∀ W, Rd W (.slice bo m bc) m (dvs T) → Calls Try.prog 29 #[.slice bo m bc, .int .i64 id] W fun e w' => ∃ vo vc, e = .returned (.slice vo k vc) ∧ Hid (w'.ownsRow W.heap.size 58 2 (.slice vo k vc) k (dvs (without T id))) ∧ Hid (Below W.heap.size W w') := fun W hr => by
          refine (without_any _ T id W (by rw [← HM.out]; exact hr) (by rw [← HM.out]; omega)).mono ?_
          rintro e w' ⟨v', rfl, h1, h2⟩
          rw [← HK.out] at h1
          obtain ⟨vo, vc, rfl, -⟩ := own_open h1
          exact ⟨vo, vc, rfl, Lib.hid h1, Lib.hid h2⟩
        have HWO := Lib.hid hwo
        clear h8 t8 hO8 hhalf hRB g1 g3 hmx hk hwo
        go_wp2_with fail
        go_region_law (first
          | (go_simp; go_at_call 29; (refine (HWO.out _ (by first | exact RB.out | exact Rd.drew (Rd.alloc RB.out _))).mono ?_); rintro e w9 ⟨v9o, v9c, rfl, HO9, HB9⟩; have hO9 := (by first | exact (HO8.out.later (w' := w8.drew) (Below.refl _ _).drew).later HB9.out | exact ((HO8.out.alloc _).drew).later HB9.out : Blk w9 ob 41 _); have g2' := hO9.cell_some (i := 2) rfl; clear hO9)
          | (go_loud (refine step_app El.dues rfl (.tmp 79) (.tmp 84) rfl (by first | exact HO9.out | exact HO9.out.alloc _) rfl (by first | exact Rd.new _ _ (dv ⟨id, q, 0, false⟩) 1 (by simp [maxLen]) | exact (Rd.drew (Rd.new w8 58 (dv ⟨id, q, 0, false⟩) 1 (by simp [maxLen]))).later HB9.out) rfl rfl (by have := dvs_one [⟨id, q, 0, false⟩]; simpa [dvs] using this) (by omega) (by first | exact HB9.out.size | (have := HB9.out.size; simp at this ⊢; omega)) ?_); intro v10 w10 hown10 hgr10 _; obtain ⟨v10o, v10c, rfl, -⟩ := own_open hown10))
        all_goals
          have hT : setR T id at_ now (sets + 1) = without T id ++ [⟨id, q, sets + 1, nevOf now⟩] := by unfold setR; rw [HQ.out]
          have hgr11 := (show World.grownBy _ w10 (Value.slice v9o k v9c).ownBlock from hgr10)
          have hf := once_app (v9 := Value.slice v9o k v9c) HH.out hT (nev_setR HI.out.nev id at_ now (sets + 1)) (by first | exact (Below.refl _ _).drew | exact ((Below.refl _ _).alloc (Nat.le_refl _) _).drew) HB9.out (by first | exact Below.refl _ _ | exact (Below.refl _ _).alloc (Nat.le_refl _) _) (by rw [← HK.out]; exact HO9.out) HK.out hown10 hgr11
          have HF := Lib.hid hf
          have c := wh_len HF.out.wh
          have hl2 : (setR T id at_ now (sets + 1)).length = k + 1 := by rw [hT, List.length_append, ← HK.out]; rfl
          rw [hl2] at c
          clear hf hown10 hgr10 hgr11 hT hl2
          go_wp2_with fail
          refine c.mono ?_
          clear c
          rintro e w11 ⟨rfl, rfl⟩
          go_wp2_with fail
          go_roundw
          case rel => exact ⟨t + 1, now, sets + 1, _, S8, by omega, by go_num, by omega, HF⟩
          case measure => simp [intOf]; omega
      · have b1 : (kind == 1) = false := by simpa using k1
        by_cases k2 : kind = 2
        · subst k2
          have hRB := Rd.of_own HI6.out.own
          have chas := has_any _ T id w7 hRB
          have cstop := wh_stop HI6.out.wh id hwf (by omega)
          obtain ⟨f, hf⟩ : ∃ f, f = T.any fun t => t.id == id := ⟨_, rfl⟩
          have hf2 : (T.find? fun t => t.id == id).isSome = f := by rw [hf, Bool.eq_iff_iff, List.find?_isSome, List.any_eq_true]
          obtain ⟨av, hav⟩ : ∃ av, av = atV (T.find? fun t => t.id == id) := ⟨_, rfl⟩
          rw [hf2, ← hav, ← HM.out] at chas
          rw [← hf] at cstop
          clear hf hf2 hav hRB
          go_wp2_with fail
          refine chas.mono ?_
          clear chas
          rintro e w8 ⟨rfl, rfl⟩
          go_wp2_with fail
          refine cstop.mono ?_
          clear cstop
          rintro e w8 ⟨rfl, S8, h8, t8⟩
          have hO8 := HO6.out.same t8.same hnS
          have hhalf := HI6.out.half h8 t8
          have hRB := Rd.of_own hhalf.own
          have cw := without_any _ T id w8 hRB (by rw [← HM.out]; omega)
          rw [← HM.out] at cw
          have g2 := hO8.cell_some (i := 2) rfl
          have HH := Lib.hid hhalf
          obtain ⟨k, hk⟩ : ∃ k, k = (without T id).length := ⟨_, rfl⟩
          have HK := Lib.hid hk
          clear h8 t8 hO8 hhalf hRB hk
          go_wp2_with fail
          refine cw.mono ?_
          clear cw
          rintro e w9 ⟨v9, rfl, ho9, hB9⟩
          have hf := HH.out.done hB9 (own_mono ho9 (Nat.le_trans HH.out.below.size (Nat.le_refl _))) (nev_without HI.out.nev id)
          rw [← HK.out] at ho9
          obtain ⟨v9o, v9c, rfl, -⟩ := own_open ho9
          have HF := Lib.hid hf
          have c := wh_len HF.out.wh
          rw [← HK.out] at c
          clear hf ho9 hB9
          go_wp2_with fail
          refine c.mono ?_
          clear c
          rintro e w11 ⟨rfl, rfl⟩
          go_wp2_with fail
          go_roundw
          case rel => exact ⟨t + 1, now, sets, _, S8, by omega, by go_num, by omega, HF⟩
          case measure => simp [intOf]; omega
        · have b2 : (kind == 2) = false := by simpa using k2
          by_cases k3 : kind = 3
          · subst k3
            have hlr := rings_stay_len T (advTime at_ now)
            have cadv := wh_adv HI6.out.wh at_ (by omega)
            obtain ⟨n2, hn2⟩ : ∃ n2, n2 = advTime at_ now := ⟨_, rfl⟩
            rw [← hn2] at cadv hlr
            obtain ⟨R, hR⟩ : ∃ R, R = ringsT T n2 := ⟨_, rfl⟩
            have hRm : rings T n2 = R.map Tm.id := by rw [hR]; exact rings_map T n2
            rw [hRm, List.length_map] at cadv hlr
            obtain ⟨p, hp⟩ : ∃ p, p = R.length := ⟨_, rfl⟩
            rw [← hp] at cadv hlr
            have hpb : p ≤ 4398046511104 := by have := HM.out; omega
            have hRT : ∀ r ∈ R, r ∈ T ∧ r.nev = false ∧ r.at_ ≤ n2 := fun r hr => ringsT_mem (by rw [← hR]; exact hr)
            have hRi := ringsT_ids HI6.out.wh.ids n2
            have hRs := ringsT_sorted T n2
            have hend := bookAt_end HI6.out.wh.ids n2
            rw [← hR] at hRi hRs hend
            rw [← hp] at hend
            have HN2 := Lib.hid hn2; have HP := Lib.hid hp; have HRT := Lib.hid hRT; have HRI := Lib.hid hRi; have HRS := Lib.hid hRs; have HEND := Lib.hid hend; have HIDS := Lib.hid HI6.out.wh.ids
            clear hn2 hR hRm hp hRT hRi hRs hend hlr
            go_wp2_with fail
            refine cadv.mono ?_
            clear cadv
            rintro e w8 ⟨v8, S8, rfl, ho8, -, h8, t8, -⟩
            have hO8 := HO6.out.same t8.same hnS
            have hhalf := HI6.out.half h8 t8
            obtain ⟨vo, vc, rfl, -⟩ := own_open ho8
            have HH := Lib.hid hhalf; have HO8 := Lib.hid hO8; have HV8 := Lib.hid ho8
            clear h8 t8 hO8 hhalf ho8
            have hbk0 : Hid (w8.ownsRow w.heap.size 58 2 (.slice bo m bc) (bookAt T R 0).length (dvs (bookAt T R 0)) ∧ Below w8.heap.size w8 w8) := Lib.hid ⟨by rw [bookAt_zero]; have := HH.out.own; rw [← HM.out] at this ⊢; exact this, Below.refl _ _⟩
            obtain ⟨wo, hwo⟩ : ∃ wo, wo = wr := ⟨_, rfl⟩
            subst hwo
            go_wp2_with fail
            go_loopw [7, 15, 16] (fun bv la i wx => ∃ j : Nat, j ≤ p ∧ i = .int .i64 (j : Int) ∧ la = .int .u64 ((lastAt (R.take j) : Nat) : Int) ∧ Hid (wx.ownsRow w.heap.size 58 2 bv (bookAt T R j).length (dvs (bookAt T R j)) ∧ Below w8.heap.size w8 wx)) (fun _ _ i _ => p - (intOf i).toNat)
            case atStart => exact ⟨0, Nat.zero_le _, rfl, rfl, hbk0⟩
            case round =>
              clear hbk0
              obtain ⟨j, hj, rfl, rfl, HB⟩ := hrel
              by_cases hjp : j < p
              · have ixj : (j : Int) < (p : Int) := by omega
                obtain ⟨r, hr⟩ : ∃ r, R[j]? = some r := ⟨_, List.getElem?_eq_getElem (by rw [← HP.out]; exact hjp)⟩
                have hri : (R.map Tm.id)[j]? = some r.id := by rw [List.getElem?_map, hr]; rfl
                have hiv : (ivs (R.map Tm.id))[j]? = some (.int .i64 r.id) := by unfold ivs; rw [List.getElem?_map, hri]; rfl
                obtain ⟨b8, o8, c8, heq, -, -, -, hcell⟩ := (Rd.of_own HV8.out).form (fun e => by rw [e] at hiv; simp at hiv)
                injection heq with q1 q2 q3
                subst q1
                have cr := below_cell HB.out.2 (hcell j _ hiv) (World.block_lt_of_cell? _ _ (hcell j _ hiv))
                have CR := Lib.hid cr
                have hrb : b8 < wr.heap.size := World.block_lt_of_cell? _ _ cr
                have hfind := bookAt_find HIDS.out HRI.out hr (HRT.out r (List.mem_of_getElem? hr)).1
                have hrle := (HRT.out r (List.mem_of_getElem? hr)).2.2
                have hlast := lastAt_le HRS.out hr
                have hnext := bookAt_succ (T := T) hr
                have hlnext : lastAt (R.take (j + 1)) = r.at_ := by rw [List.take_add_one, hr]; exact lastAt_snoc _ _
                have hkb := List.length_filter_le (fun t => !(R.take j).any fun r => r.id == t.id) T
                have hkb2 : (bookAt T R j).length ≤ m := by rw [HM.out]; exact hkb
                have chas := has_any _ (bookAt T R j) r.id wr (Rd.of_own HB.out.1)
                rw [hfind] at chas
                have cwo := without_any _ (bookAt T R j) r.id wr (Rd.of_own HB.out.1) (by omega)
                rw [← hnext] at cwo
                have hwh := HH.out.wh.later HB.out.2
                have cnow := wh_now hwh
                have b1 : ¬ (n2 : Int) < (r.at_ : Int) := by omega
                have b2 : ¬ (r.at_ : Int) < ((lastAt (R.take j) : Nat) : Int) := by omega
                obtain ⟨la, hla⟩ : ∃ la, la = lastAt (R.take j) := ⟨_, rfl⟩
                rw [← hla] at b2 ⊢
                obtain ⟨K, hK⟩ : ∃ K, K = bookAt T R j := ⟨_, rfl⟩
                obtain ⟨K2, hK2⟩ : ∃ K2, K2 = bookAt T R (j + 1) := ⟨_, rfl⟩
                rw [← hK] at HB
                rw [← hK2] at cwo
                obtain ⟨ko, kc, rfl, -⟩ := own_open HB.out.1
                obtain ⟨kn, hkn⟩ : ∃ kn, kn = K.length := ⟨_, rfl⟩
                rw [← hkn] at chas cwo ⊢
                change Calls Try.prog _ _ _ (fun e w' => e = .returned (.tuple #[.int .u64 (r.at_ : Int), .bool true]) ∧ w' = wr) at chas
                obtain ⟨rid, hrid⟩ : ∃ rid, rid = r.id := ⟨_, rfl⟩
                obtain ⟨ra, hra⟩ : ∃ ra, ra = r.at_ := ⟨_, rfl⟩
                rw [← hrid, ← hra] at chas
                rw [← hrid] at cr cwo
                rw [← hra] at b1 b2
                have HLN := Lib.hid hlnext; have HK2 := Lib.hid hK2; have HRA := Lib.hid hra; have HKN := Lib.hid hkn
                clear hr hri hiv hcell q2 q3 hfind hrle hlast hnext hlnext hkb hkb2 hla hK hK2 hkn hrid hra hwh CR
                go_wp2_with fail
                refine chas.mono ?_
                clear chas
                rintro e w9 ⟨rfl, rfl⟩
                go_wp2_with fail
                refine cnow.mono ?_
                clear cnow
                rintro e w10 ⟨rfl, rfl⟩
                go_wp2_with fail
                refine cwo.mono ?_
                clear cwo
                rintro e w11 ⟨v11, rfl, ho11, hB11⟩
                have hbk : Hid (w11.ownsRow w.heap.size 58 2 v11 (bookAt T R (j + 1)).length (dvs (bookAt T R (j + 1))) ∧ Below w8.heap.size w8 w11) := Lib.hid ⟨by rw [← HK2.out]; exact own_mono ho11 (Nat.le_trans HH.out.below.size HB.out.2.size), below_trans HB.out.2 hB11⟩
                clear ho11 hB11
                go_wp2_with fail
                go_roundw
                case rel => exact ⟨j + 1, by omega, by go_num, by rw [HLN.out, ← HRA.out], hbk⟩
                case measure => simp [intOf]; omega
              · obtain rfl : j = p := by omega
                rw [HEND.out] at HB
                have hfin := HH.out.done HB.out.2 HB.out.1 (nev_stay' HI.out.nev n2)
                obtain ⟨K, hK⟩ : ∃ K, K = stay T n2 := ⟨_, rfl⟩
                rw [← hK] at hfin
                have hKat : ∀ r ∈ K, n2 < r.at_ := fun r hr => by
                  rw [hK] at hr
                  have h1 := (List.mem_filter.1 hr).2
                  cases hv : r.nev with
                  | true => have h2 := nev_stay' HI.out.nev n2 r hr hv; have h3 := hfin.wh.top; omega
                  | false => rw [hv] at h1; simpa using h1
                obtain ⟨ko, kc, rfl, -⟩ := own_open hfin.own
                obtain ⟨kn, hkn⟩ : ∃ kn, kn = K.length := ⟨_, rfl⟩
                have hknb : kn ≤ 4398046511104 := by have := hfin.wh.len; omega
                have hO9 := HO8.out.later HB.out.2
                have g3 := hO9.cell_some (i := 3) rfl
                have HFIN := Lib.hid hfin; have HKAT := Lib.hid hKat; have HKN := Lib.hid hkn
                obtain ⟨w9, hw9⟩ : ∃ w9, w9 = wr := ⟨_, rfl⟩
                subst hw9
                clear hfin hK hKat HB g1 g2
                rw [← hkn]
                clear hkn
                have G3 := Lib.hid g3
                clear g3
                go_wp2_with fail
                go_loopw [19] (fun i wr => ∃ (q : Nat), q ≤ kn ∧ i = .int .i64 (q : Int) ∧ Hid (Below w9.heap.size w9 wr)) (fun i _ => kn - (intOf i).toNat)
                case atStart => exact ⟨0, Nat.zero_le _, rfl, Lib.hid (Below.refl _ _)⟩
                case round =>
                  obtain ⟨q, hq, rfl, HB9⟩ := hrel
                  by_cases hqk : q < kn
                  · have ixq : (q : Int) < (kn : Int) := by omega
                    obtain ⟨r, hr⟩ : ∃ r, K[q]? = some r := ⟨_, List.getElem?_eq_getElem (by rw [← HKN.out]; exact hqk)⟩
                    obtain ⟨kb, ko', kc', heq, -, k1⟩ := dcells (Rd.of_own HFIN.out.own) hr
                    injection heq with q1 q2 q3
                    subst q1
                    have hra := HKAT.out r (List.mem_of_getElem? hr)
                    obtain ⟨ra, hra2⟩ : ∃ ra, ra = r.at_ := ⟨_, rfl⟩
                    rw [← hra2] at k1 hra
                    have k1 := below_cell HB9.out k1 (World.block_lt_of_cell? _ _ k1)
                    have b1 : decide ((ra : Int) ≤ (n2 : Int)) = false := decide_eq_false (by omega)
                    have b2 : decide (ra ≤ n2) = false := decide_eq_false (by omega)
                    clear hr q2 q3 hra2 hra
                    go_wp2_with fail
                    refine region_class (C := fun w' => w'.cell? ⟨kb, ko' + q * 2 + 1, none⟩ = some (.int .u64 (ra : Int)) ∧ Hid (Below w9.heap.size w9 w')) (by kernel_rfl) (by kernel_rfl) ⟨k1, Lib.hid (below_drew HB9.out)⟩ ?_
                    repeat (first
                      | go_big_quiet_skip
                      | (go_big_quiet_want
                         rename_i K hK
                         apply Exists.intro
                         refine ⟨fun w' hw' => ?_, hK _ ?_⟩
                         obtain ⟨r1, r2⟩ := hw'
                         go_simp
                         first
                           | (go_at_call 26
                              (with_reducible refine (wh_now (HFIN.out.wh.later r2.out)).mono ?_)
                              rintro e w5 ⟨rfl, rfl⟩
                              exact ⟨rfl, r1, r2⟩)
                           | with_reducible rfl
                         clear hK K
                         simp only [Act.put, List.setIfInBounds_toArray, List.set_cons_zero, List.set_cons_succ]))
                    refine wpQuiet_nil ?_
                    rintro w11 ⟨-, HB11⟩
                    go_wp2_with fail
                    go_roundw
                    case rel => exact ⟨q + 1, by omega, by go_num, HB11⟩
                    case measure => simp [intOf]; omega
                  · obtain rfl : q = kn := by omega
                    have hx9 := HFIN.out.later HB9.out
                    have g3 := below_cell HB9.out G3.out (World.block_lt_of_cell? _ _ G3.out)
                    have hmx : max (now : Int) (min (at_ : Int) 281474976710655) = (n2 : Int) := by
                      have := HN2.out
                      unfold advTime at this
                      omega
                    have HX := Lib.hid hx9
                    clear hx9
                    go_wp2_with fail
                    refine region_class (C := fun w' => w'.cell? ⟨ob, 3, none⟩ = some (.int .u64 (at_ : Int)) ∧ Hid (OnceInv w w' g n2 sets K S8 (.slice ko K.length kc))) (by kernel_rfl) (by kernel_rfl) ⟨g3, Lib.hid (HX.out.later (Below.refl _ _).drew)⟩ ?_
                    repeat (first
                      | go_big_quiet_skip
                      | (go_big_quiet_want
                         rename_i K hK
                         apply Exists.intro
                         refine ⟨fun w' hw' => ?_, hK _ ?_⟩
                         obtain ⟨r1, r2⟩ := hw'
                         go_simp
                         first
                           | (go_at_call 26
                              (with_reducible refine (wh_now r2.out.wh).mono ?_)
                              rintro e w5 ⟨rfl, rfl⟩
                              exact ⟨rfl, r1, r2⟩)
                           | with_reducible rfl
                         clear hK K
                         simp only [Act.put, List.setIfInBounds_toArray, List.set_cons_zero, List.set_cons_succ]))
                    refine wpQuiet_nil ?_
                    rintro w11 ⟨-, HX11⟩
                    clear g3
                    have c := wh_len HX11.out.wh
                    rw [← HKN.out] at c
                    have HX12 : Hid (OnceInv w w11 g n2 sets K S8 (.slice ko q kc)) := by have := HX11.out; rw [← HKN.out] at this; exact Lib.hid this
                    go_wp2_with fail
                    refine c.mono ?_
                    clear c
                    rintro e w13 ⟨rfl, rfl⟩
                    go_wp2_with fail
                    go_roundw
                    case rel => exact ⟨t + 1, n2, sets, K, S8, by omega, by go_num, by omega, HX12⟩
                    case measure => simp [intOf]; omega
          · have b3 : (kind == 3) = false := by simpa using k3
            have c := wh_len HI6.out.wh
            rw [← HM.out] at c
            go_wp2_with fail
            refine c.mono ?_
            clear c
            rintro e w11 ⟨rfl, rfl⟩
            have HF : Hid (OnceInv w w11 g now sets T S (.slice bo m bc)) := by
              have := HI6.out
              rwa [← HM.out] at this
            go_wp2_with fail
            go_roundw
            case rel => exact ⟨t + 1, now, sets, T, S, by omega, by go_num, by omega, HF⟩
            case measure => simp [intOf]; omega
    · obtain rfl : t = n := by omega
      go_wp2_with fail
      go_ret
      exact ⟨rfl, HI.out.below⟩
theorem onceLaw_walk (W : World) (v0 : Int) (x0 : Int) (h0 : cU64.rep W [.int .u64 v0] x0) (v1 : Value) (x1) (h1 : cOps.rep W [v1] x1) :
    Calls Try.prog 10 #[.int .u64 v0, v1] W fun e w' => e = .returned (.bool true) ∧ Below W.heap.size W w' := by
  obtain ⟨n, rfl⟩ : ∃ n : Nat, v0 = (n : Int) := by
    obtain ⟨a1, a2⟩ := h0
    simp only [List.cons.injEq, Value.int.injEq, true_and, and_true] at a1
    subst a1
    exact ⟨_, (u64_nat a2).symm⟩
  exact once_in n v1 _ W (cOps_rd h1)
end Go.Proofs.Ytnnkchgkebcblaa
