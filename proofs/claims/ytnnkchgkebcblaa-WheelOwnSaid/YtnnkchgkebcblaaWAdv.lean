/- The program's Advance. -/
import Derived.Test.YtnnkchgkebcblaaWAdvL
import Derived.Test.YtnnkchgkebcblaaWNear
import Derived.Test.YtnnkchgkebcblaaWRef
namespace Go.Proofs.Ytnnkchgkebcblaa
set_option linter.unusedVariables false
set_option linter.unusedSimpArgs false
open Go.RowKit Go.Maps
set_option maxHeartbeats 4000000 in
set_option maxRecDepth 100000 in
theorem adv_no (g mb : Nat) (sl : List Value) (now sets : Nat) (R : Nat → List Tm) (m : Int → Option Pl) (N : Nat) (w : World) (h : WAt w g mb sl now sets R m N) (x : Nat) (hx : min x 281474976710655 ≤ now) :
    Calls Try.prog 20 #[.pointer (some ⟨g, 0, none⟩), .int .u64 (x : Int)] w fun e w' => e = .returned (.slice none 0 0) ∧ w' = w := by
  have c0 := h.c0
  have c1 := h.c1
  obtain ⟨n, hn⟩ : ∃ n, n = min x 281474976710655 := ⟨_, rfl⟩
  have hcon := time_any x w
  rw [← hn] at hx hcon
  clear h hn
  go_enter Try.func20, Try.ntmps20
  go_wp2_with fail
  refine hcon.mono ?_
  rintro e w1 ⟨rfl, rfl⟩
  have hb : ¬ (now : Int) < (n : Int) := by omega
  go_wp2_with fail
  go_loopw [5] (fun s wr => s = .slice none 0 0 ∧ wr = w1) (fun _ _ => 0)
  case atStart => exact ⟨rfl, rfl⟩
  case round =>
    obtain ⟨rfl, rfl⟩ := hrel
    go_wp2_with fail
    go_ret
    exact ⟨rfl, rfl⟩
/-- the answer of Advance, with what is left. -/
def PAdvEnd (w : World) (g n sets mb : Nat) (sl0 : List Value) (T : List Tm) (e : Ending) (w' : World) : Prop :=
  ∃ vo sl R m N, e = .returned vo ∧ PAdv w w' g n sets mb sl0 T vo n sl (stay T n) R m N (rings T n)
theorem PAdv.fin {w wr : World} {g n sets mb now : Nat} {sl0 sl : List Value} {T U : List Tm} {vo : Value} {R : Nat → List Tm} {m : Int → Option Pl} {N : Nat} {out : List Int} (h : PAdv w wr g n sets mb sl0 T vo now sl U R m N out) (hi : TInv n sets U R m N) (hr : rings U n = []) :
    PAdvEnd w g n sets mb sl0 T (.returned vo) (wr.setCell ⟨g, 1, none⟩ (.int .u64 (n : Int))) := by
  have e1 : out = rings T n := by rw [← h.told, hr, List.append_nil]
  have e2 : U = stay T n := by rw [← h.st, hi.stay_all]
  have hs := (h.at_.cell 1 (.int .u64 (n : Int))).2.2
  subst e1; subst e2
  refine ⟨vo, sl, R, m, N, rfl, h.at_.setNow n, hi, own_same h.own hs fun b hb e => own_far h.own h.at_ b hb (.inl e), h.told, h.st, h.len, h.same.trans hs fun i hi e => ?_, h.foot, Nat.le_refl _⟩
  rcases h.foot i (.inl e) with e' | e'
  · exact e'
  · omega
theorem PAdv.done {w wr : World} {g n sets mb now : Nat} {sl0 sl : List Value} {T U : List Tm} {vo : Value} {R : Nat → List Tm} {m : Int → Option Pl} {N : Nat} {out : List Int} (h : PAdv w wr g n sets mb sl0 T vo now sl U R m N out) (hn : now = n) : PAdvEnd w g n sets mb sl0 T (.returned vo) wr := by
  subst hn
  have e1 : out = rings T now := by rw [← h.told, h.inv.rings_nil, List.append_nil]
  have e2 : U = stay T now := by rw [← h.st, h.inv.stay_all]
  subst e1; subst e2
  exact ⟨vo, sl, R, m, N, rfl, h⟩
theorem PAdv.later {w wr w' : World} {g n sets mb now : Nat} {sl0 sl : List Value} {T U : List Tm} {vo : Value} {R : Nat → List Tm} {m : Int → Option Pl} {N : Nat} {out : List Int} (h : PAdv w wr g n sets mb sl0 T vo now sl U R m N out) (hb : Below wr.heap.size wr w') : PAdv w w' g n sets mb sl0 T vo now sl U R m N out :=
  ⟨h.at_.later hb, h.inv, own_later h.own hb, h.told, h.st, h.len, h.same.trans (Same.of_below hb no) (fun _ _ h => h.elim), h.foot, h.le⟩
structure Took (w W : World) (g mb sets : Nat) (sl0 : List Value) (b row : Nat) (sl : List Value) (R : Nat → List Tm) (m : Int → Option Pl) (N : Nat) (v vo : Value) (out : List Int) : Prop where
  at_ : WAt W g mb (sl.set row (.slice none 0 0)) b sets (upd R row []) m N
  rows : W.ownsRow 0 82 3 v (R row).length (tvs (R row))
  far : ∀ c, v.ownBlock = some c → ¬ WF g mb (sl.set row (.slice none 0 0)) c
  own : W.ownsRow w.heap.size 3 1 vo out.length (ivs out)
  same : Same (WF g mb sl0) w W
  foot : ∀ c, WF g mb (sl.set row (.slice none 0 0)) c → WF g mb sl0 c ∨ w.heap.size ≤ c
  old : ∀ c, v.ownBlock = some c → WF g mb sl0 c ∨ w.heap.size ≤ c
theorem PAdv.take {w wr : World} {g n sets mb now : Nat} {sl0 sl : List Value} {T U : List Tm} {vo : Value} {R : Nat → List Tm} {m : Int → Option Pl} {N : Nat} {out : List Int} (h : PAdv w wr g n sets mb sl0 T vo now sl U R m N out) {row : Nat} (hr : row < 512) {v : Value} (hv : sl[row]? = some v) (b : Nat) :
    Took w ((wr.setCell ⟨g, 3 + row, none⟩ (.slice none 0 0)).setCell ⟨g, 1, none⟩ (.int .u64 (b : Int))) g mb sets sl0 b row sl R m N v vo out := by
  obtain ⟨h1, h2, h3⟩ := h.at_.push (w' := wr) hr hv (v' := .slice none 0 0) (l := []) (World.ownsRow_nil _ _ _ _) (World.grownBy.refl _ _) (.inl rfl)
  have s1 := (h.at_.cell (3 + row) (.slice none 0 0)).2.2
  have s2 := (h1.cell 1 (.int .u64 (b : Int))).2.2
  have hown := h.at_.rows.own row v hv
  have hvg : v.ownBlock ≠ some g := own_blk_ne hown h.at_.blk (by decide)
  have vold : ∀ c, v.ownBlock = some c → WF g mb sl c := fun c hc => .inr (.inr ⟨v, List.mem_of_getElem? hv, hc⟩)
  have og := own_far h.own h.at_
  have hf : ∀ c, WF g mb (sl.set row (.slice none 0 0)) c → WF g mb sl0 c ∨ w.heap.size ≤ c := fun c hc => by
    rcases h3 c hc with e | e
    · exact h.foot c e
    · exact .inr (Nat.le_trans h.same.size e)
  refine ⟨h1.setNow b, ?_, fun c hc hw => ?_, ?_, ?_, hf, fun c hc => h.foot c (vold c hc)⟩
  · exact own_same (own_same hown s1 fun c hc e => hvg (by rw [hc, show c = g from e])) s2 fun c hc e => hvg (by rw [hc, show c = g from e])
  · rcases hw with rfl | rfl | ⟨y, hy, hyc⟩
    · exact hvg hc
    · exact h.at_.map.row_ne hown hc
    · obtain ⟨i, hi⟩ := List.getElem?_of_mem hy
      by_cases hir : row = i
      · subst hir
        have hlen : row < sl.length := (List.getElem?_eq_some_iff.1 hv).1
        rw [List.getElem?_set_self hlen] at hi
        injection hi with hi
        subst hi
        cases hyc
      · rw [List.getElem?_set_ne hir] at hi
        rcases h.at_.rows.ne row i v y hir hv hi with e | e
        · rw [e] at hc; cases hc
        · exact e (hc.trans hyc.symm)
  · exact own_same (own_same h.own s1 fun c hc e => og c hc (.inl e)) s2 fun c hc e => og c hc (.inl e)
  · refine (h.same.trans s1 fun i hi e => ?_).trans s2 fun i hi e => ?_
    · rcases h.foot i (.inl e) with e' | e'
      · exact e'
      · omega
    · rcases h.foot i (.inl e) with e' | e'
      · exact e'
      · omega
theorem Took.start {w W w' : World} {g mb sets : Nat} {sl0 : List Value} {b row : Nat} {sl : List Value} {R : Nat → List Tm} {m : Int → Option Pl} {N : Nat} {v vo : Value} {out : List Int} (h : Took w W g mb sets sl0 b row sl R m N v vo out) {l : List Tm}
    (ho : w'.ownsRow 0 82 3 v l.length (tvs l)) (hg : W.grownBy w' v.ownBlock) : Inn w w' g mb sl0 b sets l ⟨upd R row [], m, N⟩ v vo (sl.set row (.slice none 0 0)) out 0 := by
  have hs := Same.of_grown hg
  refine ⟨h.at_.same hs fun c hc e => h.far c e.symm hc, ho, h.far, ?_, h.same.trans hs fun i hi e => ?_, h.foot⟩
  · have e0 : out ++ toldOf l 0 b = out := by simp [toldOf]
    rw [e0]
    refine own_same h.own hs fun c hc e => ?_
    rcases own_ne h.own h.rows (by decide) with e' | e'
    · rw [e'] at hc; cases hc
    · exact e' (hc.trans e)
  · rcases h.old i e.symm with e' | e'
    · exact e'
    · omega
theorem Inn.fin {w wr : World} {g mb sets now n : Nat} {sl0 sl : List Value} {T U : List Tm} {L s : Nat} {l : List Tm} {R : Nat → List Tm} {m : Int → Option Pl} {N : Nat} {v vo : Value} {out : List Int} (hi : TInv now sets U R m N) (hn : now < 281474976710655) (hN : Near now (fun k => R k ≠ []) L s) (hb : bg now L s ≤ n) (hn2 : n ≤ 281474976710655)
    (hl : l.Perm (R (L * 64 + s))) (ho : l.Pairwise fun a b => a.ord ≤ b.ord) (htold : out ++ rings U n = rings T n) (hst : stay U n = stay T n) (hlen : out.length + U.length = T.length)
    (h : Inn w wr g mb sl0 (bg now L s) sets l ⟨upd R (L * 64 + s) [], m, N⟩ v vo sl out l.length) :
    PAdv w wr g n sets mb sl0 T vo (bg now L s) sl (rest U (bg now L s)) (RS.lays (bg now L s) ⟨upd R (L * 64 + s) [], m, N⟩ l).R (RS.lays (bg now L s) ⟨upd R (L * 64 + s) [], m, N⟩ l).m (RS.lays (bg now L s) ⟨upd R (L * 64 + s) [], m, N⟩ l).N (out ++ (due U (bg now L s)).map Tm.id) := by
  have e1 := hi.told hn hN hl ho
  have e2 : toldOf l l.length (bg now L s) = (due U (bg now L s)).map Tm.id := by unfold toldOf; rw [List.take_length, e1]
  obtain ⟨h1, h2, h3, h4, h5, h6⟩ := h
  rw [List.take_length] at h1
  rw [e2] at h4
  have hr := rings_step (n := n) (fun t ht _ => hi.ge hn hN ht) hb
  refine ⟨h1, hi.step hn hN (by omega) hl, h4, ?_, ?_, ?_, h5, h6, hb⟩
  · rw [List.append_assoc, ← htold, hr]
    rfl
  · rw [stay_rest hb, hst]
  · rw [List.length_append, List.length_map, ← hlen]
    have : (due U (bg now L s)).length + (rest U (bg now L s)).length = U.length := by
      have := (List.filter_append_perm (fun t : Tm => !t.nev && t.at_ == bg now L s) U).length_eq
      rw [List.length_append] at this
      rw [← this]
      unfold due rest
      congr 2
      refine List.filter_congr fun t _ => ?_
      cases t.nev <;> simp [bne]
    omega
set_option maxHeartbeats 8000000 in
set_option maxRecDepth 100000 in
theorem adv_yes (g mb : Nat) (sl : List Value) (now sets : Nat) (T : List Tm) (R : Nat → List Tm) (m : Int → Option Pl) (N : Nat) (w : World) (h : WAt w g mb sl now sets R m N) (hi : TInv now sets T R m N) (x n : Nat) (hn : n = min x 281474976710655) (hx : now < n) (hl : T.length < 4398046511105) (hs : sets < 4611686018427387904) :
    Calls Try.prog 20 #[.pointer (some ⟨g, 0, none⟩), .int .u64 (x : Int)] w (PAdvEnd w g n sets mb sl T) := by
  have c0 := h.c0
  have hcon := time_any x w
  rw [← hn] at hcon
  have hn2 : n ≤ 281474976710655 := by omega
  have HW : Hid (PAdv w w g n sets mb sl T (.slice none 0 0) now sl T R m N []) := Lib.hid ⟨h, hi, World.ownsRow_nil _ _ _ _, rfl, rfl, by simp, Same.refl _ _, fun _ h => .inl h, Nat.le_of_lt hx⟩
  clear h hi hn
  go_enter Try.func20, Try.ntmps20
  go_wp2_with fail
  refine hcon.mono ?_
  clear hcon
  rintro e w1 ⟨rfl, rfl⟩
  clear c0
  go_wp2_with fail
  go_loopg [5] (n - now) (fun k vo wr => ∃ (now : Nat) (sl1 : List Value) (U : List Tm) (R : Nat → List Tm) (m : Int → Option Pl) (N : Nat) (out : List Int), n - now = k ∧ Hid (PAdv w1 wr g n sets mb sl T vo now sl1 U R m N out))
  case atStart => exact ⟨now, sl, T, R, m, N, [], rfl, HW⟩
  case round =>
    clear HW hx
    obtain ⟨now, sl1, U, R, m, N, out, hk, HA⟩ := hrel
    have c1 := HA.out.at_.c1
    have hle := HA.out.le
    by_cases hlt : now < n
    · have hb : (now : Int) < (n : Int) := by omega
      have hcon := nearest_any g mb sl1 now sets R m N wr HA.out.at_ (by omega)
      have HK := Lib.hid hk
      clear hk hlt hle
      go_wp2_with fail
      refine hcon.mono ?_
      clear hcon
      rintro e w2 ⟨hB2, ⟨rfl, hno⟩ | ⟨L, s, hN, rfl⟩⟩
      · have hA := HA.out.later hB2
        have he : U = [] := hA.inv.none (by omega) hno
        have hi2 : TInv n sets U R m N := hA.inv.move (by omega) hn2 fun t ht => by rw [he] at ht; cases ht
        have hr : rings U n = [] := rings_none fun t ht => by rw [he] at ht; cases ht
        have FIN := Lib.hid (hA.fin hi2 hr)
        have c1 := hA.at_.c1
        have f1 := hA.at_.fz 1
        clear hA he hi2 hr hno hB2
        go_wp2_with fail
        go_ret
        exact FIN.out
      · have hA := HA.out.later hB2
        by_cases hgt : n < bg now L s
        · have hi2 : TInv n sets U R m N := hA.inv.quiet (by omega) hN (by omega) hn2 hgt
          have hr : rings U n = [] := hi2.rings_nil
          have FIN := Lib.hid (hA.fin hi2 hr)
          have c1 := hA.at_.c1
          have f1 := hA.at_.fz 1
          have hb2 : (n : Int) < ((bg now L s : Nat) : Int) := by omega
          clear hA hi2 hr hN hB2
          go_wp2_with fail
          go_ret
          exact FIN.out
        · have hbn := Nat.le_of_not_lt hgt
          obtain ⟨row, hrow⟩ : ∃ row, row = L * 64 + s := ⟨_, rfl⟩
          have hr512 : row < 512 := by have h1 := hN.lt; have h2 := hN.slt; omega
          obtain ⟨v, hv, hc, hown⟩ := hA.at_.at hr512
          have hne : R row ≠ [] := hrow ▸ hN.here
          have hfz := hA.at_.fz (3 + row)
          have hfz1 := hA.at_.fz 1
          have c1 := hA.at_.c1
          have htook := hA.take hr512 hv (bg now L s)
          have hq0 : 0 < (R row).length := List.length_pos_iff.2 hne
          have hqT : (R row).length ≤ U.length := hA.inv.rowLen row
          have hUT : U.length ≤ T.length := by have := hA.len; omega
          obtain ⟨vp, cap, rfl, hqc, hcm, hvp⟩ := own_open hown
          obtain ⟨vb, rfl⟩ := hvp hq0
          obtain ⟨q, hq⟩ : ∃ q, q = (R row).length := ⟨_, rfl⟩
          rw [← hq] at hc hqc hq0 hqT
          have hords : ∀ t ∈ R row, t.ord < 4611686018427387904 := fun t ht => by
            have := hA.inv.le t (hA.inv.inR.1 ht).1
            omega
          have hca : w2.cell? ⟨g, 3 + (L * 64 + s), none⟩ = some (.slice (some ⟨vb, 0, none⟩) q cap) := by rw [← hrow]; exact hc
          have hfa : w2.frozen? ⟨g, 3 + (L * 64 + s), none⟩ = false := hA.at_.fz _
          have hgl := hA.at_.blk.lt
          have hb2 : ¬ (n : Int) < ((bg now L s : Nat) : Int) := by omega
          obtain ⟨b, hbe⟩ : ∃ b, b = bg now L s := ⟨_, rfl⟩
          rw [← hbe] at htook hb2 hgt ⊢
          have hsort := fun W h => sort_any 0 (.slice (some ⟨vb, 0, none⟩) q cap) (R row) W h hords (by omega)
          have HA2 := Lib.hid hA; have HN := Lib.hid hN; have HT := Lib.hid htook; have HR := Lib.hid hrow; have HQ := Lib.hid hq; have HBE := Lib.hid hbe; have HO := Lib.hid hords; have HS := Lib.hid hsort; have HBA := Lib.hid hB2
          clear hA hN htook hrow hq hbe hords hsort hv hc hown hne hfz hB2
          have hx3 : 3 + row = 3 + (L * 64 + s) := by rw [HR.out]
          have HX3 := Lib.hid hx3
          clear hx3
          go_wp2_with fail
          obtain ⟨W4, hW4⟩ : ∃ W4, W4 = (w2.setCell ⟨g, 3 + (L * 64 + s), none⟩ (.slice none 0 0)).setCell ⟨g, 1, none⟩ (.int .u64 (b : Int)) := ⟨_, rfl⟩
          rw [← hW4]
          have htk : Took w1 W4 g mb sets sl b row sl1 R m N (.slice (some ⟨vb, 0, none⟩) q cap) u5 out := by
            rw [hW4, ← HX3.out]
            have := HT.out
            rw [← HQ.out] at this
            exact this
          have HTK := Lib.hid htk
          clear htk hW4 HT
          refine (HS.out W4 HTK.out.rows).mono ?_
          rintro e w5 ⟨rfl, l, hlp, hlo, hown5, hg5⟩
          have hst := HTK.out.start hown5 hg5
          have hll : l.length = q := by rw [HQ.out]; exact hlp.length_eq
          have HST := Lib.hid hst; have HLP := Lib.hid hlp; have HLO := Lib.hid hlo; have HLL := Lib.hid hll
          clear hst hown5 hg5 hlp hlo hll
          go_wp2_with fail
          go_loopw [5, 57] (fun so i wr => ∃ (j : Nat) (sl2 : List Value), j ≤ q ∧ i = .int .i64 (j : Int) ∧ Hid (Inn w1 wr g mb sl b sets l ⟨upd R row [], m, N⟩ (.slice (some ⟨vb, 0, none⟩) q cap) so sl2 out j)) (fun _ i _ => q - (intOf i).toNat)
          case atStart => exact ⟨0, _, Nat.zero_le _, rfl, HST⟩
          case round =>
            obtain ⟨j, sl2, hj, rfl, HI⟩ := hrel
            by_cases hjq : j < q
            · have ix1 : (j : Int) < (q : Int) := by omega
              obtain ⟨t, ht⟩ : ∃ t, l[j]? = some t := ⟨_, List.getElem?_eq_getElem (by rw [HLL.out]; exact hjq)⟩
              have hrow := HI.out.row
              rw [HLL.out] at hrow
              obtain ⟨d0, d1, d2⟩ := tcells hrow ht
              have hmem := HA2.out.inv.inR.1 (HLP.out.mem_iff.1 (List.mem_of_getElem? ht))
              have hwf : (key t.id).wf = true := HA2.out.inv.wf t hmem.1
              have hat : t.at_ < 64 ^ 8 := by have := HA2.out.inv.live t hmem.1 hmem.2.1; omega
              have hb8 : b < 64 ^ 8 := by omega
              have hRl : ((RS.lays b ⟨upd R row [], m, N⟩ (l.take j)).R (ix t.at_ b)).length < 4611686018427 := by
                have := HA2.out.inv.laidLen (k := ix t.at_ b) (b := b) (j := j) HLP.out
                omega
              have hNl : (RS.lays b ⟨upd R row [], m, N⟩ (l.take j)).N < 4611686018427 := by
                have h1 := HA2.out.inv.laidN (b := b) (j := j) HLP.out
                have h2 := HA2.out.inv.cnt
                omega
              obtain ⟨W6, hW6⟩ : ∃ W6, W6 = wr.alloc (.cells #[.int .i64 t.id, .int .u64 (t.at_ : Int), .int .u64 (t.ord : Int)] 82) := ⟨_, rfl⟩
              have hB6 : Below wr.heap.size wr W6 := hW6 ▸ (Below.refl _ _).alloc (Nat.le_refl _) _
              have hT6 : Blk W6 wr.heap.size 82 [.int .i64 t.id, .int .u64 (t.at_ : Int), .int .u64 (t.ord : Int)] := hW6 ▸ Blk.new wr _ _
              have hI6 := HI.out.later hB6
              have HI6 := Lib.hid hI6; have HT6 := Lib.hid hT6; have HW6 := Lib.hid hW6; have HTJ := Lib.hid ht; have HMEM := Lib.hid hmem; have HB6 := Lib.hid hB6
              have hlay := lay_any g mb sl2 b sets _ _ _ W6 hI6.at_ hb8 t hat hwf hRl hNl
              obtain ⟨id, x1, ord, nev⟩ := t
              simp only at d0 d1 d2 hlay hwf hat
              clear hI6 hT6 hW6 ht hmem hrow hRl hNl hB6
              have g0 := HT6.out.cell_some (i := 0) rfl
              have g1 := HT6.out.cell_some (i := 1) rfl
              have g2 := HT6.out.cell_some (i := 2) rfl
              have htl := HT6.out.lt
              obtain ⟨tb, htb⟩ : ∃ tb, tb = wr.heap.size := ⟨_, rfl⟩
              rw [← htb] at g0 g1 g2 htl
              have HTB := Lib.hid htb
              clear htb
              by_cases hlt : b < x1
              · have hlt2 : (b : Int) < (x1 : Int) := by omega
                go_wp2_with fail
                rw [← HW6.out]
                refine hlay.mono ?_
                clear hlay
                rintro e w7 ⟨rfl, sl3, l1, l2, l3⟩
                have hI7 := HI6.out.lay HTJ.out hlt l1 l2 l3
                have HI7 := Lib.hid hI7
                clear hI7 l1 l2 l3
                go_wp2_with fail
                go_roundw
                case rel => exact ⟨j + 1, sl3, by omega, by go_num, HI7⟩
                case measure => simp [intOf]; omega
              · have hlt2 : ¬ (b : Int) < (x1 : Int) := by omega
                clear hlay
                obtain ⟨D, q1, q2, q3, q4⟩ := HI6.out.at_.map.ex
                obtain ⟨W7, hdel, q5, hS7⟩ := delete_run (show OwnsM W6.drew mb _ D from q1) hwf
                have hS7' : Same (at1 mb) W6 W7 := ⟨hS7.os, hS7.tape, hS7.output, hS7.size, hS7.block⟩
                have hm7 := MapIs.del (w := W6) (w' := W7) hwf q1 q2 q3 q4 q5
                have hc515 := HI6.out.at_.c515
                have htm : tb ≠ mb := fun e => by
                  have h1 := HI.out.at_.map.lt
                  have h2 := HTB.out
                  omega
                have e0 := hS7'.cell_some (p := ⟨tb, 0, none⟩) g0 htm
                have hdd := HI6.out.deleted (t := ⟨id, x1, ord, nev⟩) hS7' hm7
                obtain ⟨p, hp⟩ : ∃ p, p = (out ++ toldOf l j b).length := ⟨_, rfl⟩
                have hvo := hdd.2.2.1
                obtain ⟨va, vc, rfl, -⟩ := own_open hvo
                rw [← hp] at hvo ⊢
                have hx2 : (p + 1) * 8 ≤ 140737488355328 := by
                  have h1 : (toldOf l j b).length ≤ l.length := by
                    unfold toldOf
                    rw [List.length_map]
                    refine Nat.le_trans (List.length_filter_le _ _) ?_
                    rw [List.length_take]
                    omega
                  have h2 := HLL.out
                  have h3 := HA2.out.len
                  rw [hp, List.length_append]
                  omega
                have hz7 := hdd.2.2.2.size
                have HS7 := Lib.hid hS7'; have HM7 := Lib.hid hm7; have HP := Lib.hid hp; have HDEL := Lib.hid hdel
                have prep : ∀ v8 w8, w8.ownsRow w1.heap.size 3 1 v8 (p + 1) (ivs (out ++ toldOf l j b) ++ [.int .i64 id]) → W7.grownBy w8 (Value.slice va p vc).ownBlock →
                    Hid (Inn w1 w8 g mb sl b sets l ⟨upd R row [], m, N⟩ (.slice (some ⟨vb, 0, none⟩) q cap) v8 sl2 out (j + 1)) := fun v8 w8 ho hg => by
                  refine Lib.hid (HI6.out.ring (t := ⟨id, x1, ord, nev⟩) HTJ.out hlt HS7.out HM7.out HP.out.symm ho ?_)
                  rw [← HP.out]
                  exact hg
                have PREP := Lib.hid prep
                clear prep hdd hm7 hS7' hS7 q1 q2 q3 q4 q5 hp
                go_wp2_with fail
                rw [← HW6.out, ← HTB.out]
                go_region_law (go_loud (refine step_delete rfl (.tmp 71) (.tmp 73) rfl rfl rfl hdel ?_))
                all_goals
                  have hvo7 : W7.ownsRow w1.heap.size 3 1 (.slice va p vc) p (ivs (out ++ toldOf l j b)) := hvo
                  go_wp2_with (at_builtin; go_loud (refine wpList_app1 El.ints rfl (.tmp 74) (.tmp 77) rfl hvo7 rfl (cs := #[.int .i64 id]) rfl rfl (by intro x hx; simp at hx; subst hx; rfl) hx2 hz7 ?_); intro v8 w8 hown8 hgr8 _; have HFIN := PREP.out v8 w8 hown8 hgr8; clear hown8 hgr8)
                  go_roundw
                  case rel => exact ⟨j + 1, sl2, by omega, by go_num, HFIN⟩
                  case measure => simp [intOf]; omega
            · obtain rfl : j = q := by omega
              have hI := HI.out
              have hin : Inn w1 wr g mb sl b sets l ⟨upd R row [], m, N⟩ (.slice (some ⟨vb, 0, none⟩) j cap) u5 sl2 out l.length := by
                rw [HLL.out]; exact hI
              have hA2 := HA2.out
              have hfin := Inn.fin hA2.inv (by omega) HN.out hbn hn2 (by rw [← HR.out]; exact HLP.out) HLO.out hA2.told hA2.st hA2.len (by rw [← HBE.out, ← HR.out]; exact hin)
              have haft := HN.out.after
              rw [← HBE.out] at hfin haft
              have hkk := HK.out
              have HF := Lib.hid hfin
              clear hfin hA2 hin hI
              go_wp2_with fail
              go_roundg (n - b)
              case measure => omega
              case rel => exact ⟨b, sl2, _, _, _, _, _, rfl, HF⟩
    · have hb : ¬ (now : Int) < (n : Int) := by omega
      go_wp2_with fail
      go_ret
      exact HA.out.done (by omega)
end Go.Proofs.Ytnnkchgkebcblaa
