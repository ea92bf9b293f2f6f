/- IRowO, IRowC: joined. -/
import Derived.Test.YtfaemjlemaclbaaGreatMSortK
section
/- row of the open ones: the sessions of a map, by when they were touched. -/
namespace Go.Proofs.YtfaemjlemaclbaaGreat
set_option linter.unusedVariables false
set_option linter.unusedSimpArgs false
open Go.RowKit Go.Maps Go.Sort Go.Proofs
theorem zeroKO (w : World) : (zeroValue 94).run Tryz.prog w = .ok (pv none) w := by kernel_rfl
set_option maxHeartbeats 1000000 in
set_option maxRecDepth 100000 in
theorem lessO_any (x y : RE) (R : List RE) (b mb : Nat) (W : World) (hx : x ∈ R) (hy : y ∈ R) (hm : MapAt W b (R.map RE.kv)) (hb : Blk W mb 84 [.map (some b)])
    (hk : ∀ r ∈ R, W.cell? ⟨r.kb, 1, none⟩ = some (.int .i64 (r.wh : Int))) :
    Calls Tryz.prog 59 #[.agg (rc x).toArray, .agg (rc y).toArray, .pointer (some ⟨mb, 0, none⟩)] W fun e w' => e = .returned (.int .i64 (whenCmp x y)) ∧ ∃ q os', w' = grow (W.drewN q) os' := by
  have hcx := hk x hx
  have hcy := hk y hy
  have hlx : x.kv ∈ R.map RE.kv := List.mem_map.2 ⟨x, hx, rfl⟩
  have hly : y.kv ∈ R.map RE.kv := List.mem_map.2 ⟨y, hy, rfl⟩
  have look : ∀ W' : World, Below W.heap.size W W' → (Instr.lookup 84 (.map (some b)) (sv x.s) false).run Tryz.prog W' = .ok (.pointer (some ⟨x.kb, 0, none⟩)) W' ∧
      (Instr.lookup 84 (.map (some b)) (sv y.s) false).run Tryz.prog W' = .ok (.pointer (some ⟨y.kb, 0, none⟩)) W' := fun W' hB =>
    ⟨((hm.later hB).look sKL pEL Tryz.underlying84 (zeroKO W') hlx).1, ((hm.later hB).look sKL pEL Tryz.underlying84 (zeroKO W') hly).1⟩
  have hcmp := fun W' => cmp_any (x.wh : Int) (y.wh : Int) W'
  change ∀ W', Calls _ _ _ _ (fun e w' => e = .returned (.int .i64 (whenCmp x y)) ∧ W' = w') at hcmp
  generalize whenCmp x y = r at hcmp ⊢
  have hc0 := hb.cell_some (i := 0) rfl
  clear hm hb hk hlx hly
  obtain ⟨xs, xk, xw⟩ := x
  obtain ⟨ys, yk, yw⟩ := y
  obtain ⟨x1, x2⟩ := xs
  obtain ⟨y1, y2⟩ := ys
  simp only [rc, sc, sv] at look hcx hcy hcmp ⊢
  go_enter Tryz.func59, Tryz.ntmps59
  go_wp2_with fail
  obtain ⟨w1, hw1⟩ : ∃ w1, w1 = (W.alloc (.cells #[.int .u64 (x1.toNat : Int), .int .u64 (x2.toNat : Int)] 66)).alloc (.cells #[.int .u64 (y1.toNat : Int), .int .u64 (y2.toNat : Int)] 66) := ⟨_, rfl⟩
  have hB : Below W.heap.size W w1 := hw1 ▸ ((Below.refl _ _).alloc (Nat.le_refl _) _).alloc (by simp) _
  have hx1 : Blk w1 W.heap.size 66 [.int .u64 (x1.toNat : Int), .int .u64 (x2.toNat : Int)] := hw1 ▸ (Blk.new W _ _).alloc _
  have hy1 : Blk w1 (W.heap.size + 1) 66 [.int .u64 (y1.toNat : Int), .int .u64 (y2.toNat : Int)] := by
    have := Blk.new (W.alloc (.cells #[.int .u64 (x1.toNat : Int), .int .u64 (x2.toNat : Int)] 66)) 66 [.int .u64 (y1.toNat : Int), .int .u64 (y2.toNat : Int)]
    rw [show (W.alloc (.cells #[.int .u64 (x1.toNat : Int), .int .u64 (x2.toNat : Int)] 66)).heap.size = W.heap.size + 1 by simp] at this
    exact hw1 ▸ this
  have hc0 := below_cell hB hc0 (World.block_lt_of_cell? _ _ hc0)
  have hcx := below_cell hB hcx (World.block_lt_of_cell? _ _ hcx)
  have hcy := below_cell hB hcy (World.block_lt_of_cell? _ _ hcy)
  have a0 := hx1.cell_some (i := 0) rfl
  have a1 := hx1.cell_some (i := 1) rfl
  have b0 := hy1.cell_some (i := 0) rfl
  have b1 := hy1.cell_some (i := 1) rfl
  have HW := Lib.hid hw1
  rw [← hw1]
  have HK := Lib.hid look
  have HB := Lib.hid hB
  clear hx1 hy1 hw1 look hB hx hy
  refine region_class (C := fun w' => ∃ q, w' = w1.drewN q) (by kernel_rfl) (by kernel_rfl) ⟨1, rfl⟩ ?_
  repeat
    (first
     | go_big_quiet_skip
     | (go_big_quiet_want
        rename_i K hK
        apply Exists.intro
        refine ⟨fun w' hw' => ?_, hK _ ?_⟩
        · obtain ⟨q, rfl⟩ := hw'
          have d0 : (w1.drewN q).cell? _ = _ := hc0
          have d1 : (w1.drewN q).cell? _ = _ := hcx
          have d2 : (w1.drewN q).cell? _ = _ := hcy
          have d3 : (w1.drewN q).cell? _ = _ := a0
          have d4 : (w1.drewN q).cell? _ = _ := a1
          have d5 : (w1.drewN q).cell? _ = _ := b0
          have d6 : (w1.drewN q).cell? _ = _ := b1
          obtain ⟨l1, l2⟩ := HK.out (w1.drewN q) (below_drewN HB.out q)
          go_simp
          first
          | (go_at_call 60
             refine (hcmp _).mono ?_
             rintro e w1 ⟨rfl, rfl⟩
             exact ⟨rfl, q, rfl⟩)
          | with_reducible rfl
        clear hK K
        simp only [Act.put, List.setIfInBounds_toArray, List.set_cons_zero, List.set_cons_succ]))
  refine wpQuiet_nil ?_
  rintro w5 ⟨q, rfl⟩
  go_wp2
  go_ret
  exact ⟨rfl, q, _, (congrArg (fun a : World => a.drewN q) HW.out).trans (alloc2_grow _ _ _ q)⟩
/-- the sort of such a row, by when. -/
theorem sortO_any (base : Nat) (v : Value) (R l : List RE) (b mb : Nat) (w : World) (hl : l.Perm R) (hn : R.length < 4611686018427387904) (hown : w.ownsRow base 66 2 v l.length (l.flatMap rc)) (hm : MapAt w b (R.map RE.kv))
    (hb : Blk w mb 84 [.map (some b)]) (hk : ∀ r ∈ R, w.cell? ⟨r.kb, 1, none⟩ = some (.int .i64 (r.wh : Int))) (hne : ∀ r ∈ R, v.ownBlock ≠ some r.kb) (hs : R.Pairwise fun a b => a.wh < b.wh) :
    Calls Tryz.prog 58 #[v, .func (.func 59) #[] #[.pointer (some ⟨mb, 0, none⟩)]] w fun e w' => e = .returned (.tuple #[]) ∧
      w'.ownsRow base 66 2 v R.length (R.flatMap rc) ∧ w.grownBy w' v.ownBlock := by
  by_cases hR : R = []
  · subst hR
    have hl0 : l = [] := hl.eq_nil
    subst hl0
    obtain ⟨ao, cap, rfl, -⟩ := Rd.of_own hown
    have hcon := AnyF.slices_SortFunc_none Tryz.sortSess ao cap (.func (.func 59) #[] #[.pointer (some ⟨mb, 0, none⟩)]) w
    change Calls Tryz.prog 58 _ _ _ at hcon
    refine hcon.mono ?_
    rintro e w' ⟨rfl, rfl⟩
    exact ⟨rfl, hown, World.grownBy.refl _ _⟩
  · obtain ⟨r0, hr0⟩ := List.exists_mem_of_ne_nil R hR
    have : Inhabited { r : RE // r ∈ R } := ⟨⟨r0, hr0⟩⟩
    clear hR
    obtain ⟨L, rfl⟩ := lift_mem (R := R) l fun r hr => hl.mem_iff.1 hr
    have eg : ∀ args w, (callFunc 59 args).run Tryz.prog w = .ok (.enter 59 args) w := enters_of Tryz.func59 (by kernel_rfl) rfl
    rw [← lift_flat] at hown
    have hlen : (L.map (·.1)).length = L.length := List.length_map ..
    rw [hlen] at hown
    have hcon := sort_own (fun r : { r : RE // r ∈ R } => rc r.1) Tryz.sortSess Tryz.isAgg66 Tryz.sizeOf66 (fun _ => rfl) (by decide) (fun x v hv => by simp [rc, sc] at hv; rcases hv with rfl | rfl <;> rfl)
      (fun x y => whenCmp x.1 y.1) swoSub 59 #[.pointer (some ⟨mb, 0, none⟩)] eg base v L w hown (by have := hl.length_eq; omega)
      (fun W hg x y => by
        have hS := Same.of_grown hg
        exact lessO_any x.1 y.1 R b mb W x.2 y.2 (hm.same hS fun e => hm.row_ne hown e.symm) (hb.same hS fun e => own_blk_ne hown hb (by decide) e.symm) fun r hr => hS.cell_some (hk r hr) fun e => hne r hr e.symm)
    change Calls Tryz.prog 58 _ _ _ at hcon
    refine hcon.mono ?_
    rintro e w' ⟨rfl, l', hp, hs', ho, hg⟩
    have hu : R = l'.map (·.1) := by
      refine sorted_uniq ((hp.map (·.1)).trans hl).symm hs ?_
      rw [List.pairwise_map]
      refine hs'.imp fun {a c} h => ?_
      have h1 : ltOf whenCmp c.1 a.1 = false := h
      rw [ltWhen] at h1
      simpa using h1
    refine ⟨rfl, ?_, hg⟩
    rw [lift_flat] at ho
    rw [← hu] at ho
    have : l'.length = R.length := by
      have := congrArg List.length hu
      rw [List.length_map] at this
      exact this.symm
    rwa [this] at ho
set_option maxHeartbeats 1000000 in
set_option maxRecDepth 100000 in
theorem rowO_any (R : List RE) (b : Nat) (w : World) (hm : MapAt w b (R.map RE.kv)) (hk : ∀ r ∈ R, w.cell? ⟨r.kb, 1, none⟩ = some (.int .i64 (r.wh : Int))) (hs : R.Pairwise fun a b => a.wh < b.wh) (hn : R.length ≤ 4611686018427) :
    Calls Tryz.prog 39 #[.map (some b)] w fun e w' => ∃ v, e = .returned v ∧ w'.ownsRow w.heap.size 66 2 v R.length (R.flatMap rc) ∧ Below w.heap.size w w' := by
  have HM := Lib.hid hm
  have HK := Lib.hid hk
  have HS := Lib.hid hs
  have HN := Lib.hid hn
  clear hm hk hs hn
  go_enter Tryz.func39, Tryz.ntmps39
  go_wp2_with (first | (at_range; refine wpList_range_l sKL _ Tryz.underlying84 rfl _ rfl b (R.map RE.kv) rfl (HM.out.later ((Below.refl _ _).alloc (Nat.le_refl _) _)) ?_; intro wq hR1 hB1 hs1) | fail)
  go_frame
  have hB0 : Below w.heap.size w (w.alloc (.cells #[.map (some b)] 84)) := (Below.refl _ _).alloc (Nat.le_refl _) _
  have hb0 := (Blk.new w 84 [.map (some b)]).later hB1
  have hBq := hB0.trans (hB1.mono hB0.size)
  have hs0 : (w.alloc (.cells #[.map (some b)] 84)).heap.size = w.heap.size + 1 := by simp
  rw [hs0] at hR1 hs1 ⊢
  have hKq := fun r hr => below_cell hBq (HK.out r hr) (World.block_lt_of_cell? _ _ (HK.out r hr))
  have HR1 := Lib.hid hR1
  have HB := Lib.hid hBq
  have HC := Lib.hid hb0
  have HKq := Lib.hid hKq
  have HSZ := Lib.hid hs1
  have hmb : w.heap.size < wq.heap.size := by omega
  clear hR1 hB1 hB0 hb0 hBq hKq hs1 hs0
  go_loopw [3, 4] (fun l p wr => ∃ T D : List RE, (D ++ T).Perm R ∧ wr.ownsRow w.heap.size 66 2 l D.length (D.flatMap rc) ∧ LRange Tryz.prog 66 sv pR pdat wr b (w.heap.size + 1) (R.map RE.kv) (T.map RE.kv) ∧ Below w.heap.size w wr ∧ Blk wr w.heap.size 84 [.map (some b)])
    (fun _ _ wr => wr.rangeLeft b (w.heap.size + 1))
  case atStart => exact ⟨R, [], List.Perm.refl _, World.ownsRow_nil _ _ _ _, HR1.out, HB.out, HC.out⟩
  case round =>
    obtain ⟨T, D, hp, hown, hR, hBr, hbr⟩ := hrel
    have HP := Lib.hid hp; have HR := Lib.hid hR; have HBr := Lib.hid hBr; have Hbr := Lib.hid hbr
    have HO := Lib.hid hown
    have hz := hBr.size
    clear hp hR hBr hbr hown
    go_wp2_with (first | (at_next; refine wpList_next_l sKL pEL _ rfl _ rfl b (w.heap.size + 1) (R.map RE.kv) (T.map RE.kv) rfl HR.out ?_ ?_) | fail)
    case refine_1 =>
      intro hT
      have hT' : T = [] := by simpa using hT
      subst hT'
      have hown := own_mono HO.out (Nat.le_refl _)
      obtain ⟨ao, cap, rfl, -⟩ := Rd.of_own hown
      have hperm : D.Perm R := by simpa using HP.out
      have HD := Lib.hid hperm
      have HOW := Lib.hid hown
      clear hown hperm
      go_wp2_with fail
      refine (sortO_any w.heap.size _ R D b w.heap.size wr HD.out (by have := HN.out; omega) HOW.out HR.out.map Hbr.out (fun r hr => below_cell HBr.out (HK.out r hr) (World.block_lt_of_cell? _ _ (HK.out r hr))) (fun r hr e => ?_) HS.out).mono ?_
      · have h1 := (HOW.out.lt r.kb e).1
        have h2 := World.block_lt_of_cell? _ _ (HK.out r hr)
        simp only at h2
        omega
      · rintro e w2 ⟨rfl, ho2, hg2⟩
        have HO2 := Lib.hid ho2
        have HB2 := Lib.hid (HBr.out.grown hg2 hz (fun k hk => (HOW.out.lt k hk).1))
        clear ho2 hg2
        go_wp2_with fail
        go_ret
        have hlen : D.length = R.length := HD.out.length_eq
        refine ⟨_, rfl, ?_, HB2.out⟩
        have := HO2.out
        rwa [← hlen] at this ⊢
    case refine_2 =>
      intro a c x w1 r hr hrx hR1 hlt hS hsz hent
      have hown := own_same HO.out hS fun k hk e => HR.out.row_ne HO.out (by rw [hk, show k = w.heap.size + 1 from e])
      have hB1 : Below w.heap.size w w1 := HBr.out.trans (hS.belowB fun i hi => ⟨by omega, fun e => by have : i = w.heap.size + 1 := e; omega⟩)
      have hb1 := Hbr.out.same hS fun e => by have : w.heap.size = w.heap.size + 1 := e; omega
      have hlen : D.length + T.length = R.length := by have := HP.out.length_eq; rwa [List.length_append] at this
      have hTl : 0 < T.length := List.length_pos_of_mem hr
      have hown2 := hown.alloc (.cells #[.int .u64 (a.toNat : Int), .int .u64 (c.toNat : Int)] 66)
      have hbd : (D.length + 1) * 16 ≤ 140737488355328 := by have := HN.out; omega
      have hz1 : w.heap.size ≤ w1.heap.size := hB1.size
      have hz2 : w.heap.size ≤ (w1.alloc (.cells #[.int .u64 (a.toNat : Int), .int .u64 (c.toNat : Int)] 66)).heap.size := by simp; omega
      have HR1 := Lib.hid hR1; have HLT := Lib.hid hlt; have HSS := Lib.hid hS; have HB1 := Lib.hid hB1; have Hb1 := Lib.hid hb1; have HSZ1 := Lib.hid hsz
      clear hR1 hlt hS hB1 hb1 hsz hlen hTl hown
      simp only [sv] at hent ⊢
      go_wp2_with (at_builtin; go_loud (refine wpList_app1 El.sess rfl (.tmp 11) (.tmp 13) rfl hown2 rfl (cs := #[.int .u64 (a.toNat : Int), .int .u64 (c.toNat : Int)]) (by show Value.slice (some ⟨w1.heap.size + 1, 0, none⟩) 1 1 = _; simp) rfl (by simp [Value.oneCell']) hbd hz2 ?_); intro v1 w2 hown3 hgr1 _)
      have hg := grown_pre ((Below.refl _ _).alloc (Nat.le_refl _) _) hgr1
      have hSg := Same.of_grown hg
      have hrs : r.s = (a, c) := congrArg Prod.fst hrx
      have hownw1 := own_same HO.out HSS.out fun k hk e => HR.out.row_ne HO.out (by rw [hk, show k = w.heap.size + 1 from e])
      have nb : ¬ some b = u3.ownBlock := fun e => HR1.out.map.row_ne hownw1 e.symm
      have nr : ¬ some (w.heap.size + 1) = u3.ownBlock := fun e => HR1.out.row_ne hownw1 e.symm
      refine ⟨⟨T.filter fun q => decide (q.s ≠ (a, c)), D ++ [r], ?_, ?_, ?_, ?_, ?_⟩, ?_⟩
      · have h1 := re_perm HR.out.2.1 hr
        rw [hrs] at h1
        refine List.Perm.trans ?_ HP.out
        rw [List.append_assoc]
        exact List.Perm.append_left D h1.symm
      · rw [List.length_append, List.flatMap_append]
        have e1 : [r].flatMap rc = #[Value.int .u64 (a.toNat : Int), Value.int .u64 (c.toNat : Int)].toList := by simp [rc, sc, hrs]
        rw [e1]
        exact hown3
      · have := HR1.out.same hSg nb nr
        rwa [re_wo] at this
      · exact HB1.out.grown hg hz1 (fun k hk => (hownw1.lt k hk).1)
      · exact Hb1.out.same hSg fun e => own_blk_ne hownw1 Hb1.out (by decide) e.symm
      · rw [HR1.out.left hSg nb nr]
        exact HLT.out
end Go.Proofs.YtfaemjlemaclbaaGreat
end
section
/- row of the decided ones: the sessions of a map, by when they were touched. -/
namespace Go.Proofs.YtfaemjlemaclbaaGreat
set_option linter.unusedVariables false
set_option linter.unusedSimpArgs false
open Go.RowKit Go.Maps Go.Sort Go.Proofs
theorem zeroKC (w : World) : (zeroValue 89).run Tryz.prog w = .ok (pv none) w := by kernel_rfl
set_option maxHeartbeats 1000000 in
set_option maxRecDepth 100000 in
theorem lessC_any (x y : RE) (R : List RE) (b mb : Nat) (W : World) (hx : x ∈ R) (hy : y ∈ R) (hm : MapAt W b (R.map RE.kv)) (hb : Blk W mb 85 [.map (some b)])
    (hk : ∀ r ∈ R, W.cell? ⟨r.kb, 1, none⟩ = some (.int .i64 (r.wh : Int))) :
    Calls Tryz.prog 67 #[.agg (rc x).toArray, .agg (rc y).toArray, .pointer (some ⟨mb, 0, none⟩)] W fun e w' => e = .returned (.int .i64 (whenCmp x y)) ∧ ∃ q os', w' = grow (W.drewN q) os' := by
  have hcx := hk x hx
  have hcy := hk y hy
  have hlx : x.kv ∈ R.map RE.kv := List.mem_map.2 ⟨x, hx, rfl⟩
  have hly : y.kv ∈ R.map RE.kv := List.mem_map.2 ⟨y, hy, rfl⟩
  have look : ∀ W' : World, Below W.heap.size W W' → (Instr.lookup 85 (.map (some b)) (sv x.s) false).run Tryz.prog W' = .ok (.pointer (some ⟨x.kb, 0, none⟩)) W' ∧
      (Instr.lookup 85 (.map (some b)) (sv y.s) false).run Tryz.prog W' = .ok (.pointer (some ⟨y.kb, 0, none⟩)) W' := fun W' hB =>
    ⟨((hm.later hB).look sKL pEL Tryz.underlying85 (zeroKC W') hlx).1, ((hm.later hB).look sKL pEL Tryz.underlying85 (zeroKC W') hly).1⟩
  have hcmp := fun W' => cmp_any (x.wh : Int) (y.wh : Int) W'
  change ∀ W', Calls _ _ _ _ (fun e w' => e = .returned (.int .i64 (whenCmp x y)) ∧ W' = w') at hcmp
  generalize whenCmp x y = r at hcmp ⊢
  have hc0 := hb.cell_some (i := 0) rfl
  clear hm hb hk hlx hly
  obtain ⟨xs, xk, xw⟩ := x
  obtain ⟨ys, yk, yw⟩ := y
  obtain ⟨x1, x2⟩ := xs
  obtain ⟨y1, y2⟩ := ys
  simp only [rc, sc, sv] at look hcx hcy hcmp ⊢
  go_enter Tryz.func67, Tryz.ntmps67
  go_wp2_with fail
  obtain ⟨w1, hw1⟩ : ∃ w1, w1 = (W.alloc (.cells #[.int .u64 (x1.toNat : Int), .int .u64 (x2.toNat : Int)] 66)).alloc (.cells #[.int .u64 (y1.toNat : Int), .int .u64 (y2.toNat : Int)] 66) := ⟨_, rfl⟩
  have hB : Below W.heap.size W w1 := hw1 ▸ ((Below.refl _ _).alloc (Nat.le_refl _) _).alloc (by simp) _
  have hx1 : Blk w1 W.heap.size 66 [.int .u64 (x1.toNat : Int), .int .u64 (x2.toNat : Int)] := hw1 ▸ (Blk.new W _ _).alloc _
  have hy1 : Blk w1 (W.heap.size + 1) 66 [.int .u64 (y1.toNat : Int), .int .u64 (y2.toNat : Int)] := by
    have := Blk.new (W.alloc (.cells #[.int .u64 (x1.toNat : Int), .int .u64 (x2.toNat : Int)] 66)) 66 [.int .u64 (y1.toNat : Int), .int .u64 (y2.toNat : Int)]
    rw [show (W.alloc (.cells #[.int .u64 (x1.toNat : Int), .int .u64 (x2.toNat : Int)] 66)).heap.size = W.heap.size + 1 by simp] at this
    exact hw1 ▸ this
  have hc0 := below_cell hB hc0 (World.block_lt_of_cell? _ _ hc0)
  have hcx := below_cell hB hcx (World.block_lt_of_cell? _ _ hcx)
  have hcy := below_cell hB hcy (World.block_lt_of_cell? _ _ hcy)
  have a0 := hx1.cell_some (i := 0) rfl
  have a1 := hx1.cell_some (i := 1) rfl
  have b0 := hy1.cell_some (i := 0) rfl
  have b1 := hy1.cell_some (i := 1) rfl
  have HW := Lib.hid hw1
  rw [← hw1]
  have HK := Lib.hid look
  have HB := Lib.hid hB
  clear hx1 hy1 hw1 look hB hx hy
  refine region_class (C := fun w' => ∃ q, w' = w1.drewN q) (by kernel_rfl) (by kernel_rfl) ⟨1, rfl⟩ ?_
  repeat
    (first
     | go_big_quiet_skip
     | (go_big_quiet_want
        rename_i K hK
        apply Exists.intro
        refine ⟨fun w' hw' => ?_, hK _ ?_⟩
        · obtain ⟨q, rfl⟩ := hw'
          have d0 : (w1.drewN q).cell? _ = _ := hc0
          have d1 : (w1.drewN q).cell? _ = _ := hcx
          have d2 : (w1.drewN q).cell? _ = _ := hcy
          have d3 : (w1.drewN q).cell? _ = _ := a0
          have d4 : (w1.drewN q).cell? _ = _ := a1
          have d5 : (w1.drewN q).cell? _ = _ := b0
          have d6 : (w1.drewN q).cell? _ = _ := b1
          obtain ⟨l1, l2⟩ := HK.out (w1.drewN q) (below_drewN HB.out q)
          go_simp
          first
          | (go_at_call 60
             refine (hcmp _).mono ?_
             rintro e w1 ⟨rfl, rfl⟩
             exact ⟨rfl, q, rfl⟩)
          | with_reducible rfl
        clear hK K
        simp only [Act.put, List.setIfInBounds_toArray, List.set_cons_zero, List.set_cons_succ]))
  refine wpQuiet_nil ?_
  rintro w5 ⟨q, rfl⟩
  go_wp2
  go_ret
  exact ⟨rfl, q, _, (congrArg (fun a : World => a.drewN q) HW.out).trans (alloc2_grow _ _ _ q)⟩
/-- the sort of such a row, by when. -/
theorem sortC_any (base : Nat) (v : Value) (R l : List RE) (b mb : Nat) (w : World) (hl : l.Perm R) (hn : R.length < 4611686018427387904) (hown : w.ownsRow base 66 2 v l.length (l.flatMap rc)) (hm : MapAt w b (R.map RE.kv))
    (hb : Blk w mb 85 [.map (some b)]) (hk : ∀ r ∈ R, w.cell? ⟨r.kb, 1, none⟩ = some (.int .i64 (r.wh : Int))) (hne : ∀ r ∈ R, v.ownBlock ≠ some r.kb) (hs : R.Pairwise fun a b => a.wh < b.wh) :
    Calls Tryz.prog 58 #[v, .func (.func 67) #[] #[.pointer (some ⟨mb, 0, none⟩)]] w fun e w' => e = .returned (.tuple #[]) ∧
      w'.ownsRow base 66 2 v R.length (R.flatMap rc) ∧ w.grownBy w' v.ownBlock := by
  by_cases hR : R = []
  · subst hR
    have hl0 : l = [] := hl.eq_nil
    subst hl0
    obtain ⟨ao, cap, rfl, -⟩ := Rd.of_own hown
    have hcon := AnyF.slices_SortFunc_none Tryz.sortSess ao cap (.func (.func 67) #[] #[.pointer (some ⟨mb, 0, none⟩)]) w
    change Calls Tryz.prog 58 _ _ _ at hcon
    refine hcon.mono ?_
    rintro e w' ⟨rfl, rfl⟩
    exact ⟨rfl, hown, World.grownBy.refl _ _⟩
  · obtain ⟨r0, hr0⟩ := List.exists_mem_of_ne_nil R hR
    have : Inhabited { r : RE // r ∈ R } := ⟨⟨r0, hr0⟩⟩
    clear hR
    obtain ⟨L, rfl⟩ := lift_mem (R := R) l fun r hr => hl.mem_iff.1 hr
    have eg : ∀ args w, (callFunc 67 args).run Tryz.prog w = .ok (.enter 67 args) w := enters_of Tryz.func67 (by kernel_rfl) rfl
    rw [← lift_flat] at hown
    have hlen : (L.map (·.1)).length = L.length := List.length_map ..
    rw [hlen] at hown
    have hcon := sort_own (fun r : { r : RE // r ∈ R } => rc r.1) Tryz.sortSess Tryz.isAgg66 Tryz.sizeOf66 (fun _ => rfl) (by decide) (fun x v hv => by simp [rc, sc] at hv; rcases hv with rfl | rfl <;> rfl)
      (fun x y => whenCmp x.1 y.1) swoSub 67 #[.pointer (some ⟨mb, 0, none⟩)] eg base v L w hown (by have := hl.length_eq; omega)
      (fun W hg x y => by
        have hS := Same.of_grown hg
        exact lessC_any x.1 y.1 R b mb W x.2 y.2 (hm.same hS fun e => hm.row_ne hown e.symm) (hb.same hS fun e => own_blk_ne hown hb (by decide) e.symm) fun r hr => hS.cell_some (hk r hr) fun e => hne r hr e.symm)
    change Calls Tryz.prog 58 _ _ _ at hcon
    refine hcon.mono ?_
    rintro e w' ⟨rfl, l', hp, hs', ho, hg⟩
    have hu : R = l'.map (·.1) := by
      refine sorted_uniq ((hp.map (·.1)).trans hl).symm hs ?_
      rw [List.pairwise_map]
      refine hs'.imp fun {a c} h => ?_
      have h1 : ltOf whenCmp c.1 a.1 = false := h
      rw [ltWhen] at h1
      simpa using h1
    refine ⟨rfl, ?_, hg⟩
    rw [lift_flat] at ho
    rw [← hu] at ho
    have : l'.length = R.length := by
      have := congrArg List.length hu
      rw [List.length_map] at this
      exact this.symm
    rwa [this] at ho
set_option maxHeartbeats 1000000 in
set_option maxRecDepth 100000 in
theorem rowC_any (R : List RE) (b : Nat) (w : World) (hm : MapAt w b (R.map RE.kv)) (hk : ∀ r ∈ R, w.cell? ⟨r.kb, 1, none⟩ = some (.int .i64 (r.wh : Int))) (hs : R.Pairwise fun a b => a.wh < b.wh) (hn : R.length ≤ 4611686018427) :
    Calls Tryz.prog 48 #[.map (some b)] w fun e w' => ∃ v, e = .returned v ∧ w'.ownsRow w.heap.size 66 2 v R.length (R.flatMap rc) ∧ Below w.heap.size w w' := by
  have HM := Lib.hid hm
  have HK := Lib.hid hk
  have HS := Lib.hid hs
  have HN := Lib.hid hn
  clear hm hk hs hn
  go_enter Tryz.func48, Tryz.ntmps48
  go_wp2_with (first | (at_range; refine wpList_range_l sKL _ Tryz.underlying85 rfl _ rfl b (R.map RE.kv) rfl (HM.out.later ((Below.refl _ _).alloc (Nat.le_refl _) _)) ?_; intro wq hR1 hB1 hs1) | fail)
  go_frame
  have hB0 : Below w.heap.size w (w.alloc (.cells #[.map (some b)] 85)) := (Below.refl _ _).alloc (Nat.le_refl _) _
  have hb0 := (Blk.new w 85 [.map (some b)]).later hB1
  have hBq := hB0.trans (hB1.mono hB0.size)
  have hs0 : (w.alloc (.cells #[.map (some b)] 85)).heap.size = w.heap.size + 1 := by simp
  rw [hs0] at hR1 hs1 ⊢
  have hKq := fun r hr => below_cell hBq (HK.out r hr) (World.block_lt_of_cell? _ _ (HK.out r hr))
  have HR1 := Lib.hid hR1
  have HB := Lib.hid hBq
  have HC := Lib.hid hb0
  have HKq := Lib.hid hKq
  have HSZ := Lib.hid hs1
  have hmb : w.heap.size < wq.heap.size := by omega
  clear hR1 hB1 hB0 hb0 hBq hKq hs1 hs0
  go_loopw [3, 4] (fun l p wr => ∃ T D : List RE, (D ++ T).Perm R ∧ wr.ownsRow w.heap.size 66 2 l D.length (D.flatMap rc) ∧ LRange Tryz.prog 66 sv pR pdat wr b (w.heap.size + 1) (R.map RE.kv) (T.map RE.kv) ∧ Below w.heap.size w wr ∧ Blk wr w.heap.size 85 [.map (some b)])
    (fun _ _ wr => wr.rangeLeft b (w.heap.size + 1))
  case atStart => exact ⟨R, [], List.Perm.refl _, World.ownsRow_nil _ _ _ _, HR1.out, HB.out, HC.out⟩
  case round =>
    obtain ⟨T, D, hp, hown, hR, hBr, hbr⟩ := hrel
    have HP := Lib.hid hp; have HR := Lib.hid hR; have HBr := Lib.hid hBr; have Hbr := Lib.hid hbr
    have HO := Lib.hid hown
    have hz := hBr.size
    clear hp hR hBr hbr hown
    go_wp2_with (first | (at_next; refine wpList_next_l sKL pEL _ rfl _ rfl b (w.heap.size + 1) (R.map RE.kv) (T.map RE.kv) rfl HR.out ?_ ?_) | fail)
    case refine_1 =>
      intro hT
      have hT' : T = [] := by simpa using hT
      subst hT'
      have hown := own_mono HO.out (Nat.le_refl _)
      obtain ⟨ao, cap, rfl, -⟩ := Rd.of_own hown
      have hperm : D.Perm R := by simpa using HP.out
      have HD := Lib.hid hperm
      have HOW := Lib.hid hown
      clear hown hperm
      go_wp2_with fail
      refine (sortC_any w.heap.size _ R D b w.heap.size wr HD.out (by have := HN.out; omega) HOW.out HR.out.map Hbr.out (fun r hr => below_cell HBr.out (HK.out r hr) (World.block_lt_of_cell? _ _ (HK.out r hr))) (fun r hr e => ?_) HS.out).mono ?_
      · have h1 := (HOW.out.lt r.kb e).1
        have h2 := World.block_lt_of_cell? _ _ (HK.out r hr)
        simp only at h2
        omega
      · rintro e w2 ⟨rfl, ho2, hg2⟩
        have HO2 := Lib.hid ho2
        have HB2 := Lib.hid (HBr.out.grown hg2 hz (fun k hk => (HOW.out.lt k hk).1))
        clear ho2 hg2
        go_wp2_with fail
        go_ret
        have hlen : D.length = R.length := HD.out.length_eq
        refine ⟨_, rfl, ?_, HB2.out⟩
        have := HO2.out
        rwa [← hlen] at this ⊢
    case refine_2 =>
      intro a c x w1 r hr hrx hR1 hlt hS hsz hent
      have hown := own_same HO.out hS fun k hk e => HR.out.row_ne HO.out (by rw [hk, show k = w.heap.size + 1 from e])
      have hB1 : Below w.heap.size w w1 := HBr.out.trans (hS.belowB fun i hi => ⟨by omega, fun e => by have : i = w.heap.size + 1 := e; omega⟩)
      have hb1 := Hbr.out.same hS fun e => by have : w.heap.size = w.heap.size + 1 := e; omega
      have hlen : D.length + T.length = R.length := by have := HP.out.length_eq; rwa [List.length_append] at this
      have hTl : 0 < T.length := List.length_pos_of_mem hr
      have hown2 := hown.alloc (.cells #[.int .u64 (a.toNat : Int), .int .u64 (c.toNat : Int)] 66)
      have hbd : (D.length + 1) * 16 ≤ 140737488355328 := by have := HN.out; omega
      have hz1 : w.heap.size ≤ w1.heap.size := hB1.size
      have hz2 : w.heap.size ≤ (w1.alloc (.cells #[.int .u64 (a.toNat : Int), .int .u64 (c.toNat : Int)] 66)).heap.size := by simp; omega
      have HR1 := Lib.hid hR1; have HLT := Lib.hid hlt; have HSS := Lib.hid hS; have HB1 := Lib.hid hB1; have Hb1 := Lib.hid hb1; have HSZ1 := Lib.hid hsz
      clear hR1 hlt hS hB1 hb1 hsz hlen hTl hown
      simp only [sv] at hent ⊢
      go_wp2_with (at_builtin; go_loud (refine wpList_app1 El.sess rfl (.tmp 11) (.tmp 13) rfl hown2 rfl (cs := #[.int .u64 (a.toNat : Int), .int .u64 (c.toNat : Int)]) (by show Value.slice (some ⟨w1.heap.size + 1, 0, none⟩) 1 1 = _; simp) rfl (by simp [Value.oneCell']) hbd hz2 ?_); intro v1 w2 hown3 hgr1 _)
      have hg := grown_pre ((Below.refl _ _).alloc (Nat.le_refl _) _) hgr1
      have hSg := Same.of_grown hg
      have hrs : r.s = (a, c) := congrArg Prod.fst hrx
      have hownw1 := own_same HO.out HSS.out fun k hk e => HR.out.row_ne HO.out (by rw [hk, show k = w.heap.size + 1 from e])
      have nb : ¬ some b = u3.ownBlock := fun e => HR1.out.map.row_ne hownw1 e.symm
      have nr : ¬ some (w.heap.size + 1) = u3.ownBlock := fun e => HR1.out.row_ne hownw1 e.symm
      refine ⟨⟨T.filter fun q => decide (q.s ≠ (a, c)), D ++ [r], ?_, ?_, ?_, ?_, ?_⟩, ?_⟩
      · have h1 := re_perm HR.out.2.1 hr
        rw [hrs] at h1
        refine List.Perm.trans ?_ HP.out
        rw [List.append_assoc]
        exact List.Perm.append_left D h1.symm
      · rw [List.length_append, List.flatMap_append]
        have e1 : [r].flatMap rc = #[Value.int .u64 (a.toNat : Int), Value.int .u64 (c.toNat : Int)].toList := by simp [rc, sc, hrs]
        rw [e1]
        exact hown3
      · have := HR1.out.same hSg nb nr
        rwa [re_wo] at this
      · exact HB1.out.grown hg hz1 (fun k hk => (hownw1.lt k hk).1)
      · exact Hb1.out.same hSg fun e => own_blk_ne hownw1 Hb1.out (by decide) e.symm
      · rw [HR1.out.left hSg nb nr]
        exact HLT.out
end Go.Proofs.YtfaemjlemaclbaaGreat
end
