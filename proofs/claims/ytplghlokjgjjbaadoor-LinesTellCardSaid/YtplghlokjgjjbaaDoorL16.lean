/- lines.Print: a command as a line. -/
import Derived.Test.YtplghlokjgjjbaaDoorL15
namespace Go.Proofs.YtplghlokjgjjbaaDoor
open Go.RowKit Go.Proofs.YtplghlokjgjjbaaDoorW.PrintWords Go.Proofs.YtplghlokjgjjbaaDoorW.PrintLast
def printR.T6 : Bool × List (List Nat × List Nat) := (true, [([], []), ([], []), ([1], [1]), ([0, 2], [0, 2]), ([3], [3]), ([4], [4]), ([5, 0, 0, 1, 2, 3, 4, 5], [5])])
def printR.B6 : List Nat := [0, 0, 2, 7, 15, 31, 63]
theorem printR.tab6 : rtab .any (opsOf Tryd.f14 6) = printR.T6 := by kernel_rfl
theorem printR.bits6 : waitsOk printR.T6.2 printR.B6 = true := by kernel_rfl

theorem printPost_none {w w' : World} (h : Below w.heap.size w w') : PrintPost w none (.returned (.tuple #[.string ⟨#[]⟩, .int .i64 15])) w' := ⟨rfl, h⟩
set_option maxRecDepth 100000 in
set_option maxHeartbeats 2000000 in
theorem print_any (k x y : Int) (A : Option Addr) (c : Nat) (l : List Int) (w : World) (hp : Pow w) (hl : RdI w A l) :
    Calls Tryd.prog 14 #[.agg #[.int .i64 k, .int .i64 x, .int .i64 y, .slice A l.length c]] w (PrintPost w (printS k x y l)) := by
  have HP := Lib.hid hp
  have HL := Lib.hid hl
  clear hp hl
  obtain ⟨r, hr⟩ : ∃ r, r = printS k x y l := ⟨_, rfl⟩
  rw [← hr]
  have HR : Hid (r = printS k x y l) := hr
  clear hr
  by_cases hbad : badK k x
  · have HX : Hid (r = none) := by show _ = _; rw [HR.out, printS, if_pos hbad]
    rcases hbad with h | h | ⟨rfl, h1, h2⟩
    case' inr.inl => have h' : ¬ k < 1 := by omega
    case' inr.inr =>
      have h1' : (x != 1) = true := by simpa using h1
      have h2' : (x != 2) = true := by simpa using h2
      clear h1 h2
    all_goals
      go_enter Tryd.func14, Tryd.ntmps14
      go_wp2
      go_ret2
      rw [HX.out]
      exact printPost_none (below_alloc (Below.refl _ _) _)
  obtain ⟨q, rfl⟩ : ∃ q : Nat, k = q := ⟨k.toNat, by unfold badK at hbad; omega⟩
  have hq1 : 1 ≤ q := by unfold badK at hbad; omega
  have hq : q < 15 := by unfold badK at hbad; omega
  have HR2 : Hid (r = (numbersP q x y l).bind (printN (formAt q).1)) := by show _ = _; rw [HR.out, printS, if_neg hbad]; rfl
  have h3 : ((q : Int) == 6) = false ∨ (((q : Int) == 6) = true ∧ (x != 1) = false) ∨ (((q : Int) == 6) = true ∧ (x != 1) = true ∧ (x != 2) = false) := by
    by_cases e1 : q = 6
    · have c1 : ((q : Int) == 6) = true := by rw [e1]; rfl
      by_cases e2 : x = 1
      · exact .inr (.inl ⟨c1, by simpa using e2⟩)
      · exact .inr (.inr ⟨c1, by simpa using e2, by
          have : x = 2 := Decidable.byContradiction fun e3 => hbad (.inr (.inr ⟨by rw [e1]; rfl, e2, e3⟩))
          simpa using this⟩)
    · exact .inl (by simp; omega)
  have hqi1 : 1 ≤ (q : Int) := by omega
  have hqi2 : (q : Int) ≤ 14 := by omega
  have HQ1 := Lib.hid hq1
  have HQ := Lib.hid hq
  have hix := form_index q hq
  have HIX := Lib.hid hix
  have HNum := Lib.hid (fun w h => numbers_any q hq1 hq x y A c l w h)
  clear hbad HR hix hq1 hq
  generalize numbersP q x y l = rn at *
  rcases h3 with c1 | ⟨c1, c2⟩ | ⟨c1, c2, c3⟩
  all_goals
    go_enter Tryd.func14, Tryd.ntmps14
    go_upto_region 3 with (fail)
    refine wp_box1 ?_
    intro W1 hb1 hsz1 h1
    have H1 := Lib.hid h1
    have HB1 := Lib.hid hb1
    have hC := HNum.out W1 (HL.out.below hb1)
    have HC := Lib.hid hC
    clear hb1 hsz1 h1 hC c1 HNum
    try clear c2
    try clear c3
    go_wp2_with (refine step_load_blk w.heap.size rfl 26 _ rfl _ _ rfl H1.out Tryd.underlying26 rfl (cmd_info _ rfl) ?_)
    refine HC.out.mono ?_
    rintro e W ⟨A2, m2, c2, rfl, hb2, hxs⟩
    have H2 := Lib.hid (blk_below H1.out hb2)
    have HB2 := Lib.hid (below_thn HB1.out hb2)
    have HXS := Lib.hid hxs
    clear HC hb2 hxs H1 HB1
    rcases rn with _ | xs
    · have HX : Hid (r = none) := HR2.out
      go_wp2
      go_ret2
      rw [HX.out]
      exact printPost_none HB2.out
    · obtain ⟨rfl, hrx⟩ := HXS.out xs rfl
      have HR3 : Hid (r = printN (formAt q).1 xs) := HR2.out
      have HRX := Lib.hid hrx
      clear hrx HXS HR2
      go_upto_region 6 with (fail)
      have HC0 := Aside0.mk (blk_cell H2.out 0 rfl)
      have HBw := Aside0.mk (Below.refl W.heap.size W)
      have hix := HIX.out
      refine start_ (n := 7) (S := fun w' => True) (ds := []) #[false, false, false, false, false, false, false] (by kernel_rfl) rfl rfl trivial (fun hHeld => ?_)
      refine with_tabW printR.tab6 printR.bits6 (fun HT_ HW_ => ?_)
      refine inv_at [0, 1, 2, 3, 4, 5, 6] (fun a0_ b a w' => ∃ (g : Nat) (m5_ : Value) (m6_ : Value), a = putSel a0_ b [(0, 40, .agg formsC), (1, 41, .pointer (some ⟨w.heap.size, 0, none⟩)), (2, 42, .int .i64 (q : Int)), (3, 43, .agg #[.string (formAt q).1, .int .i64 (formAt q).2]), (4, 44, .string (formAt q).1), (5, 45, m5_), (6, 6, m6_)] ∧ (Below W.heap.size W w') ∧ (b 5 = true → w'.heap[g]? = some (.cells #[.string (formAt q).1] 9 (0, 0)) ∧ W.heap.size ≤ g) ∧ (b 5 = true → (m5_ : Value) = .slice (some ⟨g, 0, none⟩) 1 1) ∧ (b 6 = true → (m6_ : Value) = .slice (some ⟨g, 0, none⟩) 1 1)) HT_.out HW_.out (by kernel_rfl) (by kernel_rfl) ?_ ?_ ?_
      · exact ⟨0, .bool false, .bool false, by simp only [putSel, Bool.false_eq_true, if_false], below_drew HBw.out, fun h_ => absurd h_ (by decide), fun h_ => absurd h_ (by decide), fun h_ => absurd h_ (by decide)⟩
      · skip
        clear HBw
        refine steps_cons ?_ ?_
        · rintro b a w' ⟨g, m5_, m6_, ha, Q_HBw, Q_HS, Q_X5_, Q_X6_⟩ hb_ hon hoff
          refine ⟨_, rfl, fun K hK => ?_⟩
          replace ha := Aside0.mk ha
          have HBw := Aside0.mk Q_HBw
          refine goes_ Tryd.func24 (by kernel_rfl) rfl #[] (by rfl) rfl rfl (by simp) ?_
          refine (forms_any w').mono ?_
          rintro e w1 ⟨rfl, hb1⟩
          refine ⟨_, rfl, ?_⟩
          refine hK.out _ _ ⟨g, m5_, m6_, (by rw [ha.out]; exact putSel_upk 0 hb_ rfl rfl rfl), below_thn HBw.out hb1, fun h0_ => absurd ((hoff 5 (by kernel_rfl)).symm.trans h0_) (by decide), fun h0_ => absurd ((hoff 5 (by kernel_rfl)).symm.trans h0_) (by decide), fun h0_ => absurd ((hoff 6 (by kernel_rfl)).symm.trans h0_) (by decide)⟩
        refine steps_cons ?_ ?_
        · rintro b a w' ⟨g, m5_, m6_, ha, Q_HBw, Q_HS, Q_X5_, Q_X6_⟩ hb_ hon hoff
          refine ⟨_, rfl, fun K hK => ?_⟩
          have e1 : a.tmps[1]? = some (.pointer (some ⟨w.heap.size, 0, none⟩)) := by rw [ha]; exact (putSel_off rfl).trans rfl
          replace ha := Aside0.mk ha
          have HBw := Aside0.mk Q_HBw
          refine value_ (w1 := w') (v := .pointer (some ⟨w.heap.size, 0, none⟩)) (by rfl) rfl ?_ ?_
          · go_simp
            (try simp only [i64_w])
            try rfl
          refine hK.out _ _ ⟨g, m5_, m6_, (by rw [ha.out]; exact putSel_upk 1 hb_ rfl rfl rfl), Q_HBw, fun h0_ => absurd ((hoff 5 (by kernel_rfl)).symm.trans h0_) (by decide), fun h0_ => absurd ((hoff 5 (by kernel_rfl)).symm.trans h0_) (by decide), fun h0_ => absurd ((hoff 6 (by kernel_rfl)).symm.trans h0_) (by decide)⟩
        refine steps_cons ?_ ?_
        · rintro b a w' ⟨g, m5_, m6_, ha, Q_HBw, Q_HS, Q_X5_, Q_X6_⟩ hb_ hon hoff
          refine ⟨_, rfl, fun K hK => ?_⟩
          have e41 : a.tmps[41]? = some (.pointer (some ⟨w.heap.size, 0, none⟩)) := by rw [ha]; exact putSel_on (e := (1, 41, .pointer (some ⟨w.heap.size, 0, none⟩))) 1 rfl rfl (hon 1 (by kernel_rfl)) rfl
          replace ha := Aside0.mk ha
          have HBw := Aside0.mk Q_HBw
          have hc_ : w'.cell? ⟨w.heap.size, 0, none⟩ = some (.int .i64 (q : Int)) := cell_below HBw.out HC0.out
          refine value_ (w1 := w') (v := .int .i64 (q : Int)) (by rfl) rfl ?_ ?_
          · go_simp
            (try simp only [i64_w])
            try rfl
          refine hK.out _ _ ⟨g, m5_, m6_, (by rw [ha.out]; exact putSel_upk 2 hb_ rfl rfl rfl), Q_HBw, fun h0_ => absurd ((hoff 5 (by kernel_rfl)).symm.trans h0_) (by decide), fun h0_ => absurd ((hoff 5 (by kernel_rfl)).symm.trans h0_) (by decide), fun h0_ => absurd ((hoff 6 (by kernel_rfl)).symm.trans h0_) (by decide)⟩
        refine steps_cons ?_ ?_
        · rintro b a w' ⟨g, m5_, m6_, ha, Q_HBw, Q_HS, Q_X5_, Q_X6_⟩ hb_ hon hoff
          refine ⟨_, rfl, fun K hK => ?_⟩
          have e40 : a.tmps[40]? = some (.agg formsC) := by rw [ha]; exact putSel_on (e := (0, 40, .agg formsC)) 0 rfl rfl (hon 0 (by kernel_rfl)) rfl
          have e42 : a.tmps[42]? = some (.int .i64 (q : Int)) := by rw [ha]; exact putSel_on (e := (2, 42, .int .i64 (q : Int))) 2 rfl rfl (hon 2 (by kernel_rfl)) rfl
          replace ha := Aside0.mk ha
          have HBw := Aside0.mk Q_HBw
          have hx_ := hix w'
          refine value_ (w1 := w') (v := .agg #[.string (formAt q).1, .int .i64 (formAt q).2]) (by rfl) rfl ?_ ?_
          · go_simp
            (try simp only [i64_w])
            try rfl
          refine hK.out _ _ ⟨g, m5_, m6_, (by rw [ha.out]; exact putSel_upk 3 hb_ rfl rfl rfl), Q_HBw, fun h0_ => absurd ((hoff 5 (by kernel_rfl)).symm.trans h0_) (by decide), fun h0_ => absurd ((hoff 5 (by kernel_rfl)).symm.trans h0_) (by decide), fun h0_ => absurd ((hoff 6 (by kernel_rfl)).symm.trans h0_) (by decide)⟩
        refine steps_cons ?_ ?_
        · rintro b a w' ⟨g, m5_, m6_, ha, Q_HBw, Q_HS, Q_X5_, Q_X6_⟩ hb_ hon hoff
          refine ⟨_, rfl, fun K hK => ?_⟩
          have e43 : a.tmps[43]? = some (.agg #[.string (formAt q).1, .int .i64 (formAt q).2]) := by rw [ha]; exact putSel_on (e := (3, 43, .agg #[.string (formAt q).1, .int .i64 (formAt q).2])) 3 rfl rfl (hon 3 (by kernel_rfl)) rfl
          replace ha := Aside0.mk ha
          have HBw := Aside0.mk Q_HBw
          refine value_ (w1 := w') (v := .string (formAt q).1) (by rfl) rfl ?_ ?_
          · go_simp
            (try simp only [i64_w])
            try rfl
          refine hK.out _ _ ⟨g, m5_, m6_, (by rw [ha.out]; exact putSel_upk 4 hb_ rfl rfl rfl), Q_HBw, fun h0_ => absurd ((hoff 5 (by kernel_rfl)).symm.trans h0_) (by decide), fun h0_ => absurd ((hoff 5 (by kernel_rfl)).symm.trans h0_) (by decide), fun h0_ => absurd ((hoff 6 (by kernel_rfl)).symm.trans h0_) (by decide)⟩
        refine steps_cons ?_ ?_
        · rintro b a w' ⟨g, m5_, m6_, ha, Q_HBw, Q_HS, Q_X5_, Q_X6_⟩ hb_ hon hoff
          refine ⟨_, rfl, fun K hK => ?_⟩
          have e44 : a.tmps[44]? = some (.string (formAt q).1) := by rw [ha]; exact putSel_on (e := (4, 44, .string (formAt q).1)) 4 rfl rfl (hon 4 (by kernel_rfl)) rfl
          replace ha := Aside0.mk ha
          have HBw := Aside0.mk Q_HBw
          refine value_ (w1 := w'.alloc (.cells #[.string (formAt q).1] 9)) (v := .slice (some ⟨w'.heap.size, 0, none⟩) 1 1) (by rfl) rfl (by go_simp) ?_
          refine hK.out _ _ ⟨w'.heap.size, (.slice (some ⟨w'.heap.size, 0, none⟩) 1 1), m6_, (by rw [ha.out]; exact putSel_upk 5 hb_ rfl rfl rfl), below_alloc HBw.out _, fun _ => ⟨heap_alloc_new w' _, HBw.out.size⟩, fun _ => rfl, fun h0_ => absurd ((hoff 6 (by kernel_rfl)).symm.trans h0_) (by decide)⟩
        refine steps_cons ?_ ?_
        · rintro b a w' ⟨g, m5_, m6_, ha, Q_HBw, Q_HS, Q_X5_, Q_X6_⟩ hb_ hon hoff
          refine ⟨_, rfl, fun K hK => ?_⟩
          have e45 : a.tmps[45]? = some (m5_) := by rw [ha]; exact putSel_on (e := (5, 45, m5_)) 5 rfl rfl (hon 5 (by kernel_rfl)) rfl
          rw [Q_X5_ (hon 5 (by kernel_rfl))] at e45
          replace ha := Aside0.mk ha
          have HBw := Aside0.mk Q_HBw
          have HS := Aside0.mk (Q_HS (hon 5 (by kernel_rfl)))
          refine value_ (w1 := w') (v := .slice (some ⟨g, 0, none⟩) 1 1) (by rfl) rfl ?_ ?_
          · go_simp
            (try simp only [i64_w])
            try rfl
          refine hK.out _ _ ⟨g, m5_, (.slice (some ⟨g, 0, none⟩) 1 1), (by rw [ha.out]; exact putSel_upk 6 hb_ rfl rfl rfl), Q_HBw, Q_HS, Q_X5_, fun _ => rfl⟩
        exact steps_nil
      · rintro b a w' hall ⟨g, m5_, m6_, ha, Q_HBw, Q_HS, Q_X5_, Q_X6_⟩
        clear HBw
        have hb0_ := hall 0 (by kernel_rfl)
        have hb1_ := hall 1 (by kernel_rfl)
        have hb2_ := hall 2 (by kernel_rfl)
        have hb3_ := hall 3 (by kernel_rfl)
        have hb4_ := hall 4 (by kernel_rfl)
        have hb5_ := hall 5 (by kernel_rfl)
        have hb6_ := hall 6 (by kernel_rfl)
        subst ha
        obtain rfl := Q_X5_ hb5_
        obtain rfl := Q_X6_ hb6_
        simp only [putSel, hb0_, hb1_, hb2_, hb3_, hb4_, hb5_, hb6_, if_true, Act.put, List.setIfInBounds_toArray, List.set_cons_zero, List.set_cons_succ]
        have HBw := Aside0.mk Q_HBw
        clear Q_HBw
        have HS := Aside0.mk (Q_HS hb5_)
        clear Q_HS
        clear hall hb0_ hb1_ hb2_ hb3_ hb4_ hb5_ hb6_
        clear HT_ HW_ hHeld HC0 hix
        try clear Q_X5_
        try clear Q_X6_
        have HBp := Lib.hid HBw.out
        have HO := Lib.hid (OwS.one HS.out.1 HS.out.2)
        have f0 := blk_cell HS.out.1 0 rfl
        have HF := Lib.hid (form_size q HQ.out)
        have HPp := Lib.hid (HP.out.below HB2.out)
        clear HBw HS H2 HIX HQ1 HQ hqi1 hqi2 HL HP
        generalize (formAt q).1 = wd at *
        have HS1 : Hid ((joinW wd []).size = wd.size) := by show _ = _; rw [joinW_size]; rfl
        have HAt := Lib.hid (show PrAt W w' wd xs (.slice (some ⟨g, 0, none⟩) 1 1) (.int .i64 (wd.size : Int)) (.int .i64 0) from ⟨0, [], wd.size, rfl, rfl, Nat.zero_le _, rfl, HS1.out.symm, by have := HF.out; omega, HO.out, by simp, HBp.out⟩)
        clear HO HS1 HBp
        go_wp2
        go_loopw [6, 7, 52] (fun v6 v7 v52 wr => Hid (PrAt W wr wd xs v6 v7 v52)) (fun _ _ i _ => xs.length - (intOf i).toNat)
        case atStart => exact HAt
        case round =>
          have hat := Lib.hid hrel
          clear hrel
          obtain ⟨j, ds, sz, rfl, rfl, hj, hds, hsz, hsz2, ho, hnd, hbl⟩ := hat.out
          have HO := Lib.hid ho
          have HDS := Lib.hid hds
          have HSZ := Lib.hid hsz
          have HND := Lib.hid hnd
          have HBl := Lib.hid hbl
          have HJ : Hid (j ≤ 65536) := by show _ ≤ _; have := ds_le (wd := wd) (ds := ds); omega
          clear HAt hat ho hds hsz hnd hbl f0
          by_cases hlt : j < xs.length
          · have hnd := HND.out
            rw [numsD_drop hlt] at hnd
            obtain ⟨ad, rfl, c1⟩ := (HRX.out.below HBl.out).2 j hlt
            generalize gi xs j = z at *
            by_cases hz : z < 0 ∨ 999999999 < z
            · have HX : Hid (r = none) := by show _ = _; rw [HR3.out, printN, hnd, if_pos hz]; rfl
              clear hnd HND HO
              rcases hz with h | h
              case' inr => have h' : ¬ z < 0 := by omega
              all_goals
                go_wp2
                go_ret2
                rw [HX.out]
                exact printPost_none (below_thn HB2.out HBl.out)
            · rw [if_neg hz] at hnd
              have hz0 : ¬ z < 0 := by omega
              have hz1 : ¬ 999999999 < z := by omega
              have HI := Lib.hid (itoa_any z (by omega) (by omega) wr (HPp.out.below HBl.out))
              have HZS := Lib.hid (size_dig z)
              have HJN := Lib.hid (joinW_snoc wd ds (ofL (dig z.toNat)))
              have hlz : lenD z ≤ 10 := by
                have := dig_le 9 z.toNat (by have : (10 : Nat) ^ 10 = 10000000000 := by decide
                                             omega)
                exact this
              generalize ofL (dig z.toNat) = d at *
              clear hz
              generalize lenD z = ld at *
              have HNd := Lib.hid hnd
              clear hnd HND
              go_wp2_with (fail)
              refine HI.out.mono ?_
              rintro e w3 ⟨rfl, hb3⟩
              have HO3 := Lib.hid (HO.out.below hb3)
              have HB3 := Lib.hid (below_thn HBl.out hb3)
              clear HI hb3 HO
              have HLN : Hid ((wd :: ds).length = j + 1) := by show _ = _; rw [List.length_cons, HDS.out]
              have HLL : Hid ((wd :: ds).length ≤ 1099511627776) := by show _ ≤ _; have := HLN.out; have := HJ.out; omega
              have hdz : d.size = ld := HZS.out
              have hj3 : j ≤ 65536 := HJ.out
              go_upto_region 15 with ((at_builtin; refine OwS.append (w0 := W) (W := w3) W.heap.size rfl (.tmp 62) (.tmp 65) rfl _ (wd :: ds) d rfl rfl HO3.out HB3.out HB3.out.size HLL.out ?_; intro v1 w4 o1 b1 g1; obtain ⟨g6, c6, rfl, hl6⟩ := OwS.last o1 HLN.out; have O1 := Lib.hid o1; have B1 := Lib.hid b1; have G1 := Lib.hid g1; clear o1 b1 g1))
              have hsz3 : sz ≤ 65536 := hsz2
              by_cases hbig : 65536 < sz + (1 + ld)
              · have HX : Hid (r = none) := by show _ = _; rw [HR3.out, printN, HNd.out, if_pos hbig]; rfl
                have hbi : 65536 < (sz : Int) + (1 + (ld : Int)) := by omega
                go_wp2
                go_ret2
                rw [HX.out]
                exact printPost_none (below_thn HB2.out B1.out)
              · have hbi : ¬ 65536 < (sz : Int) + (1 + (ld : Int)) := by omega
                have hnd := HNd.out
                rw [if_neg hbig] at hnd
                have HNf := Lib.hid hnd
                clear hnd HNd
                go_wp2
                go_roundw
                case rel =>
                  refine ⟨j + 1, ds ++ [d], sz + (1 + ld), by go_num, by go_num, by omega, by rw [List.length_append, HDS.out]; rfl, ?_, by omega, O1.out, ?_, B1.out⟩
                  · rw [HJN.out, ← HSZ.out, hdz]
                  · rw [HNf.out, Option.map_map]; congr 1; funext l; simp
                case measure => simp [intOf]; omega
          · have hke : j = xs.length := by omega
            have hnd := HND.out
            rw [hke, List.drop_length, numsD] at hnd
            have HX : Hid (r = some (joinW wd ds)) := by show _ = _; rw [HR3.out, printN, hnd]; simp
            obtain ⟨g6, c6, rfl, h61, h62, h63⟩ := HO.out.row (by simp)
            have HJo := Lib.hid (Tryd.strings_Join g6 0 c6 (wd :: ds) blank wr (fun i x hx => by
              obtain ⟨hi, e⟩ := List.getElem?_eq_some_iff.1 hx
              rw [Nat.zero_add, h63 i hi, gs_get hi, e]) h62 (by rw [List.length_cons, HDS.out]; have := HJ.out; omega) h61 (by
                have h1 : (joinW wd ds).size = (Lib.join ((wd :: ds).map (·.data.toList)) blank.data.toList).length := by rw [joinW, size_ofL]; rfl
                rw [← h1, ← HSZ.out]; omega))
            clear hnd HND hke HO h61 h62 h63
            go_wp2_with (fail)
            refine HJo.out.mono ?_
            rintro e w5 ⟨rfl, hb5⟩
            have HB5 := Lib.hid (below_thn HB2.out (below_thn HBl.out hb5))
            clear HJo hb5
            go_wp2
            go_ret2
            rw [HX.out]
            exact ⟨rfl, HB5.out⟩
end Go.Proofs.YtplghlokjgjjbaaDoor
