/- garlandlaw09.WalkTurned returns true. -/
import Derived.Test.YtjcgokfjdagckaaB12
import Derived.Deep.Cut
import Derived.Deep.CutBlock
import Derived.Deep.DeepCutAuto
namespace Go.Proofs.Ytjcgokfjdagckaa
open Go.RowKit Go.Proofs.YtjcgokfjdagckaaW.PrintWords

theorem RdI.take {w : World} {A : Option Addr} {xs : List Int} (h : RdI w A xs) (k : Nat) : RdI w A (xs.take k) :=
  ⟨by have := h.1; rw [List.length_take]; omega, fun j hj => by
    have hj' : j < xs.length := by rw [List.length_take] at hj; omega
    obtain ⟨ad, e, hc⟩ := h.2 j hj'
    refine ⟨ad, e, ?_⟩
    rw [hc]
    have hjk : j < k := by rw [List.length_take] at hj; omega
    simp [gi, hjk]⟩
theorem OwI.row {w : World} {base : Nat} {v : Value} {xs : List Int} (h : OwI w base v xs) (hn : 0 < xs.length) (hl : xs.length ≤ 4611686018427387904) :
    ∃ g cap, v = .slice (some ⟨g, 0, none⟩) xs.length cap ∧ xs.length ≤ cap ∧ RdI w (some ⟨g, 0, none⟩) xs := by
  obtain ⟨A, c, e, hr⟩ := h.len hl
  rcases h.2 with ⟨_, h1⟩ | ⟨g', cap', cur, he, _, _, h1, h2, _⟩
  · omega
  · rw [he] at e
    cases e
    exact ⟨g', _, he, h1, hr⟩

theorem turned_len : ∀ q, q < 20 → decide ((flipR ((2 + 2 * q : Nat) : Int) (edUp (2 + 2 * q)) (mateT (2 + 2 * q) q) (upI (2 + 2 * q))).1.length ≤ 100) = true := by decide +kernel

set_option maxRecDepth 100000 in
set_option maxHeartbeats 4000000 in
theorem walkTurned_any (z : Int) (w : World) : Calls Try.prog 3 #[.int .i64 z] w fun e w' => e = .returned (.bool true) ∧ Below w.heap.size w w' := by
  obtain ⟨q, hq, hq20⟩ : ∃ q : Nat, (IntKind.u64.wrap z).tmod 20 = (q : Int) ∧ q < 20 := by
    have h0 : 0 ≤ IntKind.u64.wrap z := by rw [IntKind.wrap_u64]; omega
    rw [Int.tmod_eq_emod_of_nonneg h0]
    exact ⟨(IntKind.u64.wrap z % 20).toNat, by omega, by omega⟩
  obtain ⟨n, hn⟩ : ∃ n : Nat, 2 + 2 * (q : Int) = (n : Int) := ⟨2 + 2 * q, by omega⟩
  have hn2 : 2 ≤ n := by omega
  have hn40 : n ≤ 40 := by omega
  go_enter Try.func3, Try.ntmps3
  go_wp2
  have T0 : Tn w ((((w.alloc (.cells #[.int .i64 (n : Int), .slice none 0 0] 25)).alloc (.cells #[.int .i64 (-1)] 3)).alloc (.cells #[.int .i64 0] 3)).alloc (.cells #[.int .i64 0] 3)) n (.slice none 0 0) (edUp 1)
      (.slice (some ⟨w.heap.size + 1, 0, none⟩) 1 1) (List.replicate 1 (-1)) (.slice (some ⟨w.heap.size + 1 + 1, 0, none⟩) 1 1) (upI 1) (.slice (some ⟨w.heap.size + 1 + 1 + 1, 0, none⟩) 1 1) (upI 1).reverse := by
    refine ⟨below_alloc (below_alloc (below_alloc (below_alloc (Below.refl _ _) _) _) _) _, blk_alloc (blk_alloc (blk_alloc (heap_alloc_new _ _) _) _) _, own_nil _ _ _ _, ?_, ?_, ?_, ?_, ?_, ?_⟩
    · exact ((own_lit_at _ _ _ [-1] (by simp) (by omega) (by simp) _ rfl).alloc _).alloc _
    · exact (own_lit_at _ _ _ [0] (by simp) (by omega) (by simp) _ rfl).alloc _
    · exact own_lit_at _ _ _ [0] (by simp) (by omega) (by simp) _ rfl
    all_goals (intro k hk hk'; simp [Value.ownBlock] at hk hk'; omega)
  have HT0 := Lib.hid T0
  clear T0
  go_loopw [4, 5, 6, 7] (fun v4 v5 v6 i wr => ∃ (k : Nat) (ve : Value) (es : List (Int × Int)) (ms ps bs : List Int), 1 ≤ k ∧ k ≤ n ∧ i = .int .i64 k ∧ Hid (es = edUp k ∧ ms = List.replicate k (-1) ∧ ps = upI k ∧ bs = (upI k).reverse) ∧ Hid (Tn w wr n ve es v4 ms v5 ps v6 bs)) (fun _ _ _ i _ => n - (intOf i).toNat)
  case atStart => exact ⟨1, _, _, _, _, _, by omega, by omega, by simp, ⟨rfl, rfl, rfl, rfl⟩, HT0⟩
  case round =>
    obtain ⟨k, ve, es, ms, ps, bs, hk1, hk, rfl, HQ, HT⟩ := hrel
    clear HT0
    have HL : Hid (es.length = k - 1 ∧ ms.length = k ∧ ps.length = k ∧ bs.length = k) := by
      obtain ⟨h1, h2, h3, h4⟩ := HQ.out
      show _ ∧ _
      rw [h1, h2, h3, h4]; simp [edUp_length, upI_length]
    by_cases hlt : k < n
    · obtain ⟨Ae, ce, rfl⟩ := HT.out.e.slice
      obtain ⟨Am, cm, rfl⟩ := HT.out.m.slice
      obtain ⟨Ap, cp, rfl⟩ := HT.out.p.slice
      obtain ⟨Ab, cb, rfl⟩ := HT.out.b.slice
      have cg2 := blk_cell HT.out.graph 1 rfl
      go_upto_region 9 with ((at_builtin; refine print_append_cells (w0 := w) (W := wr) w.heap.size rfl (.tmp 31) (.tmp 36) 23 28 _ 2 16 rfl und_edges info_edge rfl (by decide) (by decide) _ _ _ [.int .i64 ((k : Int) - 1), .int .i64 (k : Int)] rfl rfl rfl (by simp [Value.oneCell']) HT.out.e HT.out.below HT.out.below.size ?_ ?_; (have := HL.out; omega); intro v1 w1 o1 b1 g1 _; obtain ⟨A1, c1, rfl⟩ := own_slice o1; have G1 := blk_grown HT.out.graph g1 (own_ne HT.out.e HT.out.graph (by decide)); have q1 := blk_cell G1 1 rfl; have q2 := blk_free G1 1; have O1 := Lib.hid o1; have B1 := Lib.hid b1; have G2 := Lib.hid g1; clear o1 b1 g1 G1 cg2))
      have O1' : Hid (OwE w1 w.heap.size (.slice A1 (es.length + 1) c1) (es ++ [((k : Int) - 1, (k : Int))])) := by
        show OwE _ _ _ _
        have := O1.out
        unfold OwE
        rw [flatE_append]
        simpa [flatE] using this
      have T1 := Lib.hid (HT.out.ge _ O1'.out G2.out B1.out)
      clear O1 O1' G2 B1 q1 q2 HT
      generalize w1.setCell ⟨w.heap.size, 1, none⟩ (.slice A1 (es.length + 1) c1) = Y at *
      generalize Value.slice A1 (es.length + 1) c1 = ve at *
      go_upto_region 10 with ((at_builtin; refine print_append_num (w0 := w) (W := Y) w.heap.size rfl (.tmp 39) (.tmp 40) 26 3 .i64 8 rfl und_ints info_int (by decide) _ ms (-1) rfl rfl T1.out.m T1.out.below T1.out.below.size ?_ ?_; (have := HL.out; omega); intro v9 w9 o9 b9 g9 t9; have O9 := Lib.hid o9; have B9 := Lib.hid b9; have G9 := Lib.hid g9; have T9 := Lib.hid t9; clear o9 b9 g9 t9))
      have T2 := Lib.hid (T1.out.gm v9 O9.out G9.out B9.out T9.out)
      clear O9 B9 G9 T9 T1
      generalize w9 = Y2 at *
      generalize v9 = vm at *
      go_upto_region 11 with ((at_builtin; refine print_append_num (w0 := w) (W := Y2) w.heap.size rfl (.tmp 42) (.tmp 44) 26 3 .i64 8 rfl und_ints info_int (by decide) _ ps (k : Int) rfl rfl T2.out.p T2.out.below T2.out.below.size ?_ ?_; (have := HL.out; omega); intro v9 w9 o9 b9 g9 t9; have O9 := Lib.hid o9; have B9 := Lib.hid b9; have G9 := Lib.hid g9; have T9 := Lib.hid t9; clear o9 b9 g9 t9))
      have T3 := Lib.hid (T2.out.gp v9 O9.out G9.out B9.out T9.out)
      clear O9 B9 G9 T9 T2
      generalize w9 = Y3 at *
      generalize v9 = vp at *
      have hrd : RdI Y3 Ab bs := by
        obtain ⟨A', c', e, hr⟩ := T3.out.b.len (by have := HL.out; omega)
        injection e with e
        subst e; exact hr
      have HR := Lib.hid (hrd.below (below_alloc (Below.refl _ _) (.cells #[.int .i64 (k : Int)] 3))).reads
      clear hrd
      go_wp2_with ((at_builtin; refine print_append_row (w0 := Y3) (W := Y3.alloc (.cells #[.int .i64 (k : Int)] 3)) Y3.heap.size rfl (.tmp 47) (.tmp 48) 26 3 .i64 8 rfl und_ints info_int (by decide) _ [(k : Int)] bs Ab bs.length cb rfl rfl (own_lit Y3 Y3.heap.size 3 .i64 [(k : Int)] (Nat.le_refl _) (by simp)) HR.out (below_alloc (Below.refl _ _) _) (by simp) ?_ ?_; (have := HL.out; simp; omega); intro v9 w9 o9 b9 _ _; have O9 := Lib.hid o9; have B9 := Lib.hid b9; clear o9 b9))
      have T4 := Lib.hid (T3.out.gb v9 (bs' := [(k : Int)] ++ bs) O9.out B9.out)
      clear O9 B9 T3 HR
      go_roundw
      case rel => exact ⟨k + 1, _, _, _, _, _, by omega, by omega, by go_num, (by
        obtain ⟨h1, h2, h3, h4⟩ := HQ.out
        refine ⟨?_, ?_, ?_, ?_⟩
        · rw [h1, edUp_succ k hk1]
        · rw [h2, List.replicate_succ']
        · rw [h3, upI_succ]
        · rw [h4, upI_succ, List.reverse_append]; rfl), T4⟩
      case measure => simp [intOf]; omega
    · have hkn : k = n := by omega
      have HQ2 : Hid (es = edUp n ∧ ms = List.replicate n (-1) ∧ ps = upI n ∧ bs = (upI n).reverse) := hkn ▸ HQ
      clear hkn HQ HL
      have HT2 : Hid (Tn w wr n ve (edUp n) u4 (mateT n 0) u5 (upI n) u6 (upI n).reverse) := by
        obtain ⟨h1, h2, h3, h4⟩ := HQ2.out
        have := HT.out
        rw [h1, h2, h3, h4] at this
        exact this
      clear HT HQ2
      go_wp2
      go_loopw [8] (fun i wr => ∃ (r t : Nat) (ms : List Int), t ≤ q ∧ i = .int .i64 r ∧ Hid (r = 2 * t + 1) ∧ Hid (ms = mateT n t) ∧ Hid (Tn w wr n ve (edUp n) u4 ms u5 (upI n) u6 (upI n).reverse)) (fun i _ => n + 3 - (intOf i).toNat)
      case atStart => exact ⟨1, 0, _, by omega, by simp, rfl, rfl, HT2⟩
      case round =>
        obtain ⟨r, t, ms, htq, rfl, HR, HM, HT⟩ := hrel
        clear HT2
        have hml : Hid (ms.length = n) := by show _ = _; rw [HM.out, mateT_length]
        obtain ⟨s, hs⟩ : ∃ s, s = r + 1 := ⟨_, rfl⟩
        have hs' : (r : Int) + 1 = (s : Int) := by omega
        by_cases hlt : t < q
        · have hr := HR.out
          obtain ⟨g, cap, rfl, _, _⟩ := HT.out.m.form (by have := hml.out; omega)
          have x1 : r < ms.length := by have := hml.out; omega
          have y1 : s < ms.length := by have := hml.out; omega
          have S1 := HT.out.m.store r (s : Int)
          have S2 := S1.1.store s (r : Int)
          obtain ⟨s1a, s1b⟩ := HT.out.m.at_ x1
          obtain ⟨s3a, s3b⟩ := S1.1.at_ (i := s) (by simpa using y1)
          have T1 := HT.out.gm _ S1.1 S1.2 (HT.out.below.setCell (by omega) _) (.inl rfl)
          have T2 := Lib.hid (T1.gm _ S2.1 S2.2 (T1.below.setCell (by omega) _) (.inl rfl))
          have hM : Hid ((ms.set r (s : Int)).set s (r : Int) = mateT n (t + 1)) := by
            show _ = _
            rw [HM.out, mateT, show s = 2 * t + 2 from by omega, show r = 2 * t + 1 from by omega]
            simp
          have hsn : (s : Int) < (n : Int) := by omega
          have hsl : s + 1 < n := by omega
          have hrs := Lib.hid hs
          have hrn : r < n := by omega
          clear S1 S2 T1 HT hs hr
          go_wp2
          go_roundw
          case rel => exact ⟨s + 1, t + 1, _, by omega, by have := hrs.out; go_num, by have h1 := hrs.out; have h2 := HR.out; show _ = _; omega, hM, T2⟩
          case measure => have := hrs.out; simp [intOf]; omega
        · have htt : t = q := by omega
          have hr := HR.out
          have hsn : (n : Int) ≤ (s : Int) := by omega
          have hsb : s ≤ 61 := by omega
          have hrb : r ≤ 60 := by omega
          have HTn : Hid (Tn w wr n ve (edUp n) u4 (mateT n q) u5 (upI n) u6 (upI n).reverse) := by
            have := HT.out
            rw [HM.out, htt] at this
            exact this
          clear HT HM HR hr hml htt hs
          obtain ⟨Ae, ce, rfl, hE⟩ := HTn.out.e.len (by rw [edUp_length]; omega)
          obtain ⟨Am, cm, rfl, hM⟩ := HTn.out.m.len (by rw [mateT_length]; omega)
          obtain ⟨gp, cp, rfl, hcp, hP⟩ := HTn.out.p.row (by rw [upI_length]; omega) (by rw [upI_length]; omega)
          obtain ⟨Ab, cb, rfl, hB⟩ := HTn.out.b.len (by rw [List.length_reverse, upI_length]; omega)
          have cg1 := blk_cell HTn.out.graph 0 rfl
          have cg2 := blk_cell HTn.out.graph 1 rfl
          have HE := Lib.hid hE
          have HM := Lib.hid hM
          have HP := Lib.hid hP
          have HBk := Lib.hid hB
          have HB := Lib.hid HTn.out.below
          have hall := turned_all q hq20
          have hlen := turned_len q hq20
          have hnq : n = 2 + 2 * q := by omega
          simp only [turnedQ, ← hnq, Bool.and_eq_true, Bool.not_eq_true', decide_eq_true_eq] at hall hlen
          have hpl : (upI n).length = n := upI_length n
          rw [upI_length] at hcp
          clear hE hM hP hB HTn hnq
          generalize edUp n = es at *
          generalize mateT n q = ms at *
          generalize hps : upI n = ps at *
          generalize hbs : ps.reverse = bs at *
          generalize hF : flipR n es ms ps = F at *
          obtain ⟨fs, fe⟩ := F
          obtain ⟨⟨⟨⟨⟨⟨hA0, hA1⟩, hA2⟩, hA3⟩, hA4⟩, hA5⟩, hA6⟩ := hall
          have C1 := fun w' h1 h2 h3 => wFlip_any n Ae ce es Am cm ms (some ⟨gp, 0, none⟩) cp ps w' h1 h2 h3
          have C2 := fun w' h1 h2 h3 => wFlip_any n Ae ce es Am cm ms Ab cb bs w' h1 h2 h3
          rw [hF] at C1
          rw [← hA1] at C2
          have C3 := fun w' h1 h2 h3 => wAugments_any n Ae ce es Am cm ms (some ⟨gp, 0, none⟩) cp ps w' h1 h2 h3
          have C4 := fun w' h1 h2 h3 => wAugments_any n Ae ce es Am cm ms Ab cb bs w' h1 h2 h3
          have C5 := fun w' h1 h2 h3 => wAugments_any n Ae ce es Am cm ms (some ⟨gp, 0, none⟩) cp (ps.take (n - 1)) w' h1 h2 h3
          have C6 := fun w' h1 h2 h3 => wAlternates_any n Ae ce es Am cm ms (some ⟨gp, 0, none⟩) cp (ps.take (n - 1)) w' h1 h2 h3
          have C7 := fun w' h1 h2 h3 => wAlternates_any n Ae ce es Am cm ms (some ⟨gp, 0, none⟩) cp (ps.take 1) w' h1 h2 h3
          rw [hA2] at C3
          rw [hA3] at C4
          rw [hA4] at C5
          rw [hA5] at C6
          rw [hA6] at C7
          have hl5 : (ps.take (n - 1)).length = n - 1 := by rw [List.length_take]; omega
          have hl7 : (ps.take 1).length = 1 := by rw [List.length_take]; omega
          rw [hl5] at C5 C6
          rw [hl7] at C7
          simp only at hA0 hlen
          subst hA0
          have HC1 := Lib.hid C1
          have HC2 := Lib.hid C2
          have HC3 := Lib.hid C3
          have HC4 := Lib.hid C4
          have HC5 := Lib.hid C5
          have HC6 := Lib.hid C6
          have HC7 := Lib.hid C7
          have HFL := Lib.hid hlen
          have HPL := Lib.hid hpl
          clear C1 C2 C3 C4 C5 C6 C7 hA1 hA2 hA3 hA4 hA5 hA6 hF hps hbs hlen hpl hl5 hl7
          go_wp2_with (fail)
          refine (HC1.out _ HE.out HM.out HP.out).mono ?_
          rintro e w1 ⟨v1, rfl, hv1, hb1⟩
          obtain ⟨A1, c1, rfl, hr1⟩ := hv1.len (by have := HFL.out; simp only; omega)
          have HR1 := Lib.hid hr1
          have cg3 := cell_below hb1 cg1
          have cg4 := cell_below hb1 cg2
          have HB1 := Lib.hid (below_thn HB.out hb1)
          have HE1 := Lib.hid (HE.out.below hb1)
          have HM1 := Lib.hid (HM.out.below hb1)
          have HP1 := Lib.hid (HP.out.below hb1)
          have HBk1 := Lib.hid (HBk.out.below hb1)
          clear hv1 hr1 hb1 cg1 cg2 HE HM HP HBk HB
          go_wp2_with (fail)
          refine (HC2.out _ HE1.out HM1.out HBk1.out).mono ?_
          rintro e w2 ⟨v2, rfl, hv2, hb2⟩
          obtain ⟨A2, c2, rfl, hr2⟩ := hv2.len (by have := HFL.out; simp only; omega)
          have HR2 := Lib.hid hr2
          have HR1' := Lib.hid (HR1.out.below hb2)
          have cg5 := cell_below hb2 cg3
          have cg6 := cell_below hb2 cg4
          have HB2 := Lib.hid (below_thn HB1.out hb2)
          have HE2 := Lib.hid (HE1.out.below hb2)
          have HM2 := Lib.hid (HM1.out.below hb2)
          have HP2 := Lib.hid (HP1.out.below hb2)
          have HBk2 := Lib.hid (HBk1.out.below hb2)
          clear hv2 hr2 hb2 cg3 cg4 HE1 HM1 HP1 HBk1 HB1 HR1
          have hn1 : (n : Int) - 1 = ((n - 1 : Nat) : Int) := by omega
          go_wp2_with (fail)
          have hl5 : RdI w2 (some ⟨gp, 0, none⟩) (ps.take (n - 1)) := HP2.out.take _
          have hl7 : RdI w2 (some ⟨gp, 0, none⟩) (ps.take 1) := HP2.out.take _
          have HP5 := Lib.hid hl5
          have HP7 := Lib.hid hl7
          clear hl5 hl7
          have D3 := fun p : Gr w2 => Gr.calls (HC3.out p.val (HE2.out.below p.ok) (HM2.out.below p.ok) (HP2.out.below p.ok))
          have D4 := fun p : Gr w2 => Gr.calls (HC4.out p.val (HE2.out.below p.ok) (HM2.out.below p.ok) (HBk2.out.below p.ok))
          have D5 := fun p : Gr w2 => Gr.calls (HC5.out p.val (HE2.out.below p.ok) (HM2.out.below p.ok) (HP5.out.below p.ok))
          have D6 := fun p : Gr w2 => Gr.calls (HC6.out p.val (HE2.out.below p.ok) (HM2.out.below p.ok) (HP5.out.below p.ok))
          have D7 := fun p : Gr w2 => Gr.calls (HC7.out p.val (HE2.out.below p.ok) (HM2.out.below p.ok) (HP7.out.below p.ok))
          have D8 := fun p : Gr w2 => Gr.calls ((plainI_any A1 A2 c1 c2 fs fs p.val (HR1'.out.below p.ok) (HR2.out.below p.ok)).mono fun e w' h => (by simpa using h : e = .returned (.bool true) ∧ _))
          have D9 := fun p : Gr w2 => Gr.calls (awake_any p.val)
          have c5 := fun p : Gr w2 => Gr.cell cg5 p
          have c6 := fun p : Gr w2 => Gr.cell cg6 p
          refine wp_region_gr (by kernel_rfl) (by kernel_rfl) ?_
          repeat (go_big_quiet_step (first
            | (go_at_call 8; exact D9 _)
            | (go_at_call 9; first | with_reducible exact D3 _ | with_reducible exact D4 _ | with_reducible exact D5 _)
            | (go_at_call 11; first | with_reducible exact D6 _ | with_reducible exact D7 _)
            | (go_at_call 10; exact D8 _)))
          refine wpQuiet_nil ?_
          rintro _ ⟨⟨w3, hb3⟩, rfl⟩
          have HB3 := Lib.hid (below_thn HB2.out hb3)
          go_wp2
          go_ret
          exact ⟨rfl, HB3.out⟩
end Go.Proofs.Ytjcgokfjdagckaa
