/- The reference's Parse, walked. -/
import Derived.Test.YtplghlokjgjjbaaDoorL24
namespace Go.Proofs.YtplghlokjgjjbaaDoor
open Go.RowKit Go.Proofs.YtplghlokjgjjbaaDoorW.PrintWords

theorem numI_cases (s : ByteArray) : (numS s = none ∧ numI s = -1) ∨ ∃ v, numS s = some v ∧ numI s = v ∧ 0 ≤ v := by
  unfold numI
  cases h : numS s with
  | none => exact .inl ⟨rfl, rfl⟩
  | some v => exact .inr ⟨v, rfl, rfl, (numS_canon h).1⟩
def KindsOut (r : Cmd × Int) (l : List ByteArray) (kk : Nat) : Prop := (∀ q : Nat, 1 ≤ q → q < kk → (formAt q).1 ≠ gs l 0) ∨ r = (zeroC, 15)
theorem KindsOut.next {r : Cmd × Int} {l : List ByteArray} {kk : Nat} (h : KindsOut r l kk) (hne : (formAt kk).1 ≠ gs l 0) : KindsOut r l (kk + 1) := by
  rcases h with h | h
  · refine .inl fun q h1 h2 => ?_
    by_cases e : q = kk
    · rw [e]; exact hne
    · exact h q h1 (by omega)
  · exact .inr h
theorem builtA_nil (n : Int) : builtA n [] = 0 := by unfold builtA; split <;> rfl
theorem builtB_nil (n : Int) : builtB n [] = 0 := by unfold builtB; split <;> rfl
theorem builtL_nil (n : Int) : builtL n [] = [] := by unfold builtL; split <;> rfl
theorem builtA_neg {n : Int} (h : n < 0) (xs : List Int) : builtA n xs = 0 := if_pos h
theorem builtB_neg {n : Int} (h : n < 0) (xs : List Int) : builtB n xs = 0 := if_pos h
theorem builtL_neg {n : Int} (h : n < 0) (xs : List Int) : builtL n xs = xs := if_pos h
theorem builtA_pos {n : Int} (h : ¬ n < 0) (xs : List Int) : builtA n xs = gi (xs ++ [0, 0]) 0 := if_neg h
theorem builtB_pos {n : Int} (h : ¬ n < 0) (xs : List Int) : builtB n xs = gi (xs ++ [0, 0]) 1 := if_neg h
theorem builtL_pos {n : Int} (h : ¬ n < 0) (xs : List Int) : builtL n xs = [] := if_neg h
theorem str_ne (a b : ByteArray) : (a.toList != b.toList) = !decide (a = b) := by rw [bne, toList_eq]

set_option maxRecDepth 100000 in
set_option maxHeartbeats 4000000 in
theorem refParse_any (s : ByteArray) (w : World) (hs : s.size ≤ 4611686018427387904) : Calls Tryd.prog 18 #[.string s] w (CmdPost w (parseS s)) := by
  by_cases hlong : 65536 < s.size
  · have hp : parseS s = (zeroC, 8) := by rw [parseS, if_pos hlong]
    rw [hp]
    go_enter Tryd.func18, Tryd.ntmps18
    go_wp2_with (refine step_store_blk w.heap.size rfl rfl 26 (.tmp 2) (.tmp 16) rfl zeroCs zeroCs rfl rfl (heap_alloc_new w _) (cmd_info _ rfl) rfl zeroCs_one ?_; intro w5 h5 hg5; have H15 := Lib.hid h5; have HG5 := Lib.hid hg5; clear h5 hg5)
    refine bodyPost_ret (v := .tuple #[.agg zeroCs, .int .i64 8]) (results_cell_tmp rfl rfl rfl (cmd_load H15.out rfl)) rfl ?_
    have hb := below_alloc (Below.refl w.heap.size w) (.cells zeroCs 26)
    exact ⟨.slice none 0 0, rfl, own_nil _ _ _ _, hb.grown HG5.out hb.size (fun k hk => by injection hk with hk; omega)⟩
  have hsz : s.size ≤ 65536 := by omega
  have hll : (splitW s).length ≤ 65537 := by rw [splitW_length]; have := Lib.countB_le blank (by decide) _ s (Nat.le_refl _); omega
  have hpos : 0 < (splitW s).length := by rw [splitW_length]; omega
  obtain ⟨r, hr⟩ : ∃ r, r = parseS s := ⟨_, rfl⟩
  have F1 : Hid ((∀ q : Nat, 1 ≤ q → q < 15 → (formAt q).1 ≠ gs (splitW s) 0) → r = (zeroC, 15)) := fun h => by rw [hr]; exact parse_nokind hsz h
  have F2 : Hid (∀ q : Nat, 1 ≤ q → q < 15 → gs (splitW s) 0 = (formAt q).1 → numsS ((splitW s).drop 1) = none → r = (zeroC, 15)) := fun q h1 h2 h3 h4 => by rw [hr]; exact parse_numbad hsz h1 h2 h3 h4
  have F3 : Hid (∀ (q : Nat) (xs : List Int), 1 ≤ q → q < 15 → gs (splitW s) 0 = (formAt q).1 → numsS ((splitW s).drop 1) = some xs → printS q (builtA (formAt q).2 xs) (builtB (formAt q).2 xs) (builtL (formAt q).2 xs) ≠ some s → r = (zeroC, 15)) := fun q xs h1 h2 h3 h4 h5 => by rw [hr]; exact parse_other hsz h1 h2 h3 h4 h5
  have F4 : Hid (∀ (k x y : Int) (xs : List Int), printS k x y xs = some s → r = ((k, x, y, xs), 0)) := fun k x y xs h => by rw [hr]; exact print_parse h
  rw [← hr]
  have HS := Lib.hid (refSplit_any s (w.alloc (.cells zeroCs 26)) hsz)
  clear hr hlong hs
  generalize splitW s = l at *
  go_enter Tryd.func18, Tryd.ntmps18
  go_wp2_with (fail)
  refine HS.out.mono ?_
  rintro e W1 ⟨v4, rfl, ho, hb⟩
  obtain ⟨A0, c0, rfl, hrd⟩ := OwS.reads ho (by omega)
  obtain ⟨ad, rfl, _⟩ := hrd.2 0 hpos
  have HB0 : Hid (Below w.heap.size w W1) := below_thn (below_alloc (Below.refl _ _) _) hb
  have H1 := Lib.hid (blk_below (heap_alloc_new w (.cells zeroCs 26)) hb)
  have hW1 : w.heap.size < W1.heap.size := blk_lt H1.out
  have HC : Hid (∀ wr : World, Below W1.heap.size W1 wr → ∀ j, j < l.length → wr.cell? (ad.add j) = some (.string (gs l j))) := fun wr hb j hj => by
    obtain ⟨ad', e, hc⟩ := (hrd.below hb).2 j hj
    injection e with e
    rw [e]; exact hc
  clear HS ho hrd hb
  go_wp2
  go_loopw [5] (fun v5 wr => ∃ kk : Nat, v5 = .int .i64 kk ∧ 1 ≤ kk ∧ kk ≤ 15 ∧ Hid (KindsOut r l kk) ∧ Hid (Below W1.heap.size W1 wr)) (fun v5 _ => 15 - (intOf v5).toNat)
  case atStart => exact ⟨1, by simp, by omega, by omega, .inl (fun q h1 h2 => by omega), Below.refl _ _⟩
  case round =>
    obtain ⟨kk, rfl, hk1, hk15, HKO, HBr⟩ := hrel
    by_cases hlt : kk < 15
    · have hw := refWords_any kk wr
      have hwk : wordsOf kk = formAt kk := by rw [wordsOf, if_pos ⟨by omega, by omega⟩, Int.toNat_natCast]
      rw [hwk] at hw
      have HW := Lib.hid hw
      have hki : (kk : Int) ≤ 14 := by omega
      have c1 := HC.out wr HBr.out 0 hpos
      have c1' := c1
      rw [show ad.add 0 = ad from by simp [Addr.add]] at c1'
      have F3k : Hid (∀ xs : List Int, gs l 0 = (formAt kk).1 → numsS (l.drop 1) = some xs → printS kk (builtA (formAt kk).2 xs) (builtB (formAt kk).2 xs) (builtL (formAt kk).2 xs) ≠ some s → r = (zeroC, 15)) := fun xs => F3.out kk xs hk1 hlt
      have F2k : Hid (gs l 0 = (formAt kk).1 → numsS (l.drop 1) = none → r = (zeroC, 15)) := F2.out kk hk1 hlt
      have HKN : Hid ((formAt kk).1 ≠ gs l 0 → KindsOut r l (kk + 1)) := HKO.out.next
      clear hw hwk HKO F1 F2 F3
      generalize (formAt kk).1 = wd at *
      generalize (formAt kk).2 = n at *
      by_cases hq : gs l 0 = wd
      · have hq' : ((gs l 0).toList == wd.toList) = true := by rw [toList_eq]; exact decide_eq_true hq
        have HQ := Lib.hid hq
        clear hq
        go_upto_region 10 with ((go_at_call 36; refine HW.out.mono ?_; rintro e w' ⟨rfl, rfl⟩))
        refine wp_box1 ?_
        intro W2 hb2 hsz2 hblk
        have HB2 := Lib.hid (below_thn HBr.out hb2)
        have hgW : W1.heap.size ≤ wr.heap.size := HBr.out.size
        have HBK := Lib.hid hblk
        clear hblk hb2 HBr HW c1 c1' hsz2
        generalize wr.heap.size = g at *
        have hR0 : Hid (RparAt W1 W2 g kk n l (.int .i64 1)) := ⟨1, [], .slice none 0 0, rfl, by omega, by omega, rfl, by rw [builtA_nil, builtB_nil]; exact HBK.out, by rw [builtL_nil]; exact own_nil _ _ _ _, by simp, HB2.out, hgW⟩
        go_wp2
        go_loopw [9] (fun v9 wr2 => RparAt W1 wr2 g kk n l v9) (fun v9 _ => l.length - (intOf v9).toNat)
        case atStart => exact hR0.out
        case round =>
          obtain ⟨i, xs, v, rfl, hi1, hil, hxl, hcell, ho, hnum, hbr, _⟩ := hrel
          have HO := Lib.hid ho
          have HBR := Lib.hid hbr
          have HCL := Lib.hid hcell
          have HXL := Lib.hid hxl
          have hgl : g < wr.heap.size := blk_lt hcell
          clear hR0
          by_cases hlt2 : i < l.length
          · have c2 := HC.out wr hbr i hlt2
            have HNu := Lib.hid (refNumber_any (gs l i) wr)
            have hN := hnum
            rw [numsS_drop hlt2] at hN
            clear hcell ho hbr hxl
            rcases numI_cases (gs l i) with ⟨e1, e2⟩ | ⟨z, e1, e2, e3⟩
            · have HX : Hid (r = (zeroC, 15)) := F2k.out HQ.out (by rw [hN, e1]; rfl)
              rw [e2] at HNu
              have H12 := Lib.hid (blk_below H1.out HBR.out)
              have HBw := Lib.hid (below_thn HB0.out HBR.out)
              clear e1 e2 hN hnum
              go_wp2_with (first
                | (go_at_call 37; refine HNu.out.mono ?_; rintro e w' ⟨rfl, rfl⟩)
                | (refine step_store_blk w.heap.size rfl rfl 26 (.tmp 2) (.tmp 48) rfl zeroCs zeroCs rfl rfl H12.out (cmd_info _ rfl) rfl zeroCs_one ?_; intro w5 h5 hg5; have H15 := Lib.hid h5; have HG5 := Lib.hid hg5; clear h5 hg5))
              refine bodyPost_ret (v := .tuple #[.agg zeroCs, .int .i64 15]) (results_cell_tmp rfl rfl rfl (cmd_load H15.out rfl)) rfl ?_
              rw [HX.out]
              exact ⟨.slice none 0 0, rfl, own_nil _ _ _ _, HBw.out.grown HG5.out HBw.out.size (fun k hk => by injection hk with hk; omega)⟩
            · rw [e2] at HNu
              have HN2 : Hid (numsS (l.drop 1) = (numsS (l.drop (i + 1))).map ((xs ++ [z]) ++ ·)) := by
                show _ = _
                rw [hN, e1]
                cases numsS (l.drop (i + 1)) <;> simp
              have HSn := Lib.hid (built_snoc (xs := xs) z)
              clear e1 e2 hN hnum
              by_cases hneg : n < 0
              all_goals have HNeg := Lib.hid hneg
              · have f3 := blk_cell HCL.out 3 rfl
                rw [builtL_neg hneg] at HO
                have HCL2 := HCL.out
                rw [builtA_neg hneg, builtB_neg hneg] at HCL2
                have HCx := Lib.hid HCL2
                have hl9 : (xs ++ [z]).length = xs.length + 1 := by simp
                clear HCL2 HCL
                go_wp2_with (first
                  | (go_at_call 37; refine HNu.out.mono ?_; rintro e w' ⟨rfl, rfl⟩)
                  | (at_builtin; refine print_append_num (w0 := wr) (W := wr) (g + 1) rfl (.tmp 53) (.tmp 55) 24 3 .i64 8 rfl und_ints info_int (by decide) _ xs z rfl rfl HO.out (Below.refl _ _) hgl ?_ ?_; (have := HXL.out; omega); intro v9 w9 o9 b9 g9 t9; have O9 := Lib.hid (show OwI w9 (g + 1) v9 (xs ++ [z]) from o9); obtain ⟨A9, c9, e9⟩ := OwI.slice O9.out; rw [hl9] at e9; subst e9; have B9 := Lib.hid b9; have X9 := Lib.hid ((b9.block g (by omega)).trans HCx.out); have f33 := blk_cell X9.out 3 rfl; have f34 := blk_free X9.out 3; clear o9 b9 g9 t9 f3))
                have S3 := set_blk X9.out 3 (.slice A9 (xs.length + 1) c9)
                have B10 : Below W1.heap.size W1 w9 := HBR.out.trans (B9.out.mono (by omega))
                have B11 := B10.grown S3.2 B10.size (fun k hk => by injection hk with hk; omega)
                go_roundw
                case rel => exact ⟨i + 1, xs ++ [z], .slice A9 (xs.length + 1) c9, by go_num, by omega, by omega, by have := HXL.out; simp; omega, by rw [builtA_neg HNeg.out, builtB_neg HNeg.out]; exact S3.1, by rw [builtL_neg HNeg.out]; exact OwI.other O9.out S3.2 (OwI.ge O9.out (by omega)), HN2.out, B11, by omega⟩
                case measure => simp [intOf]; omega
              · have hc := HCL.out
                rw [builtA_pos HNeg.out, builtB_pos HNeg.out] at hc
                have HO2 := HO.out
                rw [builtL_pos HNeg.out] at HO2
                have HOx := Lib.hid HO2
                have HCx := Lib.hid hc
                clear HO HO2 hc HCL
                obtain ⟨b1, b2, b3, b4⟩ := HSn.out
                by_cases i1 : i = 1
                · have i1b : ((i : Int) == 1) = true := by rw [i1]; rfl
                  have hx0 : xs.length = 0 := by have := HXL.out; omega
                  have hA := b1 hx0
                  have hB := b4 (by omega)
                  have HAh := Lib.hid hA
                  have HBh := Lib.hid hB
                  have f1 := blk_cell HCx.out 1 rfl
                  have f2 := blk_free HCx.out 1
                  clear b1 b2 b3 b4 hA hB HSn hx0 i1
                  go_wp2_with (go_at_call 37; refine HNu.out.mono ?_; rintro e w' ⟨rfl, rfl⟩)
                  have S3 := set_blk HCx.out 1 (.int .i64 z)
                  have B11 := HBR.out.grown S3.2 HBR.out.size (fun k hk => by injection hk with hk; omega)
                  go_roundw
                  case rel => exact ⟨i + 1, xs ++ [z], v, by go_num, by omega, by omega, by have := HXL.out; simp; omega, by rw [builtA_pos (Int.not_lt.2 HNeg.out), builtB_pos (Int.not_lt.2 HNeg.out), HAh.out, HBh.out]; exact S3.1, by rw [builtL_pos (Int.not_lt.2 HNeg.out)]; exact OwI.other HOx.out S3.2 (OwI.ge HOx.out (by omega)), HN2.out, B11, by omega⟩
                  case measure => simp [intOf]; omega
                · have i1b : ((i : Int) == 1) = false := by simp; omega
                  have hA := b2 (by have := HXL.out; omega)
                  have HAh := Lib.hid hA
                  clear hA b1 b2
                  by_cases i2 : i = 2
                  · have i2b : ((i : Int) == 2) = true := by rw [i2]; rfl
                    have hB := b3 (by have := HXL.out; omega)
                    have HBh := Lib.hid hB
                    have f1 := blk_cell HCx.out 2 rfl
                    have f2 := blk_free HCx.out 2
                    clear b3 b4 hB HSn i1 i2
                    go_wp2_with (go_at_call 37; refine HNu.out.mono ?_; rintro e w' ⟨rfl, rfl⟩)
                    have S3 := set_blk HCx.out 2 (.int .i64 z)
                    have B11 := HBR.out.grown S3.2 HBR.out.size (fun k hk => by injection hk with hk; omega)
                    go_roundw
                    case rel => exact ⟨i + 1, xs ++ [z], v, by go_num, by omega, by omega, by have := HXL.out; simp; omega, by rw [builtA_pos (Int.not_lt.2 HNeg.out), builtB_pos (Int.not_lt.2 HNeg.out), HAh.out, HBh.out]; exact S3.1, by rw [builtL_pos (Int.not_lt.2 HNeg.out)]; exact OwI.other HOx.out S3.2 (OwI.ge HOx.out (by omega)), HN2.out, B11, by omega⟩
                    case measure => simp [intOf]; omega
                  · have i2b : ((i : Int) == 2) = false := by simp; omega
                    have hB := b4 (by have := HXL.out; omega)
                    have HBh := Lib.hid hB
                    clear b3 b4 hB HSn
                    go_wp2_with (go_at_call 37; refine HNu.out.mono ?_; rintro e w' ⟨rfl, rfl⟩)
                    go_roundw
                    case rel => exact ⟨i + 1, xs ++ [z], v, by go_num, by omega, by omega, by have := HXL.out; simp; omega, by rw [builtA_pos (Int.not_lt.2 HNeg.out), builtB_pos (Int.not_lt.2 HNeg.out), HAh.out, HBh.out]; exact HCx.out, by rw [builtL_pos (Int.not_lt.2 HNeg.out)]; exact HOx.out, HN2.out, HBR.out, by omega⟩
                    case measure => simp [intOf]; omega
          · obtain rfl : i = l.length := by omega
            have hN := hnum
            rw [List.drop_length, numsS] at hN
            have hN3 : numsS (l.drop 1) = some xs := by rw [hN]; simp
            have HL3 : Hid (printS kk (builtA n xs) (builtB n xs) (builtL n xs) ≠ some s → r = (zeroC, 15)) := F3k.out xs HQ.out hN3
            have HL4 : Hid (printS kk (builtA n xs) (builtB n xs) (builtL n xs) = some s → r = (((kk : Int), builtA n xs, builtB n xs, builtL n xs), 0)) := F4.out _ _ _ _
            have hbl : (builtL n xs).length ≤ 65537 := by
              unfold builtL
              have := HXL.out
              split
              · omega
              · simp
            clear hN hnum hN3 hcell ho hbr hxl F3k F2k F4
            generalize builtA n xs = x at *
            generalize builtB n xs = y at *
            generalize builtL n xs = z at *
            obtain ⟨A8, c8, rfl, hr8⟩ := OwI.len HO.out (by omega)
            have HP := Lib.hid (refPrint_any kk x y A8 c8 z wr hr8)
            clear hr8
            generalize printS kk x y z = p at *
            have HKN2 : Hid (p ≠ some s → KindsOut r l (kk + 1)) := fun h => .inr (HL3.out h)
            have HLd := Lib.hid (show ∀ W : World, Below wr.heap.size wr W → W.heap[g]? = some (.cells #[.int .i64 kk, .int .i64 x, .int .i64 y, .slice A8 z.length c8] 26 (0, 0)) from fun W hb => blk_below HCL.out hb)
            rcases p with _ | t
            · rw [show errOf (none : Option ByteArray) = 15 from rfl, show strOf (none : Option ByteArray) = ⟨#[]⟩ from rfl] at HP
              have HKe := Lib.hid (HKN2.out (by simp))
              go_wp2_with (refine step_load_blk g rfl 26 (.tmp 8) rfl #[.int .i64 kk, .int .i64 x, .int .i64 y, .slice A8 z.length c8] _ rfl HCL.out Tryd.underlying26 rfl (cmd_info _ rfl) ?_)
              refine HP.out.mono ?_
              rintro e w3 ⟨rfl, hb3⟩
              have HB3 := Lib.hid (below_thn HBR.out hb3)
              clear hb3
              go_wp2
              go_roundw
              case rel => exact ⟨kk + 1, by go_num, by omega, by omega, HKe, HB3⟩
              case measure => simp [intOf]; omega
            · rw [show errOf (some t) = 0 from rfl, show strOf (some t) = t from rfl] at HP
              by_cases ht : t = s
              · have hq2 : (t.toList == s.toList) = true := by rw [toList_eq]; exact decide_eq_true ht
                have HX := Lib.hid (HL4.out (by rw [ht]))
                clear ht HKN2 HL3 HL4
                go_wp2_with (refine step_load_blk g rfl 26 (.tmp 8) rfl #[.int .i64 kk, .int .i64 x, .int .i64 y, .slice A8 z.length c8] _ rfl HCL.out Tryd.underlying26 rfl (cmd_info _ rfl) ?_)
                refine HP.out.mono ?_
                rintro e w3 ⟨rfl, hb3⟩
                have HB3 := Lib.hid (below_thn HB0.out (below_thn HBR.out hb3))
                have H13 := Lib.hid (blk_below H1.out (below_thn HBR.out hb3))
                have HL3 := Lib.hid (HLd.out _ hb3)
                have HO3 := Lib.hid (HO.out.below hb3)
                clear hb3
                go_wp2_with (first
                  | (refine step_load_blk g rfl 26 (.tmp 8) rfl #[.int .i64 kk, .int .i64 x, .int .i64 y, .slice A8 z.length c8] _ rfl HL3.out Tryd.underlying26 rfl (cmd_info _ rfl) ?_)
                  | (refine step_store_blk w.heap.size rfl rfl 26 (.tmp 2) (.tmp 80) rfl zeroCs #[.int .i64 kk, .int .i64 x, .int .i64 y, .slice A8 z.length c8] rfl rfl H13.out (cmd_info _ rfl) rfl (cmd_one _ _ _ _ _ _) ?_; intro w8 h8 hg8; have H18 := Lib.hid h8; have HG8 := Lib.hid hg8; clear h8 hg8))
                refine bodyPost_ret (v := .tuple #[.agg #[.int .i64 kk, .int .i64 x, .int .i64 y, .slice A8 z.length c8], .int .i64 0]) (results_cell_tmp rfl rfl rfl (cmd_load H18.out rfl)) rfl ?_
                rw [HX.out]
                exact ⟨.slice A8 z.length c8, rfl, (OwI.other HO3.out HG8.out (OwI.ge HO3.out (by omega))).mono (by omega), HB3.out.grown HG8.out HB3.out.size (fun k hk => by injection hk with hk; omega)⟩
              · have hq2 : (t.toList == s.toList) = false := by rw [toList_eq]; exact decide_eq_false ht
                have HKe := Lib.hid (HKN2.out (by simpa using ht))
                clear ht HKN2 HL3 HL4
                go_wp2_with (refine step_load_blk g rfl 26 (.tmp 8) rfl #[.int .i64 kk, .int .i64 x, .int .i64 y, .slice A8 z.length c8] _ rfl HCL.out Tryd.underlying26 rfl (cmd_info _ rfl) ?_)
                refine HP.out.mono ?_
                rintro e w3 ⟨rfl, hb3⟩
                have HB3 := Lib.hid (below_thn HBR.out hb3)
                clear hb3
                go_wp2
                go_roundw
                case rel => exact ⟨kk + 1, by go_num, by omega, by omega, HKe, HB3⟩
                case measure => simp [intOf]; omega
      · have hq' : ((gs l 0).toList == wd.toList) = false := by rw [toList_eq]; exact decide_eq_false hq
        have HKn : Hid (KindsOut r l (kk + 1)) := HKN.out (fun e => hq e.symm)
        clear hq
        go_wp2_with ((go_at_call 36; refine HW.out.mono ?_; rintro e w' ⟨rfl, rfl⟩))
        go_roundw
        case rel => exact ⟨kk + 1, by go_num, by omega, by omega, HKn, HBr⟩
        case measure => simp [intOf]; omega
    · obtain rfl : kk = 15 := by omega
      have HX : Hid (r = (zeroC, 15)) := by
        show _ = _
        rcases HKO.out with h | h
        · exact F1.out h
        · exact h
      have H12 := Lib.hid (blk_below H1.out HBr.out)
      have HB2 := Lib.hid (below_thn HB0.out HBr.out)
      go_wp2_with (refine step_store_blk w.heap.size rfl rfl 26 (.tmp 2) (.tmp 81) rfl zeroCs zeroCs rfl rfl H12.out (cmd_info _ rfl) rfl zeroCs_one ?_; intro w5 h5 hg5; have H15 := Lib.hid h5; have HG5 := Lib.hid hg5; clear h5 hg5)
      refine bodyPost_ret (v := .tuple #[.agg zeroCs, .int .i64 15]) (results_cell_tmp rfl rfl rfl (cmd_load H15.out rfl)) rfl ?_
      rw [HX.out]
      exact ⟨.slice none 0 0, rfl, own_nil _ _ _ _, HB2.out.grown HG5.out HB2.out.size (fun k hk => by injection hk with hk; omega)⟩
end Go.Proofs.YtplghlokjgjjbaaDoor
