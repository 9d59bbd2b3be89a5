/- LinesAll returns true. -/
import Derived.Test.YtplghlokjgjjbaaDoorL12
import Derived.Test.YtplghlokjgjjbaaDoorL5
namespace Go.Proofs.YtplghlokjgjjbaaDoor
open Go.RowKit Go.Proofs.YtplghlokjgjjbaaDoorW.PrintWords

/-- A word without its line ends, at most sixty bytes of it looked at. -/
def wordK (s : ByteArray) (k : Nat) : List UInt8 := (s.data.toList.take k).filter fun b => !(b == 10)
def kOf (s : ByteArray) : Nat := min s.size 60
def wordW (s : ByteArray) : List UInt8 := wordK s (kOf s)
def textL : List ByteArray → List UInt8
  | [] => []
  | s :: r => wordW s ++ 10 :: textL r
def wantL (l : List ByteArray) : List ByteArray := l.map fun s => ofL (wordW s)
theorem wordK_no (s : ByteArray) (k : Nat) : 10 ∉ wordK s k := by
  intro h
  have := (List.mem_filter.1 h).2
  simp at this
theorem wordK_len (s : ByteArray) (k : Nat) : (wordK s k).length ≤ k := by
  unfold wordK
  exact Nat.le_trans (List.length_filter_le ..) (by rw [List.length_take]; omega)
theorem wordW_len (s : ByteArray) : (wordW s).length ≤ 60 := Nat.le_trans (wordK_len _ _) (by unfold kOf; omega)
theorem take_byte (s : ByteArray) (k : Nat) (h : k < s.size) : s.data.toList.take (k + 1) = s.data.toList.take k ++ [s[k]] := by
  rw [List.take_succ_eq_append_getElem (by simpa using h)]; rfl
theorem wordK_skip (s : ByteArray) (k : Nat) (h : k < s.size) (h10 : s[k] = 10) : wordK s (k + 1) = wordK s k := by
  rw [wordK, take_byte s k h, List.filter_append, h10]; simp [wordK]
theorem wordK_put (s : ByteArray) (k : Nat) (h : k < s.size) (h10 : s[k] ≠ 10) : wordK s (k + 1) = wordK s k ++ [s[k]] := by
  rw [wordK, take_byte s k h, List.filter_append]; simp [wordK, h10]
theorem wordW_no (s : ByteArray) : 10 ∉ wordW s := wordK_no _ _
theorem textL_append (l : List ByteArray) (s : ByteArray) : textL (l ++ [s]) = textL l ++ wordW s ++ [10] := by
  induction l with
  | nil => simp [textL]
  | cons x r ih => simp [textL, ih]
theorem textL_len (l : List ByteArray) : (textL l).length ≤ 61 * l.length := by
  induction l with
  | nil => simp [textL]
  | cons x r ih => have := wordW_len x; simp [textL]; omega
theorem lines_text (l : List ByteArray) : linesL (textL l) = l.map wordW := by
  induction l with
  | nil => rfl
  | cons x r ih => rw [textL, linesL_append _ (wordW_no _), ih]; rfl
/-- Without the last line's end: where that line is not empty. -/
theorem lines_text_cut (l : List ByteArray) (s : ByteArray) (h : wordW s ≠ []) : linesL (textL l ++ wordW s) = (l ++ [s]).map wordW := by
  induction l with
  | nil => rw [textL, List.nil_append, linesL_none (wordW_no _) h]; rfl
  | cons x r ih => rw [textL, List.append_assoc, List.cons_append, linesL_append _ (wordW_no _), ih]; rfl
theorem ofL_ext {a b : ByteArray} (h : a.data.toList = b.data.toList) : a = b := by
  apply ByteArray.ext
  apply Array.ext'
  exact h
theorem app_data (a b : ByteArray) : (a ++ b).data.toList = a.data.toList ++ b.data.toList := by simp
theorem ofL_snoc (l : List UInt8) (s : ByteArray) (k : Nat) (h : k < s.size) : ofL l ++ s.extract k (k + 1) = ofL (l ++ [s[k]]) := by
  apply ofL_ext
  rw [app_data, data_ofL, data_ofL, Lib.extract_data, Nat.add_sub_cancel_left, List.drop_eq_getElem_cons (by simpa using h), List.take_succ_cons, List.take_zero]
  rfl
theorem ofL_app (a b : List UInt8) : ofL a ++ ofL b = ofL (a ++ b) := by
  apply ofL_ext
  rw [app_data, data_ofL, data_ofL, data_ofL]
theorem ofL_cut (l : List UInt8) : (ofL (l ++ [10])).extract 0 l.length = ofL l := by
  apply ofL_ext
  rw [Lib.extract_data, data_ofL, data_ofL]
  simp

theorem bytesOf_back (t : ByteArray) : Lib.bytesOf (bytesOf t) = t.data.toList := by
  rw [Lib.bytesOf, bytesOf, List.map_map]
  conv => rhs; rw [← List.map_id t.data.toList]
  exact List.map_congr_left fun x _ => by simp
theorem bytes_RdU (w : World) (t : ByteArray) (h : t.size ≤ 4611686018427387904) : RdU (Lib.bytesWorld w 5 t) w.heap.size 0 (bytesOf t) :=
  ⟨by rw [bytesOf_length]; exact h, fun j hj => by
    rw [bytesOf_length] at hj
    rw [Nat.zero_add]
    exact bytes_RdI hj (Below.refl _ _)⟩
theorem ofL_e1 : (ofL []).toList.isEmpty = true := by rw [ByteArray.toList_eq]; rfl
theorem ofL_e2 : (ofL []).toList = [] := by rw [ByteArray.toList_eq]; rfl
theorem size_snoc (r : List ByteArray) (x : ByteArray) : (ofL (textL r ++ wordW x ++ [10])).size = (textL r ++ wordW x).length + 1 := by rw [size_ofL, List.length_append]; rfl
theorem all_bytes (t : ByteArray) (h : t.size ≤ 1099511627776) (w : World) : Calls Tryd.prog 13 #[.slice (some ⟨w.heap.size, 0, none⟩) t.size (grownCap w t.size 0 5)] (Lib.bytesWorld w 5 t) fun e w' => ∃ v, e = .returned v ∧ OwS w' w.heap.size v (allS (bytesOf t)) ∧ Below w.heap.size w w' := by
  have hb := bytes_below (Below.refl w.heap.size w) (Nat.le_refl _) 5 t
  have := all_any w.heap.size 0 (grownCap w t.size 0 5) (some ⟨w.heap.size, 0, none⟩) (bytesOf t) (Lib.bytesWorld w 5 t) (fun _ => ⟨rfl, bytes_RdU w t (by omega)⟩) (by rw [bytesOf_length]; exact h) (by rw [bytesOf_length]; exact grownCap_ge ..)
  rw [bytesOf_length] at this
  refine this.mono ?_
  rintro e w' ⟨v, he, ho, hb'⟩
  exact ⟨v, he, own_weaken ho hb.size, below_thn hb hb'⟩
/-- Where the outer loop stands. -/
def AllAt (w wr : World) (l : List ByteArray) (v5 v6 v7 : Value) : Prop :=
  ∃ i : Nat, i ≤ l.length ∧ v7 = .int .i64 i ∧ v5 = .string (ofL (textL (l.take i))) ∧ OwS wr w.heap.size v6 (wantL (l.take i)) ∧ Below w.heap.size w wr
set_option maxRecDepth 100000 in
set_option maxHeartbeats 2000000 in
theorem linesAll_any (A : Option Addr) (c : Nat) (l : List ByteArray) (last : Bool) (m : Int) (w : World) (hm : w.cell? ⟨0, 0, none⟩ = some (.int .i64 m)) (h : RdS w A l) : Calls Tryd.prog 6 #[.slice A l.length c, .bool last] w fun e w' => e = .returned (.bool true) ∧ Below w.heap.size w w' := by
  have HM := Lib.hid hm
  have HR := Lib.hid h
  have hll := h.1
  clear hm h
  by_cases hbig : 40 < l.length
  · have HA := Lib.hid (fun W h => awake_any m W h)
    go_enter Tryd.func6, Tryd.ntmps6
    go_wp2_with (fail)
    refine (HA.out _ HM.out).mono ?_
    rintro e w1 ⟨rfl, hb1⟩
    go_wp2
    go_ret
    exact ⟨rfl, hb1⟩
  have hl40 : l.length ≤ 40 := by omega
  have hl40i : (l.length : Int) ≤ 40 := by omega
  clear hbig hll
  go_enter Tryd.func6, Tryd.ntmps6
  go_wp2
  go_loopw [5, 6, 7] (fun v5 v6 v7 wr => AllAt w wr l v5 v6 v7) (fun _ _ i _ => l.length - (intOf i).toNat)
  case atStart => exact ⟨0, Nat.zero_le _, rfl, rfl, OwS.nil _ _, Below.refl _ _⟩
  case round =>
    obtain ⟨i, hi, rfl, rfl, ho, hb⟩ := hrel
    have HO := Lib.hid ho
    have HB := Lib.hid hb
    clear ho hb
    have hT := textL_len (l.take i)
    have hT2 : (l.take i).length ≤ 40 := by rw [List.length_take]; omega
    have HTS : Hid ((ofL (textL (l.take i))).size ≤ 2440) := by show _ ≤ _; rw [size_ofL]; omega
    by_cases hlt : i < l.length
    · clear hT hT2
      obtain ⟨ad, rfl, c1⟩ := (HR.out.below HB.out).2 i hlt
      have HW1 : Hid (textL (l.take (i + 1)) = textL (l.take i) ++ wordW (gs l i) ++ [10]) := by
        show _ = _
        rw [List.take_succ_eq_append_getElem hlt, textL_append, gs_get hlt]
      have HW2 : Hid (wantL (l.take (i + 1)) = wantL (l.take i) ++ [ofL (wordW (gs l i))]) := by
        show _ = _
        rw [List.take_succ_eq_append_getElem hlt, wantL, List.map_append, gs_get hlt]; rfl
      have hwl : Hid ((wantL (l.take i)).length ≤ 40) := by show _ ≤ _; rw [wantL, List.length_map, List.length_take]; omega
      obtain ⟨wo, rfl⟩ : ∃ wo : World, wo = wr := ⟨_, rfl⟩
      rw [wordW] at HW1 HW2
      have HKO : Hid (kOf (gs l i) = min (gs l i).size 60) := rfl
      obtain ⟨txt, htx⟩ : ∃ txt, txt = ofL (textL (l.take i)) := ⟨_, rfl⟩
      rw [← htx] at HTS ⊢
      have HTX := Lib.hid htx
      clear htx
      go_wp2
      go_loop [8, 9] (fun v8 v9 => ∃ k : Nat, Hid (k ≤ kOf (gs l i)) ∧ v9 = .int .i64 k ∧ v8 = .string (ofL (wordK (gs l i) k))) (fun _ v9 => 60 - (intOf v9).toNat)
      case atStart => exact ⟨0, Nat.zero_le _, rfl, by simp [wordK]; rfl⟩
      case round =>
        obtain ⟨k, hk, rfl, rfl⟩ := hrel
        have HWK := Lib.hid (wordK_len (gs l i) k)
        by_cases hkl : k < kOf (gs l i)
        · have hk1 : k < (gs l i).size := by have := HKO.out; omega
          have hk2 : k < 60 := by have := HKO.out; omega
          have hk3 : (k : Int) < 60 := by omega
          by_cases h10 : (gs l i)[k] = 10
          · have HS := Lib.hid (wordK_skip (gs l i) k hk1 h10)
            have hb10 : (((gs l i)[k].toNat : Int) != 10) = false := by rw [h10]; rfl
            generalize gs l i = s at *
            clear h10
            go_wp2
            go_round
            case rel => exact ⟨k + 1, hkl, by go_num, by rw [HS.out]⟩
            case measure => simp [intOf]; omega
          · have HS := Lib.hid (wordK_put (gs l i) k hk1 h10)
            have hb10 : (((gs l i)[k].toNat : Int) != 10) = true := by
              have : (gs l i)[k].toNat ≠ 10 := fun e => h10 (UInt8.toNat_inj.1 e)
              simpa using (by omega : ¬ ((gs l i)[k].toNat : Int) = 10)
            have HN := Lib.hid (ofL_snoc (wordK (gs l i) k) (gs l i) k hk1)
            have hsz : (ofL (wordK (gs l i) k)).size ≤ 60 := by rw [size_ofL]; have := HWK.out; omega
            generalize gs l i = s at *
            clear h10
            go_wp2
            go_round
            case rel => exact ⟨k + 1, hkl, by go_num, by rw [HS.out, ← HN.out]⟩
            case measure => simp [intOf]; omega
        · have hke : k = kOf (gs l i) := by have := hk.out; omega
          have hsz : (ofL (wordK (gs l i) k)).size ≤ 60 := by rw [size_ofL]; have := HWK.out; have := HKO.out; omega
          have hts := HTS.out
          have HT : Hid ((txt ++ ofL (wordK (gs l i) k)) ++ ⟨#[10]⟩ = ofL (textL (l.take (i + 1)))) := by
            show _ = _
            rw [HW1.out, ← hke, HTX.out, ofL_app]
            exact ofL_app _ [10]
          have HWA : Hid (wantL (l.take i) ++ [ofL (wordK (gs l i) k)] = wantL (l.take (i + 1))) := by
            show _ = _
            rw [HW2.out, ← hke]
          have hko := HKO.out
          obtain ⟨y, hy⟩ : ∃ y, y = ofL (wordK (gs l i) k) := ⟨_, rfl⟩
          rw [← hy] at hsz HT HWA ⊢
          clear hy
          clear HWK hkl hk HW1 HW2 HKO HTX
          by_cases hs60 : (gs l i).size ≤ 60
          case' pos => obtain rfl : k = (gs l i).size := by omega
          case' neg => obtain rfl : k = 60 := by omega
          all_goals
            clear hke hko
            generalize gs l i = s at *
            go_wp2_with ((at_builtin; refine OwS.append (w0 := w) (W := wo) w.heap.size rfl (.tmp 50) (.tmp 52) rfl _ (wantL (l.take i)) y rfl rfl HO.out HB.out HB.out.size (by have := hwl.out; omega) ?_; intro v1 w3 o1 b1 g1; have O1 := Lib.hid o1; have B1 := Lib.hid b1; clear o1 b1 g1))
            go_roundw
            case rel => exact ⟨i + 1, hlt, by go_num, by rw [HT.out], by rw [← HWA.out]; exact O1.out, B1.out⟩
            case measure => simp [intOf]; omega
    · have hie : i = l.length := by omega
      subst hie
      rw [List.take_length] at HO HTS ⊢
      clear hT hT2 hlt hi
      have hwl : (wantL l).length = l.length := by rw [wantL, List.length_map]
      obtain ⟨A6, c6, rfl, hr6⟩ := OwS.reads HO.out (by omega)
      have HR6 := Lib.hid hr6
      have hts := HTS.out
      have HT : Hid (∀ (t : ByteArray), linesL t.data.toList = l.map wordW → allS (bytesOf t) = wantL l) := by
        intro t ht
        rw [allS, bytesOf_back, ht, wantL, List.map_map]; rfl
      have HWL := Lib.hid hwl
      rw [hwl] at HO ⊢
      clear hr6 hwl
      have HTX : Hid (linesL (ofL (textL l)).data.toList = l.map wordW) := by show _ = _; rw [data_ofL, lines_text]
      -- behind the cut
      have HEnd : Hid (∀ t : ByteArray, t.size ≤ 2440 → linesL t.data.toList = l.map wordW → True) := fun _ _ _ => trivial
      rcases (show last = true ∨ (last = false ∧ l = []) ∨ (last = false ∧ ∃ r x, l = r ++ [x]) by
        cases last
        · rcases List.eq_nil_or_concat l with h | ⟨r, x, h⟩
          · exact .inr (.inl ⟨rfl, h⟩)
          · exact .inr (.inr ⟨rfl, r, x, by rw [h, List.concat_eq_append]⟩)
        · exact .inl rfl) with rfl | ⟨rfl, rfl⟩ | ⟨rfl, r, x, hrx⟩
      case' inr.inr =>
        have hlen : l.length = r.length + 1 := by rw [hrx]; simp
        obtain ⟨ad6, rfl, c6⟩ := HR6.out.2 r.length (by rw [HWL.out]; omega)
        rw [show gs (wantL l) r.length = ofL (wordW x) by rw [hrx, wantL, List.map_append, gs, List.getD_eq_getElem?_getD, List.getElem?_append_right (by simp)]; simp] at c6
        have hx1 : Hid (ofL (textL l) = ofL (textL r ++ wordW x ++ [10])) := by show _ = _; rw [hrx, textL_append]
        have hx2 : Hid ((ofL (textL l)).size = (textL r ++ wordW x).length + 1) := by show _ = _; rw [hx1.out, size_snoc]
        have hx3 : Hid (wordW x ≠ [] → linesL (textL r ++ wordW x) = l.map wordW) := fun h => by rw [hrx]; exact lines_text_cut r x h
        have hx4 := Lib.hid (ofL_cut (textL r ++ wordW x))
        generalize r.length = n at *
        clear HEnd HR6 hrx
        rw [hlen] at HO HWL hl40 hl40i ⊢
        clear hlen
        by_cases hxe : wordW x = []
        · have g1 : (ofL (wordW x)).toList.isEmpty = true := by rw [hxe]; exact ofL_e1
          have g2 : (ofL (wordW x)).toList = [] := by rw [hxe]; exact ofL_e2
          have HTt := Lib.hid (HT.out _ HTX.out)
          have htz := HTS
          generalize ofL (wordW x) = lw at *
          clear hx1 hx2 hx3 hx4 hxe HTX HT HTS
          generalize ofL (textL l) = txt at *
          generalize wantL l = want at *
          go_wp2_with (fail)
          refine (awake_any m _ (cell_below HB.out HM.out)).mono ?_
          rintro e w1 ⟨rfl, hb1⟩
          have kb := fun W t => print_bytes (P := Tryd.prog) 9 34 5 und_str und_bytes und_u8 t W
          have HO1 := Lib.hid (HO.out.below hb1)
          have HB1 := Lib.hid (below_thn HB.out hb1)
          clear hb1
          go_wp2_with (fail)
          refine (all_bytes _ (by first | exact htz.out | (have := hts; omega)) _).mono ?_
          rintro e w2 ⟨v, rfl, ho2, hb2⟩
          rw [HTt.out] at ho2
          obtain ⟨A2, c2, rfl, hr2⟩ := OwS.reads ho2 (by rw [HWL.out]; omega)
          obtain ⟨A3, c3, e3, hr3⟩ := OwS.reads (HO1.out.below hb2) (by rw [HWL.out]; omega)
          injection e3 with e31 e32 e33
          subst e31 e33
          have HP := Lib.hid (fun c d => plainS_any A2 _ c d want want w2 hr2 hr3)
          have HB2 := Lib.hid (below_thn HB1.out hb2)
          rw [HWL.out] at HP ⊢
          clear hb2 ho2 hr2 hr3 kb HO1 HB1 e32
          go_wp2_with (fail)
          refine (HP.out _ _).mono ?_
          rintro e w3 ⟨rfl, hb3⟩
          simp only [decide_true]
          have HB3 := Lib.hid (below_thn HB2.out hb3)
          clear hb3 HP HB2
          go_wp2
          go_ret
          exact ⟨rfl, HB3.out⟩
        · have g1 : (ofL (wordW x)).toList.isEmpty = false := by
            rw [ByteArray.toList_eq, data_ofL]
            cases h : wordW x with
            | nil => exact absurd h hxe
            | cons _ _ => rfl
          have HTt := Lib.hid (HT.out (ofL (textL r ++ wordW x)) (by rw [data_ofL]; exact hx3.out hxe))
          have htz : Hid ((ofL (textL r ++ wordW x)).size ≤ 1099511627776) := by show _ ≤ _; rw [size_ofL]; have := hx2.out; omega
          rw [← hx1.out] at hx4
          have ht2 := Lib.hid (size_ofL (textL r ++ wordW x))
          have hx2' := hx2.out
          rw [hx2'] at hts
          generalize ofL (wordW x) = lw at *
          clear hx1 hx3 hxe HTX HT HTS hx2
          generalize ofL (textL l) = txt at *
          generalize wantL l = want at *
          generalize ofL (textL r ++ wordW x) = t2 at *
          generalize (textL r ++ wordW x).length = q at *
          go_wp2_with (fail)
          refine (awake_any m _ (cell_below HB.out HM.out)).mono ?_
          rintro e w1 ⟨rfl, hb1⟩
          have kb := fun W t => print_bytes (P := Tryd.prog) 9 34 5 und_str und_bytes und_u8 t W
          have HO1 := Lib.hid (HO.out.below hb1)
          have HB1 := Lib.hid (below_thn HB.out hb1)
          clear hb1
          go_wp2_with (fail)
          rw [hx4.out]
          have ha := all_bytes t2 htz.out w1
          rw [ht2.out] at ha
          refine ha.mono ?_
          rintro e w2 ⟨v, rfl, ho2, hb2⟩
          rw [HTt.out] at ho2
          obtain ⟨A2, c2, rfl, hr2⟩ := OwS.reads ho2 (by rw [HWL.out]; omega)
          obtain ⟨A3, c3, e3, hr3⟩ := OwS.reads (HO1.out.below hb2) (by rw [HWL.out]; omega)
          injection e3 with e31 e32 e33
          subst e31 e33
          have HP := Lib.hid (fun c d => plainS_any A2 _ c d want want w2 hr2 hr3)
          have HB2 := Lib.hid (below_thn HB1.out hb2)
          rw [HWL.out] at HP ⊢
          clear hb2 ho2 hr2 hr3 kb HO1 HB1 e32
          go_wp2_with (fail)
          refine (HP.out _ _).mono ?_
          rintro e w3 ⟨rfl, hb3⟩
          simp only [decide_true]
          have HB3 := Lib.hid (below_thn HB2.out hb3)
          clear hb3 HP HB2
          go_wp2
          go_ret
          exact ⟨rfl, HB3.out⟩
      case' inr.inl =>
        rw [show ([] : List ByteArray).length = 0 from rfl] at HO hl40 hl40i ⊢
        replace HWL : Hid ((wantL []).length = 0) := rfl
      all_goals
        have HTt := Lib.hid (HT.out _ HTX.out)
        have htz := HTS
        clear HTX HT HTS HR6 HEnd
        generalize wantL _ = want at *
        generalize ofL (textL _) = txt at *
        go_wp2_with (fail)
        refine (awake_any m _ (cell_below HB.out HM.out)).mono ?_
        rintro e w1 ⟨rfl, hb1⟩
        have kb := fun W t => print_bytes (P := Tryd.prog) 9 34 5 und_str und_bytes und_u8 t W
        have HO1 := Lib.hid (HO.out.below hb1)
        have HB1 := Lib.hid (below_thn HB.out hb1)
        clear hb1
        go_wp2_with (fail)
        refine (all_bytes _ (by first | exact htz.out | (have := hts; omega)) _).mono ?_
        rintro e w2 ⟨v, rfl, ho2, hb2⟩
        rw [HTt.out] at ho2
        obtain ⟨A2, c2, rfl, hr2⟩ := OwS.reads ho2 (by rw [HWL.out]; omega)
        obtain ⟨A3, c3, e3, hr3⟩ := OwS.reads (HO1.out.below hb2) (by rw [HWL.out]; omega)
        injection e3 with e31 e32 e33
        subst e31 e33
        have HP := Lib.hid (fun c d => plainS_any A2 _ c d want want w2 hr2 hr3)
        have HB2 := Lib.hid (below_thn HB1.out hb2)
        rw [HWL.out] at HP ⊢
        clear hb2 ho2 hr2 hr3 kb HO1 HB1 e32
        go_wp2_with (fail)
        refine (HP.out _ _).mono ?_
        rintro e w3 ⟨rfl, hb3⟩
        simp only [decide_true]
        have HB3 := Lib.hid (below_thn HB2.out hb3)
        clear hb3 HP HB2
        go_wp2
        go_ret
        exact ⟨rfl, HB3.out⟩
end Go.Proofs.YtplghlokjgjjbaaDoor
