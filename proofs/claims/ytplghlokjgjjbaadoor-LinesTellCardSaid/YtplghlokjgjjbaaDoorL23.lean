/- The reference's Print, where it prints. -/
import Derived.Test.YtplghlokjgjjbaaDoorL22
namespace Go.Proofs.YtplghlokjgjjbaaDoor
open Go.RowKit Go.Proofs.YtplghlokjgjjbaaDoorW.PrintWords

theorem digits_z (z : Int) (h : mayB z = true) (w : World) : Calls Tryd.prog 11 #[.int .i64 z] w fun e w' => e = .returned (.string (ofL (dig z.toNat))) ∧ Below w.heap.size w w' := by
  obtain ⟨h0, h1⟩ := may_iff.1 h
  have := digits_h 11 z.toNat (by have : (10 : Nat) ^ 12 = 1000000000000 := by decide
                                  omega) (by omega) w
  rwa [Int.toNat_of_nonneg h0] at this
/-- Where the second loop stands. -/
def RpAt (w wr : World) (wd : ByteArray) (pre l : List Int) (v4 v7 : Value) : Prop :=
  ∃ j : Nat, v7 = .int .i64 j ∧ j ≤ l.length ∧ v4 = .string (joinW wd (wordsD (pre ++ l.take j))) ∧ (joinW wd (wordsD (pre ++ l.take j))).size ≤ 65536 ∧ Below w.heap.size w wr
theorem size_pre {wd : ByteArray} {pre : List Int} (h8 : wd.size ≤ 8) (hp : pre.length ≤ 2) (hm : ∀ z ∈ pre, mayB z = true) : (joinW wd (wordsD pre)).size ≤ 100 := by
  rw [joinW_size, words_sum]
  have h1 : ∀ z ∈ pre, lenD z ≤ 10 := by
    intro z hz
    have h2 := may_iff.1 (hm z hz)
    have h3 : (10 : Nat) ^ 10 = 10000000000 := by decide
    exact dig_le 9 z.toNat (by omega)
  match pre, hp with
  | [], _ => simp [sumD]; omega
  | [a], _ => have := h1 a (by simp); simp [sumD]; omega
  | [a, b], _ => have := h1 a (by simp); have := h1 b (by simp); simp [sumD]; omega
theorem pre_next {wd : ByteArray} {pre l : List Int} {j : Nat} (h : j < l.length) : joinW wd (wordsD (pre ++ l.take j)) ++ ⟨#[32]⟩ ++ ofL (dig (gi l j).toNat) = joinW wd (wordsD (pre ++ l.take (j + 1))) := by
  rw [joinW_app, take_gi h, ← List.append_assoc]
  congr 1
  simp [wordsD]
theorem pre_le (wd : ByteArray) (pre l : List Int) (j : Nat) : (joinW wd (wordsD (pre ++ l.take j))).size ≤ (joinW wd (wordsD (pre ++ l))).size := by
  have h := joinW_le wd (pre ++ l) (pre.length + j)
  rwa [List.take_append, List.take_of_length_le (by omega), Nat.add_sub_cancel_left] at h

set_option maxRecDepth 100000 in
set_option maxHeartbeats 4000000 in
theorem refPrint_good (k x y : Int) (A : Option Addr) (c : Nat) (l : List Int) (w : World) (hl : RdI w A l) (hb : ¬ badK k x) (hg : GoodC (wordsOf k).2 x y l.length) :
    Calls Tryd.prog 19 #[.agg #[.int .i64 k, .int .i64 x, .int .i64 y, .slice A l.length c]] w (PrintPost w (printS k x y l)) := by
  have HL := Lib.hid hl
  clear hl
  have hps := printS_good hb hg
  obtain ⟨hw, hne, h8⟩ := wordsOf_good hb
  have hn4 : (wordsOf k).2 = -1 ∨ (wordsOf k).2 = 0 ∨ (wordsOf k).2 = 1 ∨ (wordsOf k).2 = 2 := by
    have := form_n k.toNat (by unfold badK at hb; omega)
    rw [hw]; omega
  have hk6 : ((k == 6) = false) ∨ ((k == 6) = true ∧ (wordsOf k).2 = 1 ∧ (x != 1) = false) ∨ ((k == 6) = true ∧ (wordsOf k).2 = 1 ∧ (x != 1) = true ∧ (x != 2) = false) := by
    by_cases h : k = 6
    · subst h
      have h1 : (wordsOf 6).2 = 1 := by decide
      by_cases h2 : x = 1
      · exact .inr (.inl ⟨rfl, h1, by simpa using h2⟩)
      · exact .inr (.inr ⟨rfl, h1, by simpa using h2, by
          have : x = 2 := Decidable.byContradiction fun e => hb (.inr (.inr ⟨rfl, h2, e⟩))
          simpa using this⟩)
    · exact .inl (by simpa using h)
  obtain ⟨wd, hwd⟩ : ∃ wd, wd = (wordsOf k).1 := ⟨_, rfl⟩
  obtain ⟨n, hn⟩ : ∃ n, n = (wordsOf k).2 := ⟨_, rfl⟩
  have HW := Lib.hid (show ∀ w : World, Calls Tryd.prog 36 #[.int .i64 k] w fun e w' => e = .returned (.tuple #[.string wd, .int .i64 n]) ∧ w = w' from fun w => by rw [hwd, hn]; exact refWords_any k w)
  rw [← hwd, ← hn] at hps
  rw [← hwd] at hne h8
  rw [← hn] at hn4 hk6 hg
  obtain ⟨g1, g2, g3, g4, g5⟩ := hg
  have HM := Lib.hid (fun z w => refMay_any z w)
  obtain ⟨r, hr⟩ : ∃ r, r = printS k x y l := ⟨_, rfl⟩
  rw [← hr]
  rw [← hr] at hps
  have HR := Lib.hid hps
  have HX := Lib.hid g1
  have HY := Lib.hid g2
  have H8 := Lib.hid h8
  clear hw hwd hn hps hr hb h8
  have hcases : (n = -1 ∧ (y != 0) = false ∧ (x != 0) = false ∧ (k == 6) = false) ∨ (0 ≤ n ∧ l = [] ∧ ((n = 0 ∧ (y != 0) = false ∧ (x != 0) = false ∧ (k == 6) = false) ∨ (n = 1 ∧ (y != 0) = false ∧ (k == 6) = false) ∨
      (n = 1 ∧ (y != 0) = false ∧ (k == 6) = true ∧ (x != 1) = false) ∨ (n = 1 ∧ (y != 0) = false ∧ (k == 6) = true ∧ (x != 1) = true ∧ (x != 2) = false) ∨ (n = 2 ∧ (k == 6) = false))) := by
    have y0 : n < 2 → (y != 0) = false := fun h => by simpa using g3 h
    have x0 : n < 1 → (x != 0) = false := fun h => by simpa using g4 h
    rcases hn4 with h | h | h | h
    · rcases hk6 with h6 | ⟨_, h7, _⟩ | ⟨_, h7, _⟩
      · exact .inl ⟨h, y0 (by omega), x0 (by omega), h6⟩
      · omega
      · omega
    · rcases hk6 with h6 | ⟨_, h7, _⟩ | ⟨_, h7, _⟩
      · exact .inr ⟨by omega, List.eq_nil_of_length_eq_zero (g5 (by omega)), .inl ⟨h, y0 (by omega), x0 (by omega), h6⟩⟩
      · omega
      · omega
    · refine .inr ⟨by omega, List.eq_nil_of_length_eq_zero (g5 (by omega)), .inr ?_⟩
      rcases hk6 with h6 | ⟨h6, _, h7⟩ | ⟨h6, _, h7, h8⟩
      · exact .inl ⟨h, y0 (by omega), h6⟩
      · exact .inr (.inl ⟨h, y0 (by omega), h6, h7⟩)
      · exact .inr (.inr (.inl ⟨h, y0 (by omega), h6, h7, h8⟩))
    · rcases hk6 with h6 | ⟨_, h7, _⟩ | ⟨_, h7, _⟩
      · exact .inr ⟨by omega, List.eq_nil_of_length_eq_zero (g5 (by omega)), .inr (.inr (.inr (.inr ⟨h, h6⟩)))⟩
      · omega
      · omega
  clear hn4 hk6 g3 g4 g5
  rcases hcases with ⟨rfl, e1, e2, e3⟩ | ⟨hn0, rfl, hc⟩
  · -- any numbers
    have HXS : Hid (r = printN wd ([] ++ l)) := HR.out
    have HL8 : Hid ((joinW wd (wordsD ([] ++ l.take 0))).size ≤ 65536) := by show _ ≤ _; rw [List.take_zero]; exact Nat.le_trans (size_pre H8.out (by simp) (by simp)) (by decide)
    go_enter Tryd.func19, Tryd.ntmps19
    go_upto_region 1 with (fail)
    refine wp_box1 ?_
    intro W hb hsz hblk
    have f0 := blk_cell hblk 0 rfl
    have f1 := blk_cell hblk 1 rfl
    have f2 := blk_cell hblk 2 rfl
    have f3 := blk_cell hblk 3 rfl
    have HF3 := Lib.hid f3
    have HRd := Lib.hid (HL.out.below hb)
    have HB := Lib.hid hb
    have hll := HL.out.1
    clear hb hsz hblk HL HR
    go_wp2_with (first
      | (go_at_call 36; refine (HW.out _).mono ?_; rintro e w' ⟨rfl, rfl⟩)
      | (go_at_call 38; refine (HM.out _ _).mono ?_; rintro e w' ⟨rfl, rfl⟩))
    go_loop [6] (fun v6 => ∃ j : Nat, j ≤ l.length ∧ v6 = .int .i64 j ∧ Hid (∀ i, i < j → mayB (gi l i) = true)) (fun v6 => l.length - (intOf v6).toNat)
    case atStart => exact ⟨0, Nat.zero_le _, rfl, (by intro i hi; omega)⟩
    case round =>
      obtain ⟨j, hj, rfl, HJ⟩ := hrel
      by_cases hlt : j < l.length
      · obtain ⟨ad, rfl, c1⟩ := HRd.out.2 j hlt
        rcases hmz : mayB (gi l j) with _ | _
        · have HX0 : Hid (r = none) := by
            show _ = _
            rw [HXS.out, List.nil_append]
            cases hp : printN wd l with
            | none => rfl
            | some t =>
              have := ((printN_iff H8.out).1 hp).2.1 (gi l j) (by rw [gi_get hlt]; exact List.getElem_mem _)
              have h2 := may_iff.2 this
              rw [hmz] at h2; cases h2
          go_wp2_with (go_at_call 38; refine (HM.out _ _).mono ?_; rintro e w' ⟨rfl, rfl⟩)
          go_ret2
          rw [HX0.out]
          exact printPost_none HB.out
        · have HJ2 : Hid (∀ i, i < j + 1 → mayB (gi l i) = true) := by
            intro i hi
            by_cases e : i = j
            · rw [e]; exact hmz
            · exact HJ.out i (by omega)
          go_wp2_with (go_at_call 38; refine (HM.out _ _).mono ?_; rintro e w' ⟨rfl, rfl⟩)
          go_round
          case rel => exact ⟨j + 1, hlt, by go_num, HJ2⟩
          case measure => simp [intOf]; omega
      · obtain rfl : j = l.length := by omega
        clear hlt hj
        have HAll : Hid (∀ z ∈ l, mayB z = true) := by
          intro z hz
          obtain ⟨i, hi, e⟩ := List.getElem_of_mem hz
          have := HJ.out i hi
          rwa [gi_get hi, e] at this
        go_wp2
        have HPM : Hid (∀ z ∈ [] ++ l, mayB z = true) := HAll.out
        go_loopw [4, 7] (fun v4 v7 wr => RpAt W wr wd [] l v4 v7) (fun _ v7 _ => l.length - (intOf v7).toNat)
        case atStart => exact ⟨0, rfl, Nat.zero_le _, by rw [List.take_zero]; exact congrArg Value.string (joinW_nil wd).symm, HL8.out, Below.refl _ _⟩
        case round =>
          obtain ⟨j, rfl, hj, rfl, hsz, hbr⟩ := hrel
          have HBr := Lib.hid hbr
          have HSz := Lib.hid hsz
          have f3 := cell_below hbr HF3.out
          clear hbr
          by_cases hlt : j < l.length
          · obtain ⟨ad, rfl, c1⟩ := (HRd.out.below HBr.out).2 j hlt
            have hmz := HAll.out (gi l j) (by rw [gi_get hlt]; exact List.getElem_mem _)
            have HDz := Lib.hid (digits_z (gi l j) hmz wr)
            have HN := Lib.hid (pre_next (wd := wd) (pre := []) hlt)
            have HPL := Lib.hid (pre_le wd [] l (j + 1))
            have hds : (ofL (dig (gi l j).toNat)).size ≤ 10 := by
              rw [size_ofL]
              have := may_iff.1 hmz
              have h3 : (10 : Nat) ^ 10 = 10000000000 := by decide
              exact dig_le 9 _ (by omega)
            clear hmz
            generalize ofL (dig (gi l j).toNat) = d at *
            generalize gi l j = z at *
            obtain ⟨t, ht⟩ : ∃ t, t = joinW wd (wordsD ([] ++ l.take j)) := ⟨_, rfl⟩
            obtain ⟨t2, ht2⟩ : ∃ t2, t2 = joinW wd (wordsD ([] ++ l.take (j + 1))) := ⟨_, rfl⟩
            rw [← ht, ← ht2] at HN
            rw [← ht2] at HPL
            rw [← ht] at hsz ⊢
            have HT2 := Lib.hid ht2
            clear ht ht2 HSz
            go_wp2_with (fail)
            refine HDz.out.mono ?_
            rintro e w3 ⟨rfl, hb3⟩
            have HB3 := Lib.hid (below_thn HBr.out hb3)
            clear hb3 HDz
            have hs1 : (t ++ (⟨#[32]⟩ : ByteArray)).size = t.size + 1 := by rw [ByteArray.size_append]; rfl
            have hs2 : (t ++ (⟨#[32]⟩ : ByteArray) ++ d).size = t2.size := by rw [HN.out]
            have hs3 : t2.size = t.size + 1 + d.size := by rw [← hs2, ByteArray.size_append, hs1]
            by_cases hbig : 65536 < t2.size
            · have HX0 : Hid (r = none) := by
                show _ = _
                rw [HXS.out]
                cases hp : printN wd ([] ++ l) with
                | none => rfl
                | some u =>
                  have h1 := (printN_iff H8.out).1 hp
                  have := HPL.out
                  rw [← h1.1] at this
                  omega
              have hbi : 65536 < t.size + 1 + d.size := by omega
              go_wp2
              go_ret2
              rw [HX0.out]
              exact printPost_none (below_thn HB.out HB3.out)
            · go_wp2
              go_roundw
              case rel => exact ⟨j + 1, by go_num, hlt, congrArg Value.string (HN.out.trans HT2.out), by rw [← HT2.out]; omega, HB3.out⟩
              case measure => simp [intOf]; omega
          · obtain rfl : j = l.length := by omega
            have hX := HSz.out
            have HX1 : Hid (r = some (joinW wd (wordsD ([] ++ l.take l.length)))) := by
              show _ = _
              rw [HXS.out]
              rw [List.take_length] at hX ⊢
              exact (printN_iff H8.out).2 ⟨rfl, fun z hz => may_iff.1 (HPM.out z hz), hX⟩
            clear hX hsz HSz
            go_wp2
            go_ret2
            rw [HX1.out]
            exact ⟨rfl, below_thn HB.out HBr.out⟩
  · -- numbers of its own
    obtain ⟨pre, hpre⟩ : ∃ pre, pre = argsC n x y [] := ⟨_, rfl⟩
    have HPre := Lib.hid hpre
    have HXS : Hid (r = printN wd (pre ++ [])) := by show _ = _; rw [List.append_nil, hpre]; exact HR.out
    have hpm : ∀ z ∈ pre, mayB z = true := by
      rw [hpre, argsC, if_neg (by omega)]
      intro z hz
      have := List.mem_of_mem_take hz
      simp at this
      rcases this with rfl | rfl
      · exact HX.out
      · exact HY.out
    have HPM : Hid (∀ z ∈ pre ++ [], mayB z = true) := by rw [List.append_nil]; exact hpm
    have hpl : pre.length ≤ 2 := by rw [hpre, argsC, if_neg (by omega), List.length_take]; simp; omega
    have HL8 : Hid ((joinW wd (wordsD (pre ++ ([] : List Int).take 0))).size ≤ 65536) := by show _ ≤ _; rw [List.take_zero, List.append_nil]; exact Nat.le_trans (size_pre H8.out hpl hpm) (by decide)
    have HDx := Lib.hid (digits_z x HX.out)
    have HDy := Lib.hid (digits_z y HY.out)
    have hdx : (ofL (dig x.toNat)).size ≤ 10 := by
      rw [size_ofL]
      have := may_iff.1 HX.out
      have h3 : (10 : Nat) ^ 10 = 10000000000 := by decide
      exact dig_le 9 _ (by omega)
    have hdy : (ofL (dig y.toNat)).size ≤ 10 := by
      rw [size_ofL]
      have := may_iff.1 HY.out
      have h3 : (10 : Nat) ^ 10 = 10000000000 := by decide
      exact dig_le 9 _ (by omega)
    have h8 := H8.out
    have HS0 : Hid (n = 0 → joinW wd (wordsD pre) = wd) := by rintro rfl; rw [HPre.out]; exact joinW_nil wd
    have HS1 : Hid (n = 1 → joinW wd (wordsD pre) = wd ++ ⟨#[32]⟩ ++ ofL (dig x.toNat)) := by
      rintro rfl
      rw [HPre.out]
      have := joinW_app wd [] (ofL (dig x.toNat))
      rw [joinW_nil] at this
      exact this.symm
    have HS2 : Hid (n = 2 → joinW wd (wordsD pre) = wd ++ ⟨#[32]⟩ ++ ofL (dig x.toNat) ++ ⟨#[32]⟩ ++ ofL (dig y.toNat)) := by
      rintro rfl
      rw [HPre.out]
      have h1 := joinW_app wd [] (ofL (dig x.toNat))
      rw [joinW_nil] at h1
      rw [h1, joinW_app]; rfl
    clear hpre hpm hpl HR HL
    generalize ofL (dig x.toNat) = dx at *
    generalize ofL (dig y.toNat) = dy at *
    have hc3 : (n = 0 ∧ (y != 0) = false ∧ (x != 0) = false ∧ (k == 6) = false) ∨ (n = 1 ∧ (y != 0) = false ∧ ((k == 6) = false ∨ ((k == 6) = true ∧ (x != 1) = false) ∨ ((k == 6) = true ∧ (x != 1) = true ∧ (x != 2) = false))) ∨ (n = 2 ∧ (k == 6) = false) := by
      rcases hc with h | ⟨h1, h2, h3⟩ | ⟨h1, h2, h3, h4⟩ | ⟨h1, h2, h3, h4, h5⟩ | h
      · exact .inl h
      · exact .inr (.inl ⟨h1, h2, .inl h3⟩)
      · exact .inr (.inl ⟨h1, h2, .inr (.inl ⟨h3, h4⟩)⟩)
      · exact .inr (.inl ⟨h1, h2, .inr (.inr ⟨h3, h4, h5⟩)⟩)
      · exact .inr (.inr h)
    clear hc
    rcases hc3 with ⟨rfl, e1, e2, e3⟩ | ⟨rfl, e1, e3 | ⟨e3, e4⟩ | ⟨e3, e4, e5⟩⟩ | ⟨rfl, e3⟩
    · have HTT := Lib.hid (HS0.out rfl)
      clear HS0 HS1 HS2
      go_enter Tryd.func19, Tryd.ntmps19
      go_upto_region 1 with (fail)
      refine wp_box1 ?_
      intro W hb hsz hblk
      have f0 := blk_cell hblk 0 rfl
      have f1 := blk_cell hblk 1 rfl
      have f2 := blk_cell hblk 2 rfl
      have f3 := blk_cell hblk 3 rfl
      have HF1 := Lib.hid f1
      have HF2 := Lib.hid f2
      have HF3 := Lib.hid f3
      have HB := Lib.hid hb
      clear hb hsz hblk
      go_wp2_with (first
        | (go_at_call 36; refine (HW.out _).mono ?_; rintro e w' ⟨rfl, rfl⟩)
        | (go_at_call 38; refine (HM.out _ _).mono ?_; rintro e w' ⟨rfl, rfl⟩))
      go_loop [6] (fun v6 => v6 = .int .i64 0) (fun _ => 0)
      case atStart => rfl
      case round =>
        subst hrel
        have hs1 : (wd ++ (⟨#[32]⟩ : ByteArray)).size = wd.size + 1 := by rw [ByteArray.size_append]; rfl
        clear f0 f1 f2
        clear f3
        have f3 := HF3.out
        have HBx := Lib.hid (Below.refl W.heap.size W)
        clear f3
        have f3 := cell_below HBx.out HF3.out
        clear HF1 HF2 HDx HDy
        go_wp2
        go_loopw [4, 7] (fun v4 v7 wr => v7 = .int .i64 0 ∧ v4 = .string wd ∧ Hid (Below W.heap.size W wr)) (fun _ _ _ => 0)
        case atStart => exact ⟨rfl, rfl, HBx.out⟩
        case round =>
          obtain ⟨rfl, rfl, HBr⟩ := hrel
          clear f3
          have f3 := cell_below HBr.out HF3.out
          have HX1 : Hid (r = some wd) := by
            show _ = _
            have h0 := HTT.out
            have h1 := HL8.out
            rw [List.take_nil, List.append_nil] at h1
            have h2 := (printN_iff (xs := pre) H8.out).2 ⟨rfl, fun z hz => may_iff.1 (HPM.out z (by rw [List.append_nil]; exact hz)), h1⟩
            rw [h0] at h2
            rw [HXS.out, List.append_nil]
            exact h2
          go_wp2
          go_ret2
          rw [HX1.out]
          exact ⟨rfl, below_thn HB.out HBr.out⟩
    · have HTT := Lib.hid (HS1.out rfl)
      clear HS0 HS1 HS2
      go_enter Tryd.func19, Tryd.ntmps19
      go_upto_region 1 with (fail)
      refine wp_box1 ?_
      intro W hb hsz hblk
      have f0 := blk_cell hblk 0 rfl
      have f1 := blk_cell hblk 1 rfl
      have f2 := blk_cell hblk 2 rfl
      have f3 := blk_cell hblk 3 rfl
      have HF1 := Lib.hid f1
      have HF2 := Lib.hid f2
      have HF3 := Lib.hid f3
      have HB := Lib.hid hb
      clear hb hsz hblk
      go_wp2_with (first
        | (go_at_call 36; refine (HW.out _).mono ?_; rintro e w' ⟨rfl, rfl⟩)
        | (go_at_call 38; refine (HM.out _ _).mono ?_; rintro e w' ⟨rfl, rfl⟩))
      go_loop [6] (fun v6 => v6 = .int .i64 0) (fun _ => 0)
      case atStart => rfl
      case round =>
        subst hrel
        have hs1 : (wd ++ (⟨#[32]⟩ : ByteArray)).size = wd.size + 1 := by rw [ByteArray.size_append]; rfl
        clear f0 f1 f2
        clear f3
        have f3 := HF3.out
        have f1 := HF1.out
        go_wp2_with (fail)
        refine (HDx.out _).mono ?_
        rintro e w1 ⟨rfl, hb1⟩
        have HBx := Lib.hid hb1
        clear hb1 f1
        clear f3
        have f3 := cell_below HBx.out HF3.out
        clear HF1 HF2 HDx HDy
        go_wp2
        go_loopw [4, 7] (fun v4 v7 wr => v7 = .int .i64 0 ∧ v4 = .string (wd ++ ⟨#[32]⟩ ++ dx) ∧ Hid (Below W.heap.size W wr)) (fun _ _ _ => 0)
        case atStart => exact ⟨rfl, rfl, HBx.out⟩
        case round =>
          obtain ⟨rfl, rfl, HBr⟩ := hrel
          clear f3
          have f3 := cell_below HBr.out HF3.out
          have HX1 : Hid (r = some (wd ++ ⟨#[32]⟩ ++ dx)) := by
            show _ = _
            have h0 := HTT.out
            have h1 := HL8.out
            rw [List.take_nil, List.append_nil] at h1
            have h2 := (printN_iff (xs := pre) H8.out).2 ⟨rfl, fun z hz => may_iff.1 (HPM.out z (by rw [List.append_nil]; exact hz)), h1⟩
            rw [h0] at h2
            rw [HXS.out, List.append_nil]
            exact h2
          go_wp2
          go_ret2
          rw [HX1.out]
          exact ⟨rfl, below_thn HB.out HBr.out⟩
    · have HTT := Lib.hid (HS1.out rfl)
      clear HS0 HS1 HS2
      go_enter Tryd.func19, Tryd.ntmps19
      go_upto_region 1 with (fail)
      refine wp_box1 ?_
      intro W hb hsz hblk
      have f0 := blk_cell hblk 0 rfl
      have f1 := blk_cell hblk 1 rfl
      have f2 := blk_cell hblk 2 rfl
      have f3 := blk_cell hblk 3 rfl
      have HF1 := Lib.hid f1
      have HF2 := Lib.hid f2
      have HF3 := Lib.hid f3
      have HB := Lib.hid hb
      clear hb hsz hblk
      go_wp2_with (first
        | (go_at_call 36; refine (HW.out _).mono ?_; rintro e w' ⟨rfl, rfl⟩)
        | (go_at_call 38; refine (HM.out _ _).mono ?_; rintro e w' ⟨rfl, rfl⟩))
      go_loop [6] (fun v6 => v6 = .int .i64 0) (fun _ => 0)
      case atStart => rfl
      case round =>
        subst hrel
        have hs1 : (wd ++ (⟨#[32]⟩ : ByteArray)).size = wd.size + 1 := by rw [ByteArray.size_append]; rfl
        clear f0 f1 f2
        clear f3
        have f3 := HF3.out
        have f1 := HF1.out
        go_wp2_with (fail)
        refine (HDx.out _).mono ?_
        rintro e w1 ⟨rfl, hb1⟩
        have HBx := Lib.hid hb1
        clear hb1 f1
        clear f3
        have f3 := cell_below HBx.out HF3.out
        clear HF1 HF2 HDx HDy
        go_wp2
        go_loopw [4, 7] (fun v4 v7 wr => v7 = .int .i64 0 ∧ v4 = .string (wd ++ ⟨#[32]⟩ ++ dx) ∧ Hid (Below W.heap.size W wr)) (fun _ _ _ => 0)
        case atStart => exact ⟨rfl, rfl, HBx.out⟩
        case round =>
          obtain ⟨rfl, rfl, HBr⟩ := hrel
          clear f3
          have f3 := cell_below HBr.out HF3.out
          have HX1 : Hid (r = some (wd ++ ⟨#[32]⟩ ++ dx)) := by
            show _ = _
            have h0 := HTT.out
            have h1 := HL8.out
            rw [List.take_nil, List.append_nil] at h1
            have h2 := (printN_iff (xs := pre) H8.out).2 ⟨rfl, fun z hz => may_iff.1 (HPM.out z (by rw [List.append_nil]; exact hz)), h1⟩
            rw [h0] at h2
            rw [HXS.out, List.append_nil]
            exact h2
          go_wp2
          go_ret2
          rw [HX1.out]
          exact ⟨rfl, below_thn HB.out HBr.out⟩
    · have HTT := Lib.hid (HS1.out rfl)
      clear HS0 HS1 HS2
      go_enter Tryd.func19, Tryd.ntmps19
      go_upto_region 1 with (fail)
      refine wp_box1 ?_
      intro W hb hsz hblk
      have f0 := blk_cell hblk 0 rfl
      have f1 := blk_cell hblk 1 rfl
      have f2 := blk_cell hblk 2 rfl
      have f3 := blk_cell hblk 3 rfl
      have HF1 := Lib.hid f1
      have HF2 := Lib.hid f2
      have HF3 := Lib.hid f3
      have HB := Lib.hid hb
      clear hb hsz hblk
      go_wp2_with (first
        | (go_at_call 36; refine (HW.out _).mono ?_; rintro e w' ⟨rfl, rfl⟩)
        | (go_at_call 38; refine (HM.out _ _).mono ?_; rintro e w' ⟨rfl, rfl⟩))
      go_loop [6] (fun v6 => v6 = .int .i64 0) (fun _ => 0)
      case atStart => rfl
      case round =>
        subst hrel
        have hs1 : (wd ++ (⟨#[32]⟩ : ByteArray)).size = wd.size + 1 := by rw [ByteArray.size_append]; rfl
        clear f0 f1 f2
        clear f3
        have f3 := HF3.out
        have f1 := HF1.out
        go_wp2_with (fail)
        refine (HDx.out _).mono ?_
        rintro e w1 ⟨rfl, hb1⟩
        have HBx := Lib.hid hb1
        clear hb1 f1
        clear f3
        have f3 := cell_below HBx.out HF3.out
        clear HF1 HF2 HDx HDy
        go_wp2
        go_loopw [4, 7] (fun v4 v7 wr => v7 = .int .i64 0 ∧ v4 = .string (wd ++ ⟨#[32]⟩ ++ dx) ∧ Hid (Below W.heap.size W wr)) (fun _ _ _ => 0)
        case atStart => exact ⟨rfl, rfl, HBx.out⟩
        case round =>
          obtain ⟨rfl, rfl, HBr⟩ := hrel
          clear f3
          have f3 := cell_below HBr.out HF3.out
          have HX1 : Hid (r = some (wd ++ ⟨#[32]⟩ ++ dx)) := by
            show _ = _
            have h0 := HTT.out
            have h1 := HL8.out
            rw [List.take_nil, List.append_nil] at h1
            have h2 := (printN_iff (xs := pre) H8.out).2 ⟨rfl, fun z hz => may_iff.1 (HPM.out z (by rw [List.append_nil]; exact hz)), h1⟩
            rw [h0] at h2
            rw [HXS.out, List.append_nil]
            exact h2
          go_wp2
          go_ret2
          rw [HX1.out]
          exact ⟨rfl, below_thn HB.out HBr.out⟩
    · have HTT := Lib.hid (HS2.out rfl)
      clear HS0 HS1 HS2
      go_enter Tryd.func19, Tryd.ntmps19
      go_upto_region 1 with (fail)
      refine wp_box1 ?_
      intro W hb hsz hblk
      have f0 := blk_cell hblk 0 rfl
      have f1 := blk_cell hblk 1 rfl
      have f2 := blk_cell hblk 2 rfl
      have f3 := blk_cell hblk 3 rfl
      have HF1 := Lib.hid f1
      have HF2 := Lib.hid f2
      have HF3 := Lib.hid f3
      have HB := Lib.hid hb
      clear hb hsz hblk
      go_wp2_with (first
        | (go_at_call 36; refine (HW.out _).mono ?_; rintro e w' ⟨rfl, rfl⟩)
        | (go_at_call 38; refine (HM.out _ _).mono ?_; rintro e w' ⟨rfl, rfl⟩))
      go_loop [6] (fun v6 => v6 = .int .i64 0) (fun _ => 0)
      case atStart => rfl
      case round =>
        subst hrel
        have hs1 : (wd ++ (⟨#[32]⟩ : ByteArray)).size = wd.size + 1 := by rw [ByteArray.size_append]; rfl
        clear f0 f1 f2
        clear f3
        have f3 := HF3.out
        have f1 := HF1.out
        go_wp2_with (fail)
        refine (HDx.out _).mono ?_
        rintro e w1 ⟨rfl, hb1⟩
        have HBx0 := Lib.hid hb1
        have f2 := cell_below hb1 HF2.out
        clear hb1 f1
        have hs1 : (wd ++ (⟨#[32]⟩ : ByteArray)).size = wd.size + 1 := by rw [ByteArray.size_append]; rfl
        have hs2 : (wd ++ (⟨#[32]⟩ : ByteArray) ++ dx).size = wd.size + 1 + dx.size := by rw [ByteArray.size_append, hs1]
        have hs3 : (wd ++ (⟨#[32]⟩ : ByteArray) ++ dx ++ (⟨#[32]⟩ : ByteArray)).size = wd.size + 1 + dx.size + 1 := by rw [ByteArray.size_append, hs2]; rfl
        go_wp2_with (fail)
        refine (HDy.out _).mono ?_
        rintro e w2 ⟨rfl, hb2⟩
        have HBx := Lib.hid (below_thn HBx0.out hb2)
        clear hb2 f2
        clear f3
        have f3 := cell_below HBx.out HF3.out
        clear HF1 HF2 HDx HDy
        go_wp2
        go_loopw [4, 7] (fun v4 v7 wr => v7 = .int .i64 0 ∧ v4 = .string (wd ++ ⟨#[32]⟩ ++ dx ++ ⟨#[32]⟩ ++ dy) ∧ Hid (Below W.heap.size W wr)) (fun _ _ _ => 0)
        case atStart => exact ⟨rfl, rfl, HBx.out⟩
        case round =>
          obtain ⟨rfl, rfl, HBr⟩ := hrel
          clear f3
          have f3 := cell_below HBr.out HF3.out
          have HX1 : Hid (r = some (wd ++ ⟨#[32]⟩ ++ dx ++ ⟨#[32]⟩ ++ dy)) := by
            show _ = _
            have h0 := HTT.out
            have h1 := HL8.out
            rw [List.take_nil, List.append_nil] at h1
            have h2 := (printN_iff (xs := pre) H8.out).2 ⟨rfl, fun z hz => may_iff.1 (HPM.out z (by rw [List.append_nil]; exact hz)), h1⟩
            rw [h0] at h2
            rw [HXS.out, List.append_nil]
            exact h2
          go_wp2
          go_ret2
          rw [HX1.out]
          exact ⟨rfl, below_thn HB.out HBr.out⟩
end Go.Proofs.YtplghlokjgjjbaaDoor
