/- LinesBack returns true. -/
import Derived.Test.YtplghlokjgjjbaaDoorL16
import Derived.Test.YtplghlokjgjjbaaDoorL17
import Derived.Test.YtplghlokjgjjbaaDoorK6
namespace Go.Proofs.YtplghlokjgjjbaaDoor
open Go.RowKit Go.Proofs.YtplghlokjgjjbaaDoorW.PrintWords

theorem strOf_size {k x y : Int} {l : List Int} : (strOf (printS k x y l)).size ≤ 65536 := by
  cases h : printS k x y l with
  | none => show ByteArray.size ⟨#[]⟩ ≤ 65536; decide
  | some t =>
    have := print_parse h
    show t.size ≤ 65536
    rw [parseS] at this
    split at this
    · cases this
    · omega
/-- What LinesBack asks of the first command. -/
theorem back_one (k x y : Int) (l : List Int) : errOf (printS k x y l) = 15 ∨ (errOf (printS k x y l) = 0 ∧ parseS (strOf (printS k x y l)) = ((k, x, y, l), 0)) := by
  cases h : printS k x y l with
  | none => exact .inl rfl
  | some t => exact .inr ⟨rfl, print_parse h⟩
/-- .. of the second. -/
theorem back_two {s : ByteArray} {k x y : Int} {l : List Int} {e : Int} (h : parseS s = ((k, x, y, l), e)) : (e != 0) = true ∨ ((e != 0) = false ∧ errOf (printS k x y l) = 0 ∧ strOf (printS k x y l) = s) := by
  by_cases he : e = 0
  · subst he
    rw [parse_print h]
    exact .inr ⟨rfl, rfl, rfl⟩
  · exact .inl (by simpa using he)
theorem print_any' (k x y : Int) (A : Option Addr) (c : Nat) (l : List Int) (w : World) (hp : Pow w) (hl : RdI w A l) :
    Calls Tryd.prog 14 #[.agg #[.int .i64 k, .int .i64 x, .int .i64 y, .slice A l.length c]] w fun e w' => e = .returned (.tuple #[.string (strOf (printS k x y l)), .int .i64 (errOf (printS k x y l))]) ∧ Below w.heap.size w w' := print_any k x y A c l w hp hl
theorem parse_len {s : ByteArray} {k x y : Int} {l : List Int} {e : Int} (h : parseS s = ((k, x, y, l), e)) : l.length ≤ s.size := by
  rw [parseS] at h
  split at h
  · injection h with h1 h2
    simp only [zeroC, Prod.mk.injEq] at h1
    rw [← h1.2.2.2]; simp
  · have hz : ∀ o : Option Cmd, (∀ c, o = some c → c.2.2.2.length ≤ s.size) → wrapC o = ((k, x, y, l), e) → l.length ≤ s.size := by
      intro o ho he
      cases o with
      | none =>
        simp only [wrapC, zeroC, Prod.mk.injEq] at he
        rw [← he.1.2.2.2]; simp
      | some c =>
        have := ho c rfl
        simp only [wrapC, Prod.mk.injEq] at he
        rw [he.1] at this
        exact this
    refine hz _ (fun c hc => ?_) h
    rw [parseL] at hc
    split at hc
    · cases hc
    · rw [parseK, parseN] at hc
      split at hc
      · cases hc
      · cases hx : numsS ((splitW s).drop 1) with
        | none => rw [hx] at hc; cases hc
        | some xs =>
          rw [hx, bodyK, finishK] at hc
          have hxl : xs.length ≤ s.size := by
            have h1 := (numsS_canon hx).1
            have h2 := congrArg List.length h1
            rw [List.length_drop, splitW_length] at h2
            have h3 := Lib.countB_le blank (by decide) _ s (Nat.le_refl _)
            simp [wordsD] at h2
            omega
          split at hc
          · injection hc with hc; subst hc; exact hxl
          · split at hc
            · cases hc
            · injection hc with hc; subst hc; simp
theorem parse_err (s : ByteArray) : (parseS s).2 = 0 ∨ (parseS s).2 = 8 ∨ (parseS s).2 = 15 := by
  rw [parseS]
  split
  · exact .inr (.inl rfl)
  · cases parseL (splitW s) with
    | none => exact .inr (.inr rfl)
    | some c => exact .inl rfl

set_option maxRecDepth 100000 in
set_option maxHeartbeats 2000000 in
theorem linesBack_any (s : ByteArray) (k x y : Int) (A : Option Addr) (c : Nat) (l : List Int) (m : Int) (w : World) (hm : w.cell? ⟨0, 0, none⟩ = some (.int .i64 m)) (hp : Pow w) (hsz : s.size ≤ 140737488351232) (hl : RdI w A l) :
    Calls Tryd.prog 7 #[.string s, .agg #[.int .i64 k, .int .i64 x, .int .i64 y, .slice A l.length c]] w fun e w' => e = .returned (.bool true) ∧ Below w.heap.size w w' := by
  have HM := Lib.hid hm
  have HP := Lib.hid hp
  have HL := Lib.hid hl
  clear hm hp hl
  by_cases hbig : 2000 < s.size ∨ 300 < l.length
  · have hc : (2000 < s.size) ∨ (¬ 2000 < s.size ∧ 300 < l.length) := by omega
    rcases hc with h | ⟨h, h'⟩
    all_goals
      go_enter Tryd.func7, Tryd.ntmps7
      go_upto_region 1 with (fail)
      refine wp_box1 ?_
      intro W hb hsz1 h1
      have f3 := blk_cell h1 3 rfl
      have HA := Lib.hid (awake_any m W (cell_below hb HM.out))
      have HB := Lib.hid hb
      clear hb hsz1 h1
      go_wp2_with (fail)
      refine HA.out.mono ?_
      rintro e w1 ⟨rfl, hb1⟩
      have HB1 := Lib.hid (below_thn HB.out hb1)
      clear hb1 HA HB
      go_wp2
      go_ret
      exact ⟨rfl, HB1.out⟩
  have hs1 : ¬ 2000 < s.size := by omega
  have hl1 : ¬ 300 < l.length := by omega
  obtain ⟨⟨⟨k2, x2, y2, l2⟩, e2⟩, hp2⟩ : ∃ r, parseS s = r := ⟨_, rfl⟩
  obtain ⟨⟨⟨k1, x1, y1, l1⟩, e1⟩, hp1⟩ : ∃ r, parseS (strOf (printS k x y l)) = r := ⟨_, rfl⟩
  have HT := Lib.hid (back_two hp2)
  have HO := Lib.hid (back_one k x y l)
  have HZ : Hid ((strOf (printS k x y l)).size ≤ 4611686018427387904) := by show _ ≤ _; have := strOf_size (k := k) (x := x) (y := y) (l := l); omega
  have HPr1 := Lib.hid (fun W h1 h2 => print_any' k x y A c l W h1 h2)
  have HPr2 := Lib.hid (fun A c W h1 h2 => print_any' k2 x2 y2 A c l2 W h1 h2)
  have HPa1 := Lib.hid (fun W h => parse_any (strOf (printS k x y l)) m W h HZ.out)
  have HPa2 := Lib.hid (fun W h => parse_any s m W h (by omega))
  rw [hp1] at HPa1 HO
  rw [hp2] at HPa2
  have hl2 := parse_len hp2
  have HL2 : Hid (l2.length ≤ 4611686018427387904) := by show _ ≤ _; omega
  clear hp1 hp2 hbig HZ
  generalize printS k x y l = r1 at *
  generalize printS k2 x2 y2 l2 = r2 at *
  have HT1 := HO.out
  have HT2 := HT.out
  clear HO HT hl2
  generalize strOf r1 = t1 at *
  generalize errOf r1 = n1 at *
  generalize strOf r2 = t2 at *
  generalize errOf r2 = n2 at *
  have hn1 : (n1 != 0) = true ∨ ((n1 != 0) = false ∧ ((k1, x1, y1, l1), e1) = ((k, x, y, l), (0 : Int))) := by
    rcases HT1 with h | ⟨h1, h2⟩
    · rw [h]; exact .inl rfl
    · rw [h1]; exact .inr ⟨rfl, h2⟩
  clear HT1
  rcases hn1 with hn1 | ⟨hn1, hc1⟩
  case' inr => cases hc1
  all_goals rcases HT2 with hn2 | ⟨hn2, hn3, hc2⟩
  all_goals
    go_enter Tryd.func7, Tryd.ntmps7
    go_upto_region 1 with (fail)
    refine wp_box1 ?_
    intro W hb hsz1 h1
    have f3 := blk_cell h1 3 rfl
    have H1 := Lib.hid h1
    have HB := Lib.hid hb
    have HM1 := Lib.hid (cell_below hb HM.out)
    have HC := Lib.hid (HPr1.out W (HP.out.below hb) (HL.out.below hb))
    have HP1 := Lib.hid (HP.out.below hb)
    clear hb hsz1 h1 HM HP HPr1
    go_wp2_with (refine step_load_blk w.heap.size rfl 26 _ rfl _ _ rfl H1.out Tryd.underlying26 rfl (cmd_info _ rfl) ?_)
    refine HC.out.mono ?_
    rintro e w2 ⟨rfl, hb2⟩
    have H2 := Lib.hid (blk_below H1.out hb2)
    have HB2 := Lib.hid (below_thn HB.out hb2)
    have HM2 := Lib.hid (cell_below hb2 HM1.out)
    have HP2 := Lib.hid (HP1.out.below hb2)
    have HC2 := Lib.hid (HPa1.out w2 HM2.out)
    clear HC hb2 H1 HB HM1 HP1 HPa1 f3
    go_wp2_with (fail)
    refine HC2.out.mono ?_
    rintro e w3 ⟨v3, rfl, hv3, hb3⟩
    obtain ⟨A3, c3, rfl⟩ := hv3.slice
    have HV3 := Lib.hid hv3
    have H3 := Lib.hid (blk_below H2.out hb3)
    have HB3 := Lib.hid (below_thn HB2.out hb3)
    have HM3 := Lib.hid (cell_below hb3 HM2.out)
    have HP3 := Lib.hid (HP2.out.below hb3)
    clear HC2 hb3 H2 HB2 HM2 HP2 hv3
    go_upto_region 5 with (fail)
    refine wp_box1 ?_
    intro W4 hb4 hsz4 h4
    have H4 := Lib.hid h4
    have H43 := Lib.hid (blk_below H3.out hb4)
    have HB4 := Lib.hid (below_thn HB3.out hb4)
    have HP4 := Lib.hid (HP3.out.below hb4)
    have HV4 := Lib.hid (HV3.out.below hb4)
    have HC5 := Lib.hid (HPa2.out W4 (cell_below hb4 HM3.out))
    have HM4 := Lib.hid (cell_below hb4 HM3.out)
    clear hb4 hsz4 h4 H3 HB3 HP3 HV3 HM3 HPa2
    generalize w3.heap.size = g4 at *
    go_wp2_with (fail)
    refine HC5.out.mono ?_
    rintro e w5 ⟨v5, rfl, hv5, hb5⟩
    obtain ⟨A5, c5, rfl, hr5⟩ := hv5.len HL2.out
    have H5 := Lib.hid (blk_below H4.out hb5)
    have H53 := Lib.hid (blk_below H43.out hb5)
    have HB5 := Lib.hid (below_thn HB4.out hb5)
    have HP5 := Lib.hid (HP4.out.below hb5)
    have HV5 := Lib.hid (HV4.out.below hb5)
    have HM5 := Lib.hid (cell_below hb5 HM4.out)
    have HR5 := Lib.hid hr5
    clear HC5 hb5 H4 H43 HB4 HP4 HV4 HM4 hv5 hr5
    go_upto_region 6 with (fail)
    refine wp_box1 ?_
    intro W6 hb6 hsz6 h6
    have H6 := Lib.hid h6
    have H64 := Lib.hid (blk_below H5.out hb6)
    have H63 := Lib.hid (blk_below H53.out hb6)
    have HB6 := Lib.hid (below_thn HB5.out hb6)
    have HV6 := Lib.hid (HV5.out.below hb6)
    have HM6 := Lib.hid (cell_below hb6 HM5.out)
    have HC7 := Lib.hid (HPr2.out A5 c5 W6 (HP5.out.below hb6) (HR5.out.below hb6))
    clear hb6 hsz6 h6 H5 H53 HB5 HP5 HV5 HM5 HR5 HPr2
    generalize w5.heap.size = g6 at *
    go_wp2_with (refine step_load_blk g6 rfl 26 _ rfl _ _ rfl H6.out Tryd.underlying26 rfl (cmd_info _ rfl) ?_)
    refine HC7.out.mono ?_
    rintro e w7 ⟨rfl, hb7⟩
    have H74 := Lib.hid (blk_below H64.out hb7)
    have H73 := Lib.hid (blk_below H63.out hb7)
    have HB7 := Lib.hid (below_thn HB6.out hb7)
    have HV7 := Lib.hid (HV6.out.below hb7)
    have HA := Lib.hid (awake_any m w7 (cell_below hb7 HM6.out))
    clear HC7 hb7 H6 H64 H63 HB6 HV6 HM6
    go_wp2_with (fail)
    refine HA.out.mono ?_
    rintro e w8 ⟨rfl, hb8⟩
    have H84 := Lib.hid (blk_below H74.out hb8)
    have H83 := Lib.hid (blk_below H73.out hb8)
    have HB8 := Lib.hid (below_thn HB7.out hb8)
    have HV8 := Lib.hid (HV7.out.below hb8)
    clear HA hb8 H74 H73 HB7 HV7
  · obtain ⟨A9, c9, e9, hr9⟩ := HV8.out.len (by omega)
    injection e9 with e91 e92 e93
    subst e91 e93
    have HR9 := Lib.hid hr9
    have HL9 := Lib.hid (HL.out.below HB8.out)
    have HC9 := Lib.hid (command_same k x y A3 A c3 c l w8 HR9.out HL9.out)
    clear hr9 e92 HR9 HL9
    have q70 := blk_cell H84.out 0 rfl
    have q30 := blk_cell H83.out 0 rfl
    have q71 := blk_cell H84.out 1 rfl
    have q31 := blk_cell H83.out 1 rfl
    have q72 := blk_cell H84.out 2 rfl
    have q32 := blk_cell H83.out 2 rfl
    have q73 := blk_cell H84.out 3 rfl
    have q33 := blk_cell H83.out 3 rfl
    go_wp2_with (fail)
    refine HC9.out.mono ?_
    rintro e w10 ⟨rfl, hb10⟩
    have HB10 := Lib.hid (below_thn HB8.out hb10)
    clear hb10 HC9
    go_wp2
    go_ret
    exact ⟨rfl, HB10.out⟩
  · subst hc2
    obtain ⟨A9, c9, e9, hr9⟩ := HV8.out.len (by omega)
    injection e9 with e91 e92 e93
    subst e91 e93
    have HR9 := Lib.hid hr9
    have HL9 := Lib.hid (HL.out.below HB8.out)
    have HC9 := Lib.hid (command_same k x y A3 A c3 c l w8 HR9.out HL9.out)
    clear hr9 e92 HR9 HL9
    have q70 := blk_cell H84.out 0 rfl
    have q30 := blk_cell H83.out 0 rfl
    have q71 := blk_cell H84.out 1 rfl
    have q31 := blk_cell H83.out 1 rfl
    have q72 := blk_cell H84.out 2 rfl
    have q32 := blk_cell H83.out 2 rfl
    have q73 := blk_cell H84.out 3 rfl
    have q33 := blk_cell H83.out 3 rfl
    go_wp2_with (fail)
    refine HC9.out.mono ?_
    rintro e w10 ⟨rfl, hb10⟩
    have HB10 := Lib.hid (below_thn HB8.out hb10)
    clear hb10 HC9
    go_wp2
    go_ret
    exact ⟨rfl, HB10.out⟩
  · go_wp2
    go_ret
    exact ⟨rfl, HB8.out⟩
  · subst hc2
    go_wp2
    go_ret
    exact ⟨rfl, HB8.out⟩
end Go.Proofs.YtplghlokjgjjbaaDoor
