/- LinesNumbers returns true. -/
import Derived.Test.YtplghlokjgjjbaaDoorL9
import Derived.Test.YtplghlokjgjjbaaDoorL5
namespace Go.Proofs.YtplghlokjgjjbaaDoor
open Go.RowKit Go.Proofs.YtplghlokjgjjbaaDoorW.PrintWords

theorem digits_any (q : Nat) (hq : q < 2000000000) (w : World) : Calls Tryd.prog 11 #[.int .i64 (q : Int)] w fun e w' => e = .returned (.string (ofL (dig q))) ∧ Below w.heap.size w w' :=
  PLinesNumbers.garlandhelp_Digits.calls 11 (q : Int) (ofL (dig q)) w (digits_f 10 q (Nat.lt_of_lt_of_le hq (by decide)) (by omega))
theorem cut_app (l : List UInt8) : (⟨#[99, 117, 116, 32]⟩ : ByteArray) ++ ofL l = ofL ([99, 117, 116, 32] ++ l) := ofL_append [99, 117, 116, 32] l
theorem cut0_app (l : List UInt8) : (⟨#[99, 117, 116, 32, 48]⟩ : ByteArray) ++ ofL l = ofL ([99, 117, 116, 32] ++ 48 :: l) := ofL_append [99, 117, 116, 32, 48] l

set_option maxRecDepth 100000 in
set_option maxHeartbeats 2000000 in
theorem linesNumbers_any (a0 : Int) (m : Int) (w : World) (hm : w.cell? ⟨0, 0, none⟩ = some (.int .i64 m)) : Calls Tryd.prog 4 #[.int .i64 a0] w fun e w' => e = .returned (.bool true) ∧ Below w.heap.size w w' := by
  obtain ⟨q, hq, hq2⟩ : ∃ q : Nat, (IntKind.u64.wrap a0).tmod 2000000000 = (q : Int) ∧ q < 2000000000 := by
    have h0 : 0 ≤ IntKind.u64.wrap a0 := by rw [IntKind.wrap_u64]; omega
    rw [Int.tmod_eq_emod_of_nonneg h0]
    exact ⟨(IntKind.u64.wrap a0 % 2000000000).toNat, by omega, by omega⟩
  have HM := Lib.hid hm
  clear hm
  have hl : (dig q).length ≤ 10 := dig_le 9 q (by have : (10 : Nat) ^ 10 = 10000000000 := by decide
                                                  omega)
  have hsz : (ofL (dig q)).size ≤ 10 := by rw [size_ofL]; exact hl
  have P1 := fun W h => parse_any (⟨#[99, 117, 116, 32]⟩ ++ ofL (dig q)) m W h (by rw [cut_app, size_ofL, List.length_append]; simp; omega)
  have P2 := fun W h => parse_any (⟨#[99, 117, 116, 32, 48]⟩ ++ ofL (dig q)) m W h (by rw [cut0_app, size_ofL, List.length_append]; simp; omega)
  rw [cut_app, cut_dig q hq2, ← cut_app] at P1
  rw [cut0_app, cut_zero q hq2, ← cut0_app] at P2
  have D := fun W => digits_any q hq2 W
  have HD := Lib.hid D
  have HP1 := Lib.hid P1
  have HP2 := Lib.hid P2
  clear D P1 P2 hl
  generalize ofL (dig q) = ds at *
  go_enter Tryd.func4, Tryd.ntmps4
  go_wp2_with (fail)
  refine (HD.out _).mono ?_
  rintro e w1 ⟨rfl, hb1⟩
  have HM1 := Lib.hid (cell_below hb1 HM.out)
  have HB1 := Lib.hid hb1
  clear hb1 HM
  go_wp2_with (fail)
  by_cases hbig : q ≤ 999999999
  case' pos =>
    have hp := HP1.out w1 HM1.out
    rw [if_pos hbig] at hp
    have hbi : decide (999999999 < (q : Int)) = false := by simp; omega
  case' neg =>
    have hp := HP1.out w1 HM1.out
    rw [if_neg hbig] at hp
    have hbi : decide (999999999 < (q : Int)) = true := by simp; omega
  all_goals
    have HP := Lib.hid hp
    clear hp HP1 hbig
    refine HP.out.mono ?_
    rintro e w2 ⟨v, rfl, hv, hb2⟩
    obtain ⟨A, c, rfl⟩ := hv.slice
    have HM2 := Lib.hid (cell_below hb2 HM1.out)
    have HB2 := Lib.hid (below_thn HB1.out hb2)
    clear HP hv hb2 HM1 HB1
    go_upto_region 3 with (fail)
    refine wp_box1 ?_
    intro W3 hb3 hsz3 h3
    have HM3 := Lib.hid (cell_below hb3 HM2.out)
    have HB3 := Lib.hid (below_thn HB2.out hb3)
    have H3 := Lib.hid h3
    clear hb3 hsz3 h3 HM2 HB2
    generalize w2.heap.size = g2 at *
    go_wp2_with (fail)
    refine (HD.out _).mono ?_
    rintro e w4 ⟨rfl, hb4⟩
    have HM4 := Lib.hid (cell_below hb4 HM3.out)
    have HB4 := Lib.hid (below_thn HB3.out hb4)
    have H4 := Lib.hid (blk_below H3.out hb4)
    clear hb4 HM3 HB3 H3 HD
    go_wp2_with (fail)
    refine (HP2.out _ HM4.out).mono ?_
    rintro e w5 ⟨v, rfl, hv, hb5⟩
    obtain ⟨A2, c2, rfl⟩ := hv.slice
    have HM5 := Lib.hid (cell_below hb5 HM4.out)
    have HB5 := Lib.hid (below_thn HB4.out hb5)
    have H5 := Lib.hid (blk_below H4.out hb5)
    clear HP2 hv hb5 HM4 HB4 H4
    go_upto_region 4 with (fail)
    refine wp_box1 ?_
    intro W6 hb6 hsz6 h6
    have HB6 := Lib.hid (below_thn HB5.out hb6)
    have H6 := Lib.hid (blk_below H5.out hb6)
    have HA := Lib.hid (awake_any m W6 (cell_below hb6 HM5.out))
    clear hb6 hsz6 h6 HM5 HB5 H5
    go_wp2_with (fail)
    refine HA.out.mono ?_
    rintro e w7 ⟨rfl, hb7⟩
    have f1 := blk_cell (blk_below H6.out hb7) 1 rfl
    have HB7 := Lib.hid (below_thn HB6.out hb7)
    clear hb7 HA
    go_wp2
    go_ret
    exact ⟨rfl, HB7.out⟩
end Go.Proofs.YtplghlokjgjjbaaDoor
