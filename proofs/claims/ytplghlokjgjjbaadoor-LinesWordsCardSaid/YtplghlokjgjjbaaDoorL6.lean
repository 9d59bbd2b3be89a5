/- LinesWords returns true. -/
import Derived.Test.YtplghlokjgjjbaaDoorL5
namespace Go.Proofs.YtplghlokjgjjbaaDoor
open Go.RowKit Go.Proofs.YtplghlokjgjjbaaDoorW.PrintWords

def lineW : List ByteArray := [⟨#[118, 101, 114, 116, 105, 99, 101, 115, 32, 49]⟩, ⟨#[97, 100, 100, 32, 49, 32, 50]⟩, ⟨#[114, 101, 109, 111, 118, 101, 32, 49, 32, 50]⟩, ⟨#[103, 114, 111, 119]⟩, ⟨#[99, 117, 116, 32, 49]⟩, ⟨#[109, 97, 116, 99, 104, 32, 50]⟩, ⟨#[103, 97, 108, 108, 97, 105]⟩, ⟨#[98, 97, 114, 114, 105, 101, 114]⟩, ⟨#[115, 105, 100, 101, 115]⟩, ⟨#[98, 108, 111, 99, 107, 115]⟩, ⟨#[102, 97, 99, 116, 111, 114, 32, 49, 32, 50]⟩, ⟨#[99, 111, 118, 101, 114]⟩, ⟨#[99, 108, 97, 115, 115, 105, 102, 121]⟩, ⟨#[116, 101, 108, 108]⟩]
def badW (s : ByteArray) : List ByteArray := [s ++ ⟨#[32, 51]⟩, ⟨#[32]⟩ ++ s, s ++ ⟨#[32]⟩, ⟨#[120]⟩ ++ s, s ++ ⟨#[32, 48, 51]⟩, s ++ ⟨#[32, 45, 49]⟩, s ++ ⟨#[32, 43, 49]⟩, s ++ ⟨#[32, 49, 50, 51, 52, 53, 54, 55, 56, 57, 48]⟩]
theorem good_all : ∀ q, q < 14 → (parseS (gs lineW q)).2 = 0 ∧ (parseS (gs lineW q)).1.1 = 1 + (q : Int) := by decide +kernel
theorem bad_all : ∀ q, q < 14 → ∀ j, j < 8 → decide ((parseS (gs (badW (gs lineW q)) j)).2 = 0) = (decide (q = 10) && (gs (badW (gs lineW q)) j).toList == (gs lineW q ++ ⟨#[32, 51]⟩).toList) := by decide +kernel

theorem RdS.at0 {w : World} {g : Nat} {l : List ByteArray} (h : RdS w (some ⟨g, 0, none⟩) l) {j : Nat} (hj : j < l.length) : w.cell? ⟨g, j, none⟩ = some (.string (gs l j)) := by
  obtain ⟨ad, e, hc⟩ := h.2 j hj
  injection e with e
  subst e
  have : (⟨g, 0, none⟩ : Addr).add j = ⟨g, j, none⟩ := by unfold Addr.add; split <;> simp_all
  rwa [this] at hc
theorem line_size : ∀ q, q < 14 → (gs lineW q).size ≤ 20 := by decide +kernel
theorem bad_size : ∀ q, q < 14 → ∀ j, j < 8 → (gs (badW (gs lineW q)) j).size ≤ 40 := by decide +kernel

set_option maxRecDepth 100000 in
set_option maxHeartbeats 2000000 in
theorem linesWords_any (a0 a1 : Int) (m : Int) (w : World) (hm : w.cell? ⟨0, 0, none⟩ = some (.int .i64 m)) : Calls Tryd.prog 3 #[.int .i64 a0, .int .i64 a1] w fun e w' => e = .returned (.bool true) ∧ Below w.heap.size w w' := by
  obtain ⟨q, hq, hq14⟩ : ∃ q : Nat, (IntKind.u64.wrap a0).tmod 14 = (q : Int) ∧ q < 14 := by
    have h0 : 0 ≤ IntKind.u64.wrap a0 := by rw [IntKind.wrap_u64]; omega
    rw [Int.tmod_eq_emod_of_nonneg h0]
    exact ⟨(IntKind.u64.wrap a0 % 14).toNat, by omega, by omega⟩
  obtain ⟨j, hj, hj8⟩ : ∃ j : Nat, (IntKind.u64.wrap a1).tmod 8 = (j : Int) ∧ j < 8 := by
    have h0 : 0 ≤ IntKind.u64.wrap a1 := by rw [IntKind.wrap_u64]; omega
    rw [Int.tmod_eq_emod_of_nonneg h0]
    exact ⟨(IntKind.u64.wrap a1 % 8).toNat, by omega, by omega⟩
  have HM := Lib.hid hm
  clear hm
  go_enter Tryd.func3, Tryd.ntmps3
  go_upto_region 3 with (fail)
  refine wp_box1 ?_
  intro W hb hsz h1
  have c1 := (RdS.lit lineW (by decide) h1 rfl).at0 (j := q) hq14
  have hP := parse_any (gs lineW q) m W (cell_below hb HM.out) (by have := line_size q hq14; omega)
  obtain ⟨c, hc, hck⟩ : ∃ c, parseS (gs lineW q) = (c, 0) ∧ c.1 = 1 + (q : Int) := ⟨(parseS (gs lineW q)).1, by rw [← (good_all q hq14).1], (good_all q hq14).2⟩
  obtain ⟨k1, a1', b1', l1⟩ := c
  simp only at hck
  subst hck
  rw [hc] at hP
  have hB := bad_all q hq14 j hj8
  have hBs := bad_size q hq14 j hj8
  have hs20 := line_size q hq14
  have hqi : 1 + (q : Int) - 1 = (q : Int) := by omega
  have hm1 := cell_below hb HM.out
  have HB := Lib.hid hb
  have HP := Lib.hid hP
  clear hb hsz h1 hP hc
  generalize gs lineW q = s at *
  go_wp2_with (fail)
  refine HP.out.mono ?_
  rintro e w1 ⟨v, rfl, hv, hb1⟩
  obtain ⟨A, c, rfl⟩ := hv.slice
  have HM1 := Lib.hid (cell_below hb1 hm1)
  have HB1 := Lib.hid (below_thn HB.out hb1)
  clear HP hv hb1 c1 hqi hm1 HB HM
  go_upto_region 5 with (fail)
  refine wp_box1 ?_
  intro W2 hb2 hsz2 h2
  have HM2 := Lib.hid (cell_below hb2 HM1.out)
  have HB2 := Lib.hid (below_thn HB1.out hb2)
  have H2 := Lib.hid h2
  clear hb2 hsz2 h2 HM1 HB1
  generalize w1.heap.size = g1 at *
  have c2 : (W2.alloc (.cells #[.string (s ++ ⟨#[32, 51]⟩), .string (⟨#[32]⟩ ++ s), .string (s ++ ⟨#[32]⟩), .string (⟨#[120]⟩ ++ s), .string (s ++ ⟨#[32, 48, 51]⟩), .string (s ++ ⟨#[32, 45, 49]⟩), .string (s ++ ⟨#[32, 43, 49]⟩), .string (s ++ ⟨#[32, 49, 50, 51, 52, 53, 54, 55, 56, 57, 48]⟩)] 9)).cell? ⟨W2.heap.size, j, none⟩ = some (.string (gs (badW s) j)) := (RdS.lit (t := 9) (badW s) (by simp [badW]) (heap_alloc_new W2 _) rfl).at0 (j := j) (by simpa [badW] using hj8)
  go_upto_region 6 with (fail)
  refine wp_box1 ?_
  intro W3 hb3 hsz3 h3
  have hP2 := parse_any (gs (badW s) j) m W3 (cell_below hb3 HM2.out) (by omega)
  have H3 := Lib.hid (blk_below H2.out hb3)
  have HM3 := Lib.hid (cell_below hb3 HM2.out)
  have HB3 := Lib.hid (below_thn HB2.out hb3)
  have HBB := Lib.hid hB
  clear hb3 hsz3 h3 H2 HM2 HB2 c2 hB hBs
  generalize parseS (gs (badW s) j) = r2 at *
  generalize gs (badW s) j = t at *
  obtain ⟨⟨k2, a2, b2, l2⟩, e2⟩ := r2
  have HP2 := Lib.hid hP2
  clear hP2
  go_wp2_with (fail)
  refine HP2.out.mono ?_
  rintro e w4 ⟨v, rfl, hv, hb4⟩
  obtain ⟨A2, c2, rfl⟩ := hv.slice
  have H4 := Lib.hid (blk_below H3.out hb4)
  have HM4 := Lib.hid (cell_below hb4 HM3.out)
  have HB4 := Lib.hid (below_thn HB3.out hb4)
  clear HP2 hv hb4 H3 HM3 HB3
  go_upto_region 7 with (fail)
  refine wp_box1 ?_
  intro W5 hb5 hsz5 h5
  have H5 := Lib.hid (blk_below H4.out hb5)
  have HB5 := Lib.hid (below_thn HB4.out hb5)
  have hA := awake_any m W5 (cell_below hb5 HM4.out)
  have HA := Lib.hid hA
  clear hb5 hsz5 h5 H4 HM4 HB4 hA
  have h3 : (((1 + (q : Int)) == 11) = true ∧ (t.toList == (s ++ (⟨#[32, 51]⟩ : ByteArray)).toList) = true ∧ (e2 == 0) = true) ∨ (((1 + (q : Int)) == 11) = true ∧ (t.toList == (s ++ (⟨#[32, 51]⟩ : ByteArray)).toList) = false ∧ (e2 == 0) = false) ∨ (((1 + (q : Int)) == 11) = false ∧ (e2 == 0) = false) := by
    have h := HBB.out
    by_cases hq10 : q = 10
    · have c1 : ((1 + (q : Int)) == 11) = true := by rw [hq10]; rfl
      rw [decide_eq_true hq10, Bool.true_and] at h
      cases hbb : (t.toList == (s ++ (⟨#[32, 51]⟩ : ByteArray)).toList)
      · rw [hbb] at h
        exact .inr (.inl ⟨c1, rfl, by simpa using h⟩)
      · rw [hbb] at h
        exact .inl ⟨c1, rfl, by simpa using h⟩
    · rw [decide_eq_false hq10, Bool.false_and] at h
      exact .inr (.inr ⟨by simp; omega, by simpa using h⟩)
  clear HBB
  rcases h3 with ⟨x1, x2, x3⟩ | ⟨x1, x2, x3⟩ | ⟨x1, x3⟩
  all_goals
    go_wp2_with (fail)
    refine HA.out.mono ?_
    rintro e w6 ⟨rfl, hb6⟩
    have f0 := blk_cell (blk_below H5.out hb6) 0 rfl
    have HB6 := Lib.hid (below_thn HB5.out hb6)
    clear hb6 HA
    go_wp2
    go_ret
    exact ⟨rfl, HB6.out⟩
end Go.Proofs.YtplghlokjgjjbaaDoor
