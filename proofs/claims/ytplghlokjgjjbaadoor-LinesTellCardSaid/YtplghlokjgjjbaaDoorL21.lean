/- The reference's words, may, Digits. -/
import Derived.Test.YtplghlokjgjjbaaDoorL20
import Derived.Test.YtplghlokjgjjbaaDoorK4
namespace Go.Proofs.YtplghlokjgjjbaaDoor
open Go.RowKit Go.Proofs.YtplghlokjgjjbaaDoorW.PrintWords Go.Proofs.YtplghlokjgjjbaaDoorW.PrintLast
def digR.T3 : Bool × List (List Nat × List Nat) := (true, [([], []), ([0], [0]), ([1], [1]), ([], []), ([3], [3]), ([4], [4]), ([5], [5]), ([6], [6]), ([7], [7]), ([2, 8], [2, 8]), ([9, 2, 0, 1, 2, 3, 4, 5, 6, 7, 8, 9], [9])])
def digR.B3 : List Nat := [0, 1, 3, 0, 8, 24, 56, 120, 248, 511, 1023]
theorem digR.tab3 : rtab .any (opsOf Tryd.f11 3) = digR.T3 := by kernel_rfl
theorem digR.bits3 : waitsOk digR.T3.2 digR.B3 = true := by kernel_rfl

def wordsOf (k : Int) : ByteArray × Int := if 1 ≤ k ∧ k ≤ 14 then formAt k.toNat else (⟨#[]⟩, 0)
set_option maxRecDepth 100000 in
set_option maxHeartbeats 2000000 in
theorem refWords_any (k : Int) (w : World) : Calls Tryd.prog 36 #[.int .i64 k] w fun e w' => e = .returned (.tuple #[.string (wordsOf k).1, .int .i64 (wordsOf k).2]) ∧ w = w' := by
  by_cases h : 1 ≤ k ∧ k ≤ 14
  · obtain rfl | rfl | rfl | rfl | rfl | rfl | rfl | rfl | rfl | rfl | rfl | rfl | rfl | rfl : k = 1 ∨ k = 2 ∨ k = 3 ∨ k = 4 ∨ k = 5 ∨ k = 6 ∨ k = 7 ∨ k = 8 ∨ k = 9 ∨ k = 10 ∨ k = 11 ∨ k = 12 ∨ k = 13 ∨ k = 14 := by omega
    all_goals
      go_enter Tryd.func36, Tryd.ntmps36
      go_wp2
      go_ret2
      exact ⟨rfl, rfl⟩
  · have hne : ∀ q : Int, 1 ≤ q → q ≤ 14 → (k == q) = false := fun q h1 h2 => by
      have : ¬ k = q := by omega
      simpa using this
    have n1 := hne 1 (by omega) (by omega)
    have n2 := hne 2 (by omega) (by omega)
    have n3 := hne 3 (by omega) (by omega)
    have n4 := hne 4 (by omega) (by omega)
    have n5 := hne 5 (by omega) (by omega)
    have n6 := hne 6 (by omega) (by omega)
    have n7 := hne 7 (by omega) (by omega)
    have n8 := hne 8 (by omega) (by omega)
    have n9 := hne 9 (by omega) (by omega)
    have n10 := hne 10 (by omega) (by omega)
    have n11 := hne 11 (by omega) (by omega)
    have n12 := hne 12 (by omega) (by omega)
    have n13 := hne 13 (by omega) (by omega)
    have n14 := hne 14 (by omega) (by omega)
    have HW : Hid (wordsOf k = (⟨#[]⟩, 0)) := by show _ = _; rw [wordsOf, if_neg h]
    clear hne h
    go_enter Tryd.func36, Tryd.ntmps36
    go_wp2
    go_ret2
    exact ⟨by rw [HW.out]; rfl, rfl⟩
def mayB (x : Int) : Bool := decide (0 ≤ x ∧ x ≤ 999999999)
theorem refMay_any (x : Int) (w : World) : Calls Tryd.prog 38 #[.int .i64 x] w fun e w' => e = .returned (.bool (mayB x)) ∧ w = w' := by
  by_cases h : 0 ≤ x
  · go_enter Tryd.func38, Tryd.ntmps38
    go_wp2
    go_ret
    exact ⟨ret_bool (by simp [mayB, h]), rfl⟩
  · have h' : x < 0 := by omega
    go_enter Tryd.func38, Tryd.ntmps38
    go_wp2
    go_ret
    exact ⟨ret_bool (by rw [mayB]; symm; exact decide_eq_false (by omega)), rfl⟩

theorem wrap_id {i : Int} (h0 : 0 ≤ i) (h1 : i ≤ 9223372036854775807) : wrap64 i = i := by unfold wrap64; omega
def dg1 (r : Nat) : List UInt8 := [UInt8.ofNat (48 + r)]
theorem one_conv {w : World} {g r : Nat} (h : w.heap[g]? = some (.cells #[.int .u8 (48 + (r : Int))] 5 (0, 0))) (hr : r < 10) : (convert 34 9 (.slice (some ⟨g, 0, none⟩) 1 1)).run Tryd.prog w = .ok (.string (ofL (dg1 r))) w := by
  have := string_of_reads (P := Tryd.prog) (w := w) (src := 34) (dst := 9) (e := 5) (A := some ⟨g, 0, none⟩) (n := 1) (c := 1) (xs := [(48 + (r : Int))]) und_bytes und_u8 und_str ⟨rfl, by omega, fun _ => ⟨_, rfl, fun j hj => by
    obtain rfl : j = 0 := by omega
    have := blk_cell h 0 rfl
    rwa [show (⟨g, 0, none⟩ : Addr).add 0 = ⟨g, 0, none⟩ from by simp [Addr.add]]⟩⟩
  rw [this, strOfNums_ofL]
  rw [show ofL (Lib.bytesOf [48 + (r : Int)]) = ofL [UInt8.ofNat (48 + (r : Int)).toNat] from rfl, show (48 + (r : Int)).toNat = 48 + r by omega]
  rfl
set_option maxRecDepth 100000 in
set_option maxHeartbeats 2000000 in
theorem digits_h (k : Nat) : ∀ (n : Nat), n < 10 ^ (k + 1) → n ≤ 999999999999 → ∀ w : World, Calls Tryd.prog 11 #[.int .i64 (n : Int)] w fun e w' => e = .returned (.string (ofL (dig n))) ∧ Below w.heap.size w w' := by
  induction k with
  | zero =>
    intro n hn _ w
    have hn' : n < 10 := by simpa using hn
    have HN := Lib.hid hn'
    clear hn
    have h10 : (n : Int) < 10 := by omega
    have hc := one_conv (heap_alloc_new w (.cells #[.int .u8 (48 + (n : Int))] 5)) hn'
    go_enter Tryd.func11, Tryd.ntmps11
    go_wp2
    go_ret
    exact ⟨by rw [dig, if_pos HN.out]; rfl, below_alloc (Below.refl _ _) _⟩
  | succ k ih =>
    intro n hn hb w
    by_cases h10 : n < 10
    · exact ih n (Nat.lt_of_lt_of_le h10 (by rw [Nat.pow_succ]; have := Nat.pow_pos (n := k) (show 0 < 10 by decide); omega)) hb w
    · obtain ⟨m, hm⟩ : ∃ m, m = n / 10 := ⟨_, rfl⟩
      obtain ⟨r, hr⟩ : ∃ r, r = n % 10 := ⟨_, rfl⟩
      have HQ : Hid ((n : Int) / 10 = (m : Int)) := by show _ = _; omega
      have HQt : Hid ((n : Int).tdiv 10 = (m : Int)) := by show _ = _; rw [Int.tdiv_eq_ediv_of_nonneg (by omega)]; omega
      have HQw : Hid (IntKind.i64.wrap (m : Int) = (m : Int)) := by show _ = _; rw [i64_w]; exact wrap_id (by omega) (by omega)
      have HRm : Hid ((n : Int) % 10 = (r : Int)) := by show _ = _; omega
      have HRt : Hid ((n : Int).tmod 10 = (r : Int)) := by show _ = _; rw [Int.tmod_eq_emod_of_nonneg (by omega)]; omega
      have HRw : Hid (IntKind.i64.wrap (r : Int) = (r : Int)) := by show _ = _; rw [i64_w]; exact wrap_id (by omega) (by omega)
      have HRi : Hid ((r : Int) ≤ 9) := by show _ ≤ _; omega
      have HR5 : Hid (IntKind.i64.wrap (48 + (r : Int)) = 48 + (r : Int)) := by show _ = _; rw [i64_w]; exact wrap_id (by omega) (by omega)
      have HR6 : Hid (IntKind.u8.wrap (48 + (r : Int)) = 48 + (r : Int)) := by show _ = _; rw [IntKind.wrap_u8]; omega
      have HRl : Hid (r < 10) := by show _ < _; omega
      have HML : Hid (m ≤ 999999999999) := by show _ ≤ _; omega
      have HM : Hid (m < 10 ^ (k + 1)) := by show _ < _; rw [Nat.pow_succ] at hn; omega
      have HZ1 : Hid ((ofL (dig m)).size ≤ 100) := by
        show _ ≤ _
        rw [size_ofL]
        exact Nat.le_trans (dig_le 11 m (by have : (10 : Nat) ^ 12 = 1000000000000 := by decide
                                            omega)) (by decide)
      have HZ2 : Hid ((ofL (dg1 r)).size ≤ 100) := by show _ ≤ _; rw [size_ofL]; exact Nat.le_of_ble_eq_true rfl
      have HD : Hid (ofL (dig m) ++ ofL (dg1 r) = ofL (dig n)) := by
        show _ = _
        conv => rhs; rw [dig, if_neg h10]
        rw [hm, hr]
        apply ByteArray.ext
        simp [ofL, dg1]
      have h10i : ¬ (n : Int) < 10 := by omega
      have hbi : (n : Int) ≤ 999999999999 := by omega
      clear hm hr hn hb
      go_enter Tryd.func11, Tryd.ntmps11
      go_upto_region 3 with (fail)
      obtain ⟨W, hW⟩ : ∃ W, W = w := ⟨_, rfl⟩
      rw [← hW]
      subst hW
      have HBw := Aside0.mk (Below.refl W.heap.size W)
      refine start_ (n := 11) (S := fun w' => True) (ds := []) #[false, false, false, false, false, false, false, false, false, false, false] (by kernel_rfl) rfl rfl trivial (fun hHeld => ?_)
      refine with_tabW digR.tab3 digR.bits3 (fun HT_ HW_ => ?_)
      refine inv_at [0, 1, 2, 3, 4, 5, 6, 7, 8, 9, 10] (fun a0_ b a w' => ∃ (g : Nat) (m7_ : Value), a = putSel a0_ b [(0, 10, .int .i64 (n : Int)), (1, 11, .int .i64 (m : Int)), (2, 12, .string (ofL (dig m))), (3, 13, .int .i64 (n : Int)), (4, 14, .int .i64 (r : Int)), (5, 15, .int .i64 (48 + (r : Int))), (6, 16, .int .u8 (48 + (r : Int))), (7, 17, m7_), (8, 18, .string (ofL (dg1 r))), (9, 19, .string (ofL (dig n))), (10, 2, .string (ofL (dig n)))] ∧ (Below W.heap.size W w') ∧ (b 7 = true → w'.heap[g]? = some (.cells #[.int .u8 (48 + (r : Int))] 5 (0, 0))) ∧ (b 7 = true → (m7_ : Value) = .slice (some ⟨g, 0, none⟩) 1 1)) HT_.out HW_.out (by kernel_rfl) (by kernel_rfl) ?_ ?_ ?_
      · exact ⟨0, .bool false, by simp only [putSel, Bool.false_eq_true, if_false], below_drew HBw.out, fun h_ => absurd h_ (by decide), fun h_ => absurd h_ (by decide)⟩
      · skip
        clear HBw
        refine steps_cons ?_ ?_
        · rintro b a w' ⟨g, m7_, ha, Q_HBw, Q_HS, Q_X7_⟩ hb_ hon hoff
          refine ⟨_, rfl, fun K hK => ?_⟩
          have e0 : a.tmps[0]? = some (.int .i64 (n : Int)) := by rw [ha]; exact (putSel_off rfl).trans rfl
          replace ha := Aside0.mk ha
          have HBw := Aside0.mk Q_HBw
          refine value_ (w1 := w') (v := .int .i64 (n : Int)) (by rfl) rfl ?_ ?_
          · go_simp
            (try simp only [i64_w])
            try rfl
          refine hK.out _ _ ⟨g, m7_, (by rw [ha.out]; exact putSel_upk 0 hb_ rfl rfl rfl), Q_HBw, Q_HS, Q_X7_⟩
        refine steps_cons ?_ ?_
        · rintro b a w' ⟨g, m7_, ha, Q_HBw, Q_HS, Q_X7_⟩ hb_ hon hoff
          refine ⟨_, rfl, fun K hK => ?_⟩
          have e10 : a.tmps[10]? = some (.int .i64 (n : Int)) := by rw [ha]; exact putSel_on (e := (0, 10, .int .i64 (n : Int))) 0 rfl rfl (hon 0 (by kernel_rfl)) rfl
          replace ha := Aside0.mk ha
          have HBw := Aside0.mk Q_HBw
          have hq1_ := HQt.out
          have hq2_ := HQ.out
          have hq3_ := HQw.out
          refine value_ (w1 := w') (v := .int .i64 (m : Int)) (by rfl) rfl ?_ ?_
          · go_simp
            (try simp only [i64_w])
            try rfl
          refine hK.out _ _ ⟨g, m7_, (by rw [ha.out]; exact putSel_upk 1 hb_ rfl rfl rfl), Q_HBw, Q_HS, Q_X7_⟩
        refine steps_cons ?_ ?_
        · rintro b a w' ⟨g, m7_, ha, Q_HBw, Q_HS, Q_X7_⟩ hb_ hon hoff
          refine ⟨_, rfl, fun K hK => ?_⟩
          have e11 : a.tmps[11]? = some (.int .i64 (m : Int)) := by rw [ha]; exact putSel_on (e := (1, 11, .int .i64 (m : Int))) 1 rfl rfl (hon 1 (by kernel_rfl)) rfl
          replace ha := Aside0.mk ha
          have HBw := Aside0.mk Q_HBw
          refine goes_ Tryd.func11 (by kernel_rfl) rfl #[.int .i64 (m : Int)] (by rfl) rfl rfl (by simp [Act.eval, e11]) ?_
          refine (ih m HM.out HML.out w').mono ?_
          rintro e w1 ⟨rfl, hb1⟩
          refine ⟨_, rfl, ?_⟩
          refine hK.out _ _ ⟨g, m7_, (by rw [ha.out]; exact putSel_upk 2 hb_ rfl rfl rfl), below_thn HBw.out hb1, fun h0_ => blk_below (Q_HS h0_) hb1, Q_X7_⟩
        refine steps_cons ?_ ?_
        · rintro b a w' ⟨g, m7_, ha, Q_HBw, Q_HS, Q_X7_⟩ hb_ hon hoff
          refine ⟨_, rfl, fun K hK => ?_⟩
          have e0 : a.tmps[0]? = some (.int .i64 (n : Int)) := by rw [ha]; exact (putSel_off rfl).trans rfl
          replace ha := Aside0.mk ha
          have HBw := Aside0.mk Q_HBw
          refine value_ (w1 := w') (v := .int .i64 (n : Int)) (by rfl) rfl ?_ ?_
          · go_simp
            (try simp only [i64_w])
            try rfl
          refine hK.out _ _ ⟨g, m7_, (by rw [ha.out]; exact putSel_upk 3 hb_ rfl rfl rfl), Q_HBw, fun h0_ => absurd ((hoff 7 (by kernel_rfl)).symm.trans h0_) (by decide), fun h0_ => absurd ((hoff 7 (by kernel_rfl)).symm.trans h0_) (by decide)⟩
        refine steps_cons ?_ ?_
        · rintro b a w' ⟨g, m7_, ha, Q_HBw, Q_HS, Q_X7_⟩ hb_ hon hoff
          refine ⟨_, rfl, fun K hK => ?_⟩
          have e13 : a.tmps[13]? = some (.int .i64 (n : Int)) := by rw [ha]; exact putSel_on (e := (3, 13, .int .i64 (n : Int))) 3 rfl rfl (hon 3 (by kernel_rfl)) rfl
          replace ha := Aside0.mk ha
          have HBw := Aside0.mk Q_HBw
          have hq1_ := HRt.out
          have hq2_ := HRm.out
          have hq3_ := HRw.out
          refine value_ (w1 := w') (v := .int .i64 (r : Int)) (by rfl) rfl ?_ ?_
          · go_simp
            (try simp only [i64_w])
            try rfl
          refine hK.out _ _ ⟨g, m7_, (by rw [ha.out]; exact putSel_upk 4 hb_ rfl rfl rfl), Q_HBw, fun h0_ => absurd ((hoff 7 (by kernel_rfl)).symm.trans h0_) (by decide), fun h0_ => absurd ((hoff 7 (by kernel_rfl)).symm.trans h0_) (by decide)⟩
        refine steps_cons ?_ ?_
        · rintro b a w' ⟨g, m7_, ha, Q_HBw, Q_HS, Q_X7_⟩ hb_ hon hoff
          refine ⟨_, rfl, fun K hK => ?_⟩
          have e14 : a.tmps[14]? = some (.int .i64 (r : Int)) := by rw [ha]; exact putSel_on (e := (4, 14, .int .i64 (r : Int))) 4 rfl rfl (hon 4 (by kernel_rfl)) rfl
          replace ha := Aside0.mk ha
          have HBw := Aside0.mk Q_HBw
          have hr1_ := HRi.out
          have hq3_ := HR5.out
          refine value_ (w1 := w') (v := .int .i64 (48 + (r : Int))) (by rfl) rfl ?_ ?_
          · go_simp
            (try simp only [i64_w])
            try rfl
          refine hK.out _ _ ⟨g, m7_, (by rw [ha.out]; exact putSel_upk 5 hb_ rfl rfl rfl), Q_HBw, fun h0_ => absurd ((hoff 7 (by kernel_rfl)).symm.trans h0_) (by decide), fun h0_ => absurd ((hoff 7 (by kernel_rfl)).symm.trans h0_) (by decide)⟩
        refine steps_cons ?_ ?_
        · rintro b a w' ⟨g, m7_, ha, Q_HBw, Q_HS, Q_X7_⟩ hb_ hon hoff
          refine ⟨_, rfl, fun K hK => ?_⟩
          have e15 : a.tmps[15]? = some (.int .i64 (48 + (r : Int))) := by rw [ha]; exact putSel_on (e := (5, 15, .int .i64 (48 + (r : Int)))) 5 rfl rfl (hon 5 (by kernel_rfl)) rfl
          replace ha := Aside0.mk ha
          have HBw := Aside0.mk Q_HBw
          have hr1_ := HRi.out
          have hq3_ := HR6.out
          refine value_ (w1 := w') (v := .int .u8 (48 + (r : Int))) (by rfl) rfl ?_ ?_
          · go_simp
            (try simp only [i64_w])
            try rfl
          refine hK.out _ _ ⟨g, m7_, (by rw [ha.out]; exact putSel_upk 6 hb_ rfl rfl rfl), Q_HBw, fun h0_ => absurd ((hoff 7 (by kernel_rfl)).symm.trans h0_) (by decide), fun h0_ => absurd ((hoff 7 (by kernel_rfl)).symm.trans h0_) (by decide)⟩
        refine steps_cons ?_ ?_
        · rintro b a w' ⟨g, m7_, ha, Q_HBw, Q_HS, Q_X7_⟩ hb_ hon hoff
          refine ⟨_, rfl, fun K hK => ?_⟩
          have e16 : a.tmps[16]? = some (.int .u8 (48 + (r : Int))) := by rw [ha]; exact putSel_on (e := (6, 16, .int .u8 (48 + (r : Int)))) 6 rfl rfl (hon 6 (by kernel_rfl)) rfl
          replace ha := Aside0.mk ha
          have HBw := Aside0.mk Q_HBw
          refine value_ (w1 := w'.alloc (.cells #[.int .u8 (48 + (r : Int))] 5)) (v := .slice (some ⟨w'.heap.size, 0, none⟩) 1 1) (by rfl) rfl (by go_simp) ?_
          refine hK.out _ _ ⟨w'.heap.size, (.slice (some ⟨w'.heap.size, 0, none⟩) 1 1), (by rw [ha.out]; exact putSel_upk 7 hb_ rfl rfl rfl), below_alloc HBw.out _, fun _ => heap_alloc_new w' _, fun _ => rfl⟩
        refine steps_cons ?_ ?_
        · rintro b a w' ⟨g, m7_, ha, Q_HBw, Q_HS, Q_X7_⟩ hb_ hon hoff
          refine ⟨_, rfl, fun K hK => ?_⟩
          have e17 : a.tmps[17]? = some (m7_) := by rw [ha]; exact putSel_on (e := (7, 17, m7_)) 7 rfl rfl (hon 7 (by kernel_rfl)) rfl
          rw [Q_X7_ (hon 7 (by kernel_rfl))] at e17
          replace ha := Aside0.mk ha
          have HBw := Aside0.mk Q_HBw
          have HS := Aside0.mk (Q_HS (hon 7 (by kernel_rfl)))
          have hc_ := one_conv HS.out HRl.out
          refine value_ (w1 := w') (v := .string (ofL (dg1 r))) (by rfl) rfl ?_ ?_
          · go_simp
            (try simp only [i64_w])
            try rfl
          refine hK.out _ _ ⟨g, m7_, (by rw [ha.out]; exact putSel_upk 8 hb_ rfl rfl rfl), Q_HBw, Q_HS, Q_X7_⟩
        refine steps_cons ?_ ?_
        · rintro b a w' ⟨g, m7_, ha, Q_HBw, Q_HS, Q_X7_⟩ hb_ hon hoff
          refine ⟨_, rfl, fun K hK => ?_⟩
          have e12 : a.tmps[12]? = some (.string (ofL (dig m))) := by rw [ha]; exact putSel_on (e := (2, 12, .string (ofL (dig m)))) 2 rfl rfl (hon 2 (by kernel_rfl)) rfl
          have e18 : a.tmps[18]? = some (.string (ofL (dg1 r))) := by rw [ha]; exact putSel_on (e := (8, 18, .string (ofL (dg1 r)))) 8 rfl rfl (hon 8 (by kernel_rfl)) rfl
          replace ha := Aside0.mk ha
          have HBw := Aside0.mk Q_HBw
          have HS := Aside0.mk (Q_HS (hon 7 (by kernel_rfl)))
          have hz3_ : (ofL (dig m)).size + (ofL (dg1 r)).size ≤ 9223372036854775807 := by have := HZ1.out; have := HZ2.out; omega
          have hd_ := HD.out
          refine value_ (w1 := w') (v := .string (ofL (dig n))) (by rfl) rfl ?_ ?_
          · go_simp
            (try simp only [i64_w])
            try rfl
          refine hK.out _ _ ⟨g, m7_, (by rw [ha.out]; exact putSel_upk 9 hb_ rfl rfl rfl), Q_HBw, Q_HS, Q_X7_⟩
        refine steps_cons ?_ ?_
        · rintro b a w' ⟨g, m7_, ha, Q_HBw, Q_HS, Q_X7_⟩ hb_ hon hoff
          refine ⟨_, rfl, fun K hK => ?_⟩
          have e19 : a.tmps[19]? = some (.string (ofL (dig n))) := by rw [ha]; exact putSel_on (e := (9, 19, .string (ofL (dig n)))) 9 rfl rfl (hon 9 (by kernel_rfl)) rfl
          replace ha := Aside0.mk ha
          have HBw := Aside0.mk Q_HBw
          have HS := Aside0.mk (Q_HS (hon 7 (by kernel_rfl)))
          refine value_ (w1 := w') (v := .string (ofL (dig n))) (by rfl) rfl ?_ ?_
          · go_simp
            (try simp only [i64_w])
            try rfl
          refine hK.out _ _ ⟨g, m7_, (by rw [ha.out]; exact putSel_upk 10 hb_ rfl rfl rfl), Q_HBw, Q_HS, Q_X7_⟩
        exact steps_nil
      · rintro b a w' hall ⟨g, m7_, ha, Q_HBw, Q_HS, Q_X7_⟩
        clear HBw
        have hb0_ := hall 0 (by kernel_rfl)
        have hb1_ := hall 1 (by kernel_rfl)
        have hb2_ := hall 2 (by kernel_rfl)
        have hb3_ := hall 3 (by kernel_rfl)
        have hb4_ := hall 4 (by kernel_rfl)
        have hb5_ := hall 5 (by kernel_rfl)
        have hb6_ := hall 6 (by kernel_rfl)
        have hb7_ := hall 7 (by kernel_rfl)
        have hb8_ := hall 8 (by kernel_rfl)
        have hb9_ := hall 9 (by kernel_rfl)
        have hb10_ := hall 10 (by kernel_rfl)
        subst ha
        obtain rfl := Q_X7_ hb7_
        simp only [putSel, hb0_, hb1_, hb2_, hb3_, hb4_, hb5_, hb6_, hb7_, hb8_, hb9_, hb10_, if_true, Act.put, List.setIfInBounds_toArray, List.set_cons_zero, List.set_cons_succ]
        have HBw := Aside0.mk Q_HBw
        clear Q_HBw
        have HS := Aside0.mk (Q_HS hb7_)
        clear Q_HS
        clear hall hb0_ hb1_ hb2_ hb3_ hb4_ hb5_ hb6_ hb7_ hb8_ hb9_ hb10_
        go_wp2
        go_ret
        exact ⟨rfl, HBw.out⟩
end Go.Proofs.YtplghlokjgjjbaaDoor
