/- lines.numbers, lines.Print. -/
import Derived.Test.YtplghlokjgjjbaaDoorL12
import Derived.Deep.DeepCutAuto
import Derived.Test.YtplghlokjgjjbaaDoorK4
namespace Go.Proofs.YtplghlokjgjjbaaDoor
open Go.RowKit Go.Proofs.YtplghlokjgjjbaaDoorW.PrintWords Go.Proofs.YtplghlokjgjjbaaDoorW.PrintLast
def numbersR.T1 : Bool × List (List Nat × List Nat) := (true, [([], []), ([], []), ([1], [1]), ([0, 2], [0, 2]), ([], []), ([4, 3, 0, 0, 1, 2, 3, 4], [3, 4])])
def numbersR.B1 : List Nat := [0, 0, 2, 7, 0, 31]
theorem numbersR.tab1 : rtab .any (opsOf Tryd.f31 1) = numbersR.T1 := by kernel_rfl
theorem numbersR.bits1 : waitsOk numbersR.T1.2 numbersR.B1 = true := by kernel_rfl

/-- The numbers of a command, as its kind has them. -/
def numbersP (q : Nat) (a b : Int) (l : List Int) : Option (List Int) :=
  if (formAt q).2 < 0 then (if a = 0 ∧ b = 0 then some l else none)
  else if ((formAt q).2 < 2 ∧ b ≠ 0) ∨ ((formAt q).2 < 1 ∧ a ≠ 0) ∨ 0 < l.length then none
  else some ([a, b].take (formAt q).2.toNat)
def NumPost (w : World) (r : Option (List Int)) (e : Ending) (w' : World) : Prop :=
  ∃ A m c, e = .returned (.tuple #[.slice A m c, .bool r.isSome]) ∧ Below w.heap.size w w' ∧ ∀ xs, r = some xs → m = xs.length ∧ RdI w' A xs
theorem numPost_none {w w' : World} (h : Below w.heap.size w w') : NumPost w none (.returned (.tuple #[.slice none 0 0, .bool false])) w' := ⟨none, 0, 0, rfl, h, fun xs h => by cases h⟩
theorem numPost_some {w w' : World} (k : Nat) (hk : k ≤ 2) (x y : Int) (h : Below w.heap.size w w') : NumPost w (some ([x, y].take k)) (.returned (.tuple #[.slice (some ⟨w'.heap.size, 0, none⟩) k 2, .bool true])) (w'.alloc (.cells #[.int .i64 x, .int .i64 y] 3)) :=
  ⟨_, _, _, rfl, below_alloc h _, fun xs h => by
    injection h with h
    subst h
    exact ⟨by rw [List.length_take]; simp; omega, (RdI.lit [x, y] (by simp) (heap_alloc_new w' _) rfl).take k⟩⟩
theorem form_index (q : Nat) (hq : q < 15) : ∀ w : World, (Instr.index 54 (.agg formsC) (.int .i64 (q : Int))).run Tryd.prog w = .ok (.agg #[.string (formAt q).1, .int .i64 (formAt q).2]) w := by
  intro w
  obtain rfl | rfl | rfl | rfl | rfl | rfl | rfl | rfl | rfl | rfl | rfl | rfl | rfl | rfl | rfl : q = 0 ∨ q = 1 ∨ q = 2 ∨ q = 3 ∨ q = 4 ∨ q = 5 ∨ q = 6 ∨ q = 7 ∨ q = 8 ∨ q = 9 ∨ q = 10 ∨ q = 11 ∨ q = 12 ∨ q = 13 ∨ q = 14 := by omega
  all_goals kernel_rfl

set_option maxRecDepth 100000 in
set_option maxHeartbeats 2000000 in
theorem numbers_any (q : Nat) (hq1 : 1 ≤ q) (hq : q < 15) (x y : Int) (A : Option Addr) (c : Nat) (l : List Int) (w : World) (hl : RdI w A l) :
    Calls Tryd.prog 31 #[.agg #[.int .i64 (q : Int), .int .i64 x, .int .i64 y, .slice A l.length c]] w (NumPost w (numbersP q x y l)) := by
  have hix := form_index q hq
  have HL := Lib.hid hl
  clear hl
  go_enter Tryd.func31, Tryd.ntmps31
  go_upto_region 1 with (fail)
  refine wp_box1 ?_
  intro W hb hsz h1
  have HC0 := Aside0.mk (blk_cell h1 0 rfl)
  have H1 := Lib.hid h1
  have HB := Lib.hid hb
  clear hb hsz h1
  have HBw := Aside0.mk (Below.refl W.heap.size W)
  refine start_ (n := 6) (S := fun w' => True) (ds := []) #[false, false, false, false, false, false] (by kernel_rfl) rfl rfl trivial (fun hHeld => ?_)
  refine with_tabW numbersR.tab1 numbersR.bits1 (fun HT_ HW_ => ?_)
  refine inv_at [0, 1, 2, 3, 4, 5] (fun a0_ b a w' => ∃ (g : Nat) (m4_ : Value), a = putSel a0_ b [(0, 5, .agg formsC), (1, 6, .pointer (some ⟨w.heap.size, 0, none⟩)), (2, 7, .int .i64 (q : Int)), (3, 8, .agg #[.string (formAt q).1, .int .i64 (formAt q).2]), (4, 4, m4_)] ∧ (Below W.heap.size W w') ∧ (b 4 = true → b 5 = false → w'.heap[g]? = some (.cells #[.string ⟨#[]⟩, .int .i64 0] 53 (0, 0)) ∧ W.heap.size ≤ g) ∧ (b 5 = true → w'.heap[g]? = some (.cells #[.string (formAt q).1, .int .i64 (formAt q).2] 53 (0, 0))) ∧ (b 4 = true → (m4_ : Value) = .pointer (some ⟨g, 0, none⟩))) HT_.out HW_.out (by kernel_rfl) (by kernel_rfl) ?_ ?_ ?_
  · exact ⟨0, .bool false, by simp only [putSel, Bool.false_eq_true, if_false], below_drew HBw.out, fun h_ => absurd h_ (by decide), fun h_ => absurd h_ (by decide), fun h_ => absurd h_ (by decide)⟩
  · skip
    clear HBw
    refine steps_cons ?_ ?_
    · rintro b a w' ⟨g, m4_, ha, Q_HBw, Q_HZ, Q_HG, Q_X4_⟩ hb_ hon hoff
      refine ⟨_, rfl, fun K hK => ?_⟩
      replace ha := Aside0.mk ha
      have HBw := Aside0.mk Q_HBw
      refine goes_ Tryd.func24 (by kernel_rfl) rfl #[] (by rfl) rfl rfl (by simp) ?_
      refine (forms_any w').mono ?_
      rintro e w1 ⟨rfl, hb1⟩
      refine ⟨_, rfl, ?_⟩
      refine hK.out _ _ ⟨g, m4_, (by rw [ha.out]; exact putSel_upk 0 hb_ rfl rfl rfl), below_thn HBw.out hb1, fun h0_ h1_ => ⟨blk_below (Q_HZ h0_ h1_).1 hb1, (Q_HZ h0_ h1_).2⟩, fun h0_ => absurd ((hoff 5 (by kernel_rfl)).symm.trans h0_) (by decide), Q_X4_⟩
    refine steps_cons ?_ ?_
    · rintro b a w' ⟨g, m4_, ha, Q_HBw, Q_HZ, Q_HG, Q_X4_⟩ hb_ hon hoff
      refine ⟨_, rfl, fun K hK => ?_⟩
      have e1 : a.tmps[1]? = some (.pointer (some ⟨w.heap.size, 0, none⟩)) := by rw [ha]; exact (putSel_off rfl).trans rfl
      replace ha := Aside0.mk ha
      have HBw := Aside0.mk Q_HBw
      refine value_ (w1 := w') (v := .pointer (some ⟨w.heap.size, 0, none⟩)) (by rfl) rfl ?_ ?_
      · go_simp
        (try simp only [i64_w])
        try rfl
      refine hK.out _ _ ⟨g, m4_, (by rw [ha.out]; exact putSel_upk 1 hb_ rfl rfl rfl), Q_HBw, Q_HZ, fun h0_ => absurd ((hoff 5 (by kernel_rfl)).symm.trans h0_) (by decide), Q_X4_⟩
    refine steps_cons ?_ ?_
    · rintro b a w' ⟨g, m4_, ha, Q_HBw, Q_HZ, Q_HG, Q_X4_⟩ hb_ hon hoff
      refine ⟨_, rfl, fun K hK => ?_⟩
      have e6 : a.tmps[6]? = some (.pointer (some ⟨w.heap.size, 0, none⟩)) := by rw [ha]; exact putSel_on (e := (1, 6, .pointer (some ⟨w.heap.size, 0, none⟩))) 1 rfl rfl (hon 1 (by kernel_rfl)) rfl
      replace ha := Aside0.mk ha
      have HBw := Aside0.mk Q_HBw
      have hc_ : w'.cell? ⟨w.heap.size, 0, none⟩ = some (.int .i64 (q : Int)) := cell_below HBw.out HC0.out
      refine value_ (w1 := w') (v := .int .i64 (q : Int)) (by rfl) rfl ?_ ?_
      · go_simp
        (try simp only [i64_w])
        try rfl
      refine hK.out _ _ ⟨g, m4_, (by rw [ha.out]; exact putSel_upk 2 hb_ rfl rfl rfl), Q_HBw, Q_HZ, fun h0_ => absurd ((hoff 5 (by kernel_rfl)).symm.trans h0_) (by decide), Q_X4_⟩
    refine steps_cons ?_ ?_
    · rintro b a w' ⟨g, m4_, ha, Q_HBw, Q_HZ, Q_HG, Q_X4_⟩ hb_ hon hoff
      refine ⟨_, rfl, fun K hK => ?_⟩
      have e5 : a.tmps[5]? = some (.agg formsC) := by rw [ha]; exact putSel_on (e := (0, 5, .agg formsC)) 0 rfl rfl (hon 0 (by kernel_rfl)) rfl
      have e7 : a.tmps[7]? = some (.int .i64 (q : Int)) := by rw [ha]; exact putSel_on (e := (2, 7, .int .i64 (q : Int))) 2 rfl rfl (hon 2 (by kernel_rfl)) rfl
      replace ha := Aside0.mk ha
      have HBw := Aside0.mk Q_HBw
      have hx_ := hix w'
      refine value_ (w1 := w') (v := .agg #[.string (formAt q).1, .int .i64 (formAt q).2]) (by rfl) rfl ?_ ?_
      · go_simp
        (try simp only [i64_w])
        try rfl
      refine hK.out _ _ ⟨g, m4_, (by rw [ha.out]; exact putSel_upk 3 hb_ rfl rfl rfl), Q_HBw, Q_HZ, fun h0_ => absurd ((hoff 5 (by kernel_rfl)).symm.trans h0_) (by decide), Q_X4_⟩
    refine steps_cons ?_ ?_
    · rintro b a w' ⟨g, m4_, ha, Q_HBw, Q_HZ, Q_HG, Q_X4_⟩ hb_ hon hoff
      refine ⟨_, rfl, fun K hK => ?_⟩
      replace ha := Aside0.mk ha
      have HBw := Aside0.mk Q_HBw
      refine value_ (w1 := w'.alloc (.cells #[.string ⟨#[]⟩, .int .i64 0] 53)) (v := .pointer (some ⟨w'.heap.size, 0, none⟩)) (by rfl) rfl (by kernel_rfl) ?_
      refine hK.out _ _ ⟨w'.heap.size, (.pointer (some ⟨w'.heap.size, 0, none⟩)), (by rw [ha.out]; exact putSel_upk 4 hb_ rfl rfl rfl), below_alloc HBw.out _, fun _ _ => ⟨heap_alloc_new w' _, HBw.out.size⟩, fun h0_ => absurd ((hoff 5 (by kernel_rfl)).symm.trans h0_) (by decide), fun _ => rfl⟩
    refine steps_cons ?_ ?_
    · rintro b a w' ⟨g, m4_, ha, Q_HBw, Q_HZ, Q_HG, Q_X4_⟩ hb_ hon hoff
      refine ⟨_, rfl, fun K hK => ?_⟩
      have e4 : a.tmps[4]? = some (m4_) := by rw [ha]; exact putSel_on (e := (4, 4, m4_)) 4 rfl rfl (hon 4 (by kernel_rfl)) rfl
      rw [Q_X4_ (hon 4 (by kernel_rfl))] at e4
      have e8 : a.tmps[8]? = some (.agg #[.string (formAt q).1, .int .i64 (formAt q).2]) := by rw [ha]; exact putSel_on (e := (3, 8, .agg #[.string (formAt q).1, .int .i64 (formAt q).2])) 3 rfl rfl (hon 3 (by kernel_rfl)) rfl
      replace ha := Aside0.mk ha
      have HBw := Aside0.mk Q_HBw
      have HZ := Aside0.mk (Q_HZ (hon 4 (by kernel_rfl)) hb_)
      refine skip_ (w1 := w'.setRow g #[.string (formAt q).1, .int .i64 (formAt q).2]) (by rfl) rfl (exec_store_blk g 53 _ _ rfl #[.string ⟨#[]⟩, .int .i64 0] #[.string (formAt q).1, .int .i64 (formAt q).2] (by first | exact eval_of e4) (by exact eval_of e8) HZ.out.1 (by kernel_rfl) rfl (by simp [Value.oneCell'])) ?_
      refine hK.out _ _ ⟨g, m4_, (by rw [ha.out]; exact putSel_none (v := undef) rfl), HBw.out.grown (set_blk2 HZ.out.1 _).2 HBw.out.size (fun k hk => by injection hk with hk; have := HZ.out.2; omega), fun _ h1_ => absurd ((up_self b 5).symm.trans h1_) (by decide), fun _ => (set_blk2 HZ.out.1 _).1, Q_X4_⟩
    exact steps_nil
  · rintro b a w' hall ⟨g, m4_, ha, Q_HBw, Q_HZ, Q_HG, Q_X4_⟩
    clear HBw
    have hb0_ := hall 0 (by kernel_rfl)
    have hb1_ := hall 1 (by kernel_rfl)
    have hb2_ := hall 2 (by kernel_rfl)
    have hb3_ := hall 3 (by kernel_rfl)
    have hb4_ := hall 4 (by kernel_rfl)
    have hb5_ := hall 5 (by kernel_rfl)
    subst ha
    obtain rfl := Q_X4_ hb4_
    simp only [putSel, hb0_, hb1_, hb2_, hb3_, hb4_, hb5_, if_true, Act.put, List.setIfInBounds_toArray, List.set_cons_zero, List.set_cons_succ]
    have HBw := Aside0.mk Q_HBw
    clear Q_HBw
    clear Q_HZ
    have HG := Aside0.mk (Q_HG hb5_)
    clear Q_HG
    clear hall hb0_ hb1_ hb2_ hb3_ hb4_ hb5_
    clear HT_ HW_ Q_X4_ hHeld HC0
    have HB2 := Lib.hid (below_thn HB.out HBw.out)
    have H2 := Lib.hid (blk_below H1.out HBw.out)
    have HL2 := Lib.hid (HL.out.below HB2.out)
    clear HB HBw H1 HL hix
    have f0 := blk_cell HG.out 1 rfl
    have c1 := blk_cell H2.out 1 rfl
    have c2 := blk_cell H2.out 2 rfl
    have c3 := blk_cell H2.out 3 rfl
    have hn := form_n q hq
    have HN : Hid (numbersP q x y l = if (formAt q).2 < 0 then (if x = 0 ∧ y = 0 then some l else none) else if ((formAt q).2 < 2 ∧ y ≠ 0) ∨ ((formAt q).2 < 1 ∧ x ≠ 0) ∨ 0 < l.length then none else some ([x, y].take (formAt q).2.toNat)) := rfl
    generalize (formAt q).2 = n at *
    obtain ⟨hn1, hn2⟩ := hn
    by_cases hneg : n < 0
    · have hnd : decide (n < 0) = true := decide_eq_true hneg
      rw [if_pos hneg] at HN
      have hxd : (x == 0) = true ∨ (x == 0) = false := by cases x == 0 <;> simp
      have hyd : (y == 0) = true ∨ (y == 0) = false := by cases y == 0 <;> simp
      have hmm : ∀ k, w'.drewN k = w'.drewN k := fun _ => rfl
      have HE : Hid ((numbersP q x y l).isSome = ((x == 0) && (y == 0))) := by
        show _ = _; rw [HN.out]
        by_cases h1 : x = 0 <;> by_cases h2 : y = 0 <;> simp [h1, h2]
      have HF : Hid (∀ xs, numbersP q x y l = some xs → xs = l) := by
        intro xs h; rw [HN.out] at h; split at h
        · injection h with h; exact h.symm
        · cases h
      clear HN hmm
      generalize numbersP q x y l = r at *
      rcases hxd with hx | hx
      case' inl => rcases hyd with hy | hy
      all_goals
        go_wp2
        go_quiet (fail)
        go_wp2
        go_ret2
        refine ⟨A, l.length, c, ?_, below_drewN HB2.out _, fun xs h => ?_⟩
        · rw [HE.out]; first | simp [hx, hy] | simp [hx]
        · rw [HF.out xs h]; exact ⟨rfl, HL2.out⟩
    · have hnd : decide (n < 0) = false := decide_eq_false hneg
      rw [if_neg hneg] at HN
      have hl : (decide (0 < l.length) = true ∧ 0 < l.length) ∨ (decide (0 < l.length) = false ∧ l.length = 0) := by
        by_cases h : 0 < l.length
        · exact .inl ⟨decide_eq_true h, h⟩
        · exact .inr ⟨decide_eq_false h, by omega⟩
      have hx : ((x != 0) = true ∧ x ≠ 0) ∨ ((x != 0) = false ∧ x = 0) := by by_cases h : x = 0 <;> simp [h]
      have hy : ((y != 0) = true ∧ y ≠ 0) ∨ ((y != 0) = false ∧ y = 0) := by by_cases h : y = 0 <;> simp [h]
      have hn012 : n = 0 ∨ n = 1 ∨ n = 2 := by omega
      clear hneg hn1 hn2
      rcases hn012 with rfl | rfl | rfl <;> rcases hl with ⟨l1, l2⟩ | ⟨l1, l2⟩ <;> rcases hx with ⟨x1, x2⟩ | ⟨x1, rfl⟩ <;> rcases hy with ⟨y1, y2⟩ | ⟨y1, rfl⟩
      all_goals
        have fA := fun o => cell_below (below_alloc (Below.refl w'.heap.size w') o) f0
        have hX := HN.out
        clear HN
        try simp [l2] at hX
        try simp [*] at hX
        have HX := Lib.hid hX
        clear hX
        go_wp2
        go_ret2
        rw [HX.out]
        first
        | exact numPost_none HB2.out
        | exact numPost_some 0 (Nat.zero_le _) _ _ HB2.out
        | exact numPost_some 1 (Nat.le_succ _) _ _ HB2.out
        | exact numPost_some 2 (Nat.le_refl _) _ _ HB2.out
end Go.Proofs.YtplghlokjgjjbaaDoor
