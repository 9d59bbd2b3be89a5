/- LinesTell returns true. -/
import Derived.Test.YtplghlokjgjjbaaDoorL18
import Derived.Test.YtplghlokjgjjbaaDoorL25
import Derived.Test.YtplghlokjgjjbaaDoorL26
import Derived.Test.YtplghlokjgjjbaaDoorL29
import Derived.Test.YtplghlokjgjjbaaDoorK4
namespace Go.Proofs.YtplghlokjgjjbaaDoor
open Go.RowKit Go.Proofs.YtplghlokjgjjbaaDoorW.PrintWords Go.Proofs.YtplghlokjgjjbaaDoorW.PrintLast
def tell3.T3 : Bool × List (List Nat × List Nat) := (true, [([], []), ([0], [0]), ([], []), ([], []), ([1, 1, 0, 1, 3], [1]), ([3, 2, 4, 0, 1, 2, 3, 4], [2, 3])])
def tell3.B3 : List Nat := [0, 1, 0, 0, 11, 31]
theorem tell3.tab3 : rtab .any (opsOf Tryd.f8 3) = tell3.T3 := by kernel_rfl
theorem tell3.bits3 : waitsOk tell3.T3.2 tell3.B3 = true := by kernel_rfl

theorem exec_load_blk {P : Program} {o : Oper} {ev : Operand → Value} {w : World} (g : Nat) (t : TypeId) (ad : Operand) (ho : o.op = .load t ad) (c : Array Value) (d : TypeDesc) (had : ev ad = .pointer (some ⟨g, 0, none⟩))
    (hg : w.heap[g]? = some (.cells c t (0, 0))) (hu : P.underlying t = some d) (hdd : (match d with | .struct _ | .array _ _ => true | _ => false) = true) (hi : (P.info? t).map (·.size) = some c.size) : (execOp ev o).run P w = .ok (.value (.agg c)) w := by
  have hr := run_loadVar_row (P := P) w g t t c (0, 0) d hg hu hdd hi
  unfold execOp
  simp only [ho, had, Instr.loadAt, Instr.sureAddr, Sem.run_bind, hr, Sem.run_pure, Result.andThen_ok]
theorem apart_ty {w : World} {g h : Nat} {cs ds : Array Value} {t u : TypeId} (h1 : w.heap[g]? = some (.cells cs t (0, 0))) (h2 : w.heap[h]? = some (.cells ds u (0, 0))) (hne : t ≠ u) : some g ≠ some h := by
  intro e
  injection e with e
  subst e
  rw [h1] at h2
  injection h2 with h2
  injection h2 with _ h2
  exact hne h2
theorem full_RdU {w : World} {g : Nat} {xs : List Int} {f : Int} (hg : w.heap[g]? = some (.cells (fullCsB xs f) 5 (0, 0))) (hl : xs.length ≤ 4611686018427387904) : RdU w g 0 xs :=
  ⟨hl, fun j hj => by rw [Nat.zero_add, full_cellB hg j (by omega), gi_leftB xs _ j hj]⟩
/-- What LinesTell holds. -/
def TellAt (w W : World) (gx gi g2 : Nat) (k x y : Int) (A : Option Addr) (c : Nat) (l bs : List Int) : Prop :=
  W.heap[w.heap.size]? = some (.cells #[.int .i64 k, .int .i64 x, .int .i64 y, .slice A l.length c] 26 (0, 0)) ∧
  W.heap[gx]? = some (.cells #[.int .i64 k, .int .i64 x, .int .i64 y, .slice (some ⟨g2, 0, none⟩) l.length (l.length + 3)] 26 (0, 0)) ∧
  W.heap[gi]? = some (.cells (fullCsB bs 71) 5 (0, 0)) ∧ W.heap[g2]? = some (.cells (fullCsI l 71) 3 (0, 0)) ∧ Below w.heap.size w W
theorem TellAt.below {w W W' : World} {gx gi g2 : Nat} {k x y : Int} {A : Option Addr} {c : Nat} {l bs : List Int} (h : TellAt w W gx gi g2 k x y A c l bs) (hb : Below W.heap.size W W') : TellAt w W' gx gi g2 k x y A c l bs :=
  ⟨blk_below h.1 hb, blk_below h.2.1 hb, blk_below h.2.2.1 hb, blk_below h.2.2.2.1 hb, below_thn h.2.2.2.2 hb⟩

set_option maxRecDepth 100000 in
set_option maxHeartbeats 4000000 in
theorem linesTell_any (s : ByteArray) (k x y : Int) (A : Option Addr) (c : Nat) (l : List Int) (A2 : Option Addr) (c2 : Nat) (bs : List Int) (m : Int) (w : World) (hm : w.cell? ⟨0, 0, none⟩ = some (.int .i64 m)) (hp : Pow w)
    (hsz : s.size ≤ 140737488351232) (hl : RdI w A l) (hb : RdB w A2 bs) (hbc : bs.length ≤ c2) (hbw : ∀ z ∈ bs, 0 ≤ z ∧ z ≤ 255) :
    Calls Tryd.prog 8 #[.string s, .agg #[.int .i64 k, .int .i64 x, .int .i64 y, .slice A l.length c], .slice A2 bs.length c2] w fun e w' => e = .returned (.bool true) ∧ Below w.heap.size w w' := by
  have HM := Lib.hid hm
  have HP := Lib.hid hp
  have HL := Lib.hid hl
  have HRB := Lib.hid hb
  have HBC := Lib.hid hbc
  have HBV := Lib.hid hbw
  clear hm hp hl hb hbc hbw
  by_cases hbig : 2000 < s.size ∨ 300 < l.length ∨ 2000 < bs.length
  · have hc : (2000 < s.size) ∨ (¬ 2000 < s.size ∧ 300 < l.length) ∨ (¬ 2000 < s.size ∧ ¬ 300 < l.length ∧ 2000 < bs.length) := by omega
    rcases hc with h | ⟨h, h'⟩ | ⟨h, h', h''⟩
    all_goals
      go_enter Tryd.func8, Tryd.ntmps8
      go_upto_region 1 with (fail)
      refine wp_box1 ?_
      intro W hb hsz1 h1
      have f3 := blk_cell h1 3 rfl
      have HA := Lib.hid (awake_any m W (cell_below hb HM.out))
      have HB := Lib.hid hb
      clear hb hsz1 h1
      go_wp2_with (fail)
      refine HA.out.mono ?_
      rintro e w1 ⟨rfl, hb1⟩
      have HB1 := Lib.hid (below_thn HB.out hb1)
      clear hb1 HA HB
      go_wp2
      go_ret
      exact ⟨rfl, HB1.out⟩
  have hs1 : ¬ 2000 < s.size := by omega
  have hl1 : ¬ 300 < l.length := by omega
  have hb1 : ¬ 2000 < bs.length := by omega
  obtain ⟨⟨⟨k2, x2, y2, l2⟩, e2⟩, hp2⟩ : ∃ r, parseS s = r := ⟨_, rfl⟩
  have HPr1 := Lib.hid (fun A c W h1 h2 => print_any' k x y A c l W h1 h2)
  have HPr2 := Lib.hid (fun A c W h2 => refPrint_any k x y A c l W h2)
  have HPa1 := Lib.hid (fun W h => parse_any s m W h (by omega))
  have HPa2 := Lib.hid (fun W => refParse_any s W (by omega))
  rw [hp2] at HPa1 HPa2
  have hl2 := parse_len hp2
  have HL2 : Hid (l2.length ≤ 4611686018427387904) := by show _ ≤ _; omega
  clear hp2 hl2 hbig
  generalize printS k x y l = r1 at *
  generalize strOf r1 = t1 at *
  generalize errOf r1 = n1 at *
  go_enter Tryd.func8, Tryd.ntmps8
  go_upto_region 1 with (fail)
  refine wp_box1 ?_
  intro W hb hsz1 h1
  have f3 := blk_cell h1 3 rfl
  have H1 := Lib.hid h1
  have HB := Lib.hid hb
  have HOB := Lib.hid (fun W' (h : Below W.heap.size W W') => ownB_any A2 c2 bs 71 W' ((HRB.out.below hb).below h) (by omega))
  clear hb hsz1 h1
  go_upto_region 3 with (fail)
  clear f3
  have HBw := Aside0.mk (Below.refl W.heap.size W)
  refine start_ (n := 6) (S := fun w' => True) (ds := []) #[false, false, false, false, false, false] (by kernel_rfl) rfl rfl trivial (fun hHeld => ?_)
  refine with_tabW tell3.tab3 tell3.bits3 (fun HT_ HW_ => ?_)
  refine inv_at [0, 1, 2, 3, 4, 5] (fun a0_ b a w' => ∃ (gi : Nat) (gx : Nat) (m1_ : Value) (m3_ : Value) (m4_ : Value), a = putSel a0_ b [(0, 32, .slice A2 bs.length c2), (1, 33, m1_), (2, 34, .agg #[.int .i64 k, .int .i64 x, .int .i64 y, .slice A l.length c]), (3, 8, m3_), (4, 7, m4_)] ∧ (Below W.heap.size W w') ∧ (b 1 = true → w'.heap[gi]? = some (.cells (fullCsB bs 71) 5 (0, 0)) ∧ W.heap.size ≤ gi) ∧ (b 3 = true → b 5 = false → w'.heap[gx]? = some (.cells zeroCs 26 (0, 0)) ∧ W.heap.size ≤ gx) ∧ (b 5 = true → w'.heap[gx]? = some (.cells #[.int .i64 k, .int .i64 x, .int .i64 y, .slice A l.length c] 26 (0, 0)) ∧ W.heap.size ≤ gx) ∧ (b 1 = true → (m1_ : Value) = .slice (some ⟨gi, 0, none⟩) bs.length (bs.length + 3)) ∧ (b 3 = true → (m3_ : Value) = .pointer (some ⟨gx, 0, none⟩)) ∧ (b 4 = true → (m4_ : Value) = .slice (some ⟨gi, 0, none⟩) bs.length (bs.length + 3))) HT_.out HW_.out (by kernel_rfl) (by kernel_rfl) ?_ ?_ ?_
  · exact ⟨0, 0, .bool false, .bool false, .bool false, by simp only [putSel, Bool.false_eq_true, if_false], below_drew HBw.out, fun h_ => absurd h_ (by decide), fun h_ => absurd h_ (by decide), fun h_ => absurd h_ (by decide), fun h_ => absurd h_ (by decide), fun h_ => absurd h_ (by decide), fun h_ => absurd h_ (by decide)⟩
  · skip
    clear HBw
    refine steps_cons ?_ ?_
    · rintro b a w' ⟨gi, gx, m1_, m3_, m4_, ha, Q_HBw, Q_HIn, Q_HZ, Q_HG, Q_X1_, Q_X3_, Q_X4_⟩ hb_ hon hoff
      refine ⟨_, rfl, fun K hK => ?_⟩
      have e2 : a.tmps[2]? = some (.slice A2 bs.length c2) := by rw [ha]; exact (putSel_off rfl).trans rfl
      replace ha := Aside0.mk ha
      have HBw := Aside0.mk Q_HBw
      refine value_ (w1 := w') (v := .slice A2 bs.length c2) (by rfl) rfl ?_ ?_
      · go_simp
        (try simp only [i64_w])
        try rfl
      refine hK.out _ _ ⟨gi, gx, m1_, m3_, m4_, (by rw [ha.out]; exact putSel_upk 0 hb_ rfl rfl rfl), Q_HBw, fun h0_ => absurd ((hoff 1 (by kernel_rfl)).symm.trans h0_) (by decide), Q_HZ, fun h0_ => absurd ((hoff 5 (by kernel_rfl)).symm.trans h0_) (by decide), fun h0_ => absurd ((hoff 1 (by kernel_rfl)).symm.trans h0_) (by decide), Q_X3_, fun h0_ => absurd ((hoff 4 (by kernel_rfl)).symm.trans h0_) (by decide)⟩
    refine steps_cons ?_ ?_
    · rintro b a w' ⟨gi, gx, m1_, m3_, m4_, ha, Q_HBw, Q_HIn, Q_HZ, Q_HG, Q_X1_, Q_X3_, Q_X4_⟩ hb_ hon hoff
      refine ⟨_, rfl, fun K hK => ?_⟩
      have e32 : a.tmps[32]? = some (.slice A2 bs.length c2) := by rw [ha]; exact putSel_on (e := (0, 32, .slice A2 bs.length c2)) 0 rfl rfl (hon 0 (by kernel_rfl)) rfl
      replace ha := Aside0.mk ha
      have HBw := Aside0.mk Q_HBw
      refine goes_ Tryd.func16 (by kernel_rfl) rfl #[.slice A2 bs.length c2, .int .u8 71] (by rfl) rfl rfl (by simp [Act.eval, e32]) ?_
      refine (HOB.out w' HBw.out).mono ?_
      rintro e w1 ⟨rfl, hg1, hb1⟩
      refine ⟨_, rfl, ?_⟩
      refine hK.out _ _ ⟨w'.heap.size, gx, (.slice (some ⟨w'.heap.size, 0, none⟩) bs.length (bs.length + 3)), m3_, m4_, (by rw [ha.out]; exact putSel_upk 1 hb_ rfl rfl rfl), below_thn HBw.out hb1, fun _ => ⟨hg1, HBw.out.size⟩, fun h0_ h1_ => ⟨blk_below (Q_HZ h0_ h1_).1 hb1, (Q_HZ h0_ h1_).2⟩, fun h0_ => absurd ((hoff 5 (by kernel_rfl)).symm.trans h0_) (by decide), fun _ => rfl, Q_X3_, fun h0_ => absurd ((hoff 4 (by kernel_rfl)).symm.trans h0_) (by decide)⟩
    refine steps_cons ?_ ?_
    · rintro b a w' ⟨gi, gx, m1_, m3_, m4_, ha, Q_HBw, Q_HIn, Q_HZ, Q_HG, Q_X1_, Q_X3_, Q_X4_⟩ hb_ hon hoff
      refine ⟨_, rfl, fun K hK => ?_⟩
      have e4 : a.tmps[4]? = some (.pointer (some ⟨w.heap.size, 0, none⟩)) := by rw [ha]; exact (putSel_off rfl).trans rfl
      replace ha := Aside0.mk ha
      have HBw := Aside0.mk Q_HBw
      refine value_ (w1 := w') (v := .agg #[.int .i64 k, .int .i64 x, .int .i64 y, .slice A l.length c]) (by rfl) rfl (exec_load_blk w.heap.size 26 _ rfl #[.int .i64 k, .int .i64 x, .int .i64 y, .slice A l.length c] _ (by first | exact eval_of e4 | rfl) (blk_below H1.out HBw.out) Tryd.underlying26 rfl (cmd_info _ rfl)) ?_
      refine hK.out _ _ ⟨gi, gx, m1_, m3_, m4_, (by rw [ha.out]; exact putSel_upk 2 hb_ rfl rfl rfl), HBw.out, fun h0_ => (Q_HIn h0_), fun h0_ h1_ => (Q_HZ h0_ h1_), fun h0_ => absurd ((hoff 5 (by kernel_rfl)).symm.trans h0_) (by decide), Q_X1_, Q_X3_, Q_X4_⟩
    refine steps_cons ?_ ?_
    · rintro b a w' ⟨gi, gx, m1_, m3_, m4_, ha, Q_HBw, Q_HIn, Q_HZ, Q_HG, Q_X1_, Q_X3_, Q_X4_⟩ hb_ hon hoff
      refine ⟨_, rfl, fun K hK => ?_⟩
      replace ha := Aside0.mk ha
      have HBw := Aside0.mk Q_HBw
      refine value_ (w1 := w'.alloc (.cells zeroCs 26)) (v := .pointer (some ⟨w'.heap.size, 0, none⟩)) (by rfl) rfl (by kernel_rfl) ?_
      refine hK.out _ _ ⟨gi, w'.heap.size, m1_, (.pointer (some ⟨w'.heap.size, 0, none⟩)), m4_, (by rw [ha.out]; exact putSel_upk 3 hb_ rfl rfl rfl), below_alloc HBw.out _, fun h0_ => ⟨blk_alloc (Q_HIn h0_).1 _, (Q_HIn h0_).2⟩, fun _ _ => ⟨heap_alloc_new w' _, HBw.out.size⟩, fun h0_ => absurd ((hoff 5 (by kernel_rfl)).symm.trans h0_) (by decide), Q_X1_, fun _ => rfl, fun h0_ => absurd ((hoff 4 (by kernel_rfl)).symm.trans h0_) (by decide)⟩
    refine steps_cons ?_ ?_
    · rintro b a w' ⟨gi, gx, m1_, m3_, m4_, ha, Q_HBw, Q_HIn, Q_HZ, Q_HG, Q_X1_, Q_X3_, Q_X4_⟩ hb_ hon hoff
      refine ⟨_, rfl, fun K hK => ?_⟩
      have e33 : a.tmps[33]? = some (m1_) := by rw [ha]; exact putSel_on (e := (1, 33, m1_)) 1 rfl rfl (hon 1 (by kernel_rfl)) rfl
      rw [Q_X1_ (hon 1 (by kernel_rfl))] at e33
      replace ha := Aside0.mk ha
      have HBw := Aside0.mk Q_HBw
      have HIn := Aside0.mk (Q_HIn (hon 1 (by kernel_rfl)))
      have HZ := Aside0.mk (Q_HZ (hon 3 (by kernel_rfl)) (hoff 5 (by kernel_rfl)))
      refine value_ (w1 := w') (v := .slice (some ⟨gi, 0, none⟩) bs.length (bs.length + 3)) (by rfl) rfl ?_ ?_
      · go_simp
        (try simp only [i64_w])
        try rfl
      refine hK.out _ _ ⟨gi, gx, m1_, m3_, (.slice (some ⟨gi, 0, none⟩) bs.length (bs.length + 3)), (by rw [ha.out]; exact putSel_upk 4 hb_ rfl rfl rfl), Q_HBw, Q_HIn, Q_HZ, fun h0_ => absurd ((hoff 5 (by kernel_rfl)).symm.trans h0_) (by decide), Q_X1_, Q_X3_, fun _ => rfl⟩
    refine steps_cons ?_ ?_
    · rintro b a w' ⟨gi, gx, m1_, m3_, m4_, ha, Q_HBw, Q_HIn, Q_HZ, Q_HG, Q_X1_, Q_X3_, Q_X4_⟩ hb_ hon hoff
      refine ⟨_, rfl, fun K hK => ?_⟩
      have e8 : a.tmps[8]? = some (m3_) := by rw [ha]; exact putSel_on (e := (3, 8, m3_)) 3 rfl rfl (hon 3 (by kernel_rfl)) rfl
      rw [Q_X3_ (hon 3 (by kernel_rfl))] at e8
      have e34 : a.tmps[34]? = some (.agg #[.int .i64 k, .int .i64 x, .int .i64 y, .slice A l.length c]) := by rw [ha]; exact putSel_on (e := (2, 34, .agg #[.int .i64 k, .int .i64 x, .int .i64 y, .slice A l.length c])) 2 rfl rfl (hon 2 (by kernel_rfl)) rfl
      replace ha := Aside0.mk ha
      have HBw := Aside0.mk Q_HBw
      have HIn := Aside0.mk (Q_HIn (hon 1 (by kernel_rfl)))
      have HZ := Aside0.mk (Q_HZ (hon 3 (by kernel_rfl)) hb_)
      refine skip_ (w1 := w'.setRow gx #[.int .i64 k, .int .i64 x, .int .i64 y, .slice A l.length c]) (by rfl) rfl (exec_store_blk gx 26 _ _ rfl zeroCs #[.int .i64 k, .int .i64 x, .int .i64 y, .slice A l.length c] (by first | exact eval_of e8) (by exact eval_of e34) HZ.out.1 (cmd_info _ rfl) rfl (cmd_one _ _ _ _ _ _)) ?_
      refine hK.out _ _ ⟨gi, gx, m1_, m3_, m4_, (by rw [ha.out]; exact putSel_none (v := undef) rfl), HBw.out.grown (set_blk2 HZ.out.1 _).2 HBw.out.size (fun k hk => by injection hk with hk; have := HZ.out.2; omega), fun _ => ⟨((set_blk2 HZ.out.1 _).2.block gi (blk_lt HIn.out.1) (apart_ty HIn.out.1 HZ.out.1 (by decide))).trans HIn.out.1, HIn.out.2⟩, fun _ h1_ => absurd ((up_self b 5).symm.trans h1_) (by decide), fun _ => ⟨(set_blk2 HZ.out.1 _).1, HZ.out.2⟩, Q_X1_, Q_X3_, Q_X4_⟩
    exact steps_nil
  · rintro b a w' hall ⟨gi, gx, m1_, m3_, m4_, ha, Q_HBw, Q_HIn, Q_HZ, Q_HG, Q_X1_, Q_X3_, Q_X4_⟩
    clear HBw
    have hb0_ := hall 0 (by kernel_rfl)
    have hb1_ := hall 1 (by kernel_rfl)
    have hb2_ := hall 2 (by kernel_rfl)
    have hb3_ := hall 3 (by kernel_rfl)
    have hb4_ := hall 4 (by kernel_rfl)
    have hb5_ := hall 5 (by kernel_rfl)
    subst ha
    obtain rfl := Q_X1_ hb1_
    obtain rfl := Q_X3_ hb3_
    obtain rfl := Q_X4_ hb4_
    simp only [putSel, hb0_, hb1_, hb2_, hb3_, hb4_, hb5_, if_true, Act.put, List.setIfInBounds_toArray, List.set_cons_zero, List.set_cons_succ]
    have HBw := Aside0.mk Q_HBw
    clear Q_HBw
    have HIn := Aside0.mk (Q_HIn hb1_)
    clear Q_HIn
    clear Q_HZ
    have HG := Aside0.mk (Q_HG hb5_)
    clear Q_HG
    clear hall hb0_ hb1_ hb2_ hb3_ hb4_ hb5_
    clear HT_ HW_ Q_X4_ hHeld
    have hgW : w.heap.size < W.heap.size := blk_lt H1.out
    have HB2 := Lib.hid (below_thn HB.out HBw.out)
    have HC2 := Lib.hid (blk_below H1.out HBw.out)
    have HG2 := Lib.hid HG.out.1
    have HI2 := Lib.hid HIn.out.1
    have hgx : W.heap.size ≤ gx := HG.out.2
    have HOI := Lib.hid (ownI_any A c l 71 w' (HL.out.below HB2.out) (by omega))
    clear HB HBw H1 HG HIn HOB
    have f3 := blk_cell HC2.out 3 rfl
    go_wp2_with (fail)
    refine HOI.out.mono ?_
    rintro e w2 ⟨rfl, hg2, hb2⟩
    have HG3 := Lib.hid (blk_below HG2.out hb2)
    have HI3 := Lib.hid (blk_below HI2.out hb2)
    have HC3 := Lib.hid (blk_below HC2.out hb2)
    have HB3 := Lib.hid (below_thn HB2.out hb2)
    have HO3 := Lib.hid hg2
    clear HOI hb2 hg2 HG2 HI2 HC2 HB2 f3
    generalize w'.heap.size = g2 at *
    have q3 := blk_cell HG3.out 3 rfl
    have q3f := blk_free HG3.out 3
    have hS3 := set_blk HG3.out 3 (.slice (some ⟨g2, 0, none⟩) l.length (l.length + 3))
    have HS3 := Lib.hid hS3
    clear hS3
    go_upto_region 5 with (fail)
    clear q3 q3f
    have HT4 : Hid (TellAt w (w2.setCell ⟨gx, 3, none⟩ (.slice (some ⟨g2, 0, none⟩) l.length (l.length + 3))) gx gi g2 k x y A c l bs) :=
      ⟨(HS3.out.2.block w.heap.size (blk_lt HC3.out) (by simp; omega)).trans HC3.out, HS3.out.1,
       (HS3.out.2.block gi (blk_lt HI3.out) (apart_ty HI3.out HG3.out (by decide))).trans HI3.out,
       (HS3.out.2.block g2 (blk_lt HO3.out) (apart_ty HO3.out HG3.out (by decide))).trans HO3.out,
       HB3.out.grown HS3.out.2 HB3.out.size (fun k hk => by injection hk with hk; omega)⟩
    clear HS3 HG3 HI3 HC3 HB3 HO3
    generalize w2.setCell ⟨gx, 3, none⟩ (.slice (some ⟨g2, 0, none⟩) l.length (l.length + 3)) = W4 at *
    go_wp2_with (fail)
    refine (HPa1.out W4 (cell_below HT4.out.2.2.2.2 HM.out)).mono ?_
    rintro e w5 ⟨v5, rfl, hv5, hb5⟩
    obtain ⟨A5, c5, rfl, hr5⟩ := hv5.len HL2.out
    have HT5 := Lib.hid (HT4.out.below hb5)
    have HR5 := Lib.hid hr5
    clear HT4 HPa1 hv5 hr5 hb5
    go_upto_region 6 with (fail)
    refine wp_box1 ?_
    intro W6 hb6 hsz6 h6
    have HT6 := Lib.hid (HT5.out.below hb6)
    have HR6 := Lib.hid (HR5.out.below hb6)
    have H6 := Lib.hid h6
    clear HT5 HR5 hb6 hsz6 h6
    generalize w5.heap.size = g5 at *
    go_wp2_with (fail)
    refine (HPa2.out W6).mono ?_
    rintro e w7 ⟨v7, rfl, hv7, hb7⟩
    obtain ⟨A7, c7, rfl, hr7⟩ := hv7.len HL2.out
    have HT7 := Lib.hid (HT6.out.below hb7)
    have HR57 := Lib.hid (HR6.out.below hb7)
    have H57 := Lib.hid (blk_below H6.out hb7)
    have HR7 := Lib.hid hr7
    clear HT6 HPa2 hv7 hr7 hb7 HR6 H6
    go_upto_region 7 with (fail)
    refine wp_box1 ?_
    intro W8 hb8 hsz8 h8
    have HT8 := Lib.hid (HT7.out.below hb8)
    have HR58 := Lib.hid (HR57.out.below hb8)
    have HR78 := Lib.hid (HR7.out.below hb8)
    have H58 := Lib.hid (blk_below H57.out hb8)
    have H8 := Lib.hid h8
    clear HT7 HR57 HR7 H57 hb8 hsz8 h8
    generalize w7.heap.size = g7 at *
    go_wp2_with (refine step_load_blk gx rfl 26 _ rfl _ _ rfl HT8.out.2.1 Tryd.underlying26 rfl (cmd_info _ rfl) ?_)
    refine (HPr1.out (some ⟨g2, 0, none⟩) (l.length + 3) W8 (HP.out.below HT8.out.2.2.2.2) (full_rdI HT8.out.2.2.2.1 (by omega))).mono ?_
    rintro e w9 ⟨rfl, hb9⟩
    have HT9 := Lib.hid (HT8.out.below hb9)
    have HR59 := Lib.hid (HR58.out.below hb9)
    have HR79 := Lib.hid (HR78.out.below hb9)
    have H59 := Lib.hid (blk_below H58.out hb9)
    have H79 := Lib.hid (blk_below H8.out hb9)
    clear HT8 HR58 HR78 H58 H8 hb9 HPr1
    go_wp2_with (refine step_load_blk w.heap.size rfl 26 _ rfl _ _ rfl HT9.out.1 Tryd.underlying26 rfl (cmd_info _ rfl) ?_)
    refine (HPr2.out A c w9 (HL.out.below HT9.out.2.2.2.2)).mono ?_
    rintro e w10 ⟨rfl, hb10⟩
    have HT10 := Lib.hid (HT9.out.below hb10)
    have HR5a := Lib.hid (HR59.out.below hb10)
    have HR7a := Lib.hid (HR79.out.below hb10)
    have H5a := Lib.hid (blk_below H59.out hb10)
    have H7a := Lib.hid (blk_below H79.out hb10)
    clear HT9 HR59 HR79 H59 H79 hb10 HPr2
    go_wp2_with (fail)
    refine (awake_any m w10 (cell_below HT10.out.2.2.2.2 HM.out)).mono ?_
    rintro e w11 ⟨rfl, hb11⟩
    have HT11 := Lib.hid (HT10.out.below hb11)
    have HR5b := Lib.hid (HR5a.out.below hb11)
    have HR7b := Lib.hid (HR7a.out.below hb11)
    have H5b := Lib.hid (blk_below H5a.out hb11)
    have H7b := Lib.hid (blk_below H7a.out hb11)
    clear HT10 HR5a HR7a H5a H7a hb11
    have q50 := blk_cell H5b.out 0 rfl
    have q51 := blk_cell H5b.out 1 rfl
    have q52 := blk_cell H5b.out 2 rfl
    have q53 := blk_cell H5b.out 3 rfl
    have q70 := blk_cell H7b.out 0 rfl
    have q71 := blk_cell H7b.out 1 rfl
    have q72 := blk_cell H7b.out 2 rfl
    have q73 := blk_cell H7b.out 3 rfl
    go_wp2_with (fail)
    refine (command_same k2 x2 y2 A5 A7 c5 c7 l2 w11 HR5b.out HR7b.out).mono ?_
    rintro e w12 ⟨rfl, hb12⟩
    have HT12 := Lib.hid (HT11.out.below hb12)
    clear HT11 HR5b HR7b H5b H7b hb12 q50 q51 q52 q53 q70 q71 q72 q73
    go_wp2_with (fail)
    refine (all_any gi 0 (bs.length + 3) (some ⟨gi, 0, none⟩) bs w12 (fun _ => ⟨rfl, full_RdU HT12.out.2.2.1 (by omega)⟩) (by omega) (by omega)).mono ?_
    rintro e w13 ⟨v13, rfl, ho13, hb13⟩
    have HT13 := Lib.hid (HT12.out.below hb13)
    have hsl := allS_length bs
    obtain ⟨A13, c13, rfl, hr13⟩ := OwS.reads ho13 (by omega)
    have HR13 := Lib.hid hr13
    clear HT12 ho13 hr13 hb13
    go_wp2_with (fail)
    refine (refAll_any c2 A2 bs w13 (HRB.out.below HT13.out.2.2.2.2) HBV.out (by omega) HBC.out).mono ?_
    rintro e w14 ⟨v14, rfl, ho14, hb14⟩
    have HT14 := Lib.hid (HT13.out.below hb14)
    have HR13b := Lib.hid (HR13.out.below hb14)
    obtain ⟨A14, c14, rfl, hr14⟩ := OwS.reads ho14 (by omega)
    have HR14 := Lib.hid hr14
    clear HT13 HR13 ho14 hr14 hb14
    go_wp2_with (fail)
    refine (plainS_any A13 A14 c13 c14 (allS bs) (allS bs) w14 HR13b.out HR14.out).mono ?_
    rintro e w15 ⟨rfl, hb15⟩
    simp only [decide_true]
    have HT15 := Lib.hid (HT14.out.below hb15)
    clear HT14 HR13b HR14 hb15 hsl
    go_wp2_with (fail)
    refine (keptB_any gi A2 c2 bs 71 w15 HT15.out.2.2.1 (HRB.out.below HT15.out.2.2.2.2)).mono ?_
    rintro e w16 ⟨rfl, hb16⟩
    have HT16 := Lib.hid (HT15.out.below hb16)
    clear HT15 hb16
    have q3 := blk_cell HT16.out.1 3 rfl
    have p3 := blk_cell HT16.out.2.1 3 rfl
    go_wp2_with (fail)
    refine (keptI_any g2 A c l 71 w16 HT16.out.2.2.2.1 (HL.out.below HT16.out.2.2.2.2)).mono ?_
    rintro e w17 ⟨rfl, hb17⟩
    have HT17 := Lib.hid (HT16.out.below hb17)
    clear HT16 hb17 q3 p3
    go_wp2
    go_ret
    exact ⟨rfl, HT17.out.2.2.2.2⟩
end Go.Proofs.YtplghlokjgjjbaaDoor
