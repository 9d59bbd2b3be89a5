/- graph.Right: a graph's edges rise, and join its vertices. -/
import Derived.Test.YtjcgokfjdagckaaB1
namespace Go.Proofs.Ytjcgokfjdagckaa
open Go.RowKit

def gE (es : List (Int × Int)) (k : Nat) : Int × Int := es.getD k (0, 0)
theorem gE_get {es : List (Int × Int)} {k : Nat} (h : k < es.length) : gE es k = es[k] := by simp [gE, List.getD_eq_getElem?_getD, List.getElem?_eq_getElem h]
theorem drop_gE {es : List (Int × Int)} {k : Nat} (h : k < es.length) : es.drop k = gE es k :: es.drop (k + 1) := by rw [List.drop_eq_getElem_cons h, gE_get h]
theorem take_gE {es : List (Int × Int)} {k : Nat} (h : k < es.length) : es.take (k + 1) = es.take k ++ [gE es k] := by rw [List.take_succ_eq_append_getElem h, gE_get h]
/-- A slice of edges that is read. -/
def RdE (w : World) (A : Option Addr) (es : List (Int × Int)) : Prop :=
  es.length ≤ 4611686018427387904 ∧ ∀ j, j < es.length → ∃ ad, A = some ad ∧ w.cell? (ad.add (j * 2)) = some (.int .i64 (gE es j).1) ∧ w.cell? ⟨(ad.add (j * 2)).block, (ad.add (j * 2)).off + 1, none⟩ = some (.int .i64 (gE es j).2)
theorem RdE.below {w w1 : World} {A : Option Addr} {es : List (Int × Int)} (h : RdE w A es) (hb : Below w.heap.size w w1) : RdE w1 A es :=
  ⟨h.1, fun j hj => by obtain ⟨ad, e, hc, hd⟩ := h.2 j hj; exact ⟨ad, e, cell_below hb hc, cell_below hb hd⟩⟩

/-- A literal of edges, just laid. -/
def flatE : List (Int × Int) → List Value
  | [] => []
  | e :: r => .int .i64 e.1 :: .int .i64 e.2 :: flatE r
theorem flatE_get : ∀ (es : List (Int × Int)) (j : Nat), j < es.length → (flatE es)[j * 2]? = some (.int .i64 (gE es j).1) ∧ (flatE es)[j * 2 + 1]? = some (.int .i64 (gE es j).2)
  | [], j, h => by simp at h
  | e :: r, 0, _ => by simp [flatE, gE]
  | e :: r, j + 1, h => by
    have := flatE_get r j (by simpa using h)
    rw [show (j + 1) * 2 = j * 2 + 1 + 1 from by omega]
    simpa [flatE, gE] using this
theorem RdE.lit {w : World} {g : Nat} {t : TypeId} {fr : Nat × Nat} (es : List (Int × Int)) (hn : es.length ≤ 4611686018427387904) {cs : Array Value} (h : w.heap[g]? = some (.cells cs t fr)) (hcs : cs = (flatE es).toArray) : RdE w (some ⟨g, 0, none⟩) es :=
  ⟨hn, fun j hj => ⟨_, rfl, by
    have e : (⟨g, 0, none⟩ : Addr).add (j * 2) = ⟨g, j * 2, none⟩ := by unfold Addr.add; split <;> simp_all
    rw [e]; refine ⟨blk_cell h _ ?_, blk_cell h _ ?_⟩
    · subst hcs; simpa using (flatE_get es j hj).1
    · subst hcs; simpa using (flatE_get es j hj).2⟩⟩

def okAt (n : Int) (es : List (Int × Int)) (i : Nat) : Bool :=
  decide (0 ≤ (gE es i).1) && decide ((gE es i).1 < (gE es i).2) && decide ((gE es i).2 < n) && (decide (i = 0) || decide (cmpE (gE es (i - 1)) (gE es i) < 0))
def okUp (n : Int) (es : List (Int × Int)) (k : Nat) : Bool := (List.range k).all (okAt n es)
def rightB (n : Int) (es : List (Int × Int)) : Bool := decide (0 ≤ n) && decide (n ≤ 4096) && decide (es.length ≤ 65536) && okUp n es es.length
theorem okUp_succ {n : Int} {es : List (Int × Int)} {k : Nat} (h : okUp n es k = true) (h' : okAt n es k = true) : okUp n es (k + 1) = true := by
  unfold okUp at *; rw [List.range_succ, List.all_append, h]; simpa using h'
theorem right_not {n : Int} {es : List (Int × Int)} {k : Nat} (hk : k < es.length) (h' : okAt n es k = false) : rightB n es = false := by
  unfold rightB okUp
  have : (List.range es.length).all (okAt n es) = false := by
    rw [List.all_eq_false]; exact ⟨k, by simpa using hk, by simp [h']⟩
  rw [this]; simp

set_option maxHeartbeats 1000000 in
theorem graphRight_any (n : Int) (A : Option Addr) (c : Nat) (es : List (Int × Int)) (w : World) (h : RdE w A es) : Calls Try.prog 22 #[.agg #[.int .i64 n, .slice A es.length c]] w fun e w' => e = .returned (.bool (rightB n es)) ∧ Below w.heap.size w w' := by
  have h1 := h.1
  have HR := Lib.hid h
  clear h
  by_cases hn0 : n < 0
  · have hr : rightB n es = false := by unfold rightB; rw [decide_eq_false (by omega : ¬ 0 ≤ n)]; simp
    rw [hr]; clear hr
    go_enter Try.func22, Try.ntmps22
    go_wp2
    go_ret
    exact ⟨rfl, below_alloc (Below.refl _ _) _⟩
  by_cases hn1 : 4096 < n
  · have hr : rightB n es = false := by unfold rightB; rw [decide_eq_false (by omega : ¬ n ≤ 4096)]; simp
    rw [hr]; clear hr
    go_enter Try.func22, Try.ntmps22
    go_wp2
    go_ret
    exact ⟨rfl, below_alloc (Below.refl _ _) _⟩
  by_cases hl : 65536 < es.length
  · have hr : rightB n es = false := by unfold rightB; rw [decide_eq_false (by omega : ¬ es.length ≤ 65536)]; simp
    rw [hr]; clear hr
    go_enter Try.func22, Try.ntmps22
    go_wp2
    go_ret
    exact ⟨rfl, below_alloc (Below.refl _ _) _⟩
  have hl' : decide (65536 < (es.length : Int)) = false := decide_eq_false (by omega)
  clear hl
  go_enter Try.func22, Try.ntmps22
  go_wp2
  refine wp_box1 ?_
  intro W hb hs hg
  have HG := Lib.hid hg
  have HB := Lib.hid hb
  clear hg hb hs
  go_loopw [25] (fun i wr => ∃ k : Nat, k ≤ es.length ∧ i = .int .i64 k ∧ Hid (okUp n es k = true) ∧ Hid (Below w.heap.size w wr) ∧ Hid (wr.heap[w.heap.size]? = some (.cells #[.int .i64 n, .slice A es.length c] 25))) (fun i _ => es.length - (intOf i).toNat)
  case atStart => exact ⟨0, Nat.zero_le _, rfl, rfl, HB, HG⟩
  case round =>
    obtain ⟨k, hk, rfl, HK, HBr, HGr⟩ := hrel
    clear HB HG
    by_cases hlt : k < es.length
    · obtain ⟨ad, rfl, c1, c2⟩ := (HR.out.below (HBr.out)).2 k hlt
      have cg1 := blk_cell HGr.out 0 rfl
      have cg2 := blk_cell HGr.out 1 rfl
      by_cases x1 : (gE es k).1 < 0
      · have hno : okAt n es k = false := by unfold okAt; rw [decide_eq_false (by omega : ¬ 0 ≤ (gE es k).1)]; simp
        have HR0 := Lib.hid (right_not hlt hno); clear hno
        have d1 : decide ((gE es k).1 < 0) = true := decide_eq_true x1
        clear x1
        go_wp2
        refine wp_box1 ?_
        intro V hbV hsV hV
        have v1 := blk_cell hV 0 rfl
        have v2 := blk_cell hV 1 rfl
        have f1 := cell_below hbV cg1
        have HV := Lib.hid hbV
        clear hbV hsV hV c1 c2 cg1 cg2
        go_quiet (fail)
        go_wp2
        go_ret
        exact ⟨ret_bool HR0.out.symm, below_drewN (below_thn HBr.out HV.out) _⟩
      have e1 : decide ((gE es k).1 < 0) = false := decide_eq_false x1
      by_cases x2 : (gE es k).2 ≤ (gE es k).1
      · have hno : okAt n es k = false := by unfold okAt; rw [decide_eq_false (by omega : ¬ (gE es k).1 < (gE es k).2)]; simp
        have HR0 := Lib.hid (right_not hlt hno); clear hno
        have d1 : decide ((gE es k).2 ≤ (gE es k).1) = true := decide_eq_true x2
        clear x2
        go_wp2
        refine wp_box1 ?_
        intro V hbV hsV hV
        have v1 := blk_cell hV 0 rfl
        have v2 := blk_cell hV 1 rfl
        have f1 := cell_below hbV cg1
        have HV := Lib.hid hbV
        clear hbV hsV hV c1 c2 cg1 cg2
        go_quiet (fail)
        go_wp2
        go_ret
        exact ⟨ret_bool HR0.out.symm, below_drewN (below_thn HBr.out HV.out) _⟩
      have e2 : decide ((gE es k).2 ≤ (gE es k).1) = false := decide_eq_false x2
      by_cases x3 : n ≤ (gE es k).2
      · have hno : okAt n es k = false := by unfold okAt; rw [decide_eq_false (by omega : ¬ (gE es k).2 < n)]; simp
        have HR0 := Lib.hid (right_not hlt hno); clear hno
        have d1 : decide (n ≤ (gE es k).2) = true := decide_eq_true x3
        clear x3
        go_wp2
        refine wp_box1 ?_
        intro V hbV hsV hV
        have v1 := blk_cell hV 0 rfl
        have v2 := blk_cell hV 1 rfl
        have f1 := cell_below hbV cg1
        have HV := Lib.hid hbV
        clear hbV hsV hV c1 c2 cg1 cg2
        go_quiet (fail)
        go_wp2
        go_ret
        exact ⟨ret_bool HR0.out.symm, below_drewN (below_thn HBr.out HV.out) _⟩
      have e3 : decide (n ≤ (gE es k).2) = false := decide_eq_false x3
      by_cases hk0 : k = 0
      · have hok : okAt n es k = true := by unfold okAt; rw [decide_eq_true (by omega : 0 ≤ (gE es k).1), decide_eq_true (by omega : (gE es k).1 < (gE es k).2), decide_eq_true (by omega : (gE es k).2 < n), decide_eq_true hk0]; rfl
        have HK1 := Lib.hid (okUp_succ HK.out hok)
        have e4 : decide (0 < k) = false := decide_eq_false (by omega)
        clear hk0 hok x1 x2 x3
        go_wp2
        refine wp_box1 ?_
        intro V hbV hsV hV
        have v1 := blk_cell hV 0 rfl
        have v2 := blk_cell hV 1 rfl
        have f1 := cell_below hbV cg1
        have HV := Lib.hid hbV
        have HG2 := Lib.hid (blk_below HGr.out hbV)
        clear hbV hsV hV c1 c2 cg1 cg2
        go_quiet (fail)
        go_wp2
        go_roundw
        case rel => exact ⟨k + 1, hlt, by go_num, HK1, below_drewN (below_thn HBr.out HV.out) _, HG2⟩
        case measure => simp [intOf]; omega
      · obtain ⟨m, rfl⟩ : ∃ m, k = m + 1 := ⟨k - 1, by omega⟩
        obtain ⟨ad', hadd, c3, c4⟩ := (HR.out.below (HBr.out)).2 m (by omega)
        obtain rfl : ad' = ad := by simpa using hadd.symm
        clear hk0 hadd x1 x2 x3
        have e4 : decide (0 < ((m : Int) + 1)) = true := decide_eq_true (by omega)
        have e5 : IntKind.i64.wrap (m : Int) = (m : Int) := IntWalk.i64_in _ (by omega)
        have e6 : (0 : Int) ≤ (m : Int) := by omega
        have e7 : (m : Int) < (es.length : Int) := by omega
        go_wp2
        refine wp_box1 ?_
        intro V hbV hsV hV
        have v1 := blk_cell hV 0 rfl
        have v2 := blk_cell hV 1 rfl
        have f1 := cell_below hbV cg1
        have f2 := cell_below hbV cg2
        have f3 := cell_below hbV c3
        have f4 := cell_below hbV c4
        have HV := Lib.hid hbV
        have HG2 := Lib.hid (blk_below HGr.out hbV)
        clear hbV hsV hV c1 c2 c3 c4 cg1 cg2
        go_region_held3 (fun w' => w'.cell? ⟨wr.heap.size, 0, none⟩ = some (.int .i64 (gE es (m + 1)).1) ∧ w'.cell? ⟨wr.heap.size, 1, none⟩ = some (.int .i64 (gE es (m + 1)).2) ∧ w'.cell? ⟨w.heap.size, 0, none⟩ = some (.int .i64 n) ∧ w'.cell? ⟨w.heap.size, 1, none⟩ = some (.slice (some ad') es.length c) ∧ w'.cell? (ad'.add (m * 2)) = some (.int .i64 (gE es m).1) ∧ w'.cell? ⟨(ad'.add (m * 2)).block, (ad'.add (m * 2)).off + 1, none⟩ = some (.int .i64 (gE es m).2)) (first | go_keep | (refine ⟨?_, ?_, ?_, ?_, ?_, ?_⟩ <;> refine cell_below (by assumption) ?_ <;> simp [*]))
          ((first | (go_at_call 37; refine (compareE_any (gE es m) (gE es (m + 1)) _).mono ?_; rintro e w' ⟨rfl, hbw⟩)))
        have HW := Lib.hid (below_thn HBr.out (below_thn HV.out (below_thn ((Below.refl _ _).drew) hbw)))
        have HG3 := Lib.hid (blk_below (w := V.drew) HG2.out hbw)
        clear hbw HBr HGr HG2 HV v1 v2 f1 f2 f3 f4
        go_wp2
        · have hno : okAt n es (m + 1) = false := by unfold okAt; rw [decide_eq_false (by omega : ¬ m + 1 = 0), Nat.add_sub_cancel, decide_eq_false (by omega : ¬ cmpE (gE es m) (gE es (m + 1)) < 0)]; simp
          go_ret
          exact ⟨ret_bool (right_not hlt hno).symm, HW.out⟩
        · have hok : okAt n es (m + 1) = true := by
            simp only [decide_eq_false_iff_not] at e1 e2 e3
            unfold okAt; rw [decide_eq_true (by omega : 0 ≤ (gE es (m + 1)).1), decide_eq_true (by omega : (gE es (m + 1)).1 < (gE es (m + 1)).2), decide_eq_true (by omega : (gE es (m + 1)).2 < n), Nat.add_sub_cancel, decide_eq_true (by omega : cmpE (gE es m) (gE es (m + 1)) < 0)]; simp
          go_roundw
          case rel => exact ⟨m + 1 + 1, hlt, by go_num, okUp_succ HK.out hok, HW.out, HG3⟩
          case measure => simp [intOf]; omega
    · go_wp2
      go_ret
      have hkk : k = es.length := by omega
      subst hkk
      have hr : rightB n es = true := by unfold rightB; rw [HK.out, decide_eq_true (by omega : 0 ≤ n), decide_eq_true (by omega : n ≤ 4096), decide_eq_true (by simp at hl'; omega : es.length ≤ 65536)]; rfl
      exact ⟨ret_bool hr.symm, HBr.out⟩
end Go.Proofs.Ytjcgokfjdagckaa
