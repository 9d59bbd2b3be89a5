/- walk.Alternates, walk.Augments, walk.Flip. -/
import Derived.Test.YtjcgokfjdagckaaB9
namespace Go.Proofs.Ytjcgokfjdagckaa
open Go.RowKit Go.Proofs.YtjcgokfjdagckaaW.PrintWords

theorem mRight_parts {n : Int} {es : List (Int × Int)} {mate : List Int} (h : mRightB n es mate = true) : rightB n es = true ∧ (mate.length : Int) = n ∧ n ≤ 4096 := by
  unfold mRightB at h
  simp only [Bool.and_eq_true, decide_eq_true_eq] at h
  exact ⟨h.1.1, h.1.2, (right_n h.1.1).2.1⟩

def augmentsB (n : Int) (es : List (Int × Int)) (mate xs : List Int) : Bool := mRightB n es mate && augB n es mate xs
def alternatesB (n : Int) (es : List (Int × Int)) (mate xs : List Int) : Bool := mRightB n es mate && altB n es mate xs

set_option maxRecDepth 100000 in
set_option maxHeartbeats 2000000 in
theorem wAugments_any (n : Int) (A : Option Addr) (c : Nat) (es : List (Int × Int)) (B : Option Addr) (d : Nat) (mate : List Int) (X : Option Addr) (cx : Nat) (xs : List Int) (w : World) (h : RdE w A es) (hm : RdI w B mate) (hx : RdI w X xs) :
    Calls Try.prog 9 #[.agg #[.int .i64 n, .slice A es.length c], .slice B mate.length d, .slice X xs.length cx] w fun e w' => e = .returned (.bool (augmentsB n es mate xs)) ∧ Below w.heap.size w w' := by
  have HE := Lib.hid h
  have HM := Lib.hid hm
  have HX := Lib.hid hx
  clear h hm hx
  go_enter Try.func9, Try.ntmps9
  go_wp2_with (fail)
  refine calls_box1 ?_
  intro W hb hs hg
  have cg1 := blk_cell hg 0 rfl
  have cg2 := blk_cell hg 1 rfl
  have HB := Lib.hid hb
  clear hg hb hs
  refine (matesRight_any n A c es B d mate _ (HE.out.below HB.out) (HM.out.below HB.out)).mono ?_
  rintro e w1 ⟨rfl, hb1⟩
  have cg3 := cell_below hb1 cg1
  have cg4 := cell_below hb1 cg2
  have HB1 := Lib.hid (below_thn HB.out hb1)
  clear hb1 cg1 cg2 HB
  cases hq : mRightB n es mate with
  | false =>
    have hF : Hid (augmentsB n es mate xs = false) := by show _ = _; unfold augmentsB; rw [hq]; rfl
    clear hq
    go_wp2
    go_ret
    exact ⟨ret_bool hF.out.symm, HB1.out⟩
  | true =>
    have hF : Hid (augmentsB n es mate xs = augB n es mate xs) := by show _ = _; unfold augmentsB; rw [hq]; rfl
    have HQ := Lib.hid (mRight_parts hq)
    clear hq
    go_wp2_with (fail)
    refine (augments_any n A c es B d mate X cx xs _ (HE.out.below HB1.out) (HM.out.below HB1.out) (HX.out.below HB1.out) HQ.out.2.2 HQ.out.2.1).mono ?_
    rintro e w2 ⟨rfl, hb2⟩
    go_wp2
    go_ret
    exact ⟨ret_bool (hF.out.trans (by simp)).symm, below_thn HB1.out hb2⟩

set_option maxRecDepth 100000 in
set_option maxHeartbeats 2000000 in
theorem wAlternates_any (n : Int) (A : Option Addr) (c : Nat) (es : List (Int × Int)) (B : Option Addr) (d : Nat) (mate : List Int) (X : Option Addr) (cx : Nat) (xs : List Int) (w : World) (h : RdE w A es) (hm : RdI w B mate) (hx : RdI w X xs) :
    Calls Try.prog 11 #[.agg #[.int .i64 n, .slice A es.length c], .slice B mate.length d, .slice X xs.length cx] w fun e w' => e = .returned (.bool (alternatesB n es mate xs)) ∧ Below w.heap.size w w' := by
  have HE := Lib.hid h
  have HM := Lib.hid hm
  have HX := Lib.hid hx
  clear h hm hx
  go_enter Try.func11, Try.ntmps11
  go_wp2_with (fail)
  refine calls_box1 ?_
  intro W hb hs hg
  have cg1 := blk_cell hg 0 rfl
  have cg2 := blk_cell hg 1 rfl
  have HB := Lib.hid hb
  clear hg hb hs
  refine (matesRight_any n A c es B d mate _ (HE.out.below HB.out) (HM.out.below HB.out)).mono ?_
  rintro e w1 ⟨rfl, hb1⟩
  have cg3 := cell_below hb1 cg1
  have cg4 := cell_below hb1 cg2
  have HB1 := Lib.hid (below_thn HB.out hb1)
  clear hb1 cg1 cg2 HB
  cases hq : mRightB n es mate with
  | false =>
    have hF : Hid (alternatesB n es mate xs = false) := by show _ = _; unfold alternatesB; rw [hq]; rfl
    clear hq
    go_wp2
    go_ret
    exact ⟨ret_bool hF.out.symm, HB1.out⟩
  | true =>
    have hF : Hid (alternatesB n es mate xs = altB n es mate xs) := by show _ = _; unfold alternatesB; rw [hq]; rfl
    have HQ := Lib.hid (mRight_parts hq)
    clear hq
    go_wp2_with (fail)
    refine (alternates_any n A c es B d mate X cx xs _ (HE.out.below HB1.out) (HM.out.below HB1.out) (HX.out.below HB1.out) HQ.out.2.2 HQ.out.2.1).mono ?_
    rintro e w2 ⟨rfl, hb2⟩
    go_wp2
    go_ret
    exact ⟨ret_bool (hF.out.trans (by simp)).symm, below_thn HB1.out hb2⟩

def flipR (n : Int) (es : List (Int × Int)) (mate xs : List Int) : List Int × Int :=
  if rightB n es then if mRightB n es mate then if augB n es mate xs then (turnL mate xs, 0) else ([], 1) else ([], 9) else ([], 3)
def FlipPost (w : World) (r : List Int × Int) (e : Ending) (w' : World) : Prop := ∃ v, e = .returned (.tuple #[v, .int .i64 r.2]) ∧ OwI w' w.heap.size v r.1 ∧ Below w.heap.size w w'

set_option maxRecDepth 100000 in
set_option maxHeartbeats 2000000 in
theorem wFlip_any (n : Int) (A : Option Addr) (c : Nat) (es : List (Int × Int)) (B : Option Addr) (d : Nat) (mate : List Int) (X : Option Addr) (cx : Nat) (xs : List Int) (w : World) (h : RdE w A es) (hm : RdI w B mate) (hx : RdI w X xs) :
    Calls Try.prog 7 #[.agg #[.int .i64 n, .slice A es.length c], .slice B mate.length d, .slice X xs.length cx] w (FlipPost w (flipR n es mate xs)) := by
  have HE := Lib.hid h
  have HM := Lib.hid hm
  have HX := Lib.hid hx
  clear h hm hx
  go_enter Try.func7, Try.ntmps7
  go_wp2_with (fail)
  refine calls_box1 ?_
  intro W hb hs hg
  have cg1 := blk_cell hg 0 rfl
  have cg2 := blk_cell hg 1 rfl
  have HB := Lib.hid hb
  clear hg hb hs
  refine (graphRight_any n A c es _ (HE.out.below HB.out)).mono ?_
  rintro e w1 ⟨rfl, hb1⟩
  have cg3 := cell_below hb1 cg1
  have cg4 := cell_below hb1 cg2
  have HB1 := Lib.hid (below_thn HB.out hb1)
  clear hb1 cg1 cg2 HB
  cases hr : rightB n es with
  | false =>
    have hF : Hid (flipR n es mate xs = ([], 3)) := by show _ = _; unfold flipR; rw [hr]; rfl
    clear hr
    go_wp2
    go_ret2
    exact ⟨_, by rw [hF.out]; rfl, by rw [hF.out]; exact own_nil _ _ _ _, HB1.out⟩
  | true =>
    have HR := Lib.hid hr
    clear hr
    go_wp2_with (fail)
    refine (matesRight_any n A c es B d mate _ (HE.out.below HB1.out) (HM.out.below HB1.out)).mono ?_
    rintro e w2 ⟨rfl, hb2⟩
    have cg5 := cell_below hb2 cg3
    have cg6 := cell_below hb2 cg4
    have HB2 := Lib.hid (below_thn HB1.out hb2)
    clear hb2 cg3 cg4 HB1
    cases hq : mRightB n es mate with
    | false =>
      have hF : Hid (flipR n es mate xs = ([], 9)) := by show _ = _; unfold flipR; rw [HR.out, hq]; rfl
      clear hq
      go_wp2
      go_ret2
      exact ⟨_, by rw [hF.out]; rfl, by rw [hF.out]; exact own_nil _ _ _ _, HB2.out⟩
    | true =>
      have HQ0 := Lib.hid hq
      have HQ := Lib.hid (mRight_parts hq)
      clear hq
      go_wp2_with (fail)
      refine (augments_any n A c es B d mate X cx xs _ (HE.out.below HB2.out) (HM.out.below HB2.out) (HX.out.below HB2.out) HQ.out.2.2 HQ.out.2.1).mono ?_
      rintro e w3 ⟨rfl, hb3⟩
      have HB3 := Lib.hid (below_thn HB2.out hb3)
      clear hb3 cg5 cg6 HB2
      cases ha : augB n es mate xs with
      | false =>
        have hF : Hid (flipR n es mate xs = ([], 1)) := by show _ = _; unfold flipR; rw [HR.out, HQ0.out, ha]; rfl
        clear ha
        go_wp2
        go_ret2
        exact ⟨_, by rw [hF.out]; rfl, by rw [hF.out]; exact own_nil _ _ _ _, HB3.out⟩
      | true =>
        have hF : Hid (flipR n es mate xs = (turnL mate xs, 0)) := by show _ = _; unfold flipR; rw [HR.out, HQ0.out, ha]; rfl
        have hP : Hid (pathB n es xs = true) := by
          show _ = _
          unfold augB altB at ha
          simp only [Bool.and_eq_true] at ha
          exact ha.1.1.2.1
        clear ha
        go_wp2_with (fail)
        refine (cloneI_any B d mate _ (HM.out.below HB3.out) (by have := HQ.out; omega)).mono ?_
        rintro e w4 ⟨v, rfl, hv, hb4⟩
        have HV := Lib.hid hv
        have HB4 := Lib.hid hb4
        clear hv hb4
        go_wp2_with (fail)
        refine (turn_any w3.heap.size v mate X cx xs w4 HV.out (HX.out.below (below_thn HB3.out HB4.out)) ?_ ?_ (by have := HQ.out; omega)).mono ?_
        · intro ad he hne hbk
          subst he
          obtain ⟨ad', e', hc⟩ := HX.out.2 0 (by cases xs with | nil => exact absurd rfl hne | cons => simp)
          injection e' with e'
          subst e'
          have h1 := World.block_lt_of_cell? _ _ hc
          have h2 := own_base HV.out _ hbk.symm
          have h3 : (ad.add 0).block = ad.block := rfl
          have h4 := HB3.out.size
          omega
        · intro p hp
          obtain ⟨j, hj, rfl⟩ := List.getElem_of_mem hp
          have := path_in hP.out hj
          rw [gi_get hj] at this
          exact ⟨this.1, by rw [HQ.out.2.1]; exact this.2⟩
        rintro e w5 ⟨rfl, hv5, hg5⟩
        have HV5 := Lib.hid hv5
        have HG5 := Lib.hid hg5
        clear hv5 hg5
        go_wp2
        go_ret2
        refine ⟨v, by rw [hF.out]; rfl, by rw [hF.out]; exact own_weaken HV5.out HB3.out.size, ?_⟩
        have hb34 := below_thn HB3.out HB4.out
        exact grown_below HG5.out hb34 hb34.size (fun k hk => Nat.le_trans HB3.out.size (own_base HV.out k hk))
end Go.Proofs.Ytjcgokfjdagckaa
