/- walk.ways: alternates, augments. -/
import Derived.Test.YtjcgokfjdagckaaB8
namespace Go.Proofs.Ytjcgokfjdagckaa
open Go.RowKit Go.Proofs.YtjcgokfjdagckaaW.PrintWords

def altOk (mate xs : List Int) (i : Nat) : Bool := !((gi mate (gi xs (i - 2)).toNat == gi xs (i - 1)) == (gi mate (gi xs (i - 1)).toNat == gi xs i))
def altB (n : Int) (es : List (Int × Int)) (mate xs : List Int) : Bool := pathB n es xs && (List.range xs.length).all (fun i => decide (i < 2) || altOk mate xs i)
theorem path_in {n : Int} {es : List (Int × Int)} {xs : List Int} (h : pathB n es xs = true) {j : Nat} (hj : j < xs.length) : 0 ≤ gi xs j ∧ gi xs j < n := by
  simp only [pathB, Bool.and_eq_true, List.all_eq_true, List.mem_range, stepOk, decide_eq_true_eq] at h
  have := h.2 j hj
  exact ⟨this.1.1.1, this.1.1.2⟩

set_option maxRecDepth 100000 in
set_option maxHeartbeats 4000000 in
theorem alternates_any (n : Int) (A : Option Addr) (c : Nat) (es : List (Int × Int)) (B : Option Addr) (d : Nat) (mate : List Int) (X : Option Addr) (cx : Nat) (xs : List Int) (w : World) (h : RdE w A es) (hm : RdI w B mate) (hx : RdI w X xs) (hn : n ≤ 4096) (hmn : (mate.length : Int) = n) :
    Calls Try.prog 29 #[waysV n A c es.length B d mate.length, .slice X xs.length cx] w fun e w' => e = .returned (.bool (altB n es mate xs)) ∧ Below w.heap.size w w' := by
  have hel := h.1
  have hxl := hx.1
  have HE := Lib.hid h
  have HM := Lib.hid hm
  have HX := Lib.hid hx
  have HN := Lib.hid hmn
  clear h hm hx hmn
  go_enter Try.func29, Try.ntmps29
  go_wp2_with (fail)
  refine calls_box1 ?_
  intro W hb hs hg
  have cg1 := blk_cell hg 0 rfl
  have cg2 := blk_cell hg 1 rfl
  have cg3 := blk_cell hg 2 rfl
  have HB := Lib.hid hb
  clear hg hb hs
  refine (path_any n A c es B d mate.length X cx xs _ (HE.out.below HB.out) (HX.out.below HB.out) hn).mono ?_
  rintro e w1 ⟨rfl, hb1⟩
  have cf1 := cell_below hb1 cg1
  have cf2 := cell_below hb1 cg2
  have cf3 := cell_below hb1 cg3
  have HB1 := Lib.hid (below_thn HB.out hb1)
  clear hb1 cg1 cg2 cg3 HB
  cases hp : pathB n es xs with
  | false =>
    have hF : Hid (altB n es mate xs = false) := by show _ = _; unfold altB; rw [hp]; rfl
    clear hp
    go_wp2
    go_ret
    exact ⟨ret_bool hF.out.symm, HB1.out⟩
  | true =>
    have HP := Lib.hid hp
    clear hp
    go_wp2
    go_loopw [6] (fun i wr => ∃ r : Nat, 2 ≤ r ∧ r ≤ xs.length + 2 ∧ i = .int .i64 r ∧ Hid (∀ j, j < r → (decide (j < 2) || altOk mate xs j) = true) ∧ Hid (Below w.heap.size w wr)) (fun i _ => xs.length + 3 - (intOf i).toNat)
    case atStart => exact ⟨2, by omega, by omega, by simp, (fun j hj => by simp; omega), HB1⟩
    case round =>
      obtain ⟨r, hr2, hk, rfl, HK, HBr⟩ := hrel
      by_cases hlt : r < xs.length
      · obtain ⟨p, hpr⟩ : ∃ p, r = p + 2 := ⟨r - 2, by omega⟩
        obtain ⟨q, hqr⟩ : ∃ q, q = p + 1 := ⟨_, rfl⟩
        obtain ⟨ad, rfl, c1⟩ := (HX.out.below HBr.out).2 p (by omega)
        obtain ⟨ad', hadd, c2⟩ := (HX.out.below HBr.out).2 q (by omega)
        obtain rfl : ad' = ad := by simpa using hadd.symm
        obtain ⟨ad, hadd2, c3⟩ := (HX.out.below HBr.out).2 r hlt
        obtain rfl : ad' = ad := by simpa using hadd2
        have p1 := path_in HP.out (j := p) (by omega)
        have p2 := path_in HP.out (j := q) (by omega)
        have q1 : gi xs p < mate.length := by rw [HN.out]; exact p1.2
        have q2 : gi xs q < mate.length := by rw [HN.out]; exact p2.2
        have p1' := p1.1
        have p2' := p2.1
        have i1 : (r : Int) < (xs.length : Int) := by omega
        have i2 : (q : Int) < (xs.length : Int) := by omega
        have i3 : (p : Int) < (xs.length : Int) := by omega
        have i4 : (0 : Int) ≤ (p : Int) := by omega
        have i5 : (0 : Int) ≤ (q : Int) := by omega
        have i6 : (0 : Int) ≤ (r : Int) := by omega
        have e4 : IntKind.i64.wrap (p : Int) = (p : Int) := IntWalk.i64_in _ (by omega)
        have e5 : IntKind.i64.wrap (q : Int) = (q : Int) := IntWalk.i64_in _ (by omega)
        have e6 : (r : Int) - 2 = (p : Int) := by omega
        have e7 : (r : Int) - 1 = (q : Int) := by omega
        have HP2 := Lib.hid hpr
        have HQ2 := Lib.hid hqr
        clear hadd hadd2 p1 p2 hpr hqr
        have hAt : altOk mate xs r = !((gi mate (gi xs p).toNat == gi xs q) == (gi mate (gi xs q).toNat == gi xs r)) := by
          unfold altOk; rw [show r - 2 = p from by have := HP2.out; omega, show r - 1 = q from by have := HP2.out; have := HQ2.out; omega]
        have HAt := Lib.hid hAt
        clear hAt
        go_wp2
        go_region_held3 (fun w' => w'.cell? (ad'.add p) = some (.int .i64 (gi xs p)) ∧ w'.cell? (ad'.add q) = some (.int .i64 (gi xs q)) ∧ w'.cell? (ad'.add r) = some (.int .i64 (gi xs r)))
          (first | go_keep | (refine ⟨?_, ?_, ?_⟩ <;> refine cell_below (by assumption) ?_ <;> simp [*]))
          ((first | (go_at_call 30; refine (own_any n A c es.length B d mate _ _ _ ?_ (by assumption) (by assumption)).mono ?_; (first | exact HM.out.below (below_thn HBr.out (Below.refl _ _).drew) | exact HM.out.below (below_thn HBr.out (below_thn (Below.refl _ _).drew (by assumption)))); rintro e w' ⟨rfl, hbw⟩)))
        have HW := Lib.hid (below_thn HBr.out (below_thn (Below.refl _ _).drew (below_thn (by assumption) hbw)))
        clear hbw c1 c2 c3 HBr
        cases hq : ((gi mate (gi xs p).toNat == gi xs q) == (gi mate (gi xs q).toNat == gi xs r)) with
        | true =>
          have hF : Hid (altB n es mate xs = false) := by
            show _ = _
            unfold altB
            have : (List.range xs.length).all (fun i => decide (i < 2) || altOk mate xs i) = false := by
              rw [List.all_eq_false]; exact ⟨r, by simpa using hlt, by rw [HAt.out, hq]; simp; omega⟩
            rw [this]; simp
          go_wp2
          go_ret
          exact ⟨ret_bool hF.out.symm, HW.out⟩
        | false =>
          have hT : Hid (altOk mate xs r = true) := by show _ = _; rw [HAt.out, hq]; rfl
          go_wp2
          go_roundw
          case rel => exact ⟨r + 1, by omega, by omega, by go_num, (fun j hj => by
            by_cases e : j = r
            · rw [e, hT.out]; simp
            · exact HK.out j (by omega)), HW⟩
          case measure => simp [intOf]; omega
      · have hR : Hid (altB n es mate xs = true) := by
          show _ = _
          unfold altB
          rw [HP.out]
          have : (List.range xs.length).all (fun i => decide (i < 2) || altOk mate xs i) = true := by
            rw [List.all_eq_true]; intro j hj; exact HK.out j (by have := List.mem_range.1 hj; omega)
          rw [this]; rfl
        go_wp2
        go_ret
        exact ⟨ret_bool hR.out.symm, HBr.out⟩

def augB (n : Int) (es : List (Int × Int)) (mate xs : List Int) : Bool :=
  decide (2 ≤ xs.length) && altB n es mate xs && decide (gi mate (gi xs 0).toNat < 0) && decide (gi mate (gi xs (xs.length - 1)).toNat < 0)

set_option maxRecDepth 100000 in
set_option maxHeartbeats 4000000 in
theorem augments_any (n : Int) (A : Option Addr) (c : Nat) (es : List (Int × Int)) (B : Option Addr) (d : Nat) (mate : List Int) (X : Option Addr) (cx : Nat) (xs : List Int) (w : World) (h : RdE w A es) (hm : RdI w B mate) (hx : RdI w X xs) (hn : n ≤ 4096) (hmn : (mate.length : Int) = n) :
    Calls Try.prog 24 #[waysV n A c es.length B d mate.length, .slice X xs.length cx] w fun e w' => e = .returned (.bool (augB n es mate xs)) ∧ Below w.heap.size w w' := by
  have hel := h.1
  have hxl := hx.1
  have HE := Lib.hid h
  have HM := Lib.hid hm
  have HX := Lib.hid hx
  have HN := Lib.hid hmn
  clear h hm hx hmn
  by_cases h2 : 2 ≤ xs.length
  · have d1 : decide ((2 : Int) ≤ (xs.length : Int)) = true := decide_eq_true (by omega)
    go_enter Try.func24, Try.ntmps24
    go_wp2
    refine wp_box1 ?_
    intro W hb hs hg
    have cg1 := blk_cell hg 0 rfl
    have cg2 := blk_cell hg 1 rfl
    have cg3 := blk_cell hg 2 rfl
    have HB := Lib.hid hb
    clear hg hb hs
    have k1 := Gr.cell cg1
    have k2 := Gr.cell cg2
    have k3 := Gr.cell cg3
    have HC : ∀ p : Gr W, Hid (Calls Try.prog 29 #[waysV n A c es.length B d mate.length, .slice X xs.length cx] p.val fun e w' => e = .returned (.bool (altB n es mate xs)) ∧ Below p.val.heap.size p.val w') := fun p =>
      alternates_any n A c es B d mate X cx xs _ (HE.out.below (below_thn HB.out p.ok)) (HM.out.below (below_thn HB.out p.ok)) (HX.out.below (below_thn HB.out p.ok)) hn HN.out
    clear cg1 cg2 cg3
    cases hq : altB n es mate xs with
    | false =>
      have hF : Hid (augB n es mate xs = false) := by show _ = _; unfold augB; rw [hq]; simp
      rw [hq] at HC
      clear hq
      refine wp_region_gr (by kernel_rfl) (by kernel_rfl) ?_
      repeat (go_big_quiet_step ((go_at_call 29; exact Gr.calls (HC _).out)))
      refine wpQuiet_nil ?_
      rintro _ ⟨⟨w1, hb1⟩, rfl⟩
      go_wp2
      go_ret
      exact ⟨ret_bool hF.out.symm, below_thn HB.out hb1⟩
    | true =>
      have hpath : pathB n es xs = true := by
        have := hq
        unfold altB at this
        simp only [Bool.and_eq_true] at this
        exact this.1
      obtain ⟨l, hl⟩ : ∃ l, xs.length = l + 1 := ⟨xs.length - 1, by omega⟩
      obtain ⟨ad, rfl, c1⟩ := (HX.out.below HB.out).2 0 (by omega)
      obtain ⟨ad', hadd, c2⟩ := (HX.out.below HB.out).2 l (by omega)
      obtain rfl : ad' = ad := by simpa using hadd.symm
      have p1 := path_in hpath (j := 0) (by omega)
      have p2 := path_in hpath (j := l) (by omega)
      obtain ⟨a, ha⟩ : ∃ a, a = (gi xs 0).toNat := ⟨_, rfl⟩
      obtain ⟨b, hb⟩ : ∃ b, b = (gi xs l).toNat := ⟨_, rfl⟩
      have ea : gi xs 0 = (a : Int) := by omega
      have eb : gi xs l = (b : Int) := by omega
      have hnn := HN.out
      obtain ⟨bd, rfl, m1⟩ := (HM.out.below HB.out).2 a (by omega)
      obtain ⟨bd', hbdd, m2⟩ := (HM.out.below HB.out).2 b (by omega)
      obtain rfl : bd' = bd := by simpa using hbdd.symm
      have i1 : (a : Int) < (mate.length : Int) := by omega
      have i2 : (b : Int) < (mate.length : Int) := by omega
      have i3 : (l : Int) < (xs.length : Int) := by omega
      have i4 : (0 : Int) < (xs.length : Int) := by omega
      have i5 : (xs.length : Int) - 1 = (l : Int) := by omega
      have i6 : IntKind.i64.wrap (l : Int) = (l : Int) := IntWalk.i64_in _ (by omega)
      have i7 : 0 < xs.length := by omega
      have hA : Hid (augB n es mate xs = (decide (gi mate a < 0) && decide (gi mate b < 0))) := by
        show _ = _
        unfold augB
        rw [hq, decide_eq_true h2, show xs.length - 1 = l from by omega, ← ha, ← hb]; simp
      rw [ea] at c1
      rw [eb] at c2
      rw [show ad'.add 0 = ad' from rfl] at c1
      rw [hq] at HC
      have k4 := Gr.cell c1
      have k5 := Gr.cell c2
      have k6 := Gr.cell m1
      have k7 := Gr.cell m2
      clear hadd hbdd p1 p2 ha hb hpath hl ea eb hnn hq c1 c2 m1 m2
      by_cases z1 : gi mate a < 0
      · have d2 : decide (gi mate a < 0) = true := decide_eq_true z1
        rw [d2] at hA
        clear z1
        refine wp_region_gr (by kernel_rfl) (by kernel_rfl) ?_
        repeat (go_big_quiet_step ((go_at_call 29; exact Gr.calls (HC _).out)))
        refine wpQuiet_nil ?_
        rintro _ ⟨⟨w1, hb1⟩, rfl⟩
        go_wp2
        go_ret
        exact ⟨ret_bool (hA.out.trans (by simp)).symm, below_thn HB.out hb1⟩
      · have d2 : decide (gi mate a < 0) = false := decide_eq_false z1
        rw [d2] at hA
        clear z1
        refine wp_region_gr (by kernel_rfl) (by kernel_rfl) ?_
        repeat (go_big_quiet_step ((go_at_call 29; exact Gr.calls (HC _).out)))
        refine wpQuiet_nil ?_
        rintro _ ⟨⟨w1, hb1⟩, rfl⟩
        go_wp2
        go_ret
        exact ⟨ret_bool (hA.out.trans (by simp)).symm, below_thn HB.out hb1⟩
  · have d1 : decide ((2 : Int) ≤ (xs.length : Int)) = false := decide_eq_false (by omega)
    have hF : Hid (augB n es mate xs = false) := by show _ = _; unfold augB; rw [decide_eq_false h2]; rfl
    clear h2
    go_enter Try.func24, Try.ntmps24
    go_wp2
    go_quiet (fail)
    go_wp2
    go_ret
    exact ⟨ret_bool hF.out.symm, below_drewN (below_alloc (Below.refl _ _) _) _⟩
end Go.Proofs.Ytjcgokfjdagckaa
