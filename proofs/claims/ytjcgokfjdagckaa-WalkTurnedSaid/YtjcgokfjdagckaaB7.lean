/- mates.Right: a matching of a graph. -/
import Derived.Test.YtjcgokfjdagckaaB6
import Derived.Test.YtjcgokfjdagckaaB4
namespace Go.Proofs.Ytjcgokfjdagckaa
open Go.RowKit Go.Proofs.YtjcgokfjdagckaaW.PrintWords

/-! ### rows of bools -/
def gb (xs : List Bool) (k : Nat) : Bool := xs.getD k false
theorem gb_get {xs : List Bool} {k : Nat} (h : k < xs.length) : gb xs k = xs[k] := by simp [gb, List.getD_eq_getElem?_getD, List.getElem?_eq_getElem h]
theorem info_bool : (Try.prog.info? 4).map (fun i => (i.zero, i.size, i.bytes)) = some (some (.bool false), 1, 1) := by kernel_rfl
theorem und_bools : Try.prog.underlying 57 = some (.slice 4) := by kernel_rfl
def OwB (w : World) (base : Nat) (v : Value) (xs : List Bool) : Prop := w.ownsRow base 4 1 v xs.length (encs Value.bool xs)
theorem OwB.slice {w : World} {base : Nat} {v : Value} {xs : List Bool} (h : OwB w base v xs) : ∃ A c, v = .slice A xs.length c := own_slice h
theorem OwB.form {w : World} {base : Nat} {v : Value} {xs : List Bool} (h : OwB w base v xs) (hn : 0 < xs.length) : ∃ g cap, v = .slice (some ⟨g, 0, none⟩) xs.length cap ∧ base ≤ g ∧ g < w.heap.size := by
  obtain ⟨g, cap, e, h1, h2⟩ := World.ownsRow.form h hn
  exact ⟨g, cap, e, h1, h2⟩
theorem OwB.at_ {w : World} {base g cap n : Nat} {xs : List Bool} (h : OwB w base (.slice (some ⟨g, 0, none⟩) n cap) xs) {i : Nat} (hi : i < xs.length) : w.cell? ⟨g, i, none⟩ = some (.bool (gb xs i)) ∧ w.frozen? ⟨g, i, none⟩ = false := by
  have hn : n = xs.length := by obtain ⟨A, c, e⟩ := h.slice; injection e
  subst hn
  have := own_at_of (d := false) h (i : Int) (by omega) (by omega)
  simpa [rdOf, gb] using this
theorem OwB.store {w : World} {base g cap n : Nat} {xs : List Bool} (h : OwB w base (.slice (some ⟨g, 0, none⟩) n cap) xs) (i : Nat) (x : Bool) : OwB (w.setCell ⟨g, i, none⟩ (.bool x)) base (.slice (some ⟨g, 0, none⟩) n cap) (xs.set i x) ∧ w.grownBy (w.setCell ⟨g, i, none⟩ (.bool x)) (some g) := by
  have hn : n = xs.length := by obtain ⟨A, c, e⟩ := h.slice; injection e
  subst hn
  have := own_store_of h (i : Int) x
  unfold OwB
  simpa using this
theorem OwB.alloc {w : World} {base : Nat} {v : Value} {xs : List Bool} (h : OwB w base v xs) (o : Obj) : OwB (w.alloc o) base v xs := World.ownsRow.alloc h o
theorem OwB.below {w w1 : World} {base : Nat} {v : Value} {xs : List Bool} (h : OwB w base v xs) (hb : Below w.heap.size w w1) : OwB w1 base v xs := pw_own_below h hb
theorem OwB.drew_ {w : World} {base : Nat} {v : Value} {xs : List Bool} (h : OwB w base v xs) : OwB w.drew base v xs := World.ownsRow.drew h
theorem below_grown {w w1 : World} (h : Below w.heap.size w w1) (row : Option Nat) : w.grownBy w1 row := ⟨h.os, h.tape, h.output, h.size, fun i hi _ => h.block i hi⟩

/-! ### what mates.Right reckons -/
def joinF (mate : List Int) (js : List Bool) (e : Int × Int) : List Bool :=
  if gi mate e.1.toNat = e.2 ∧ gi mate e.2.toNat = e.1 then (js.set e.1.toNat true).set e.2.toNat true else js
def joinUp (mate : List Int) (es : List (Int × Int)) (k : Nat) : List Bool := (es.take k).foldl (joinF mate) (List.replicate mate.length false)
theorem joinF_len (mate : List Int) (js : List Bool) (e : Int × Int) : (joinF mate js e).length = js.length := by unfold joinF; split <;> simp
theorem foldl_joinF_len (mate : List Int) : ∀ (l : List (Int × Int)) (js : List Bool), (l.foldl (joinF mate) js).length = js.length
  | [], js => rfl
  | e :: r, js => by rw [List.foldl_cons, foldl_joinF_len mate r, joinF_len]
theorem joinUp_len (mate : List Int) (es : List (Int × Int)) (k : Nat) : (joinUp mate es k).length = mate.length := by unfold joinUp; rw [foldl_joinF_len]; simp
theorem joinUp_succ {mate : List Int} {es : List (Int × Int)} {k : Nat} (h : k < es.length) : joinUp mate es (k + 1) = joinF mate (joinUp mate es k) (gE es k) := by
  unfold joinUp; rw [take_gE h, List.foldl_append]; rfl
def mateAt (mate : List Int) (js : List Bool) (v : Nat) : Bool := decide (gi mate v = -1) || gb js v
def mRightB (n : Int) (es : List (Int × Int)) (mate : List Int) : Bool :=
  rightB n es && decide ((mate.length : Int) = n) && (List.range mate.length).all (mateAt mate (joinUp mate es es.length))
theorem right_edge {n : Int} {es : List (Int × Int)} (h : rightB n es = true) {k : Nat} (hk : k < es.length) : 0 ≤ (gE es k).1 ∧ (gE es k).1 < (gE es k).2 ∧ (gE es k).2 < n := by
  simp only [rightB, okUp, Bool.and_eq_true, List.all_eq_true, List.mem_range, okAt, decide_eq_true_eq] at h
  have := h.2 k hk
  omega
theorem right_n {n : Int} {es : List (Int × Int)} (h : rightB n es = true) : 0 ≤ n ∧ n ≤ 4096 ∧ es.length ≤ 65536 := by
  simp only [rightB, Bool.and_eq_true, decide_eq_true_eq] at h
  omega

set_option maxRecDepth 100000 in
set_option maxHeartbeats 4000000 in
theorem matesRight_any (n : Int) (A : Option Addr) (c : Nat) (es : List (Int × Int)) (B : Option Addr) (d : Nat) (mate : List Int) (w : World) (h : RdE w A es) (hm : RdI w B mate) :
    Calls Try.prog 23 #[.agg #[.int .i64 n, .slice A es.length c], .slice B mate.length d] w fun e w' => e = .returned (.bool (mRightB n es mate)) ∧ Below w.heap.size w w' := by
  have hel := h.1
  have hml := hm.1
  have HE := Lib.hid h
  have HM := Lib.hid hm
  clear h hm
  go_enter Try.func23, Try.ntmps23
  go_wp2_with (fail)
  refine calls_box1 ?_
  intro W hb hs hg
  have cg1 := blk_cell hg 0 rfl
  have cg2 := blk_cell hg 1 rfl
  have HB := Lib.hid hb
  have HG := Lib.hid hg
  clear hg hb hs
  refine (graphRight_any n A c es _ (HE.out.below HB.out)).mono ?_
  rintro e w1 ⟨rfl, hb1⟩
  have cg3 := cell_below hb1 cg1
  have cg4 := cell_below hb1 cg2
  have HG1 := Lib.hid (blk_below HG.out hb1)
  have HB1 := Lib.hid (below_thn HB.out hb1)
  clear hb1 cg1 cg2 HG HB
  by_cases hr : rightB n es = true
  · by_cases hn : (mate.length : Int) = n
    · subst hn
      have hq : ((mate.length : Int) != (mate.length : Int)) = false := by simp
      have HR := Lib.hid hr
      have hn4 := (right_n hr).2.1
      have hmk := print_make_of (P := Try.prog) 57 4 (.bool false) 1 und_bools info_bool rfl (by decide) mate.length (by omega)
      have hsz : w.heap.size < w1.heap.size := blk_lt HG1.out
      have hjs := own_made_of (enc := Value.bool) (d := false) w1 w.heap.size 4 mate.length (by omega) (by omega)
      have HJ : Hid (OwB (w1.alloc (.cells (madeCells #[.bool false] mate.length) 4)) w.heap.size (.slice (some ⟨w1.heap.size, 0, none⟩) mate.length mate.length) (List.replicate mate.length false)) := by
        show OwB _ _ _ _
        unfold OwB; simpa using hjs
      clear hr hjs
      obtain ⟨gj, hgj⟩ : ∃ gj, gj = w1.heap.size := ⟨_, rfl⟩
      go_wp2
      go_loopw [26] (fun i wr => ∃ k : Nat, k ≤ es.length ∧ i = .int .i64 k ∧ Hid (Below w.heap.size w wr) ∧ Hid (OwB wr w.heap.size (.slice (some ⟨w1.heap.size, 0, none⟩) mate.length mate.length) (joinUp mate es k))) (fun i _ => es.length - (intOf i).toNat)
      case atStart => exact ⟨0, Nat.zero_le _, rfl, below_alloc HB1.out _, HJ⟩
      case round =>
        obtain ⟨k, hk, rfl, HBr, HJr⟩ := hrel
        clear HJ
        by_cases hlt : k < es.length
        · obtain ⟨ad, rfl, c1, c2⟩ := (HE.out.below HBr.out).2 k hlt
          obtain ⟨r1, r2, r3⟩ := right_edge HR.out hlt
          obtain ⟨x, hx⟩ : ∃ x, x = (gE es k).1.toNat := ⟨_, rfl⟩
          obtain ⟨y, hy⟩ : ∃ y, y = (gE es k).2.toNat := ⟨_, rfl⟩
          have ex : (gE es k).1 = (x : Int) := by omega
          have ey : (gE es k).2 = (y : Int) := by omega
          have hstep := joinUp_succ (mate := mate) hlt
          have hlen := joinUp_len mate es k
          simp only [joinF, ex, ey, Int.toNat_natCast] at hstep
          rw [ex] at c1
          rw [ey] at c2
          obtain ⟨bd, hbd, m1⟩ := (HM.out.below HBr.out).2 x (by omega)
          obtain ⟨bd', hbd', m2⟩ := (HM.out.below HBr.out).2 y (by omega)
          subst hbd
          obtain rfl : bd' = bd := by simpa using hbd'.symm
          have x0 : (x : Int) < (mate.length : Int) := by omega
          have y0 : (y : Int) < (mate.length : Int) := by omega
          have x1 : x < (joinUp mate es k).length := by omega
          have y1 : y < (joinUp mate es k).length := by omega
          clear hbd' hx hy ex ey r1 r2 r3
          by_cases q1 : gi mate x = (y : Int)
          · by_cases q2 : gi mate y = (x : Int)
            · have q1' : (gi mate x == (y : Int)) = true := by simpa using q1
              have q2' : (gi mate y == (x : Int)) = true := by simpa using q2
              rw [if_pos ⟨q1, q2⟩] at hstep
              have HS := Lib.hid hstep
              clear q1 q2 hstep
              go_wp2
              refine wp_box1 ?_
              intro V hbV hsV hV
              have v1 := blk_cell hV 0 rfl
              have v2 := blk_cell hV 1 rfl
              have f1 := cell_below hbV m1
              have f2 := cell_below hbV m2
              have HV := Lib.hid hbV
              have HJV := Lib.hid (HJr.out.below hbV)
              have hne : w1.heap.size ≠ wr.heap.size := by
                obtain ⟨_, cap, e, _, hlt2⟩ := HJr.out.form (by omega)
                injection e with e; injection e with e; injection e with e
                omega
              clear hbV hsV hV c1 c2 m1 m2 HJr
              go_quiet (fail)
              go_wp2
              have v3 : (V.drewN nq).cell? ⟨wr.heap.size, 0, none⟩ = some (.int .i64 (x : Int)) := v1
              have v4 : (V.drewN nq).cell? ⟨wr.heap.size, 1, none⟩ = some (.int .i64 (y : Int)) := v2
              have HJY : Hid (OwB (V.drewN nq) w.heap.size (.slice (some ⟨w1.heap.size, 0, none⟩) mate.length mate.length) (joinUp mate es k)) := HJV
              have HBY := Lib.hid (below_drewN (below_thn HBr.out HV.out) nq)
              clear v1 v2 f1 f2 HJV HV
              generalize V.drewN nq = Y at *
              have s1 := HJY.out.at_ x1
              have S1 := HJY.out.store x true
              have s3 := S1.1.at_ (i := y) (by simpa using y1)
              have S2 := S1.1.store y true
              obtain ⟨s1a, s1b⟩ := s1
              obtain ⟨s3a, s3b⟩ := s3
              have HS2 := Lib.hid S2.1
              clear S1 S2
              go_region_held3 (fun w' => w'.cell? ⟨wr.heap.size, 0, none⟩ = some (.int .i64 (x : Int)) ∧ w'.cell? ⟨wr.heap.size, 1, none⟩ = some (.int .i64 (y : Int))) (go_keep) (fail)
              all_goals
                clear s1a s1b s3a s3b v3 v4
                go_wp2
                go_roundw
                case rel => exact ⟨k + 1, hlt, by go_num, (((HBY.out).setCell (Nat.le_of_lt (blk_lt HG1.out)) _).setCell (Nat.le_of_lt (blk_lt HG1.out)) _).drew, by rw [HS.out]; exact HS2.out.drew_⟩
                case measure => simp [intOf]; omega
            · have q1' : (gi mate x == (y : Int)) = true := by simpa using q1
              have q2' : (gi mate y == (x : Int)) = false := by simpa using q2
              rw [if_neg (fun h => q2 h.2)] at hstep
              have HS := Lib.hid hstep
              clear q1 q2 hstep
              go_wp2
              refine wp_box1 ?_
              intro V hbV hsV hV
              have v1 := blk_cell hV 0 rfl
              have v2 := blk_cell hV 1 rfl
              have f1 := cell_below hbV m1
              have f2 := cell_below hbV m2
              have HV := Lib.hid hbV
              have HJV := Lib.hid (HJr.out.below hbV)
              clear hbV hsV hV c1 c2 m1 m2 HJr
              go_quiet (fail)
              go_wp2
              go_roundw
              case rel => exact ⟨k + 1, hlt, by go_num, below_drewN (below_thn HBr.out HV.out) _, by rw [HS.out]; exact HJV.out⟩
              case measure => simp [intOf]; omega
          · have q1' : (gi mate x == (y : Int)) = false := by simpa using q1
            rw [if_neg (fun h => q1 h.1)] at hstep
            have HS := Lib.hid hstep
            clear q1 hstep
            go_wp2
            refine wp_box1 ?_
            intro V hbV hsV hV
            have v1 := blk_cell hV 0 rfl
            have v2 := blk_cell hV 1 rfl
            have f1 := cell_below hbV m1
            have f2 := cell_below hbV m2
            have HV := Lib.hid hbV
            have HJV := Lib.hid (HJr.out.below hbV)
            clear hbV hsV hV c1 c2 m1 m2 HJr
            go_quiet (fail)
            go_wp2
            go_roundw
            case rel => exact ⟨k + 1, hlt, by go_num, below_drewN (below_thn HBr.out HV.out) _, by rw [HS.out]; exact HJV.out⟩
            case measure => simp [intOf]; omega
        · have hkk : k = es.length := by omega
          have HJe := Lib.hid (hkk ▸ HJr.out)
          clear hkk HJr
          have hlen := joinUp_len mate es es.length
          go_wp2
          go_loop [59] (fun i => ∃ k : Nat, k ≤ mate.length ∧ i = .int .i64 k ∧ Hid (∀ j, j < k → mateAt mate (joinUp mate es es.length) j = true)) (fun i => mate.length - (intOf i).toNat)
          case atStart => exact ⟨0, Nat.zero_le _, by simp, fun j hj => by omega⟩
          case round =>
            obtain ⟨v, hv, rfl, HV⟩ := hrel
            by_cases hvl : v < mate.length
            · obtain ⟨bd, rfl, m1⟩ := (HM.out.below HBr.out).2 v hvl
              have hvj : v < (joinUp mate es es.length).length := by omega
              obtain ⟨s1, _⟩ := HJe.out.at_ hvj
              have hvl' : (v : Int) < (mate.length : Int) := by omega
              by_cases q1 : gi mate v = -1
              · have q1' : (gi mate v != -1) = false := by simpa using q1
                have hat : mateAt mate (joinUp mate es es.length) v = true := by unfold mateAt; rw [decide_eq_true q1]; rfl
                have HA := Lib.hid hat
                clear q1 hat
                go_wp2
                go_round
                case rel => exact ⟨v + 1, hvl, by go_num, fun j hj => by
                  by_cases e : j = v
                  · rw [e]; exact HA.out
                  · exact HV.out j (by omega)⟩
                case measure => simp [intOf]; omega
              · have q1' : (gi mate v != -1) = true := by simpa using q1
                cases q2 : gb (joinUp mate es es.length) v with
                | true =>
                  have hat : mateAt mate (joinUp mate es es.length) v = true := by unfold mateAt; rw [q2]; simp
                  have HA := Lib.hid hat
                  rw [q2] at s1
                  clear q1 q2 hat
                  go_wp2
                  go_round
                  case rel => exact ⟨v + 1, hvl, by go_num, fun j hj => by
                    by_cases e : j = v
                    · rw [e]; exact HA.out
                    · exact HV.out j (by omega)⟩
                  case measure => simp [intOf]; omega
                | false =>
                  have hat : mateAt mate (joinUp mate es es.length) v = false := by unfold mateAt; rw [q2, decide_eq_false q1]; rfl
                  have HA : Hid (mRightB (mate.length : Int) es mate = false) := by
                    show _ = _
                    unfold mRightB
                    have : (List.range mate.length).all (mateAt mate (joinUp mate es es.length)) = false := by
                      rw [List.all_eq_false]; exact ⟨v, by simpa using hvl, by simp [hat]⟩
                    rw [this]; simp
                  rw [q2] at s1
                  clear q1 q2 hat
                  go_wp2
                  go_ret
                  exact ⟨ret_bool HA.out.symm, HBr.out⟩
            · have HA : Hid (mRightB (mate.length : Int) es mate = true) := by
                show _ = _
                unfold mRightB
                rw [HR.out]
                have : (List.range mate.length).all (mateAt mate (joinUp mate es es.length)) = true := by
                  rw [List.all_eq_true]; intro j hj; exact HV.out j (by have := List.mem_range.1 hj; omega)
                rw [this]; simp
              go_wp2
              go_ret
              exact ⟨ret_bool HA.out.symm, HBr.out⟩
    · have hq : ((mate.length : Int) != n) = true := by simpa using hn
      have HF : Hid (mRightB n es mate = false) := by show _ = _; unfold mRightB; rw [decide_eq_false hn]; simp
      clear hn
      go_wp2
      go_ret
      exact ⟨ret_bool HF.out.symm, HB1.out⟩
  · have hr' : rightB n es = false := by simpa using hr
    have HF : Hid (mRightB n es mate = false) := by show _ = _; unfold mRightB; rw [hr']; simp
    clear hr
    go_wp2
    go_ret
    exact ⟨ret_bool HF.out.symm, HB1.out⟩
end Go.Proofs.Ytjcgokfjdagckaa
