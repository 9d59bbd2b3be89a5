/- graph.edge, graph.place, graph.Index, graph.Has: where an edge is among edges that rise. -/
import Derived.Test.YtjcgokfjdagckaaB3
namespace Go.Proofs.Ytjcgokfjdagckaa
open Go.RowKit

def mnE (a b : Int) : Int × Int := (min a b, max a b)
set_option maxHeartbeats 400000 in
theorem edge_any (a b : Int) (w : World) : Calls Try.prog 57 #[.int .i64 a, .int .i64 b] w fun e w' => e = .returned (.agg #[.int .i64 (mnE a b).1, .int .i64 (mnE a b).2]) ∧ Below w.heap.size w w' := by
  go_enter Try.func57, Try.ntmps57
  go_wp2
  all_goals
    refine bodyPost_ret (v := .agg #[.int .i64 (mnE a b).1, .int .i64 (mnE a b).2]) ?_ rfl ⟨rfl, below_alloc (Below.refl _ _) _⟩
    simp [results, Try.results57, go_sem, mnE]
  all_goals omega

theorem right_rises {n : Int} {es : List (Int × Int)} (h : rightB n es = true) : Rises es := by
  simp only [rightB, okUp, Bool.and_eq_true, List.all_eq_true, List.mem_range, okAt, decide_eq_true_eq, Bool.or_eq_true] at h
  have step : ∀ j, 0 < j → j < es.length → ltE (gE es (j - 1)) (gE es j) := by
    intro j h0 hj
    have := (h.2 j hj).2
    rw [← cmpE_neg]
    omega
  intro i j hij
  induction j with
  | zero => omega
  | succ j ih =>
    intro hj
    have s := step (j + 1) (by omega) hj
    by_cases e : i = j
    · subst e; exact s
    · exact ltE_trans (ih (by omega) (by omega)) s

/-- Is there the edge? -/
def hasB (n : Int) (es : List (Int × Int)) (a b : Int) : Bool := rightB n es && decide (mnE a b ∈ es)

set_option maxHeartbeats 400000 in
theorem place_any (n : Int) (A : Option Addr) (c : Nat) (es : List (Int × Int)) (a b : Int) (w : World) (h : RdE w A es) (hr : Rises es) :
    Calls Try.prog 53 #[.agg #[.int .i64 n, .slice A es.length c], .int .i64 a, .int .i64 b] w fun e w' => e = .returned (.tuple #[.int .i64 (lowE es (mnE a b)), .bool (decide (mnE a b ∈ es))]) ∧ Below w.heap.size w w' := by
  have HR := Lib.hid h
  have HS := Lib.hid hr
  clear h hr
  go_enter Try.func53, Try.ntmps53
  go_wp2
  refine wp_box1 ?_
  intro W hb hs hg
  have cg2 := blk_cell hg 1 rfl
  have HB := Lib.hid hb
  clear hg hb hs
  go_region_held3 (fun w' => w'.cell? ⟨w.heap.size, 1, none⟩ = some (.slice A es.length c)) (first | go_keep | (refine cell_below (by assumption) ?_; simp [*]))
    ((first | (go_at_call 57; refine (edge_any a b _).mono ?_; rintro e w1 ⟨rfl, hb1⟩) | (go_at_call 56; refine (bsearch_any A c es (mnE a b) _ ?_ HS.out).mono ?_; exact HR.out.below (below_thn HB.out (below_thn (Below.refl _ _).drew hb1)); rintro e w2 ⟨rfl, hb2⟩)))
  all_goals
    go_wp2
    go_ret2
    exact ⟨rfl, below_thn (below_thn HB.out (below_thn (Below.refl _ _).drew hb1)) hb2⟩

def indexI (n : Int) (es : List (Int × Int)) (a b : Int) : Int := if hasB n es a b then lowE es (mnE a b) else -1
set_option maxHeartbeats 400000 in
theorem index_any (n : Int) (A : Option Addr) (c : Nat) (es : List (Int × Int)) (a b : Int) (w : World) (h : RdE w A es) :
    Calls Try.prog 51 #[.agg #[.int .i64 n, .slice A es.length c], .int .i64 a, .int .i64 b] w fun e w' => e = .returned (.int .i64 (indexI n es a b)) ∧ Below w.heap.size w w' := by
  have HR := Lib.hid h
  clear h
  go_enter Try.func51, Try.ntmps51
  go_wp2_with (fail)
  refine calls_box1 ?_
  intro W hb hs hg
  have cg1 := blk_cell hg 0 rfl
  have cg2 := blk_cell hg 1 rfl
  have HB := Lib.hid hb
  have HG := Lib.hid hg
  clear hg hb hs
  refine (graphRight_any n A c es _ (HR.out.below HB.out)).mono ?_
  rintro e w1 ⟨rfl, hb1⟩
  have cg3 := cell_below hb1 cg1
  have cg4 := cell_below hb1 cg2
  have HB1 := Lib.hid (below_thn HB.out hb1)
  clear hb1 cg1 cg2
  by_cases hr : rightB n es = true
  · have HS := Lib.hid (right_rises hr)
    go_wp2_with (fail)
    refine (place_any n A c es a b _ (HR.out.below HB1.out) HS.out).mono ?_
    rintro e w2 ⟨rfl, hb2⟩
    by_cases hm : mnE a b ∈ es
    · have hx : Hid (indexI n es a b = lowE es (mnE a b)) := by show _ = _; unfold indexI hasB; rw [hr, decide_eq_true hm]; rfl
      have hd : decide (mnE a b ∈ es) = true := decide_eq_true hm
      clear hm
      go_wp2
      go_ret
      exact ⟨by rw [hx.out]; rfl, below_thn HB1.out hb2⟩
    · have hx : Hid (indexI n es a b = -1) := by show _ = _; unfold indexI hasB; rw [hr, decide_eq_false hm]; rfl
      have hd : decide (mnE a b ∈ es) = false := decide_eq_false hm
      clear hm
      go_wp2
      go_ret
      exact ⟨by rw [hx.out]; rfl, below_thn HB1.out hb2⟩
  · have hr' : rightB n es = false := by simpa using hr
    have hx : Hid (indexI n es a b = -1) := by show _ = _; unfold indexI hasB; rw [hr']; rfl
    clear hr
    go_wp2
    go_ret
    exact ⟨by rw [hx.out]; rfl, HB1.out⟩
set_option maxHeartbeats 400000 in
theorem has_any (n : Int) (A : Option Addr) (c : Nat) (es : List (Int × Int)) (a b : Int) (w : World) (h : RdE w A es) :
    Calls Try.prog 47 #[.agg #[.int .i64 n, .slice A es.length c], .int .i64 a, .int .i64 b] w fun e w' => e = .returned (.bool (hasB n es a b)) ∧ Below w.heap.size w w' := by
  have HR := Lib.hid h
  clear h
  go_enter Try.func47, Try.ntmps47
  go_wp2_with (fail)
  refine calls_box1 ?_
  intro W hb hs hg
  have HB := Lib.hid hb
  clear hg hb hs
  refine (index_any n A c es a b _ (HR.out.below HB.out)).mono ?_
  rintro e w1 ⟨rfl, hb1⟩
  have hx : Hid (decide (0 ≤ indexI n es a b) = hasB n es a b) := by show _ = _; unfold indexI; cases hasB n es a b <;> simp
  go_wp2
  go_ret
  exact ⟨ret_bool hx.out, below_thn HB.out hb1⟩
end Go.Proofs.Ytjcgokfjdagckaa
