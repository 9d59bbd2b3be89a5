/- garlandhelp.Kept: what Own gave is as it was. -/
import Derived.Test.YtplghlokjgjjbaaDoorL28
import Derived.Test.YtplghlokjgjjbaaDoorK6
namespace Go.Proofs.YtplghlokjgjjbaaDoor
open Go.RowKit Go.Proofs.YtplghlokjgjjbaaDoorW.PrintWords

/-! ### I -/
theorem full_cellI {w : World} {g : Nat} {xs : List Int} {f : Int} (hg : w.heap[g]? = some (.cells (fullCsI xs f) 3 (0, 0))) (j : Nat) (hj : j < xs.length + 3) : w.cell? ⟨g, j, none⟩ = some (.int .i64 (gi (xs ++ [f, f, f]) j)) := by
  refine blk_cell hg j ?_
  have h : j < (xs ++ [f, f, f]).length := by simp; omega
  rw [gi_get h, fullCsI, List.getElem?_toArray, nums, List.getElem?_map, List.getElem?_eq_getElem h]
  rfl
theorem gi_leftI (xs ys : List Int) (j : Nat) (h : j < xs.length) : gi (xs ++ ys) j = gi xs j := by
  simp [gi, List.getD_eq_getElem?_getD, List.getElem?_append_left h]
theorem gi_fullI (xs : List Int) (f : Int) (j : Nat) (h : j < 3) : gi (xs ++ [f, f, f]) (xs.length + j) = f := by
  simp only [gi, List.getD_eq_getElem?_getD]
  rw [List.getElem?_append_right (by omega), Nat.add_sub_cancel_left]
  match j, h with
  | 0, _ | 1, _ | 2, _ => rfl
theorem full_rdI {w : World} {g : Nat} {xs : List Int} {f : Int} (hg : w.heap[g]? = some (.cells (fullCsI xs f) 3 (0, 0))) (hl : xs.length ≤ 4611686018427387904) : RdI w (some ⟨g, 0, none⟩) xs :=
  ⟨hl, fun j hj => ⟨_, rfl, by
    rw [show (⟨g, 0, none⟩ : Addr).add j = ⟨g, j, none⟩ from by unfold Addr.add; split <;> simp_all, full_cellI hg j (by omega), gi_leftI xs _ j hj]⟩⟩
set_option maxRecDepth 100000 in
set_option maxHeartbeats 2000000 in
theorem keptI_any (g : Nat) (A : Option Addr) (c : Nat) (xs : List Int) (f : Int) (w : World) (hg : w.heap[g]? = some (.cells (fullCsI xs f) 3 (0, 0))) (hx : RdI w A xs) :
    Calls Tryd.prog 22 #[.slice (some ⟨g, 0, none⟩) xs.length (xs.length + 3), .slice A xs.length c, .int .i64 f] w fun e w' => e = .returned (.bool true) ∧ Below w.heap.size w w' := by
  have HP := Lib.hid (plainI_any (some ⟨g, 0, none⟩) A (xs.length + 3) c xs xs w (full_rdI hg hx.1) hx)
  have hl := hx.1
  have HG := Lib.hid hg
  clear hx hg
  go_enter Tryd.func22, Tryd.ntmps22
  go_wp2_with (fail)
  refine HP.out.mono ?_
  rintro e w1 ⟨rfl, hb1⟩
  simp only [decide_true]
  have HB1 := Lib.hid hb1
  clear hb1 HP
  go_wp2
  go_loopw [8] (fun v8 wr => ∃ j : Nat, j ≤ 3 ∧ v8 = .int .i64 ((xs.length + j : Nat) : Int) ∧ Hid (Below w.heap.size w wr)) (fun v8 _ => xs.length + 3 - (intOf v8).toNat)
  case atStart => exact ⟨0, by omega, by simp, HB1.out⟩
  case round =>
    obtain ⟨j, hj, rfl, HB⟩ := hrel
    by_cases hlt : j < 3
    · have c1 := full_cellI (blk_below HG.out HB.out) (xs.length + j) (by omega)
      rw [gi_fullI xs f j hlt] at c1
      have e1 : ((xs.length + j : Nat) : Int) < (xs.length : Int) + 3 := by omega
      have e2 : xs.length + j < xs.length + 3 := by omega
      have e3 : 0 ≤ ((xs.length + j : Nat) : Int) := by omega
      generalize hm : xs.length + j = m at *
      have HM := Lib.hid hm
      clear hm
      go_wp2
      go_roundw
      case rel => exact ⟨j + 1, hlt, by have := HM.out; congr 1; omega, HB⟩
      case measure => simp [intOf]; omega
    · obtain rfl : j = 3 := by omega
      go_wp2
      go_ret
      exact ⟨rfl, HB.out⟩

/-! ### B -/
theorem full_cellB {w : World} {g : Nat} {xs : List Int} {f : Int} (hg : w.heap[g]? = some (.cells (fullCsB xs f) 5 (0, 0))) (j : Nat) (hj : j < xs.length + 3) : w.cell? ⟨g, j, none⟩ = some (.int .u8 (gi (xs ++ [f, f, f]) j)) := by
  refine blk_cell hg j ?_
  have h : j < (xs ++ [f, f, f]).length := by simp; omega
  rw [gi_get h, fullCsB, List.getElem?_toArray, nums, List.getElem?_map, List.getElem?_eq_getElem h]
  rfl
theorem gi_leftB (xs ys : List Int) (j : Nat) (h : j < xs.length) : gi (xs ++ ys) j = gi xs j := by
  simp [gi, List.getD_eq_getElem?_getD, List.getElem?_append_left h]
theorem gi_fullB (xs : List Int) (f : Int) (j : Nat) (h : j < 3) : gi (xs ++ [f, f, f]) (xs.length + j) = f := by
  simp only [gi, List.getD_eq_getElem?_getD]
  rw [List.getElem?_append_right (by omega), Nat.add_sub_cancel_left]
  match j, h with
  | 0, _ | 1, _ | 2, _ => rfl
theorem full_rdB {w : World} {g : Nat} {xs : List Int} {f : Int} (hg : w.heap[g]? = some (.cells (fullCsB xs f) 5 (0, 0))) (hl : xs.length ≤ 4611686018427387904) : RdB w (some ⟨g, 0, none⟩) xs :=
  ⟨hl, fun j hj => ⟨_, rfl, by
    rw [show (⟨g, 0, none⟩ : Addr).add j = ⟨g, j, none⟩ from by unfold Addr.add; split <;> simp_all, full_cellB hg j (by omega), gi_leftB xs _ j hj]⟩⟩
set_option maxRecDepth 100000 in
set_option maxHeartbeats 2000000 in
theorem keptB_any (g : Nat) (A : Option Addr) (c : Nat) (xs : List Int) (f : Int) (w : World) (hg : w.heap[g]? = some (.cells (fullCsB xs f) 5 (0, 0))) (hx : RdB w A xs) :
    Calls Tryd.prog 21 #[.slice (some ⟨g, 0, none⟩) xs.length (xs.length + 3), .slice A xs.length c, .int .u8 f] w fun e w' => e = .returned (.bool true) ∧ Below w.heap.size w w' := by
  have HP := Lib.hid (plainB_any (some ⟨g, 0, none⟩) A (xs.length + 3) c xs xs w (full_rdB hg hx.1) hx)
  have hl := hx.1
  have HG := Lib.hid hg
  clear hx hg
  go_enter Tryd.func21, Tryd.ntmps21
  go_wp2_with (fail)
  refine HP.out.mono ?_
  rintro e w1 ⟨rfl, hb1⟩
  simp only [decide_true]
  have HB1 := Lib.hid hb1
  clear hb1 HP
  go_wp2
  go_loopw [8] (fun v8 wr => ∃ j : Nat, j ≤ 3 ∧ v8 = .int .i64 ((xs.length + j : Nat) : Int) ∧ Hid (Below w.heap.size w wr)) (fun v8 _ => xs.length + 3 - (intOf v8).toNat)
  case atStart => exact ⟨0, by omega, by simp, HB1.out⟩
  case round =>
    obtain ⟨j, hj, rfl, HB⟩ := hrel
    by_cases hlt : j < 3
    · have c1 := full_cellB (blk_below HG.out HB.out) (xs.length + j) (by omega)
      rw [gi_fullB xs f j hlt] at c1
      have e1 : ((xs.length + j : Nat) : Int) < (xs.length : Int) + 3 := by omega
      have e2 : xs.length + j < xs.length + 3 := by omega
      have e3 : 0 ≤ ((xs.length + j : Nat) : Int) := by omega
      generalize hm : xs.length + j = m at *
      have HM := Lib.hid hm
      clear hm
      go_wp2
      go_roundw
      case rel => exact ⟨j + 1, hlt, by have := HM.out; congr 1; omega, HB⟩
      case measure => simp [intOf]; omega
    · obtain rfl : j = 3 := by omega
      go_wp2
      go_ret
      exact ⟨rfl, HB.out⟩
end Go.Proofs.YtplghlokjgjjbaaDoor
