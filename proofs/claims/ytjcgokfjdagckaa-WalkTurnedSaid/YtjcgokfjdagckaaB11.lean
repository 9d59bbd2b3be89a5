/- What a program that does nothing does not answer (layer 9): it is answered. -/
import Derived.Test.YtjcgokfjdagckaaB10
namespace Go.Proofs.Ytjcgokfjdagckaa
open Go.RowKit Go.Proofs.YtjcgokfjdagckaaW.PrintWords

theorem awake_flip : flipR 2 [(0, 1)] [-1, -1] [1, 0] = ([1, 0], 0) := by decide +kernel
theorem awake_aug : augmentsB 2 [(0, 1)] [-1, -1] [0, 1] = true := by decide +kernel

set_option maxRecDepth 100000 in
set_option maxHeartbeats 2000000 in
theorem awake_any (w : World) : Calls Try.prog 8 #[] w fun e w' => e = .returned (.bool true) ∧ Below w.heap.size w w' := by
  go_enter Try.func8, Try.ntmps8
  go_wp2_with (fail)
  refine calls_box4 ?_
  intro W hb hs h1 h2 h3 h4
  have R1 : RdE W (some ⟨w.heap.size, 0, none⟩) [(0, 1)] := RdE.lit [(0, 1)] (by simp) h1 rfl
  have R3 : RdI W (some ⟨w.heap.size + 1 + 1, 0, none⟩) [-1, -1] := RdI.lit [-1, -1] (by simp) h3 rfl
  have R4 : RdI W (some ⟨w.heap.size + 1 + 1 + 1, 0, none⟩) [1, 0] := RdI.lit [1, 0] (by simp) h4 rfl
  have cg1 := blk_cell h2 0 rfl
  have cg2 := blk_cell h2 1 rfl
  have HR1 := Lib.hid R1
  have HB := Lib.hid hb
  refine (wFlip_any 2 _ _ [(0, 1)] _ _ [-1, -1] _ _ [1, 0] _ R1 R3 R4).mono ?_
  clear R1 R3 R4 h1 h2 h3 h4 hs hb
  rintro e w1 ⟨v, rfl, hv, hb1⟩
  rw [awake_flip] at hv ⊢
  obtain ⟨A1, c1, rfl, hrd⟩ := hv.len (by simp)
  have cg3 := cell_below hb1 cg1
  have cg4 := cell_below hb1 cg2
  have HRD := Lib.hid hrd
  have HB1 := Lib.hid (below_thn HB.out hb1)
  have HR2 := Lib.hid (HR1.out.below hb1)
  clear hv hrd hb1 cg1 cg2 HB HR1
  go_wp2_with (fail)
  refine calls_box1 ?_
  intro W2 hb2 hs2 h5
  have R5 : RdI W2 (some ⟨w1.heap.size, 0, none⟩) [1, 0] := RdI.lit [1, 0] (by simp) h5 rfl
  refine (plainI_any _ _ _ _ [1, 0] [1, 0] _ (HRD.out.below hb2) R5).mono ?_
  rintro e w3 ⟨rfl, hb3⟩
  have cg5 := cell_below hb3 (cell_below hb2 cg3)
  have cg6 := cell_below hb3 (cell_below hb2 cg4)
  have HB3 := Lib.hid (below_thn HB1.out (below_thn hb2 hb3))
  have HR3 := Lib.hid (HR2.out.below (below_thn hb2 hb3))
  clear hb2 hb3 hs2 h5 R5 cg3 cg4 HB1 HR2
  rw [show decide ([(1 : Int), 0] = [1, 0]) = true from by decide]
  go_wp2_with (fail)
  refine calls_box2 ?_
  intro W4 hb4 hs4 h6 h7
  have R6 : RdI W4 (some ⟨w3.heap.size, 0, none⟩) [-1, -1] := RdI.lit [-1, -1] (by simp) h6 rfl
  have R7 : RdI W4 (some ⟨w3.heap.size + 1, 0, none⟩) [0, 1] := RdI.lit [0, 1] (by simp) h7 rfl
  refine (wAugments_any 2 _ _ [(0, 1)] _ _ [-1, -1] _ _ [0, 1] _ (HR3.out.below hb4) R6 R7).mono ?_
  rintro e w5 ⟨rfl, hb5⟩
  have HB5 := Lib.hid (below_thn HB3.out (below_thn hb4 hb5))
  clear hb4 hb5 hs4 h6 h7 R6 R7 cg5 cg6 HB3 HR3
  rw [awake_aug]
  go_wp2
  go_ret
  exact ⟨rfl, HB5.out⟩
end Go.Proofs.Ytjcgokfjdagckaa
