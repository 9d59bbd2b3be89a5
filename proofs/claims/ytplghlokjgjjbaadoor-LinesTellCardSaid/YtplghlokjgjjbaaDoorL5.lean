/- What a program that does nothing does not answer (layer 26): it is answered. LinesWords returns true. -/
import Derived.Test.YtplghlokjgjjbaaDoorL4
namespace Go.Proofs.YtplghlokjgjjbaaDoor
open Go.RowKit Go.Proofs.YtplghlokjgjjbaaDoorW.PrintWords

theorem awake_parse : parseS ⟨#[97, 100, 100, 32, 49, 32, 50]⟩ = ((2, 1, 2, []), 0) := by decide +kernel

set_option maxRecDepth 100000 in
set_option maxHeartbeats 2000000 in
theorem awake_any (m : Int) (w : World) (hm : w.cell? ⟨0, 0, none⟩ = some (.int .i64 m)) : Calls Tryd.prog 10 #[] w fun e w' => e = .returned (.bool true) ∧ Below w.heap.size w w' := by
  have hp := parse_any ⟨#[97, 100, 100, 32, 49, 32, 50]⟩ m w hm (by decide)
  rw [awake_parse] at hp
  have HP := Lib.hid hp
  clear hp hm
  go_enter Tryd.func10, Tryd.ntmps10
  go_wp2_with (fail)
  refine HP.out.mono ?_
  rintro e w1 ⟨v, rfl, hv, hb⟩
  obtain ⟨A, c, rfl⟩ := hv.slice
  have HB := Lib.hid hb
  clear HP hv hb
  go_upto_region 2 with (fail)
  refine wp_box1 ?_
  intro W hb1 hsz h1
  have f0 := blk_cell h1 0 rfl
  have f1 := blk_cell h1 1 rfl
  have f2 := blk_cell h1 2 rfl
  have HB1 := Lib.hid (below_thn HB.out hb1)
  clear hb1 h1 hsz HB
  go_wp2
  go_ret
  exact ⟨rfl, HB1.out⟩
end Go.Proofs.YtplghlokjgjjbaaDoor
