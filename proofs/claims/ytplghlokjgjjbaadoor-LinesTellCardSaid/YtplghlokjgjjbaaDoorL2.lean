/- forms of package lines: each kind's word, and how many numbers stand behind it. -/
import Derived.Test.YtplghlokjgjjbaaDoorL1
import Derived.Test.YtplghlokjgjjbaaDoorK2
namespace Go.Proofs.YtplghlokjgjjbaaDoor
open Go.RowKit Go.Proofs.YtplghlokjgjjbaaDoorW.PrintWords

def formW : List (ByteArray × Int) := [(⟨#[]⟩, 0), (⟨#[118, 101, 114, 116, 105, 99, 101, 115]⟩, 1), (⟨#[97, 100, 100]⟩, 2), (⟨#[114, 101, 109, 111, 118, 101]⟩, 2), (⟨#[103, 114, 111, 119]⟩, 0), (⟨#[99, 117, 116]⟩, 1), (⟨#[109, 97, 116, 99, 104]⟩, 1), (⟨#[103, 97, 108, 108, 97, 105]⟩, 0), (⟨#[98, 97, 114, 114, 105, 101, 114]⟩, 0), (⟨#[115, 105, 100, 101, 115]⟩, 0), (⟨#[98, 108, 111, 99, 107, 115]⟩, 0), (⟨#[102, 97, 99, 116, 111, 114]⟩, -1), (⟨#[99, 111, 118, 101, 114]⟩, 0), (⟨#[99, 108, 97, 115, 115, 105, 102, 121]⟩, 0), (⟨#[116, 101, 108, 108]⟩, 0)]
/-- As the cells of an array. -/
def formsC : Array Value := (formW.flatMap fun p => [Value.string p.1, Value.int .i64 p.2]).toArray
theorem formsC_size : formsC.size = 30 := by decide
theorem formsC_one : formsC.all (·.oneCell') = true := by kernel_rfl
theorem formsC_info : (Tryd.prog.info? 54).map (·.size) = some formsC.size := by kernel_rfl
theorem formsC_built : Tryd.prog.built 54 [(1, .agg #[.string ⟨#[118, 101, 114, 116, 105, 99, 101, 115]⟩, .int .i64 1]), (2, .agg #[.string ⟨#[97, 100, 100]⟩, .int .i64 2]), (3, .agg #[.string ⟨#[114, 101, 109, 111, 118, 101]⟩, .int .i64 2]), (4, .agg #[.string ⟨#[103, 114, 111, 119]⟩, .int .i64 0]), (5, .agg #[.string ⟨#[99, 117, 116]⟩, .int .i64 1]), (6, .agg #[.string ⟨#[109, 97, 116, 99, 104]⟩, .int .i64 1]), (7, .agg #[.string ⟨#[103, 97, 108, 108, 97, 105]⟩, .int .i64 0]), (8, .agg #[.string ⟨#[98, 97, 114, 114, 105, 101, 114]⟩, .int .i64 0]), (9, .agg #[.string ⟨#[115, 105, 100, 101, 115]⟩, .int .i64 0]), (10, .agg #[.string ⟨#[98, 108, 111, 99, 107, 115]⟩, .int .i64 0]), (11, .agg #[.string ⟨#[102, 97, 99, 116, 111, 114]⟩, .int .i64 (-1)]), (12, .agg #[.string ⟨#[99, 111, 118, 101, 114]⟩, .int .i64 0]), (13, .agg #[.string ⟨#[99, 108, 97, 115, 115, 105, 102, 121]⟩, .int .i64 0]), (14, .agg #[.string ⟨#[116, 101, 108, 108]⟩, .int .i64 0])] = some formsC := by kernel_rfl
theorem und_forms : Tryd.prog.underlying 54 = some (.array 15 53) := by kernel_rfl

set_option maxRecDepth 100000 in
set_option maxHeartbeats 2000000 in
theorem forms_any (w : World) : Calls Tryd.prog 24 #[] w fun e w' => e = .returned (.agg formsC) ∧ Below w.heap.size w w' := by
  go_enter Tryd.func24, Tryd.ntmps24
  go_wp2_with (first | (refine step_build _ rfl 54 _ rfl _ formsC rfl formsC_built ?_) | (refine step_store_new w rfl rfl 54 (.tmp 0) (.tmp 15) rfl _ formsC rfl rfl formsC_info rfl formsC_one ?_))
  refine bodyPost_ret (v := .agg formsC) ?_ rfl ⟨rfl, below_alloc (Below.refl _ _) _⟩
  exact results_cell rfl rfl (run_loadVar_new (P := Tryd.prog) w 54 formsC 15 53 und_forms formsC_info)
end Go.Proofs.YtplghlokjgjjbaaDoor
