/- Operations of regions that draw their order, run by themselves: a whole block stored. -/
import Derived.Test.YtplghlokjgjjbaaDoorK2
import Derived.Test.YtplghlokjgjjbaaDoorWInvWords
import Derived.Test.YtplghlokjgjjbaaDoorWTab
namespace Go.Proofs.YtplghlokjgjjbaaDoor
open Go.RowKit Go.Proofs.YtplghlokjgjjbaaDoorW.PrintWords Go.Proofs.YtplghlokjgjjbaaDoorW.PrintLast
theorem exec_store_blk {P : Program} {o : Oper} {ev : Operand → Value} {w : World} (g : Nat) (t : TypeId) (ad x : Operand) (ho : o.op = .store t ad x) (c c' : Array Value) (had : ev ad = .pointer (some ⟨g, 0, none⟩)) (hx : ev x = .agg c')
    (hg : w.heap[g]? = some (.cells c t (0, 0))) (hi : (P.info? t).map (·.size) = some c'.size) (hs : c.size = c'.size) (h1 : c'.all (·.oneCell') = true) : (execOp ev o).run P w = .ok .skip (w.setRow g c') := by
  have hr := run_storeVar_row (P := P) w g t t c c' hg hi hs h1
  unfold execOp
  simp only [ho, had, hx, Instr.storeAt, Instr.sureAddr, Sem.run_bind, hr, Sem.run_pure, Result.andThen_ok]
theorem set_blk2 {w : World} {g : Nat} {t : TypeId} {c : Array Value} (h : w.heap[g]? = some (.cells c t (0, 0))) (c' : Array Value) : (w.setRow g c').heap[g]? = some (.cells c' t (0, 0)) ∧ w.grownBy (w.setRow g c') (some g) :=
  ⟨setRow_heap w g c _ t _ h, rfl, rfl, rfl, by simp, fun k _ hk => setRow_other w g k _ (fun e => hk (by rw [e]))⟩
end Go.Proofs.YtplghlokjgjjbaaDoor
