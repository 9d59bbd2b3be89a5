/- Steps of a walk over whole blocks: store, load, results in a variable. -/
import Derived.Test.YtplghlokjgjjbaaDoorK1
import Derived.Deep.WholeRow
import Derived.Laws.CopyOwn
namespace Go.Proofs.YtplghlokjgjjbaaDoor
open Go.RowKit Go.Proofs.YtplghlokjgjjbaaDoorW.PrintWords

section
variable {P : Program} {ops : Array Oper} {rest : List Oper} {o : Oper} {a : Act} {Q : Exit → Act → World → Prop}
theorem step_build (w : World) (hgd : o.guard = none) (t : TypeId) (parts : Array (Nat × Operand)) (ho : o.op = .build t parts) (vals : List (Nat × Value)) (cells : Array Value) (hv : parts.toList.map (fun p => (p.1, a.eval p.2)) = vals)
    (hb : P.built t vals = some cells) (h : wpList P ops Q rest (a.put o.dst (.agg cells)) w) : wpList P ops Q (o :: rest) a w := by
  refine wpList_plain hgd fun K hK => ?_
  have hr := run_build (P := P) w t (parts.map fun p => (p.1, a.eval p.2)) cells (by rw [Array.toList_map, hv]; exact hb)
  unfold Oper.wp execOp
  simp only [ho, Sem.run_bind, hr, Sem.run_pure, Result.andThen_ok]
  exact hK _ _ h
theorem step_store_new (w : World) (hgd : o.guard = none) (hd : o.dst = none) (t : TypeId) (ad x : Operand) (ho : o.op = .store t ad x) (c c' : Array Value) (had : a.eval ad = .pointer (some ⟨w.heap.size, 0, none⟩)) (hx : a.eval x = .agg c')
    (hi : (P.info? t).map (·.size) = some c'.size) (hs : c.size = c'.size) (h1 : c'.all (·.oneCell') = true) (h : wpList P ops Q rest a (w.alloc (.cells c' t))) : wpList P ops Q (o :: rest) a (w.alloc (.cells c t)) := by
  refine wpList_plain hgd fun K hK => ?_
  have hr := run_storeAt_new (P := P) w t c c' hi hs h1
  unfold Oper.wp execOp
  simp only [ho, had, hx, Sem.run_bind, hr, Sem.run_pure, Result.andThen_ok]
  exact hK _ _ (by rw [hd]; exact h)
/-- A store of a whole block: the world behind it, by what it holds. -/
theorem step_store_blk {w : World} (g : Nat) (hgd : o.guard = none) (hd : o.dst = none) (t : TypeId) (ad x : Operand) (ho : o.op = .store t ad x) (c c' : Array Value) (had : a.eval ad = .pointer (some ⟨g, 0, none⟩)) (hx : a.eval x = .agg c')
    (hg : w.heap[g]? = some (.cells c t (0, 0))) (hi : (P.info? t).map (·.size) = some c'.size) (hs : c.size = c'.size) (h1 : c'.all (·.oneCell') = true)
    (h : ∀ w', w'.heap[g]? = some (.cells c' t (0, 0)) → w.grownBy w' (some g) → wpList P ops Q rest a w') : wpList P ops Q (o :: rest) a w := by
  refine wpList_plain hgd fun K hK => ?_
  have hr := run_storeVar_row (P := P) w g t t c c' hg hi hs h1
  unfold Oper.wp execOp
  simp only [ho, had, hx, Instr.storeAt, Instr.sureAddr, Sem.run_bind, hr, Sem.run_pure, Result.andThen_ok]
  exact hK _ _ (by rw [hd]; exact h _ (setRow_heap w g c _ t _ hg) ⟨rfl, rfl, rfl, by simp, fun k _ hk => setRow_other w g k _ (fun e => hk (by rw [e]))⟩)
/-- A load of a whole block. -/
theorem step_load_blk {w : World} (g : Nat) (hgd : o.guard = none) (t : TypeId) (ad : Operand) (ho : o.op = .load t ad) (c : Array Value) (d : TypeDesc) (had : a.eval ad = .pointer (some ⟨g, 0, none⟩))
    (hg : w.heap[g]? = some (.cells c t (0, 0))) (hu : P.underlying t = some d) (hdd : (match d with | .struct _ | .array _ _ => true | _ => false) = true) (hi : (P.info? t).map (·.size) = some c.size)
    (h : wpList P ops Q rest (a.put o.dst (.agg c)) w) : wpList P ops Q (o :: rest) a w := by
  refine wpList_plain hgd fun K hK => ?_
  have hr := run_loadVar_row (P := P) w g t t c (0, 0) d hg hu hdd hi
  unfold Oper.wp execOp
  simp only [ho, had, Instr.loadAt, Instr.sureAddr, Sem.run_bind, hr, Sem.run_pure, Result.andThen_ok]
  exact hK _ _ h
theorem results_cell {fn : Func} {k t : Nat} (hf : fn.results = #[.cell k t]) {tmps : Array Value} {ad : Addr} {w : World} {v : Value} (ha : tmps.getD k undef = .pointer (some ad)) (hl : (loadVar t ad).run P w = .ok v w) : (results fn tmps).run P w = .ok v w := by
  have hr : (asAddr (tmps.getD k undef)).run P w = .ok ad w := by rw [ha]; rfl
  rw [results, hf]
  simp only [Array.mapM_eq_mapM_toList, List.mapM_cons, List.mapM_nil, Sem.run_bind, Sem.run_map, Sem.run_pure, Result.andThen_ok, hr, hl]
  rfl
theorem results_cell_tmp {fn : Func} {k t j : Nat} (hf : fn.results = #[.cell k t, .tmp j]) {tmps : Array Value} {ad : Addr} {w : World} {v u : Value} (ha : tmps.getD k undef = .pointer (some ad)) (hu : tmps.getD j undef = u) (hl : (loadVar t ad).run P w = .ok v w) : (results fn tmps).run P w = .ok (.tuple #[v, u]) w := by
  have hr : (asAddr (tmps.getD k undef)).run P w = .ok ad w := by rw [ha]; rfl
  rw [results, hf]
  simp only [Array.mapM_eq_mapM_toList, List.mapM_cons, List.mapM_nil, Sem.run_bind, Sem.run_map, Sem.run_pure, Result.andThen_ok, hr, hl, hu]
  rfl
theorem results_tmp_cell {fn : Func} {k t j : Nat} (hf : fn.results = #[.tmp j, .cell k t]) {tmps : Array Value} {ad : Addr} {w : World} {v u : Value} (ha : tmps.getD k undef = .pointer (some ad)) (hu : tmps.getD j undef = u) (hl : (loadVar t ad).run P w = .ok v w) : (results fn tmps).run P w = .ok (.tuple #[u, v]) w := by
  have hr : (asAddr (tmps.getD k undef)).run P w = .ok ad w := by rw [ha]; rfl
  rw [results, hf]
  simp only [Array.mapM_eq_mapM_toList, List.mapM_cons, List.mapM_nil, Sem.run_bind, Sem.run_map, Sem.run_pure, Result.andThen_ok, hr, hl, hu]
  rfl
end
end Go.Proofs.YtplghlokjgjjbaaDoor
