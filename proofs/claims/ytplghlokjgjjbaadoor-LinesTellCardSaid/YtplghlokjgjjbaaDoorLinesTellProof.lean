/- LinesTell returns true. -/
import Derived.Test.YtplghlokjgjjbaaDoorCards
import Derived.Test.YtplghlokjgjjbaaDoorTie
import Derived.Test.YtplghlokjgjjbaaDoorL30
import Derived.Test.YtplghlokjgjjbaaDoorC3
import Derived.WalkKit
import Derived.ProofKit
import Derived.OpenShut
import Derived.LaidMore
import Derived.Lay
import Derived.SevenTiedAt
import Derived.Deep.DeepHandedRow
namespace Go.Proofs.YtplghlokjgjjbaaDoor.linesTell
open Go.ChangeShapes Go.WideShapes Go.ChangeAt Go.RowKit Go.ChangeMaps
set_option linter.unusedVariables false

theorem own : ownKnob Tryd.prog.godebug = none := by kernel_rfl
theorem laidOut : laidOutB Tryd.prog = true := by kernel_rfl
theorem cellsB : Tryd.prog.cellsOf 5 = 1 := by kernel_rfl
theorem bytesB : Tryd.prog.bytesOf 5 = 1 := by kernel_rfl
noncomputable def start (os : Os) : World := World.laidAll Tryd.prog os Rows.linesTellRow.laid
theorem laid_met (os : Os) : laidMet Tryd.prog Rows.linesTellRow.laid ((start os).forCall (fun _ _ => 0) ⟨#[], #[Value.string ⟨#[]⟩, Value.agg #[.int .i64 0, .int .i64 0, .int .i64 0, .slice none 0 0], Value.slice none 0 0], []⟩).memory := laidMet_laidAll _ (by kernel_rfl) (by kernel_rfl)
theorem reads (os : Os) {H : Type} (enc : TypeId × Value → H) : ∃ places, DataW.whole enc Tryd.prog ((start os).forCall (fun _ _ => 0) ⟨#[], #[Value.string ⟨#[]⟩, Value.agg #[.int .i64 0, .int .i64 0, .int .i64 0, .slice none 0 0], Value.slice none 0 0], []⟩).memory Tryd.f8.params.toList Rows.linesTellSpec.vars false #[Value.string ⟨#[]⟩, Value.agg #[.int .i64 0, .int .i64 0, .int .i64 0, .slice none 0 0], Value.slice none 0 0].toList 8 = some ([.lit (.string []), .agg [.lit (.int .i64 0), .lit (.int .i64 0), .lit (.int .i64 0), .nil], .nil], [], places) :=
  ⟨[], by kernel_rfl⟩
theorem start_ok (os : Os) : Input.okWideB Tryd.checked.prog ((start os).forCall (fun _ _ => 0) ⟨#[], #[Value.string ⟨#[]⟩, Value.agg #[.int .i64 0, .int .i64 0, .int .i64 0, .slice none 0 0], Value.slice none 0 0], []⟩) 8 ⟨#[], #[Value.string ⟨#[]⟩, Value.agg #[.int .i64 0, .int .i64 0, .int .i64 0, .slice none 0 0], Value.slice none 0 0], []⟩ = true := by kernel_rfl
set_option maxRecDepth 100000 in
theorem lifted (os : Os) (started : os.Started) (H : Type) (enc : TypeId × Value → H) (F : Stop.Interp) :
    ReturnsInHanded {} Tryd.checked os 8 .any ((OpenSpec.ofChange Rows.linesTellSpec).preRow enc Tryd.prog Tryd.f8 Rows.linesTellRow.domain false Rows.linesTellRow.laid) (((OpenSpec.ofChange Rows.linesTellSpec).at F).post enc Tryd.prog Tryd.f8 false true false false) := by
  obtain ⟨places, hx⟩ := reads os enc
  refine returnsInHanded_of_row (C := Tryd.checked) (s := OpenSpec.ofChange Rows.linesTellSpec) own started (by kernel_rfl) Tryd.func8
    ⟨start os, fun _ _ => 0, ⟨#[], #[Value.string ⟨#[]⟩, Value.agg #[.int .i64 0, .int .i64 0, .int .i64 0, .slice none 0 0], Value.slice none 0 0], []⟩, World.laidAll_os _ _ _, World.shaped_of_ZipB (by kernel_rfl) (by kernel_rfl), rfl, (Input.okWide_of_okWideB (start_ok os)).2,
      OpenSpec.preRow_of_cond 8 hx (by kernel_rfl) (fun k hk => by cases hk) (by kernel_rfl) (laid_met os), by
        simp only [Assume.holds]
        exact ⟨by simp, by simp, fun _ => Modest.zero, by simp, by simp⟩⟩ ?_
  intro W base args ds gs before hval0 hW _ _ hsz0 hL hsh _
  have hsz : (DataW.weightsEach Tryd.prog (Tryd.f8.params.toList ++ Rows.linesTellSpec.plain.varTypes Tryd.prog) (ds ++ gs)).all (· ≤ reachBytes) = true := hsz0
  obtain ⟨m, hm⟩ : ∃ m, W.cell? ⟨0, 0, none⟩ = some (.int .i64 m) := Tryd.laysM146.s1_3 W hsh
  have hval : ∀ (j : Nat) t v, Tryd.f8.params[j]? = some t → args[j]? = some v → Value.okWide Tryd.prog W .any base t v := hval0
  have hW' := hW
  obtain ⟨p, q, hA0, hV, rfl, hfz, hnd⟩ := hW
  have hA : DataW.TrodAll enc Tryd.prog W 0 (fun _ => true) true Tryd.f8.params.toList args.toList ds p := hA0
  rw [Tryd.params8] at hA hval hsz
  obtain ⟨v0, vs0, d0, ds0, p0, q0, hargs, rfl, rfl, h0, r0⟩ := trodAll_cons hA
  obtain ⟨v1, vs1, d1, ds1, p1, q1, rfl, rfl, rfl, h1, r1⟩ := trodAll_cons r0
  obtain ⟨v2, vs2, d2, ds2, p2, q2, rfl, rfl, rfl, h2, r2⟩ := trodAll_cons r1
  obtain ⟨rfl, rfl, rfl⟩ := trodAll_nil r2
  obtain rfl : args = #[v0, v1, v2] := by cases args; simp_all
  obtain ⟨rfl, rfl⟩ := trodVars_none hV
  have hlt : ∀ x ∈ p0 ++ (p1 ++ (p2 ++ [])), x.block < W.heap.size := fun x hx => by simpa using hW'.lt x (by simpa using hx)
  have k0 := h0
  obtain ⟨a0, rfl, rfl, rfl, w0⟩ := open_string Tryd.underlying9 (hval 0 9 v0 rfl rfl) h0
  have z0 : a0.size ≤ 140737488351232 := by have := sized_string (j := 0) hsz rfl rfl; rw [Array.length_toList] at this; exact this
  have k1 := h1
  obtain ⟨k1_, x1, y1, A1, c1, l1, rfl, hR1, hc1, hs1⟩ := open_cmd (j := 1) hsz rfl rfl (hval 1 26 v1 rfl rfl) h1
  obtain ⟨A2, n2, c2, rfl⟩ := okWide_slice Tryd.underlying34 (hval 2 34 v2 rfl rfl)
  have k2 := h2
  obtain ⟨l2, hl2, hR2, hc2, hs2, w2⟩ := open_RdB (j := 2) hsz rfl rfl Tryd.underlying34 Tryd.underlying5 cellsB bytesB h2
  subst hl2
  have hp : Pow W := by
    have h1 := laidMetH.filter (fun x => x.1 == "internal/strconv.uint64pow10") (show laidMetH Tryd.prog Rows.linesTellRow.laid W from hL)
    rw [show Rows.linesTellRow.laid.filter (fun x => x.1 == "internal/strconv.uint64pow10") = [("internal/strconv.uint64pow10", Lib.tabData .u64 Lib.pow10Tab)] by kernel_rfl] at h1
    exact Lib.tabIs_of_head (g := 1) (t := 110) (e := 101) (n := 20) (by kernel_rfl) (by kernel_rfl) (by kernel_rfl) (by kernel_rfl) (by kernel_rfl) (by kernel_rfl) h1
  clear hA0 hval0
  refine (linesTell_any a0 k1_ x1 y1 A1 c1 l1 A2 c2 l2 m W hm hp z0 hR1 hR2 hc2 w2).mono fun e W' ⟨he, hb⟩ => ?_
  subst he
  refine ⟨_, rfl, ?_⟩
  exact ⟨_, _, _, [], _, [], hW', (trodAll_cons_mk (shut_bool Tryd.underlying4 _) trodAll_mk0), (trodAll_cons_mk (Below.trod laidOut (by kernel_rfl) (of_decide_eq_true (by kernel_rfl)) k0 hb (fun x hx => hlt x (by first | (simp at hx; done) | simp [hx]))) (trodAll_cons_mk (Below.trod laidOut (by kernel_rfl) (of_decide_eq_true (by kernel_rfl)) k1 hb (fun x hx => hlt x (by first | (simp at hx; done) | simp [hx]))) (trodAll_cons_mk (Below.trod laidOut (by kernel_rfl) (of_decide_eq_true (by kernel_rfl)) k2 hb (fun x hx => hlt x (by first | (simp at hx; done) | simp [hx]))) trodAll_mk0))), rfl, hb.frame _, fun h => by cases h⟩

theorem said : Rows.LinesTellSaid :=
  OpenClaim.holds_of_cond 8 Tryd.f8 rfl rfl rfl rfl rfl rfl rfl ⟨rfl, rfl, rfl, rfl, rfl⟩ rfl rfl rfl rfl rfl (by kernel_rfl) Tryd.func8 (by kernel_rfl)
    (of_decide_eq_true (by kernel_rfl)) (by unfold Func.isWrapper; first | (rw [if_pos (by decide +kernel)]; kernel_rfl) | (rw [if_neg (by decide +kernel)]; exact ⟨rfl, rfl⟩))
    (fun os started H enc _ F => by rw [OpenClaim.pre_eq_preRow]; exact lifted os started H enc F)
theorem plain (f : FuncId) (fn : Func) (hf : Tryd.pinned.checked.prog.funcNamed "garland/garlandlaw26.LinesTell" = some f) (hfn : Tryd.pinned.checked.prog.funcs[f]? = some fn) :
    false = Tryd.pinned.checked.prog.looks [] ∧ ∀ (j : Nat) t, fn.params[j]? = some t → Tryd.pinned.checked.prog.wantsStandIn t = false := by
  obtain rfl : f = 8 := Option.some.inj ((show Tryd.prog.funcNamed "garland/garlandlaw26.LinesTell" = some 8 by kernel_rfl).symm.trans hf) |>.symm
  obtain rfl : fn = Tryd.f8 := (Option.some.inj (Tryd.func8.symm.trans hfn)).symm
  refine ⟨by kernel_rfl, fun j t ht => ?_⟩
  rw [Tryd.params8] at ht
  have hm : t ∈ [9, 26, 34] := by simpa using Array.mem_of_getElem? ht
  have hall : ([9, 26, 34].all fun u => !Tryd.prog.wantsStandIn u) = true := by kernel_rfl
  exact (show Tryd.prog.wantsStandIn t = false by simpa using List.all_eq_true.1 hall t hm)
/-- THE CARD -/
theorem linesTell_card : Rows.LinesTellCardSaid :=
  Claim7.holds_tied_plain_at .later [] _ _ _ _ said (fun _ h => by cases h) (by kernel_rfl) (fun _ h => by cases h) linesTell_row_tie rfl ⟨rfl, rfl⟩ (by kernel_rfl) rfl plain (by kernel_rfl)
end Go.Proofs.YtplghlokjgjjbaaDoor.linesTell
