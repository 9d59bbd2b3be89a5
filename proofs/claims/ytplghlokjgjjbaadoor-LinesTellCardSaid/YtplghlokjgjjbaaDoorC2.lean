/- A row's argument opened: a command. -/
import Derived.Test.YtplghlokjgjjbaaDoorC1
import Derived.Lib.SmallJoins
import Derived.Lib.LaidTab
import Derived.LaidSub
namespace Go.Proofs.YtplghlokjgjjbaaDoor
open Go.RowKit Go.Proofs.YtplghlokjgjjbaaDoorW.PrintWords Go.ChangeShapes Go.WideShapes Go.Joins

section
variable {H : Type} {enc : TypeId × Value → H} {W : World} {d : DataW H} {ps : List MemPlace} {ts : List TypeId} {ds : List (DataW H)} {j : Nat}
theorem sized_in (hsz : (DataW.weightsEach Tryd.prog ts ds).all (· ≤ reachBytes) = true) {t : TypeId} (ht : ts[j]? = some t) (hd : ds[j]? = some d) : (d.weights Tryd.prog t).all (· ≤ reachBytes) = true :=
  List.all_eq_true.2 fun n hn => List.all_eq_true.1 hsz n (DataW.weights_mem_each ht hd n hn)
set_option maxRecDepth 100000 in
theorem open_cmd {v : Value} {r : Reach} {b0 : Nat} (hsz : (DataW.weightsEach Tryd.prog ts ds).all (· ≤ reachBytes) = true) (ht : ts[j]? = some 26) (hd : ds[j]? = some d) (hv : Value.okWide Tryd.prog W r b0 26 v)
    (h : DataW.Trod enc Tryd.prog W 0 (fun _ => true) true 26 v d ps) : ∃ k x y A c, ∃ l : List Int, v = .agg #[.int .i64 k, .int .i64 x, .int .i64 y, .slice A l.length c] ∧ RdI W A l ∧ l.length ≤ c ∧ l.length * 8 ≤ 140737488351232 := by
  obtain ⟨v0, v1, v2, v3, y0, y1, y2, y3, n, rfl, rfl, rfl, h0, h1, h2, h3⟩ := open_agg4 Tryd.underlying26 (by kernel_rfl) (by kernel_rfl) hv h
  obtain ⟨k, e0, _⟩ := DataW.trod_int Tryd.underlying3 h0
  obtain ⟨x, e1, _⟩ := DataW.trod_int Tryd.underlying3 h1
  obtain ⟨y, e2, _⟩ := DataW.trod_int Tryd.underlying3 h2
  obtain ⟨A, m, c, e3⟩ := slice_form Tryd.underlying24 h3
  injection e0 with e0
  injection e1 with e1
  injection e2 with e2
  injection e3 with e3
  subst e0 e1 e2 e3
  have hin : (DataW.weightsEach Tryd.prog [3, 3, 3, 24] [y0.1, y1.1, y2.1, y3.1]).all (· ≤ reachBytes) = true := by
    have := sized_in hsz ht hd
    rw [DataW.weights, Tryd.underlying26] at this
    exact this
  obtain ⟨l, rfl, hr, hc, hs, _⟩ := open_RdI (A := A) (len := m) (cap := c) (j := 3) (enc := enc) (ps := y3.2) hin rfl rfl Tryd.underlying24 Tryd.underlying3 (by kernel_rfl) (by kernel_rfl) ⟨n, h3⟩
  exact ⟨k, x, y, A, c, l, rfl, hr, hc, hs⟩
end
end Go.Proofs.YtplghlokjgjjbaaDoor
