/- A path of so many vertices, its edges, its matching: what garlandlaw09.WalkTurned lays. -/
import Derived.Test.YtjcgokfjdagckaaB11
import Derived.Deep.Cut
import Derived.Deep.CutBlock
import Derived.Deep.DeepCutAuto
namespace Go.Proofs.Ytjcgokfjdagckaa
open Go.RowKit Go.Proofs.YtjcgokfjdagckaaW.PrintWords

/-! ### rows of edges -/
theorem info_edge : (Try.prog.info? 28).map (fun i => (i.zero, i.size, i.bytes)) = some (some (.agg #[.int .i64 0, .int .i64 0]), 2, 16) := by kernel_rfl
theorem und_edges : Try.prog.underlying 23 = some (.slice 28) := by kernel_rfl
theorem flatE_length : ∀ es : List (Int × Int), (flatE es).length = es.length * 2
  | [] => rfl
  | e :: r => by simp [flatE, flatE_length r]; omega
theorem flatE_append : ∀ a b : List (Int × Int), flatE (a ++ b) = flatE a ++ flatE b
  | [], b => rfl
  | e :: r, b => by simp [flatE, flatE_append r b]
def OwE (w : World) (base : Nat) (v : Value) (es : List (Int × Int)) : Prop := w.ownsRow base 28 2 v es.length (flatE es)
theorem OwE.slice {w : World} {base : Nat} {v : Value} {es : List (Int × Int)} (h : OwE w base v es) : ∃ A c, v = .slice A es.length c := own_slice h
theorem OwE.len {w : World} {base : Nat} {v : Value} {es : List (Int × Int)} (h : OwE w base v es) (hl : es.length ≤ 4611686018427387904) : ∃ A c, v = .slice A es.length c ∧ RdE w A es := by
  cases es with
  | nil =>
    obtain ⟨A, c, e⟩ := h.slice
    exact ⟨A, c, e, hl, fun j hj => by simp at hj⟩
  | cons x r =>
    obtain ⟨g, cap, rfl, _, _⟩ := World.ownsRow.form h (by simp)
    refine ⟨_, _, rfl, hl, fun j hj => ⟨_, rfl, ?_⟩⟩
    have e : (⟨g, 0, none⟩ : Addr).add (j * 2) = ⟨g, j * 2, none⟩ := by unfold Addr.add; split <;> simp_all
    rw [e]
    have hg := flatE_get (x :: r) j hj
    exact ⟨(World.ownsRow.cellAt h (j * 2) (by omega)).trans hg.1, (World.ownsRow.cellAt h (j * 2 + 1) (by omega)).trans hg.2⟩

/-! ### what is laid -/
def upI (k : Nat) : List Int := (List.range k).map fun (i : Nat) => (i : Int)
def edUp (k : Nat) : List (Int × Int) := (List.range (k - 1)).map fun (i : Nat) => ((i : Int), (i : Int) + 1)
theorem upI_length (k : Nat) : (upI k).length = k := by simp [upI]
theorem edUp_length (k : Nat) : (edUp k).length = k - 1 := by simp [edUp]
theorem upI_succ (k : Nat) : upI (k + 1) = upI k ++ [(k : Int)] := by simp [upI, List.range_succ]
theorem edUp_succ (k : Nat) (h : 1 ≤ k) : edUp (k + 1) = edUp k ++ [((k : Int) - 1, (k : Int))] := by
  obtain ⟨j, rfl⟩ : ∃ j, k = j + 1 := ⟨k - 1, by omega⟩
  simp [edUp, List.range_succ]

/-- Four rows, and the graph's own cells, as they stand in a round. -/
structure Tn (w wr : World) (n : Nat) (ve : Value) (es : List (Int × Int)) (vm : Value) (ms : List Int) (vp : Value) (ps : List Int) (vb : Value) (bs : List Int) : Prop where
  below : Below w.heap.size w wr
  graph : wr.heap[w.heap.size]? = some (.cells #[.int .i64 n, ve] 25)
  e : OwE wr w.heap.size ve es
  m : OwI wr w.heap.size vm ms
  p : OwI wr w.heap.size vp ps
  b : OwI wr w.heap.size vb bs
  mp : NeRow vm vp
  mb : NeRow vm vb
  pb : NeRow vp vb

theorem own_lit_at (W : World) (base g : Nat) (xs : List Int) (hg : W.heap.size = g) (hb : base ≤ g) (hm : xs.length ≤ 9223372036854775807) (cs : Array Value) (hcs : cs = (nums .i64 xs).toArray) :
    OwI (W.alloc (.cells cs 3)) base (.slice (some ⟨g, 0, none⟩) xs.length xs.length) xs := by
  subst hg hcs; exact own_lit W base 3 .i64 xs hb hm

theorem Tn.ge {w wr : World} {n : Nat} {ve vm vp vb : Value} {es : List (Int × Int)} {ms ps bs : List Int} (h : Tn w wr n ve es vm ms vp ps vb bs) (u : Value) {es' : List (Int × Int)} {w1 : World}
    (ho : OwE w1 w.heap.size u es') (hg : wr.grownBy w1 ve.ownBlock) (hb : Below w.heap.size w w1) : Tn w (w1.setCell ⟨w.heap.size, 1, none⟩ u) n u es' vm ms vp ps vb bs := by
  have hgr : w1.heap[w.heap.size]? = some (.cells #[.int .i64 n, ve] 25) := blk_grown h.graph hg (own_ne h.e h.graph (by decide))
  have hk : ∀ {v : Value} {xs : List Int}, OwI wr w.heap.size v xs → OwI (w1.setCell ⟨w.heap.size, 1, none⟩ u) w.heap.size v xs := fun ho => by
    have h1 := own_other ho hg (ne_other (ne_types h.e ho (by decide)))
    exact own_setCell h1 (own_ne h1 hgr (by decide)) u
  exact ⟨hb.setCell (Nat.le_refl _) u, by have := blk_set hgr 1 u; simpa using this, own_setCell ho (own_ne ho hgr (by decide)) u, hk h.m, hk h.p, hk h.b, h.mp, h.mb, h.pb⟩

theorem Tn.gm {w wr : World} {n : Nat} {ve vm vp vb : Value} {es : List (Int × Int)} {ms ps bs : List Int} (h : Tn w wr n ve es vm ms vp ps vb bs) (u : Value) {ms' : List Int} {w1 : World}
    (ho : OwI w1 w.heap.size u ms') (hg : wr.grownBy w1 vm.ownBlock) (hb : Below w.heap.size w w1) (hat : u.ownBlock = vm.ownBlock ∨ ∃ b, u.ownBlock = some b ∧ wr.heap.size ≤ b) : Tn w w1 n ve es u ms' vp ps vb bs :=
  ⟨hb, blk_grown h.graph hg (own_ne h.m h.graph (by decide)), own_other h.e hg (ne_other (ne_types h.m h.e (by decide))), ho, own_other h.p hg (ne_other h.mp), own_other h.b hg (ne_other h.mb), ne_append h.mp hat h.p, ne_append h.mb hat h.b, h.pb⟩
theorem Tn.gp {w wr : World} {n : Nat} {ve vm vp vb : Value} {es : List (Int × Int)} {ms ps bs : List Int} (h : Tn w wr n ve es vm ms vp ps vb bs) (u : Value) {ps' : List Int} {w1 : World}
    (ho : OwI w1 w.heap.size u ps') (hg : wr.grownBy w1 vp.ownBlock) (hb : Below w.heap.size w w1) (hat : u.ownBlock = vp.ownBlock ∨ ∃ b, u.ownBlock = some b ∧ wr.heap.size ≤ b) : Tn w w1 n ve es vm ms u ps' vb bs :=
  ⟨hb, blk_grown h.graph hg (own_ne h.p h.graph (by decide)), own_other h.e hg (ne_other (ne_types h.p h.e (by decide))), own_other h.m hg (ne_other (ne_symm h.mp)), ho, own_other h.b hg (ne_other h.pb), ne_append' h.mp hat h.m, h.mb, ne_append h.pb hat h.b⟩
/-- The last row is laid anew, in blocks of its own. -/
theorem Tn.gb {w wr : World} {n : Nat} {ve vm vp vb : Value} {es : List (Int × Int)} {ms ps bs : List Int} (h : Tn w wr n ve es vm ms vp ps vb bs) (u : Value) {bs' : List Int} {w1 : World}
    (ho : OwI w1 wr.heap.size u bs') (hb : Below wr.heap.size wr w1) : Tn w w1 n ve es vm ms vp ps u bs' :=
  ⟨below_thn h.below hb, blk_below h.graph hb, pw_own_below h.e hb, h.m.below hb, h.p.below hb, own_weaken ho h.below.size, h.mp, ne_symm (ne_below ho h.m), ne_symm (ne_below ho h.p)⟩

/-- The matching, pair by pair. -/
def mateT (n : Nat) : Nat → List Int
  | 0 => List.replicate n (-1)
  | t + 1 => ((mateT n t).set (2 * t + 1) (2 * t + 2)).set (2 * t + 2) (2 * t + 1)
theorem mateT_length (n : Nat) : ∀ t, (mateT n t).length = n
  | 0 => by simp [mateT]
  | t + 1 => by simp [mateT, mateT_length n t]

/-- What the law asks, of each of the twenty lengths. -/
def turnedQ (q : Nat) : Bool :=
  let n := 2 + 2 * q
  let m := mateT n q
  decide ((flipR n (edUp n) m (upI n)).2 = 0) && decide (flipR n (edUp n) m (upI n) = flipR n (edUp n) m (upI n).reverse) && augmentsB n (edUp n) m (upI n) && augmentsB n (edUp n) m (upI n).reverse &&
    !augmentsB n (edUp n) m ((upI n).take (n - 1)) && alternatesB n (edUp n) m ((upI n).take (n - 1)) && alternatesB n (edUp n) m ((upI n).take 1)
theorem turned_all : ∀ q, q < 20 → turnedQ q = true := by decide +kernel

end Go.Proofs.Ytjcgokfjdagckaa
