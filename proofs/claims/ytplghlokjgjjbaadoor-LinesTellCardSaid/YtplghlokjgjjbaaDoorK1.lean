/- Words that the walks of this claim share: slices that are read, numbers held against each other, rows that the call owns. -/
import Derived.Test.YtplghlokjgjjbaaDoorProg
import Derived.WalkKit
import Derived.WalkSpells
import Derived.WalkLawsBesides
import Derived.Deep.QuietTactic
import Derived.BigQuiet
import Derived.Lib.Hide
import Derived.KernelRfl
import Derived.StillTailTactics
import Derived.Deep.RegionHeld3
import Derived.Test.YtplghlokjgjjbaaDoorWWords
namespace Go.Proofs.YtplghlokjgjjbaaDoor
open Go.RowKit Go.Proofs.YtplghlokjgjjbaaDoorW.PrintWords

/-- The number at a place (behind a name: the walk leaves it as it is). -/
def gi (xs : List Int) (k : Nat) : Int := xs.getD k 0
theorem gi_get {xs : List Int} {k : Nat} (h : k < xs.length) : gi xs k = xs[k] := by simp [gi, List.getD_eq_getElem?_getD, List.getElem?_eq_getElem h]
theorem gi_get? {xs : List Int} {k : Nat} (h : k < xs.length) : xs[k]? = some (gi xs k) := by rw [gi_get h, List.getElem?_eq_getElem h]
theorem drop_gi {xs : List Int} {k : Nat} (h : k < xs.length) : xs.drop k = gi xs k :: xs.drop (k + 1) := by rw [List.drop_eq_getElem_cons h, gi_get h]
theorem take_gi {xs : List Int} {k : Nat} (h : k < xs.length) : xs.take (k + 1) = xs.take k ++ [gi xs k] := by rw [List.take_succ_eq_append_getElem h, gi_get h]
/-- A slice of whole numbers that is read. -/
def RdI (w : World) (A : Option Addr) (xs : List Int) : Prop :=
  xs.length ≤ 4611686018427387904 ∧ ∀ j, j < xs.length → ∃ ad, A = some ad ∧ w.cell? (ad.add j) = some (.int .i64 (gi xs j))
theorem cell_below {w w1 : World} (h : Below w.heap.size w w1) {a : Addr} {v : Value} (hc : w.cell? a = some v) : w1.cell? a = some v := (h.cell (World.block_lt_of_cell? w a hc)).trans hc
theorem RdI.below {w w1 : World} {A : Option Addr} {xs : List Int} (h : RdI w A xs) (hb : Below w.heap.size w w1) : RdI w1 A xs :=
  ⟨h.1, fun j hj => by obtain ⟨ad, e, hc⟩ := h.2 j hj; exact ⟨ad, e, cell_below hb hc⟩⟩

/-! ### new blocks, under one name -/
theorem blk_lt {w : World} {g : Nat} {o : Obj} (h : w.heap[g]? = some o) : g < w.heap.size := (Array.getElem?_eq_some_iff.1 h).1
theorem blk_below {w w1 : World} {g : Nat} {o : Obj} (h : w.heap[g]? = some o) (hb : Below w.heap.size w w1) : w1.heap[g]? = some o := (hb.block g (blk_lt h)).trans h
theorem blk_alloc {w : World} {g : Nat} {o : Obj} (h : w.heap[g]? = some o) (o' : Obj) : (w.alloc o').heap[g]? = some o := (Below.heap_alloc w o' g (blk_lt h)).trans h
theorem below_alloc {w W : World} (h : Below w.heap.size w W) (o : Obj) : Below w.heap.size w (W.alloc o) := h.alloc h.size o
theorem below_drewN {B : Nat} {w W : World} (h : Below B w W) (n : Nat) : Below B w (W.drewN n) := ⟨h.os, h.tape, h.output, h.size, h.block⟩
theorem below_then {B : Nat} {w w1 w2 : World} (h : Below B w w1) (hB : B ≤ w1.heap.size) (k : Below w1.heap.size w1 w2) : Below B w w2 := h.trans (k.mono hB)
theorem below_thn {w w1 w2 : World} (h : Below w.heap.size w w1) (k : Below w1.heap.size w1 w2) : Below w.heap.size w w2 := h.trans (k.mono h.size)
theorem wp_box1 {P : Program} {c : Code} {Q : Exit → Act → World → Prop} {a : Act} {w : World} {o1 : Obj}
    (h : ∀ W, Below w.heap.size w W → W.heap.size = w.heap.size + 1 → W.heap[w.heap.size]? = some o1 → c.wp P Q a W) : c.wp P Q a (w.alloc o1) :=
  h _ (below_alloc (Below.refl _ _) _) (by simp) (heap_alloc_new _ _)
theorem wp_box2 {P : Program} {c : Code} {Q : Exit → Act → World → Prop} {a : Act} {w : World} {o1 o2 : Obj}
    (h : ∀ W, Below w.heap.size w W → W.heap.size = w.heap.size + 2 → W.heap[w.heap.size]? = some o1 → W.heap[w.heap.size + 1]? = some o2 → c.wp P Q a W) : c.wp P Q a ((w.alloc o1).alloc o2) :=
  h _ (below_alloc (below_alloc (Below.refl _ _) _) _) (by simp) (blk_alloc (heap_alloc_new _ _) _) (by have := heap_alloc_new (w.alloc o1) o2; simpa using this)
theorem wp_box3 {P : Program} {c : Code} {Q : Exit → Act → World → Prop} {a : Act} {w : World} {o1 o2 o3 : Obj}
    (h : ∀ W, Below w.heap.size w W → W.heap.size = w.heap.size + 3 → W.heap[w.heap.size]? = some o1 → W.heap[w.heap.size + 1]? = some o2 → W.heap[w.heap.size + 1 + 1]? = some o3 → c.wp P Q a W) : c.wp P Q a (((w.alloc o1).alloc o2).alloc o3) :=
  h _ (below_alloc (below_alloc (below_alloc (Below.refl _ _) _) _) _) (by simp) (blk_alloc (blk_alloc (heap_alloc_new _ _) _) _)
    (blk_alloc (by have := heap_alloc_new (w.alloc o1) o2; simpa using this) _) (by have := heap_alloc_new ((w.alloc o1).alloc o2) o3; simpa using this)
theorem calls_box1 {P : Program} {f : FuncId} {args : Array Value} {R : Ending → World → Prop} {w : World} {o1 : Obj}
    (h : ∀ W, Below w.heap.size w W → W.heap.size = w.heap.size + 1 → W.heap[w.heap.size]? = some o1 → Calls P f args W R) : Calls P f args (w.alloc o1) R :=
  h _ (below_alloc (Below.refl _ _) _) (by simp) (heap_alloc_new _ _)
theorem calls_box2 {P : Program} {f : FuncId} {args : Array Value} {R : Ending → World → Prop} {w : World} {o1 o2 : Obj}
    (h : ∀ W, Below w.heap.size w W → W.heap.size = w.heap.size + 2 → W.heap[w.heap.size]? = some o1 → W.heap[w.heap.size + 1]? = some o2 → Calls P f args W R) : Calls P f args ((w.alloc o1).alloc o2) R :=
  h _ (below_alloc (below_alloc (Below.refl _ _) _) _) (by simp) (blk_alloc (heap_alloc_new _ _) _) (by have := heap_alloc_new (w.alloc o1) o2; simpa using this)
theorem heap_alloc_next (w : World) (o1 : Obj) (k : Nat) (h : w.heap.size = k) : (w.alloc o1).heap[k]? = some o1 := by subst h; exact heap_alloc_new w o1
theorem calls_box3 {P : Program} {f : FuncId} {args : Array Value} {R : Ending → World → Prop} {w : World} {o1 o2 o3 : Obj}
    (h : ∀ W, Below w.heap.size w W → W.heap.size = w.heap.size + 3 → W.heap[w.heap.size]? = some o1 → W.heap[w.heap.size + 1]? = some o2 → W.heap[w.heap.size + 1 + 1]? = some o3 → Calls P f args W R) : Calls P f args (((w.alloc o1).alloc o2).alloc o3) R :=
  h _ (below_alloc (below_alloc (below_alloc (Below.refl _ _) _) _) _) (by simp) (blk_alloc (blk_alloc (heap_alloc_new _ _) _) _)
    (blk_alloc (heap_alloc_next _ _ _ (by simp)) _) (heap_alloc_next _ _ _ (by simp))
theorem calls_box4 {P : Program} {f : FuncId} {args : Array Value} {R : Ending → World → Prop} {w : World} {o1 o2 o3 o4 : Obj}
    (h : ∀ W, Below w.heap.size w W → W.heap.size = w.heap.size + 4 → W.heap[w.heap.size]? = some o1 → W.heap[w.heap.size + 1]? = some o2 → W.heap[w.heap.size + 1 + 1]? = some o3 → W.heap[w.heap.size + 1 + 1 + 1]? = some o4 → Calls P f args W R) : Calls P f args ((((w.alloc o1).alloc o2).alloc o3).alloc o4) R :=
  h _ (below_alloc (below_alloc (below_alloc (below_alloc (Below.refl _ _) _) _) _) _) (by simp) (blk_alloc (blk_alloc (blk_alloc (heap_alloc_new _ _) _) _) _)
    (blk_alloc (blk_alloc (heap_alloc_next _ _ _ (by simp)) _) _) (blk_alloc (heap_alloc_next _ _ _ (by simp)) _) (heap_alloc_next _ _ _ (by simp))
theorem blk_cell {w : World} {g : Nat} {t : TypeId} {cs : Array Value} {fr : Nat × Nat} (h : w.heap[g]? = some (.cells cs t fr)) (i : Nat) {v : Value} (hv : cs[i]? = some v) : w.cell? ⟨g, i, none⟩ = some v := (cell_of_row w g i cs t fr h).trans hv
theorem blk_free {w : World} {g : Nat} {t : TypeId} {cs : Array Value} (h : w.heap[g]? = some (.cells cs t (0, 0))) (i : Nat) : w.frozen? ⟨g, i, none⟩ = false := by simp [World.frozen?, h]
/-- A literal of whole numbers, just laid. -/
theorem RdI.lit {w : World} {g : Nat} {t : TypeId} {fr : Nat × Nat} (xs : List Int) (hn : xs.length ≤ 4611686018427387904) {cs : Array Value} (h : w.heap[g]? = some (.cells cs t fr)) (hcs : cs = (xs.map (Value.int .i64)).toArray) : RdI w (some ⟨g, 0, none⟩) xs :=
  ⟨hn, fun j hj => ⟨_, rfl, by
    have e : (⟨g, 0, none⟩ : Addr).add j = ⟨g, j, none⟩ := by unfold Addr.add; split <;> simp_all
    rw [e]; refine blk_cell h j ?_; subst hcs; simp [gi_get? hj]⟩⟩

/-! ### regions whose operations read, and whose callees lay blocks of their own at most -/
/-- A world that has grown out of another one. -/
structure Gr (W : World) where
  val : World
  ok : Below W.heap.size W val
instance (W : World) : Nonempty (Gr W) := ⟨⟨W, Below.refl _ _⟩⟩
theorem wp_region_gr {P : Program} {id : Nat} {Q : Exit → Act → World → Prop} {a : Act} {W : World} {l : List Oper} (hm : P.follows .mixedOrders = true) (hB : Region.lexB .any l.toArray = true)
    (h : wpQuiet P l.toArray (fun w' => ∃ p : Gr W, w' = p.val) (fun a' => ∀ w', (∃ p : Gr W, w' = p.val) → Q .normal a' w') l a) : (Code.region id l.toArray true).wp P Q a W :=
  wp_region_quiet (C := fun w' => ∃ p : Gr W, w' = p.val) hm hB ⟨⟨W.drew, (Below.refl _ _).drew⟩, rfl⟩ (by simpa using h)
theorem Gr.calls {P : Program} {f : FuncId} {args : Array Value} {W : World} {p : Gr W} {v : Value}
    (h : Calls P f args p.val fun e w' => e = .returned v ∧ Below p.val.heap.size p.val w') : Calls P f args p.val fun e w'' => e = .returned v ∧ ∃ q : Gr W, w'' = q.val :=
  h.mono fun _ w' ⟨he, hb⟩ => ⟨he, ⟨w', below_thn p.ok hb⟩, rfl⟩
theorem Gr.calls_same {P : Program} {f : FuncId} {args : Array Value} {W : World} {p : Gr W} {v : Value}
    (h : Calls P f args p.val fun e w' => e = .returned v ∧ p.val = w') : Calls P f args p.val fun e w'' => e = .returned v ∧ ∃ q : Gr W, w'' = q.val :=
  h.mono fun _ _ ⟨he, hb⟩ => ⟨he, p, hb.symm⟩
theorem Gr.cell {W : World} {a : Addr} {v : Value} (h : W.cell? a = some v) (p : Gr W) : p.val.cell? a = some v := cell_below p.ok h

theorem info_int : (Tryd.prog.info? 3).map (fun i => (i.zero, i.size, i.bytes)) = some (some (.int .i64 0), 1, 8) := by kernel_rfl
/-- A row of whole numbers that the call itself owns. -/
def OwI (w : World) (base : Nat) (v : Value) (xs : List Int) : Prop := w.ownsRow base 3 1 v xs.length (nums .i64 xs)
theorem OwI.form {w : World} {base : Nat} {v : Value} {xs : List Int} (h : OwI w base v xs) (hn : 0 < xs.length) : ∃ g cap, v = .slice (some ⟨g, 0, none⟩) xs.length cap ∧ base ≤ g ∧ g < w.heap.size := by
  obtain ⟨g, cap, e, h1, h2⟩ := World.ownsRow.form h hn
  exact ⟨g, cap, e, h1, h2⟩
theorem OwI.slice {w : World} {base : Nat} {v : Value} {xs : List Int} (h : OwI w base v xs) : ∃ A c, v = .slice A xs.length c := own_slice h
theorem OwI.len {w : World} {base : Nat} {v : Value} {xs : List Int} (h : OwI w base v xs) (hl : xs.length ≤ 4611686018427387904) : ∃ A c, v = .slice A xs.length c ∧ RdI w A xs := by
  obtain ⟨A, c, e, h1, h2, h3⟩ := own_reads h
  refine ⟨A, c, e, hl, fun j hj => ?_⟩
  obtain ⟨ad, ea, hc⟩ := h3 (by omega)
  exact ⟨ad, ea, hc j hj⟩
theorem RdI.reads {w : World} {A : Option Addr} {xs : List Int} (h : RdI w A xs) : ReadsInt w .i64 A xs.length xs := by
  refine ⟨rfl, by have := h.1; omega, fun h0 => ?_⟩
  obtain ⟨ad, e, _⟩ := h.2 0 h0
  refine ⟨ad, e, fun j hj => ?_⟩
  obtain ⟨ad', e', hc⟩ := h.2 j hj
  rw [e] at e'; injection e' with e'; subst e'; exact hc
theorem OwI.at_ {w : World} {base g cap n : Nat} {xs : List Int} (h : OwI w base (.slice (some ⟨g, 0, none⟩) n cap) xs) {i : Nat} (hi : i < xs.length) : w.cell? ⟨g, i, none⟩ = some (.int .i64 (gi xs i)) ∧ w.frozen? ⟨g, i, none⟩ = false := by
  have hn : n = xs.length := by obtain ⟨A, c, e⟩ := h.slice; injection e
  subst hn
  have := own_at h (i : Int) (by omega) (by omega)
  simpa [rd, gi] using this
theorem OwI.store {w : World} {base g cap n : Nat} {xs : List Int} (h : OwI w base (.slice (some ⟨g, 0, none⟩) n cap) xs) (i : Nat) (x : Int) : OwI (w.setCell ⟨g, i, none⟩ (.int .i64 x)) base (.slice (some ⟨g, 0, none⟩) n cap) (xs.set i x) ∧ w.grownBy (w.setCell ⟨g, i, none⟩ (.int .i64 x)) (some g) := by
  have hn : n = xs.length := by obtain ⟨A, c, e⟩ := h.slice; injection e
  subst hn
  have := own_store h (i : Int) x
  unfold OwI
  simpa using this
theorem OwI.alloc {w : World} {base : Nat} {v : Value} {xs : List Int} (h : OwI w base v xs) (o : Obj) : OwI (w.alloc o) base v xs := World.ownsRow.alloc h o
theorem OwI.below {w w1 : World} {base : Nat} {v : Value} {xs : List Int} (h : OwI w base v xs) (hb : Below w.heap.size w w1) : OwI w1 base v xs := pw_own_below h hb
theorem OwI.other {w w1 : World} {base : Nat} {v : Value} {xs : List Int} (h : OwI w base v xs) {row : Option Nat} (hg : w.grownBy w1 row) (hne : v.ownBlock = none ∨ v.ownBlock ≠ row) : OwI w1 base v xs := World.ownsRow.kept h hg hne
theorem OwI.drew_ {w : World} {base : Nat} {v : Value} {xs : List Int} (h : OwI w base v xs) : OwI w.drew base v xs := World.ownsRow.drew h
theorem grown_drew {w w1 : World} {row : Option Nat} (h : w.grownBy w1 row) : w.grownBy w1.drew row := ⟨h.os, h.tape, h.output, h.size, h.block⟩
theorem grown_below {w w1 : World} {row : Option Nat} (hg : w.grownBy w1 row) {w0 : World} {B : Nat} (h : Below B w0 w) (hB : B ≤ w.heap.size) (hr : ∀ k, row = some k → B ≤ k) : Below B w0 w1 := h.grown hg hB hr

theorem und_ints : Tryd.prog.underlying 24 = some (.slice 3) := by kernel_rfl

theorem add_succ (a : Addr) (k : Nat) : a.add (k + 1) = ⟨a.block, a.off + (k + 1), none⟩ := by simp [Addr.add]
theorem cell_grown {w w1 : World} {row : Option Nat} (hg : w.grownBy w1 row) {a : Addr} {v : Value} (hc : w.cell? a = some v) (hne : some a.block ≠ row) : w1.cell? a = some v := hg.cell hc hne
theorem RdI.grown {w w1 : World} {A : Option Addr} {xs : List Int} {row : Option Nat} (h : RdI w A xs) (hg : w.grownBy w1 row) (hne : ∀ ad, A = some ad → xs ≠ [] → some ad.block ≠ row) : RdI w1 A xs :=
  ⟨h.1, fun j hj => by
    obtain ⟨ad, e, hc⟩ := h.2 j hj
    refine ⟨ad, e, hg.cell hc ?_⟩
    have : (ad.add j).block = ad.block := by unfold Addr.add; split <;> rfl
    rw [this]; exact hne ad e (by intro h0; subst h0; simp at hj)⟩

theorem RdI.take {w : World} {A : Option Addr} {xs : List Int} (h : RdI w A xs) (k : Nat) : RdI w A (xs.take k) :=
  ⟨by have := h.1; rw [List.length_take]; omega, fun j hj => by
    have hj' : j < xs.length := by rw [List.length_take] at hj; omega
    obtain ⟨ad, e, hc⟩ := h.2 j hj'
    refine ⟨ad, e, ?_⟩
    rw [hc]
    have hjk : j < k := by rw [List.length_take] at hj; omega
    simp [gi, hjk]⟩
theorem OwI.row {w : World} {base : Nat} {v : Value} {xs : List Int} (h : OwI w base v xs) (hn : 0 < xs.length) (hl : xs.length ≤ 4611686018427387904) :
    ∃ g cap, v = .slice (some ⟨g, 0, none⟩) xs.length cap ∧ xs.length ≤ cap ∧ RdI w (some ⟨g, 0, none⟩) xs := by
  obtain ⟨A, c, e, hr⟩ := h.len hl
  rcases h.2 with ⟨_, h1⟩ | ⟨g', cap', cur, he, _, _, h1, h2, _⟩
  · omega
  · rw [he] at e
    cases e
    exact ⟨g', _, he, h1, hr⟩


theorem ret_bool {a b : Bool} (h : a = b) : Ending.returned (.bool a) = .returned (.bool b) := by rw [h]

/-! ### strings -/
def gs (l : List ByteArray) (k : Nat) : ByteArray := l.getD k ByteArray.empty
theorem gs_get {l : List ByteArray} {k : Nat} (h : k < l.length) : gs l k = l[k] := by simp [gs, List.getD_eq_getElem?_getD, List.getElem?_eq_getElem h]
/-- A slice of strings that is read. -/
def RdS (w : World) (A : Option Addr) (l : List ByteArray) : Prop :=
  l.length ≤ 4611686018427387904 ∧ ∀ j, j < l.length → ∃ ad, A = some ad ∧ w.cell? (ad.add j) = some (.string (gs l j))
theorem RdS.below {w w1 : World} {A : Option Addr} {l : List ByteArray} (h : RdS w A l) (hb : Below w.heap.size w w1) : RdS w1 A l :=
  ⟨h.1, fun j hj => by obtain ⟨ad, e, hc⟩ := h.2 j hj; exact ⟨ad, e, cell_below hb hc⟩⟩
theorem RdS.lit {w : World} {g : Nat} {t : TypeId} {fr : Nat × Nat} (l : List ByteArray) (hn : l.length ≤ 4611686018427387904) {cs : Array Value} (h : w.heap[g]? = some (.cells cs t fr)) (hcs : cs = (l.map Value.string).toArray) : RdS w (some ⟨g, 0, none⟩) l :=
  ⟨hn, fun j hj => ⟨_, rfl, by
    have e : (⟨g, 0, none⟩ : Addr).add j = ⟨g, j, none⟩ := by unfold Addr.add; split <;> simp_all
    rw [e]; refine blk_cell h j ?_; subst hcs; simp [gs, List.getD_eq_getElem?_getD, List.getElem?_eq_getElem hj]⟩⟩

end Go.Proofs.YtplghlokjgjjbaaDoor
