/- Words that the walks of this claim share: slices that are read, numbers held against each other, small contracts of Go's package cmp. -/
import Derived.Test.YtjcgokfjdagckaaProg
import Derived.WalkKit
import Derived.WalkSpells
import Derived.WalkLawsBesides
import Derived.Deep.QuietTactic
import Derived.BigQuiet
import Derived.Lib.Hide
import Derived.KernelRfl
import Derived.StillTailTactics
import Derived.Deep.RegionHeld3
namespace Go.Proofs.Ytjcgokfjdagckaa
open Go.RowKit

/-- The number at a place (behind a name: the walk leaves it as it is). -/
def gi (xs : List Int) (k : Nat) : Int := xs.getD k 0
theorem gi_get {xs : List Int} {k : Nat} (h : k < xs.length) : gi xs k = xs[k] := by simp [gi, List.getD_eq_getElem?_getD, List.getElem?_eq_getElem h]
theorem gi_get? {xs : List Int} {k : Nat} (h : k < xs.length) : xs[k]? = some (gi xs k) := by rw [gi_get h, List.getElem?_eq_getElem h]
theorem drop_gi {xs : List Int} {k : Nat} (h : k < xs.length) : xs.drop k = gi xs k :: xs.drop (k + 1) := by rw [List.drop_eq_getElem_cons h, gi_get h]
theorem take_gi {xs : List Int} {k : Nat} (h : k < xs.length) : xs.take (k + 1) = xs.take k ++ [gi xs k] := by rw [List.take_succ_eq_append_getElem h, gi_get h]
/-- A slice of whole numbers that is read. -/
def RdI (w : World) (A : Option Addr) (xs : List Int) : Prop :=
  xs.length ≤ 4611686018427387904 ∧ ∀ j, j < xs.length → ∃ ad, A = some ad ∧ w.cell? (ad.add j) = some (.int .i64 (gi xs j))
theorem cell_below {w w1 : World} (h : Below w.heap.size w w1) {a : Addr} {v : Value} (hc : w.cell? a = some v) : w1.cell? a = some v := (h.cell (World.block_lt_of_cell? w a hc)).trans hc
theorem RdI.below {w w1 : World} {A : Option Addr} {xs : List Int} (h : RdI w A xs) (hb : Below w.heap.size w w1) : RdI w1 A xs :=
  ⟨h.1, fun j hj => by obtain ⟨ad, e, hc⟩ := h.2 j hj; exact ⟨ad, e, cell_below hb hc⟩⟩

/-! ### new blocks, under one name -/
theorem blk_lt {w : World} {g : Nat} {o : Obj} (h : w.heap[g]? = some o) : g < w.heap.size := (Array.getElem?_eq_some_iff.1 h).1
theorem blk_below {w w1 : World} {g : Nat} {o : Obj} (h : w.heap[g]? = some o) (hb : Below w.heap.size w w1) : w1.heap[g]? = some o := (hb.block g (blk_lt h)).trans h
theorem blk_alloc {w : World} {g : Nat} {o : Obj} (h : w.heap[g]? = some o) (o' : Obj) : (w.alloc o').heap[g]? = some o := (Below.heap_alloc w o' g (blk_lt h)).trans h
theorem below_alloc {w W : World} (h : Below w.heap.size w W) (o : Obj) : Below w.heap.size w (W.alloc o) := h.alloc h.size o
theorem below_drewN {B : Nat} {w W : World} (h : Below B w W) (n : Nat) : Below B w (W.drewN n) := ⟨h.os, h.tape, h.output, h.size, h.block⟩
theorem below_then {B : Nat} {w w1 w2 : World} (h : Below B w w1) (hB : B ≤ w1.heap.size) (k : Below w1.heap.size w1 w2) : Below B w w2 := h.trans (k.mono hB)
theorem below_thn {w w1 w2 : World} (h : Below w.heap.size w w1) (k : Below w1.heap.size w1 w2) : Below w.heap.size w w2 := h.trans (k.mono h.size)
theorem wp_box1 {P : Program} {c : Code} {Q : Exit → Act → World → Prop} {a : Act} {w : World} {o1 : Obj}
    (h : ∀ W, Below w.heap.size w W → W.heap.size = w.heap.size + 1 → W.heap[w.heap.size]? = some o1 → c.wp P Q a W) : c.wp P Q a (w.alloc o1) :=
  h _ (below_alloc (Below.refl _ _) _) (by simp) (heap_alloc_new _ _)
theorem wp_box2 {P : Program} {c : Code} {Q : Exit → Act → World → Prop} {a : Act} {w : World} {o1 o2 : Obj}
    (h : ∀ W, Below w.heap.size w W → W.heap.size = w.heap.size + 2 → W.heap[w.heap.size]? = some o1 → W.heap[w.heap.size + 1]? = some o2 → c.wp P Q a W) : c.wp P Q a ((w.alloc o1).alloc o2) :=
  h _ (below_alloc (below_alloc (Below.refl _ _) _) _) (by simp) (blk_alloc (heap_alloc_new _ _) _) (by have := heap_alloc_new (w.alloc o1) o2; simpa using this)
theorem wp_box3 {P : Program} {c : Code} {Q : Exit → Act → World → Prop} {a : Act} {w : World} {o1 o2 o3 : Obj}
    (h : ∀ W, Below w.heap.size w W → W.heap.size = w.heap.size + 3 → W.heap[w.heap.size]? = some o1 → W.heap[w.heap.size + 1]? = some o2 → W.heap[w.heap.size + 1 + 1]? = some o3 → c.wp P Q a W) : c.wp P Q a (((w.alloc o1).alloc o2).alloc o3) :=
  h _ (below_alloc (below_alloc (below_alloc (Below.refl _ _) _) _) _) (by simp) (blk_alloc (blk_alloc (heap_alloc_new _ _) _) _)
    (blk_alloc (by have := heap_alloc_new (w.alloc o1) o2; simpa using this) _) (by have := heap_alloc_new ((w.alloc o1).alloc o2) o3; simpa using this)
theorem calls_box1 {P : Program} {f : FuncId} {args : Array Value} {R : Ending → World → Prop} {w : World} {o1 : Obj}
    (h : ∀ W, Below w.heap.size w W → W.heap.size = w.heap.size + 1 → W.heap[w.heap.size]? = some o1 → Calls P f args W R) : Calls P f args (w.alloc o1) R :=
  h _ (below_alloc (Below.refl _ _) _) (by simp) (heap_alloc_new _ _)
theorem calls_box2 {P : Program} {f : FuncId} {args : Array Value} {R : Ending → World → Prop} {w : World} {o1 o2 : Obj}
    (h : ∀ W, Below w.heap.size w W → W.heap.size = w.heap.size + 2 → W.heap[w.heap.size]? = some o1 → W.heap[w.heap.size + 1]? = some o2 → Calls P f args W R) : Calls P f args ((w.alloc o1).alloc o2) R :=
  h _ (below_alloc (below_alloc (Below.refl _ _) _) _) (by simp) (blk_alloc (heap_alloc_new _ _) _) (by have := heap_alloc_new (w.alloc o1) o2; simpa using this)
theorem heap_alloc_next (w : World) (o1 : Obj) (k : Nat) (h : w.heap.size = k) : (w.alloc o1).heap[k]? = some o1 := by subst h; exact heap_alloc_new w o1
theorem calls_box3 {P : Program} {f : FuncId} {args : Array Value} {R : Ending → World → Prop} {w : World} {o1 o2 o3 : Obj}
    (h : ∀ W, Below w.heap.size w W → W.heap.size = w.heap.size + 3 → W.heap[w.heap.size]? = some o1 → W.heap[w.heap.size + 1]? = some o2 → W.heap[w.heap.size + 1 + 1]? = some o3 → Calls P f args W R) : Calls P f args (((w.alloc o1).alloc o2).alloc o3) R :=
  h _ (below_alloc (below_alloc (below_alloc (Below.refl _ _) _) _) _) (by simp) (blk_alloc (blk_alloc (heap_alloc_new _ _) _) _)
    (blk_alloc (heap_alloc_next _ _ _ (by simp)) _) (heap_alloc_next _ _ _ (by simp))
theorem calls_box4 {P : Program} {f : FuncId} {args : Array Value} {R : Ending → World → Prop} {w : World} {o1 o2 o3 o4 : Obj}
    (h : ∀ W, Below w.heap.size w W → W.heap.size = w.heap.size + 4 → W.heap[w.heap.size]? = some o1 → W.heap[w.heap.size + 1]? = some o2 → W.heap[w.heap.size + 1 + 1]? = some o3 → W.heap[w.heap.size + 1 + 1 + 1]? = some o4 → Calls P f args W R) : Calls P f args ((((w.alloc o1).alloc o2).alloc o3).alloc o4) R :=
  h _ (below_alloc (below_alloc (below_alloc (below_alloc (Below.refl _ _) _) _) _) _) (by simp) (blk_alloc (blk_alloc (blk_alloc (heap_alloc_new _ _) _) _) _)
    (blk_alloc (blk_alloc (heap_alloc_next _ _ _ (by simp)) _) _) (blk_alloc (heap_alloc_next _ _ _ (by simp)) _) (heap_alloc_next _ _ _ (by simp))
theorem blk_cell {w : World} {g : Nat} {t : TypeId} {cs : Array Value} {fr : Nat × Nat} (h : w.heap[g]? = some (.cells cs t fr)) (i : Nat) {v : Value} (hv : cs[i]? = some v) : w.cell? ⟨g, i, none⟩ = some v := (cell_of_row w g i cs t fr h).trans hv
theorem blk_free {w : World} {g : Nat} {t : TypeId} {cs : Array Value} (h : w.heap[g]? = some (.cells cs t (0, 0))) (i : Nat) : w.frozen? ⟨g, i, none⟩ = false := by simp [World.frozen?, h]
/-- A literal of whole numbers, just laid. -/
theorem RdI.lit {w : World} {g : Nat} {t : TypeId} {fr : Nat × Nat} (xs : List Int) (hn : xs.length ≤ 4611686018427387904) {cs : Array Value} (h : w.heap[g]? = some (.cells cs t fr)) (hcs : cs = (xs.map (Value.int .i64)).toArray) : RdI w (some ⟨g, 0, none⟩) xs :=
  ⟨hn, fun j hj => ⟨_, rfl, by
    have e : (⟨g, 0, none⟩ : Addr).add j = ⟨g, j, none⟩ := by unfold Addr.add; split <;> simp_all
    rw [e]; refine blk_cell h j ?_; subst hcs; simp [gi_get? hj]⟩⟩

/-! ### regions whose operations read, and whose callees lay blocks of their own at most -/
/-- A world that has grown out of another one. -/
structure Gr (W : World) where
  val : World
  ok : Below W.heap.size W val
instance (W : World) : Nonempty (Gr W) := ⟨⟨W, Below.refl _ _⟩⟩
theorem wp_region_gr {P : Program} {id : Nat} {Q : Exit → Act → World → Prop} {a : Act} {W : World} {l : List Oper} (hm : P.follows .mixedOrders = true) (hB : Region.lexB .any l.toArray = true)
    (h : wpQuiet P l.toArray (fun w' => ∃ p : Gr W, w' = p.val) (fun a' => ∀ w', (∃ p : Gr W, w' = p.val) → Q .normal a' w') l a) : (Code.region id l.toArray true).wp P Q a W :=
  wp_region_quiet (C := fun w' => ∃ p : Gr W, w' = p.val) hm hB ⟨⟨W.drew, (Below.refl _ _).drew⟩, rfl⟩ (by simpa using h)
theorem Gr.calls {P : Program} {f : FuncId} {args : Array Value} {W : World} {p : Gr W} {v : Value}
    (h : Calls P f args p.val fun e w' => e = .returned v ∧ Below p.val.heap.size p.val w') : Calls P f args p.val fun e w'' => e = .returned v ∧ ∃ q : Gr W, w'' = q.val :=
  h.mono fun _ w' ⟨he, hb⟩ => ⟨he, ⟨w', below_thn p.ok hb⟩, rfl⟩
theorem Gr.calls_same {P : Program} {f : FuncId} {args : Array Value} {W : World} {p : Gr W} {v : Value}
    (h : Calls P f args p.val fun e w' => e = .returned v ∧ p.val = w') : Calls P f args p.val fun e w'' => e = .returned v ∧ ∃ q : Gr W, w'' = q.val :=
  h.mono fun _ _ ⟨he, hb⟩ => ⟨he, p, hb.symm⟩
theorem Gr.cell {W : World} {a : Addr} {v : Value} (h : W.cell? a = some v) (p : Gr W) : p.val.cell? a = some v := cell_below p.ok h

theorem isNaN_any (a : Int) (w : World) : Calls Try.prog 50 #[.int .i64 a] w fun e w' => e = .returned (.bool false) ∧ w = w' := by
  go_enter Try.func50, Try.ntmps50
  go_wp2
  go_ret
  exact ⟨by simp, rfl⟩

def cmpI (a b : Int) : Int := if a < b then -1 else if b < a then 1 else 0
theorem ret_int {k : IntKind} {a b : Int} (h : a = b) : Ending.returned (.int k a) = .returned (.int k b) := by rw [h]
theorem ret_bool {a b : Bool} (h : a = b) : Ending.returned (.bool a) = .returned (.bool b) := by rw [h]

set_option maxHeartbeats 400000 in
theorem compareI_any (a b : Int) (w : World) : Calls Try.prog 46 #[.int .i64 a, .int .i64 b] w fun e w' => e = .returned (.int .i64 (cmpI a b)) ∧ w = w' := by
  go_enter Try.func46, Try.ntmps46
  go_wp2_with (go_at_call 50; refine (isNaN_any _ _).mono ?_; rintro e w' ⟨rfl, rfl⟩)
  · go_ret; exact ⟨ret_int (by unfold cmpI; rw [if_pos (by assumption)]), rfl⟩
  · go_ret; exact ⟨ret_int (by unfold cmpI; rw [if_neg (by omega), if_pos (by assumption)]), rfl⟩
  · go_ret; exact ⟨ret_int (by unfold cmpI; rw [if_neg (by omega), if_neg (by omega)]), rfl⟩

/-- The first number that is not 0. -/
def orI : List Int → Int
  | [] => 0
  | x :: r => if x = 0 then orI r else x
theorem orI_drop {xs : List Int} {k : Nat} (h : k < xs.length) (h0 : (gi xs k != 0) = false) : orI (xs.drop k) = orI (xs.drop (k + 1)) := by
  rw [drop_gi h, orI, if_pos (by simpa using h0)]
theorem orI_hit {xs : List Int} {k : Nat} (h : k < xs.length) (h0 : (gi xs k != 0) = true) : orI (xs.drop k) = gi xs k := by
  rw [drop_gi h, orI, if_neg (by simpa using h0)]
theorem orI_end {xs : List Int} {k : Nat} (h : xs.length ≤ k) : orI (xs.drop k) = 0 := by rw [List.drop_eq_nil_of_le h]; rfl

set_option maxHeartbeats 400000 in
theorem or_any (A : Option Addr) (c : Nat) (xs : List Int) (w : World) (h : RdI w A xs) : Calls Try.prog 45 #[.slice A xs.length c] w fun e w' => e = .returned (.int .i64 (orI xs)) ∧ w = w' := by
  obtain ⟨hn, hc⟩ := h
  have HC := Lib.hid hc
  clear hc
  go_enter Try.func45, Try.ntmps45
  go_wp2
  go_loop [8] (fun i => ∃ k : Nat, k ≤ xs.length ∧ i = .int .i64 k ∧ Hid (orI (xs.drop k) = orI xs)) (fun i => xs.length - (intOf i).toNat)
  case atStart => exact ⟨0, Nat.zero_le _, rfl, by simp [Hid]⟩
  case round =>
    obtain ⟨k, hk, rfl, HK⟩ := hrel
    by_cases hlt : k < xs.length
    · obtain ⟨ad, rfl, hcell⟩ := HC.out k hlt
      go_wp2
      · go_ret; exact ⟨ret_int ((orI_hit hlt (by assumption)).symm.trans HK.out), rfl⟩
      · go_round
        case rel => exact ⟨k + 1, hlt, by go_num, (orI_drop hlt (by assumption)).symm.trans HK.out⟩
        case measure => simp [intOf]; omega
    · go_wp2
      go_ret
      exact ⟨ret_int ((orI_end (by omega)).symm.trans HK.out), rfl⟩

/-- Which of two edges stands ahead, by the first end, then by the second. -/
def cmpE (a b : Int × Int) : Int := orI [cmpI a.1 b.1, cmpI a.2 b.2]

set_option maxHeartbeats 400000 in
theorem compareE_any (a b : Int × Int) (w : World) : Calls Try.prog 37 #[.agg #[], .agg #[.int .i64 a.1, .int .i64 a.2], .agg #[.int .i64 b.1, .int .i64 b.2]] w fun e w' => e = .returned (.int .i64 (cmpE a b)) ∧ Below w.heap.size w w' := by
  obtain ⟨a1, a2⟩ := a
  obtain ⟨b1, b2⟩ := b
  go_enter Try.func37, Try.ntmps37
  go_wp2
  refine wp_box3 ?_
  intro W hb hs h1 h2 h3
  have c1 := blk_cell h2 0 rfl
  have c2 := blk_cell h2 1 rfl
  have c3 := blk_cell h3 0 rfl
  have c4 := blk_cell h3 1 rfl
  have HB := Lib.hid hb
  clear hb hs h1 h2 h3
  go_region_held3 (fun w' => w'.cell? ⟨w.heap.size + 1, 0, none⟩ = some (.int .i64 a1) ∧ w'.cell? ⟨w.heap.size + 1, 1, none⟩ = some (.int .i64 a2) ∧ w'.cell? ⟨w.heap.size + 1 + 1, 0, none⟩ = some (.int .i64 b1) ∧ w'.cell? ⟨w.heap.size + 1 + 1, 1, none⟩ = some (.int .i64 b2)) (go_keep)
    ((first
      | (go_at_call 46; refine (compareI_any _ _ _).mono ?_; rintro e w' ⟨rfl, rfl⟩)
      | (go_at_call 45; refine (or_any _ _ [cmpI a1 b1, cmpI a2 b2] _ ?_).mono ?_; exact RdI.lit [cmpI a1 b1, cmpI a2 b2] (by simp) (heap_alloc_new W _) rfl; rintro e w' ⟨rfl, rfl⟩)))
  go_wp2
  go_ret
  exact ⟨rfl, (below_alloc HB.out _).drew⟩
end Go.Proofs.Ytjcgokfjdagckaa
