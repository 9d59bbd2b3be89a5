/- lines.Print: plain law and the callees it needs. -/
import Derived.Test.YtplghlokjgjjbaaDoorL14
namespace Go.Proofs.YtplghlokjgjjbaaDoor
open Go.RowKit Go.Proofs.YtplghlokjgjjbaaDoorW.PrintWords Go.Sort

theorem dig_eq (n : Nat) : dig n = Lib.decDigits n := by
  induction n using Nat.strongRecOn with
  | ind n ih =>
    rw [dig, Lib.decDigits]
    split
    · rfl
    · rw [ih (n / 10) (by omega)]
/-- Go's table of powers of ten is as its text lays it. -/
def Pow (w : World) : Prop := Lib.TabIs Tryd.prog w "internal/strconv.uint64pow10" .u64 Lib.pow10Tab
theorem pow_global : ∃ g : Nat, Tryd.prog.globalNamed "internal/strconv.uint64pow10" = some g := ⟨1, by kernel_rfl⟩
theorem Pow.below {w w' : World} (h : Pow w) (hb : Below w.heap.size w w') : Pow w' := by
  obtain ⟨g, hg⟩ := pow_global
  unfold Pow Lib.TabIs World.var? at h ⊢
  rw [hg] at h ⊢
  simp only [Option.bind_some] at h ⊢
  have hlt : g < w.heap.size := by
    rcases Nat.lt_or_ge g w.heap.size with h' | h'
    · exact h'
    · rw [Array.getElem?_eq_none h'] at h; cases h
  rw [hb.block g hlt]
  exact h
theorem below_grow (w : World) (k : Nat) (os : Array Obj) : Below w.heap.size w (grow (w.drewN k) os) :=
  (below_drewN (Below.refl _ w) k).trans ⟨rfl, rfl, rfl, by simp, fun i hi => heap_grow_old _ _ (by simpa using hi)⟩
theorem itoa_any (z : Int) (h0 : 0 ≤ z) (h1 : z ≤ 999999999) (w : World) (hp : Pow w) : Calls Tryd.prog 32 #[.int .i64 z] w fun e w' => e = .returned (.string (ofL (dig z.toNat))) ∧ Below w.heap.size w w' := by
  refine (Tryd.strconv_Itoa z (by omega) (by omega) w hp).mono ?_
  rintro e w' ⟨rfl, k, os, rfl⟩
  refine ⟨?_, below_grow _ _ _⟩
  rw [Lib.itoa, if_neg (by omega), dig_eq]; rfl

/-! ### what a command's line is -/
def lenD (z : Int) : Nat := (dig z.toNat).length
def numsD : List Int → Nat → Option (List ByteArray)
  | [], _ => some []
  | z :: r, sz => if z < 0 ∨ 999999999 < z then none else if 65536 < sz + (1 + lenD z) then none else (numsD r (sz + (1 + lenD z))).map (ofL (dig z.toNat) :: ·)
def joinW (wd : ByteArray) (ds : List ByteArray) : ByteArray := ofL (Lib.join ((wd :: ds).map (·.data.toList)) [32])
def printN (wd : ByteArray) (xs : List Int) : Option ByteArray := (numsD xs wd.size).map (joinW wd)
def badK (k x : Int) : Prop := k < 1 ∨ 14 < k ∨ (k = 6 ∧ x ≠ 1 ∧ x ≠ 2)
instance (k x : Int) : Decidable (badK k x) := by unfold badK; infer_instance
def printS (k x y : Int) (l : List Int) : Option ByteArray := if badK k x then none else (numbersP k.toNat x y l).bind (printN (formAt k.toNat).1)
def strOf (r : Option ByteArray) : ByteArray := r.getD ⟨#[]⟩
def errOf (r : Option ByteArray) : Int := if r.isSome then 0 else 15
def PrintPost (w : World) (r : Option ByteArray) (e : Ending) (w' : World) : Prop := e = .returned (.tuple #[.string (strOf r), .int .i64 (errOf r)]) ∧ Below w.heap.size w w'
def sizeW (wd : ByteArray) (ds : List ByteArray) : Nat := (joinW wd ds).size
theorem joinW_size (wd : ByteArray) (ds : List ByteArray) : (joinW wd ds).size = wd.size + (ds.map fun d => 1 + d.size).sum := by
  rw [joinW, size_ofL, List.map_cons, Lib.join_length]
  have h : ∀ ds : List ByteArray, 1 * (ds.map (·.data.toList)).length + Lib.lens (ds.map (·.data.toList)) = (ds.map fun d => 1 + d.size).sum := by
    intro ds
    induction ds with
    | nil => rfl
    | cons d r ih =>
      simp only [List.map_cons, List.sum_cons, List.length_cons, Lib.lens, data_length] at ih ⊢
      omega
  have := h ds
  simp only [Lib.lens, List.map_cons, List.sum_cons, data_length, List.length_singleton] at this ⊢
  omega
theorem OwS.row {w : World} {base : Nat} {v : Value} {l : List ByteArray} (h : OwS w base v l) (hn : 0 < l.length) :
    ∃ g cap, v = .slice (some ⟨g, 0, none⟩) l.length cap ∧ l.length ≤ cap ∧ g < w.heap.size ∧ ∀ j, j < l.length → w.cell? ⟨g, j, none⟩ = some (.string (gs l j)) := by
  obtain ⟨A, c, e, hr⟩ := own_reads_of (d := ByteArray.empty) h
  rcases h.2 with ⟨_, h1⟩ | ⟨g', cap', cur, he, _, hb, h1, h2, _⟩
  · omega
  · rw [he] at e
    injection e with e1 e2 e3
    subst e3
    refine ⟨g', cap', he, h1, blk_lt hb, fun j hj => ?_⟩
    obtain ⟨ad, ea, hc⟩ := hr.2.2 (by omega)
    rw [← e1] at ea
    injection ea with ea
    subst ea
    have := hc j hj
    rwa [show (⟨g', 0, none⟩ : Addr).add j = ⟨g', j, none⟩ from by unfold Addr.add; split <;> simp_all] at this
theorem OwS.last {w : World} {base : Nat} {v : Value} {l : List ByteArray} {d : ByteArray} {n : Nat} (h : OwS w base v (l ++ [d])) (hn : l.length = n) :
    ∃ g cap, v = .slice (some ⟨g, 0, none⟩) (n + 1) cap ∧ w.cell? ⟨g, n, none⟩ = some (.string d) := by
  obtain ⟨g, cap, e, _, _, hc⟩ := h.row (by simp)
  refine ⟨g, cap, by rw [e, List.length_append, hn]; rfl, ?_⟩
  rw [hc n (by simp [hn])]
  simp [gs, ← hn]
theorem OwS.one {w : World} {g base : Nat} {wd : ByteArray} (h : w.heap[g]? = some (.cells #[.string wd] 9 (0, 0))) (hb : base ≤ g) : OwS w base (.slice (some ⟨g, 0, none⟩) 1 1) [wd] :=
  ⟨rfl, .inr ⟨g, 1, _, rfl, hb, h, Nat.le_refl _, by simp [maxLen], rfl, rfl⟩⟩
theorem joinW_snoc (wd : ByteArray) (ds : List ByteArray) (d : ByteArray) : (joinW wd (ds ++ [d])).size = (joinW wd ds).size + (1 + d.size) := by
  rw [joinW_size, joinW_size, List.map_append, List.sum_append]; simp; omega
theorem numsD_drop {xs : List Int} {j : Nat} (h : j < xs.length) (sz : Nat) : numsD (xs.drop j) sz = if gi xs j < 0 ∨ 999999999 < gi xs j then none else if 65536 < sz + (1 + lenD (gi xs j)) then none else (numsD (xs.drop (j + 1)) (sz + (1 + lenD (gi xs j)))).map (ofL (dig (gi xs j).toNat) :: ·) := by
  rw [drop_gi h, numsD]
theorem size_dig (z : Int) : (ofL (dig z.toNat)).size = lenD z := by rw [size_ofL]; rfl
/-- Where Print's loop stands. -/
def PrAt (w wr : World) (wd : ByteArray) (xs : List Int) (v6 v7 v52 : Value) : Prop :=
  ∃ (j : Nat) (ds : List ByteArray) (sz : Nat), v52 = .int .i64 j ∧ v7 = .int .i64 sz ∧ j ≤ xs.length ∧ ds.length = j ∧ sz = (joinW wd ds).size ∧ sz ≤ 65536 ∧ OwS wr w.heap.size v6 (wd :: ds) ∧ numsD xs wd.size = (numsD (xs.drop j) sz).map (ds ++ ·) ∧ Below w.heap.size w wr
theorem ds_le {wd : ByteArray} {ds : List ByteArray} : ds.length ≤ (joinW wd ds).size := by
  rw [joinW_size]
  have : ∀ ds : List ByteArray, ds.length ≤ (ds.map fun d => 1 + d.size).sum := by
    intro ds
    induction ds with
    | nil => simp
    | cons d r ih => simp only [List.map_cons, List.sum_cons, List.length_cons]; omega
  have := this ds
  omega
theorem form_size (q : Nat) (hq : q < 15) : (formAt q).1.size ≤ 8 := by
  match q, hq with
  | 0, _ | 1, _ | 2, _ | 3, _ | 4, _ | 5, _ | 6, _ | 7, _ | 8, _ | 9, _ | 10, _ | 11, _ | 12, _ | 13, _ | 14, _ => decide
end Go.Proofs.YtplghlokjgjjbaaDoor
