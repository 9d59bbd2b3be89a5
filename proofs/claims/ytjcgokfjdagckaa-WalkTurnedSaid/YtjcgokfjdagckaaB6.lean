/- Rows of whole numbers that the call itself owns; slices.Clone; walk.Turn. -/
import Derived.Test.YtjcgokfjdagckaaB5
import Derived.Test.YtjcgokfjdagckaaWWords
namespace Go.Proofs.Ytjcgokfjdagckaa
open Go.RowKit Go.Proofs.YtjcgokfjdagckaaW.PrintWords

theorem info_int : (Try.prog.info? 3).map (fun i => (i.zero, i.size, i.bytes)) = some (some (.int .i64 0), 1, 8) := by kernel_rfl
/-- A row of whole numbers that the call itself owns. -/
def OwI (w : World) (base : Nat) (v : Value) (xs : List Int) : Prop := w.ownsRow base 3 1 v xs.length (nums .i64 xs)
theorem OwI.form {w : World} {base : Nat} {v : Value} {xs : List Int} (h : OwI w base v xs) (hn : 0 < xs.length) : ∃ g cap, v = .slice (some ⟨g, 0, none⟩) xs.length cap ∧ base ≤ g ∧ g < w.heap.size := by
  obtain ⟨g, cap, e, h1, h2⟩ := World.ownsRow.form h hn
  exact ⟨g, cap, e, h1, h2⟩
theorem OwI.slice {w : World} {base : Nat} {v : Value} {xs : List Int} (h : OwI w base v xs) : ∃ A c, v = .slice A xs.length c := own_slice h
theorem OwI.len {w : World} {base : Nat} {v : Value} {xs : List Int} (h : OwI w base v xs) (hl : xs.length ≤ 4611686018427387904) : ∃ A c, v = .slice A xs.length c ∧ RdI w A xs := by
  obtain ⟨A, c, e, h1, h2, h3⟩ := own_reads h
  refine ⟨A, c, e, hl, fun j hj => ?_⟩
  obtain ⟨ad, ea, hc⟩ := h3 (by omega)
  exact ⟨ad, ea, hc j hj⟩
theorem RdI.reads {w : World} {A : Option Addr} {xs : List Int} (h : RdI w A xs) : ReadsInt w .i64 A xs.length xs := by
  refine ⟨rfl, by have := h.1; omega, fun h0 => ?_⟩
  obtain ⟨ad, e, _⟩ := h.2 0 h0
  refine ⟨ad, e, fun j hj => ?_⟩
  obtain ⟨ad', e', hc⟩ := h.2 j hj
  rw [e] at e'; injection e' with e'; subst e'; exact hc
theorem OwI.at_ {w : World} {base g cap n : Nat} {xs : List Int} (h : OwI w base (.slice (some ⟨g, 0, none⟩) n cap) xs) {i : Nat} (hi : i < xs.length) : w.cell? ⟨g, i, none⟩ = some (.int .i64 (gi xs i)) ∧ w.frozen? ⟨g, i, none⟩ = false := by
  have hn : n = xs.length := by obtain ⟨A, c, e⟩ := h.slice; injection e
  subst hn
  have := own_at h (i : Int) (by omega) (by omega)
  simpa [rd, gi] using this
theorem OwI.store {w : World} {base g cap n : Nat} {xs : List Int} (h : OwI w base (.slice (some ⟨g, 0, none⟩) n cap) xs) (i : Nat) (x : Int) : OwI (w.setCell ⟨g, i, none⟩ (.int .i64 x)) base (.slice (some ⟨g, 0, none⟩) n cap) (xs.set i x) ∧ w.grownBy (w.setCell ⟨g, i, none⟩ (.int .i64 x)) (some g) := by
  have hn : n = xs.length := by obtain ⟨A, c, e⟩ := h.slice; injection e
  subst hn
  have := own_store h (i : Int) x
  unfold OwI
  simpa using this
theorem OwI.alloc {w : World} {base : Nat} {v : Value} {xs : List Int} (h : OwI w base v xs) (o : Obj) : OwI (w.alloc o) base v xs := World.ownsRow.alloc h o
theorem OwI.below {w w1 : World} {base : Nat} {v : Value} {xs : List Int} (h : OwI w base v xs) (hb : Below w.heap.size w w1) : OwI w1 base v xs := pw_own_below h hb
theorem OwI.other {w w1 : World} {base : Nat} {v : Value} {xs : List Int} (h : OwI w base v xs) {row : Option Nat} (hg : w.grownBy w1 row) (hne : v.ownBlock = none ∨ v.ownBlock ≠ row) : OwI w1 base v xs := World.ownsRow.kept h hg hne
theorem OwI.drew_ {w : World} {base : Nat} {v : Value} {xs : List Int} (h : OwI w base v xs) : OwI w.drew base v xs := World.ownsRow.drew h
theorem grown_drew {w w1 : World} {row : Option Nat} (h : w.grownBy w1 row) : w.grownBy w1.drew row := ⟨h.os, h.tape, h.output, h.size, h.block⟩
theorem grown_below {w w1 : World} {row : Option Nat} (hg : w.grownBy w1 row) {w0 : World} {B : Nat} (h : Below B w0 w) (hB : B ≤ w.heap.size) (hr : ∀ k, row = some k → B ≤ k) : Below B w0 w1 := h.grown hg hB hr

theorem und_ints : Try.prog.underlying 26 = some (.slice 3) := by kernel_rfl

set_option maxRecDepth 100000 in
set_option maxHeartbeats 1000000 in
theorem cloneI_any (A : Option Addr) (c : Nat) (xs : List Int) (w : World) (h : RdI w A xs) (hl : xs.length * 8 ≤ 140737488355328) :
    Calls Try.prog 25 #[.slice A xs.length c] w fun e w' => ∃ v, e = .returned v ∧ OwI w' w.heap.size v xs ∧ Below w.heap.size w w' := by
  have HR := Lib.hid h
  have hn := fun W => Lib.run_eql_slice_nil (P := Try.prog) W 26 3 A xs.length c 0 0 und_ints
  clear h
  rcases A with _ | ad
  · have h0 : xs = [] := by
      cases xs with
      | nil => rfl
      | cons x r => obtain ⟨ad, e, _⟩ := HR.out.2 0 (by simp); cases e
    subst h0
    simp only [List.length_nil] at hn
    go_enter Try.func25, Try.ntmps25
    go_wp2
    go_ret
    exact ⟨_, rfl, own_nil _ _ _ _, Below.refl _ _⟩
  · go_enter Try.func25, Try.ntmps25
    go_wp2_with (at_builtin; refine print_append_row (w0 := w) w.heap.size rfl _ _ 26 3 .i64 8 rfl und_ints info_int (by decide) _ [] xs (some ad) xs.length c rfl rfl ?c1 ?c2 ?c3 ?c4 ?c5 ?_)
    case c1 => exact own_lit w w.heap.size 3 .i64 [] (Nat.le_refl _) (by simp)
    case c2 => exact (HR.out.below (below_alloc (Below.refl _ _) _)).reads
    case c3 => exact below_alloc (Below.refl _ _) _
    case c4 => simp
    case c5 => simp; omega
    intro v1 w1 hown hb1 _ _
    go_wp2
    go_ret
    exact ⟨_, rfl, hown, hb1⟩

theorem add_succ (a : Addr) (k : Nat) : a.add (k + 1) = ⟨a.block, a.off + (k + 1), none⟩ := by simp [Addr.add]
/-- Along a way, pair by pair, each is the other one's mate. -/
def turnL : List Int → List Int → List Int
  | m, a :: b :: r => turnL ((m.set a.toNat b).set b.toNat a) r
  | m, _ => m
theorem turnL_len : ∀ (p m : List Int), (turnL m p).length = m.length
  | [], m => rfl
  | [_], m => rfl
  | a :: b :: r, m => by rw [turnL, turnL_len r]; simp
theorem cell_grown {w w1 : World} {row : Option Nat} (hg : w.grownBy w1 row) {a : Addr} {v : Value} (hc : w.cell? a = some v) (hne : some a.block ≠ row) : w1.cell? a = some v := hg.cell hc hne
theorem RdI.grown {w w1 : World} {A : Option Addr} {xs : List Int} {row : Option Nat} (h : RdI w A xs) (hg : w.grownBy w1 row) (hne : ∀ ad, A = some ad → xs ≠ [] → some ad.block ≠ row) : RdI w1 A xs :=
  ⟨h.1, fun j hj => by
    obtain ⟨ad, e, hc⟩ := h.2 j hj
    refine ⟨ad, e, hg.cell hc ?_⟩
    have : (ad.add j).block = ad.block := by unfold Addr.add; split <;> rfl
    rw [this]; exact hne ad e (by intro h0; subst h0; simp at hj)⟩

set_option maxRecDepth 100000 in
set_option maxHeartbeats 2000000 in
theorem turn_any (base : Nat) (v : Value) (ms : List Int) (A : Option Addr) (c : Nat) (ps : List Int) (w : World) (ho : OwI w base v ms) (hp : RdI w A ps) (hne : ∀ ad, A = some ad → ps ≠ [] → some ad.block ≠ v.ownBlock)
    (hin : ∀ p ∈ ps, 0 ≤ p ∧ p < ms.length) (hml : ms.length ≤ 4611686018427387904) :
    Calls Try.prog 26 #[v, .slice A ps.length c] w fun e w' => e = .returned (.tuple #[]) ∧ OwI w' base v (turnL ms ps) ∧ w.grownBy w' v.ownBlock := by
  have h1 := hp.1
  have HP := Lib.hid hp
  have HO := Lib.hid ho
  have HN := Lib.hid hne
  have HI := Lib.hid hin
  clear hp ho hne hin
  go_enter Try.func26, Try.ntmps26
  go_wp2
  go_loopw [4] (fun i wr => ∃ (k : Nat) (m : List Int), k ≤ ps.length ∧ i = .int .i64 ((k + 1 : Nat) : Int) ∧ Hid (m.length = ms.length) ∧ Hid (OwI wr base v m) ∧ Hid (w.grownBy wr v.ownBlock) ∧ Hid (turnL m (ps.drop k) = turnL ms ps)) (fun i _ => ps.length + 2 - (intOf i).toNat)
  case atStart => exact ⟨0, ms, Nat.zero_le _, rfl, rfl, HO, World.grownBy.refl _ _, rfl⟩
  case round =>
    obtain ⟨k, m, hk, rfl, HM, HOr, HG, HT⟩ := hrel
    by_cases hlt : k + 1 < ps.length
    · have HPr := HP.out.grown HG.out HN.out
      obtain ⟨ad, rfl, c1⟩ := HPr.2 k (by omega)
      obtain ⟨ad', hadd, c2⟩ := HPr.2 (k + 1) hlt
      obtain rfl : ad' = ad := by simpa using hadd.symm
      obtain ⟨a0, a1⟩ := HI.out (gi ps k) (by rw [gi_get (by omega)]; exact List.getElem_mem _)
      obtain ⟨b0, b1⟩ := HI.out (gi ps (k + 1)) (by rw [gi_get hlt]; exact List.getElem_mem _)
      rw [add_succ] at c2
      clear HPr hadd
      obtain ⟨x, hx⟩ : ∃ x, x = (gi ps k).toNat := ⟨_, rfl⟩
      obtain ⟨y, hy⟩ : ∃ y, y = (gi ps (k + 1)).toNat := ⟨_, rfl⟩
      have ex : gi ps k = (x : Int) := by omega
      have ey : gi ps (k + 1) = (y : Int) := by omega
      have hT : turnL ((m.set x y).set y x) (ps.drop (k + 2)) = turnL ms ps := by
        rw [← HT.out, drop_gi (show k < ps.length by omega), drop_gi hlt, turnL, ex, ey]; rfl
      rw [ex] at c1 a1
      rw [ey] at c2 b1
      have HT2 := Lib.hid hT
      clear hx hy ex ey a0 b0 hT HT
      have hmm : m.length = ms.length := HM.out
      obtain ⟨g, cap, rfl, _, _⟩ := HOr.out.form (by omega)
      have x1 : x < m.length := by omega
      have y1 : y < m.length := by omega
      have y2 : y < (m.set x (y : Int)).length := by simpa using y1
      have s1 := (HOr.out.at_ x1)
      have s2 := (HOr.out.at_ y1)
      have S1 := HOr.out.store x y
      have S2 := S1.1.store y x
      have s3 := S1.1.at_ (i := y) y2
      obtain ⟨s1a, s1b⟩ := s1
      obtain ⟨s2a, s2b⟩ := s2
      obtain ⟨s3a, s3b⟩ := s3
      have e4 : IntKind.i64.wrap (k : Int) = (k : Int) := IntWalk.i64_in _ (by omega)
      have e6 : (0 : Int) ≤ (k : Int) := by omega
      have e7 : (k : Int) < (ps.length : Int) := by omega
      have e8 : (k : Int) + 1 < (ps.length : Int) := by omega
      have x3 : (x : Int) < (m.length : Int) := by omega
      have y3 : (y : Int) < (m.length : Int) := by omega
      have hgA : g ≠ ad'.block := fun h0 => HN.out ad' rfl (by intro h0; subst h0; simp at hlt) (by simp [h0, Value.ownBlock])
      have hgB : g ≠ (ad'.add k).block := by have : (ad'.add k).block = ad'.block := by unfold Addr.add; split <;> rfl
                                             rw [this]; exact hgA
      have e9 : ((k + 1 : Nat) : Int) < (ps.length : Int) := by omega
      have e10 : (0 : Int) ≤ (k : Int) + 1 := by omega
      have e11 : IntKind.i64.wrap (((k + 1 : Nat) : Int) - 1) = (k : Int) := by rw [show ((k + 1 : Nat) : Int) - 1 = (k : Int) from by omega]; exact e4
      have HS1 := Lib.hid S1
      have HS2 := Lib.hid S2
      have hml' : m.length ≤ 4611686018427387904 := by omega
      have hmm' := Lib.hid hmm
      clear S1 S2 hmm hml a1 b1
      go_wp2
      go_region_held3 (fun w' => w'.cell? (ad'.add k) = some (.int .i64 (x : Int)) ∧ w'.cell? ⟨ad'.block, ad'.off + (k + 1), none⟩ = some (.int .i64 (y : Int))) (go_keep) (fail)
      all_goals
        clear s1a s1b s2a s2b s3a s3b c1 c2
        go_wp2
        go_roundw
        case rel => exact ⟨k + 2, _, by omega, by go_num, by simp [Hid, hmm'.out], HS2.out.1.drew_, grown_drew (World.grownBy.trans (World.grownBy.trans HG.out HS1.out.2) HS2.out.2), HT2⟩
        case measure => simp [intOf]; omega
    · have hT : turnL m (ps.drop k) = m := by
        by_cases hk' : k < ps.length
        · rw [drop_gi hk', List.drop_eq_nil_of_le (show ps.length ≤ k + 1 by omega)]; rfl
        · rw [List.drop_eq_nil_of_le (show ps.length ≤ k by omega)]; rfl
      have hT2 := hT.symm.trans HT.out
      subst hT2
      clear hT HT
      go_wp2
      go_end0
      exact ⟨rfl, HOr.out, HG.out⟩
end Go.Proofs.Ytjcgokfjdagckaa
