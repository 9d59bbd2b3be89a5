/- garlandhelp.Same, Plain over whole numbers; Command held against the same command. -/
import Derived.Test.YtplghlokjgjjbaaDoorL5
namespace Go.Proofs.YtplghlokjgjjbaaDoor
open Go.RowKit Go.Proofs.YtplghlokjgjjbaaDoorW.PrintWords

theorem plainEq_any (a b : Int) (w : World) : Calls Tryd.prog 47 #[.int .i64 a, .int .i64 b] w fun e w' => e = .returned (.bool (a == b)) ∧ w' = w := by
  go_enter Tryd.func47, Tryd.ntmps47
  go_wp2
  go_ret
  exact ⟨rfl, rfl⟩

set_option maxHeartbeats 1000000 in
theorem sameI_any (A B : Option Addr) (c d : Nat) (xs ys : List Int) (w : World) (hx : RdI w A xs) (hy : RdI w B ys) :
    Calls Tryd.prog 46 #[.slice A xs.length c, .slice B ys.length d, .func (.func 47) #[] #[]] w fun e w' => e = .returned (.bool (decide (xs = ys))) ∧ Below w.heap.size w w' := by
  have h1 := hx.1
  have h2 := hy.1
  have HX := Lib.hid hx
  have HY := Lib.hid hy
  clear hx hy
  by_cases hl : xs.length = ys.length
  · have hle : ((xs.length : Int) != (ys.length : Int)) = false := by simp [hl]
    have HL := Lib.hid hl
    clear hl
    go_enter Tryd.func46, Tryd.ntmps46
    go_wp2
    go_loopw [7] (fun i wr => ∃ k : Nat, k ≤ xs.length ∧ i = .int .i64 k ∧ Hid (∀ j, j < k → gi xs j = gi ys j) ∧ Hid (Below w.heap.size w wr)) (fun i _ => xs.length - (intOf i).toNat)
    case atStart => exact ⟨0, Nat.zero_le _, rfl, (fun j hj => by omega), Below.refl _ _⟩
    case round =>
      obtain ⟨k, hk, rfl, HK, HBr⟩ := hrel
      by_cases hlt : k < xs.length
      · obtain ⟨ad, rfl, c1⟩ := (HX.out.below HBr.out).2 k hlt
        obtain ⟨ad', rfl, c2⟩ := (HY.out.below HBr.out).2 k (by rw [← HL.out]; exact hlt)
        have e7 : (k : Int) < (xs.length : Int) := by omega
        have e8 : (k : Int) < (ys.length : Int) := by rw [← HL.out]; omega
        by_cases hq : gi xs k = gi ys k
        · have hq' : (gi xs k == gi ys k) = true := by simpa using hq
          have HQ := Lib.hid hq
          clear hq
          go_wp2
          go_quiet ((go_at_call 47; exact Calls.quiet_of_same (plainEq_any _ _ _)))
          go_wp2
          go_roundw
          case rel => exact ⟨k + 1, hlt, by go_num, (fun j hj => by by_cases e : j = k; · rw [e]; exact HQ.out
                                                                    · exact HK.out j (by omega)), below_drewN HBr.out _⟩
          case measure => simp [intOf]; omega
        · have hq' : (gi xs k == gi ys k) = false := by simpa using hq
          have HQ := Lib.hid hq
          clear hq
          go_wp2
          go_quiet ((go_at_call 47; exact Calls.quiet_of_same (plainEq_any _ _ _)))
          go_wp2
          go_ret
          exact ⟨ret_bool (by rw [decide_eq_false (fun e => HQ.out (by rw [e]))]), below_drewN HBr.out _⟩
      · go_wp2
        go_ret
        refine ⟨ret_bool (by rw [decide_eq_true]; refine List.ext_getElem HL.out fun j hj hj' => ?_; have := HK.out j (by omega); rwa [gi_get hj, gi_get hj'] at this), HBr.out⟩
  · have hle : ((xs.length : Int) != (ys.length : Int)) = true := by simp; omega
    have HL := Lib.hid hl
    clear hl
    go_enter Tryd.func46, Tryd.ntmps46
    go_wp2
    go_ret
    exact ⟨ret_bool (by rw [decide_eq_false (fun e => HL.out (by rw [e]))]), Below.refl _ _⟩

set_option maxHeartbeats 400000 in
theorem plainI_any (A B : Option Addr) (c d : Nat) (xs ys : List Int) (w : World) (hx : RdI w A xs) (hy : RdI w B ys) :
    Calls Tryd.prog 34 #[.slice A xs.length c, .slice B ys.length d] w fun e w' => e = .returned (.bool (decide (xs = ys))) ∧ Below w.heap.size w w' := by
  have HX := Lib.hid hx
  have HY := Lib.hid hy
  clear hx hy
  go_enter Tryd.func34, Tryd.ntmps34
  go_wp2_with (fail)
  refine (sameI_any A B c d xs ys _ HX.out HY.out).mono ?_
  rintro e w1 ⟨rfl, hb1⟩
  go_wp2
  go_ret
  exact ⟨rfl, hb1⟩


set_option maxRecDepth 100000 in
set_option maxHeartbeats 1000000 in
theorem command_same (k x y : Int) (A B : Option Addr) (c d : Nat) (l : List Int) (w : World) (hx : RdI w A l) (hy : RdI w B l) :
    Calls Tryd.prog 15 #[.agg #[.int .i64 k, .int .i64 x, .int .i64 y, .slice A l.length c], .agg #[.int .i64 k, .int .i64 x, .int .i64 y, .slice B l.length d]] w fun e w' => e = .returned (.bool true) ∧ Below w.heap.size w w' := by
  have HX := Lib.hid hx
  have HY := Lib.hid hy
  clear hx hy
  go_enter Tryd.func15, Tryd.ntmps15
  go_upto_region 1 with (fail)
  refine wp_box2 ?_
  intro W hb hsz h1 h2
  have f0 := blk_cell h1 0 rfl
  have f1 := blk_cell h1 1 rfl
  have f2 := blk_cell h1 2 rfl
  have f3 := blk_cell h1 3 rfl
  have e0 := blk_cell h2 0 rfl
  have e1 := blk_cell h2 1 rfl
  have e2 := blk_cell h2 2 rfl
  have e3 := blk_cell h2 3 rfl
  have HP := Lib.hid (plainI_any A B c d l l W (HX.out.below hb) (HY.out.below hb))
  have HB := Lib.hid hb
  clear hb hsz h1 h2 HX HY
  go_wp2_with (fail)
  refine HP.out.mono ?_
  rintro e w1 ⟨rfl, hb1⟩
  simp only [decide_true]
  have HB1 := Lib.hid (below_thn HB.out hb1)
  clear hb1 HP HB f0 f1 f2 f3 e0 e1 e2 e3
  go_wp2
  go_ret
  exact ⟨rfl, HB1.out⟩
end Go.Proofs.YtplghlokjgjjbaaDoor
