/- Bytes held against each other. -/
import Derived.Test.YtplghlokjgjjbaaDoorK1
namespace Go.Proofs.YtplghlokjgjjbaaDoor
open Go.RowKit Go.Proofs.YtplghlokjgjjbaaDoorW.PrintWords

/-- A slice of bytes that is read. -/
def RdB (w : World) (A : Option Addr) (xs : List Int) : Prop :=
  xs.length ≤ 4611686018427387904 ∧ ∀ j, j < xs.length → ∃ ad, A = some ad ∧ w.cell? (ad.add j) = some (.int .u8 (gi xs j))
theorem RdB.below {w w1 : World} {A : Option Addr} {xs : List Int} (h : RdB w A xs) (hb : Below w.heap.size w w1) : RdB w1 A xs :=
  ⟨h.1, fun j hj => by obtain ⟨ad, e, hc⟩ := h.2 j hj; exact ⟨ad, e, cell_below hb hc⟩⟩
theorem plainEqB_any (a b : Int) (w : World) : Calls Tryd.prog 49 #[.int .u8 a, .int .u8 b] w fun e w' => e = .returned (.bool (a == b)) ∧ w' = w := by
  go_enter Tryd.func49, Tryd.ntmps49
  go_wp2
  go_ret
  exact ⟨rfl, rfl⟩

set_option maxHeartbeats 1000000 in
theorem sameB_any (A B : Option Addr) (c d : Nat) (xs ys : List Int) (w : World) (hx : RdB w A xs) (hy : RdB w B ys) :
    Calls Tryd.prog 48 #[.slice A xs.length c, .slice B ys.length d, .func (.func 49) #[] #[]] w fun e w' => e = .returned (.bool (decide (xs = ys))) ∧ Below w.heap.size w w' := by
  have h1 := hx.1
  have h2 := hy.1
  have HX := Lib.hid hx
  have HY := Lib.hid hy
  clear hx hy
  by_cases hl : xs.length = ys.length
  · have hle : ((xs.length : Int) != (ys.length : Int)) = false := by simp [hl]
    have HL := Lib.hid hl
    clear hl
    go_enter Tryd.func48, Tryd.ntmps48
    go_wp2
    go_loopw [7] (fun i wr => ∃ k : Nat, k ≤ xs.length ∧ i = .int .i64 k ∧ Hid (∀ j, j < k → gi xs j = gi ys j) ∧ Hid (Below w.heap.size w wr)) (fun i _ => xs.length - (intOf i).toNat)
    case atStart => exact ⟨0, Nat.zero_le _, rfl, (fun j hj => by omega), Below.refl _ _⟩
    case round =>
      obtain ⟨k, hk, rfl, HK, HBr⟩ := hrel
      by_cases hlt : k < xs.length
      · obtain ⟨ad, rfl, c1⟩ := (HX.out.below HBr.out).2 k hlt
        obtain ⟨ad', rfl, c2⟩ := (HY.out.below HBr.out).2 k (by rw [← HL.out]; exact hlt)
        have e7 : (k : Int) < (xs.length : Int) := by omega
        have e8 : (k : Int) < (ys.length : Int) := by rw [← HL.out]; omega
        by_cases hq : gi xs k = gi ys k
        · have hq' : (gi xs k == gi ys k) = true := by simpa using hq
          have HQ := Lib.hid hq
          clear hq
          go_wp2
          go_quiet ((go_at_call 49; exact Calls.quiet_of_same (plainEqB_any _ _ _)))
          go_wp2
          go_roundw
          case rel => exact ⟨k + 1, hlt, by go_num, (fun j hj => by by_cases e : j = k; · rw [e]; exact HQ.out
                                                                    · exact HK.out j (by omega)), below_drewN HBr.out _⟩
          case measure => simp [intOf]; omega
        · have hq' : (gi xs k == gi ys k) = false := by simpa using hq
          have HQ := Lib.hid hq
          clear hq
          go_wp2
          go_quiet ((go_at_call 49; exact Calls.quiet_of_same (plainEqB_any _ _ _)))
          go_wp2
          go_ret
          exact ⟨ret_bool (by rw [decide_eq_false (fun e => HQ.out (by rw [e]))]), below_drewN HBr.out _⟩
      · go_wp2
        go_ret
        refine ⟨ret_bool (by rw [decide_eq_true]; refine List.ext_getElem HL.out fun j hj hj' => ?_; have := HK.out j (by omega); rwa [gi_get hj, gi_get hj'] at this), HBr.out⟩
  · have hle : ((xs.length : Int) != (ys.length : Int)) = true := by simp; omega
    have HL := Lib.hid hl
    clear hl
    go_enter Tryd.func48, Tryd.ntmps48
    go_wp2
    go_ret
    exact ⟨ret_bool (by rw [decide_eq_false (fun e => HL.out (by rw [e]))]), Below.refl _ _⟩

set_option maxHeartbeats 400000 in
theorem plainB_any (A B : Option Addr) (c d : Nat) (xs ys : List Int) (w : World) (hx : RdB w A xs) (hy : RdB w B ys) :
    Calls Tryd.prog 39 #[.slice A xs.length c, .slice B ys.length d] w fun e w' => e = .returned (.bool (decide (xs = ys))) ∧ Below w.heap.size w w' := by
  have HX := Lib.hid hx
  have HY := Lib.hid hy
  clear hx hy
  go_enter Tryd.func39, Tryd.ntmps39
  go_wp2_with (fail)
  refine (sameB_any A B c d xs ys _ HX.out HY.out).mono ?_
  rintro e w1 ⟨rfl, hb1⟩
  go_wp2
  go_ret
  exact ⟨rfl, hb1⟩


end Go.Proofs.YtplghlokjgjjbaaDoor
