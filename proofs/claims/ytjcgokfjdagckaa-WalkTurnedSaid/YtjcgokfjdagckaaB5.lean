/- garlandhelp.Same, Plain, In over whole numbers; slices.Clone; walk.Turn. -/
import Derived.Test.YtjcgokfjdagckaaB1
import Derived.Deep.AppendLies
import Derived.Laws.AppendOwn
namespace Go.Proofs.Ytjcgokfjdagckaa
open Go.RowKit

theorem plainEq_any (a b : Int) (w : World) : Calls Try.prog 28 #[.int .i64 a, .int .i64 b] w fun e w' => e = .returned (.bool (a == b)) ∧ w' = w := by
  go_enter Try.func28, Try.ntmps28
  go_wp2
  go_ret
  exact ⟨rfl, rfl⟩

set_option maxHeartbeats 1000000 in
theorem sameI_any (A B : Option Addr) (c d : Nat) (xs ys : List Int) (w : World) (hx : RdI w A xs) (hy : RdI w B ys) :
    Calls Try.prog 27 #[.slice A xs.length c, .slice B ys.length d, .func (.func 28) #[] #[]] w fun e w' => e = .returned (.bool (decide (xs = ys))) ∧ Below w.heap.size w w' := by
  have h1 := hx.1
  have h2 := hy.1
  have HX := Lib.hid hx
  have HY := Lib.hid hy
  clear hx hy
  by_cases hl : xs.length = ys.length
  · have hle : ((xs.length : Int) != (ys.length : Int)) = false := by simp [hl]
    have HL := Lib.hid hl
    clear hl
    go_enter Try.func27, Try.ntmps27
    go_wp2
    go_loopw [7] (fun i wr => ∃ k : Nat, k ≤ xs.length ∧ i = .int .i64 k ∧ Hid (∀ j, j < k → gi xs j = gi ys j) ∧ Hid (Below w.heap.size w wr)) (fun i _ => xs.length - (intOf i).toNat)
    case atStart => exact ⟨0, Nat.zero_le _, rfl, (fun j hj => by omega), Below.refl _ _⟩
    case round =>
      obtain ⟨k, hk, rfl, HK, HBr⟩ := hrel
      by_cases hlt : k < xs.length
      · obtain ⟨ad, rfl, c1⟩ := (HX.out.below HBr.out).2 k hlt
        obtain ⟨ad', rfl, c2⟩ := (HY.out.below HBr.out).2 k (by rw [← HL.out]; exact hlt)
        have e7 : (k : Int) < (xs.length : Int) := by omega
        have e8 : (k : Int) < (ys.length : Int) := by rw [← HL.out]; omega
        by_cases hq : gi xs k = gi ys k
        · have hq' : (gi xs k == gi ys k) = true := by simpa using hq
          have HQ := Lib.hid hq
          clear hq
          go_wp2
          go_quiet ((go_at_call 28; exact Calls.quiet_of_same (plainEq_any _ _ _)))
          go_wp2
          go_roundw
          case rel => exact ⟨k + 1, hlt, by go_num, (fun j hj => by by_cases e : j = k; · rw [e]; exact HQ.out
                                                                    · exact HK.out j (by omega)), below_drewN HBr.out _⟩
          case measure => simp [intOf]; omega
        · have hq' : (gi xs k == gi ys k) = false := by simpa using hq
          have HQ := Lib.hid hq
          clear hq
          go_wp2
          go_quiet ((go_at_call 28; exact Calls.quiet_of_same (plainEq_any _ _ _)))
          go_wp2
          go_ret
          exact ⟨ret_bool (by rw [decide_eq_false (fun e => HQ.out (by rw [e]))]), below_drewN HBr.out _⟩
      · go_wp2
        go_ret
        refine ⟨ret_bool (by rw [decide_eq_true]; refine List.ext_getElem HL.out fun j hj hj' => ?_; have := HK.out j (by omega); rwa [gi_get hj, gi_get hj'] at this), HBr.out⟩
  · have hle : ((xs.length : Int) != (ys.length : Int)) = true := by simp; omega
    have HL := Lib.hid hl
    clear hl
    go_enter Try.func27, Try.ntmps27
    go_wp2
    go_ret
    exact ⟨ret_bool (by rw [decide_eq_false (fun e => HL.out (by rw [e]))]), Below.refl _ _⟩

set_option maxHeartbeats 400000 in
theorem plainI_any (A B : Option Addr) (c d : Nat) (xs ys : List Int) (w : World) (hx : RdI w A xs) (hy : RdI w B ys) :
    Calls Try.prog 10 #[.slice A xs.length c, .slice B ys.length d] w fun e w' => e = .returned (.bool (decide (xs = ys))) ∧ Below w.heap.size w w' := by
  have HX := Lib.hid hx
  have HY := Lib.hid hy
  clear hx hy
  go_enter Try.func10, Try.ntmps10
  go_wp2_with (fail)
  refine (sameI_any A B c d xs ys _ HX.out HY.out).mono ?_
  rintro e w1 ⟨rfl, hb1⟩
  go_wp2
  go_ret
  exact ⟨rfl, hb1⟩

set_option maxHeartbeats 400000 in
theorem inI_any (A : Option Addr) (c : Nat) (xs : List Int) (x : Int) (w : World) (hx : RdI w A xs) :
    Calls Try.prog 21 #[.slice A xs.length c, .int .i64 x] w fun e w' => e = .returned (.bool (decide (x ∈ xs))) ∧ w = w' := by
  have h1 := hx.1
  have HX := Lib.hid hx
  clear hx
  go_enter Try.func21, Try.ntmps21
  go_wp2
  go_loop [5] (fun i => ∃ k : Nat, k ≤ xs.length ∧ i = .int .i64 k ∧ Hid (∀ j, j < k → gi xs j ≠ x)) (fun i => xs.length - (intOf i).toNat)
  case atStart => exact ⟨0, Nat.zero_le _, rfl, (fun j hj => by omega)⟩
  case round =>
    obtain ⟨k, hk, rfl, HK⟩ := hrel
    by_cases hlt : k < xs.length
    · obtain ⟨ad, rfl, c1⟩ := HX.out.2 k hlt
      by_cases hq : gi xs k = x
      · have hq' : (gi xs k == x) = true := by simpa using hq
        have HQ := Lib.hid hq
        clear hq
        go_wp2
        go_ret
        exact ⟨ret_bool (by rw [decide_eq_true]; rw [← HQ.out, gi_get hlt]; exact List.getElem_mem _), rfl⟩
      · have hq' : (gi xs k == x) = false := by simpa using hq
        have HQ := Lib.hid hq
        clear hq
        go_wp2
        go_round
        case rel => exact ⟨k + 1, hlt, by go_num, (fun j hj => by by_cases e : j = k; · rw [e]; exact HQ.out
                                                                  · exact HK.out j (by omega))⟩
        case measure => simp [intOf]; omega
    · go_wp2
      go_ret
      refine ⟨ret_bool (by rw [decide_eq_false]; intro hm; obtain ⟨j, hj, e⟩ := List.getElem_of_mem hm; exact HK.out j (by omega) (by rw [gi_get hj, e])), rfl⟩
end Go.Proofs.Ytjcgokfjdagckaa
