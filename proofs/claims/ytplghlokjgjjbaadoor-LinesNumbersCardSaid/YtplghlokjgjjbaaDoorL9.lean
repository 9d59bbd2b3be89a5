/- Digits: what it hands back. -/
import Derived.Test.YtplghlokjgjjbaaDoorL8
import Derived.Test.YtplghlokjgjjbaaDoorPLinesNumbersx2
namespace Go.Proofs.YtplghlokjgjjbaaDoor
open Go.RowKit Go.Proofs.YtplghlokjgjjbaaDoorW.PrintWords

theorem strOfNums_one (d : Nat) (h : d < 10) : strOfNums [(wrap64 (48 + (d : Int))) % 256] = ofL [UInt8.ofNat (48 + d)] := by
  have e : (wrap64 (48 + (d : Int))) % 256 = ((48 + d : Nat) : Int) := by rw [wrap64]; omega
  rw [e]
  apply ByteArray.ext
  apply Array.ext'
  rw [strOfNums_data, data_ofL]
  rfl
theorem ofL_append (a b : List UInt8) : ofL a ++ ofL b = ofL (a ++ b) := by
  apply ByteArray.ext
  simp [ofL]
theorem digits_f (k : Nat) : ∀ n : Nat, n < 10 ^ (k + 1) → k ≤ 17 → PLinesNumbers.garlandhelp_Digits.f (k + 1) (n : Int) = some (ofL (dig n)) := by
  induction k with
  | zero =>
    intro n h _
    have h' : n < 10 := by simpa using h
    rw [PLinesNumbers.garlandhelp_Digits.f, if_pos (by omega), strOfNums_one n h', dig, if_pos h']
  | succ k ih =>
    intro n h hk
    rw [PLinesNumbers.garlandhelp_Digits.f]
    by_cases h10 : n < 10
    · rw [if_pos (by omega), strOfNums_one n h10, dig, if_pos h10]
    · have hb : (10 : Nat) ^ (k + 1 + 1) ≤ 10 ^ 19 := Nat.pow_le_pow_right (by omega) (by omega)
      have hb2 : (10 : Nat) ^ 19 = 10000000000000000000 := by decide
      have hn18 : n < 10 ^ 18 ∨ 10 ^ 18 ≤ n := by omega
      have ed : wrap64 (Int.tdiv (n : Int) 10) = ((n / 10 : Nat) : Int) := by rw [Int.tdiv_eq_ediv_of_nonneg (by omega), wrap64]; omega
      have em : Int.tmod (n : Int) 10 = ((n % 10 : Nat) : Int) := by rw [Int.tmod_eq_emod_of_nonneg (by omega)]; omega
      rw [if_neg (by omega), ed, ih (n / 10) (by rw [Nat.pow_succ] at h; omega) (by omega), em]
      have hl := dig_le k (n / 10) (by rw [Nat.pow_succ] at h; omega)
      simp only [Option.bind_some]
      rw [strOfNums_one (n % 10) (Nat.mod_lt n (by omega)), if_pos (by rw [size_ofL, size_ofL]; simp; omega), ofL_append]
      conv => rhs; rw [dig, if_neg h10]
end Go.Proofs.YtplghlokjgjjbaaDoor
