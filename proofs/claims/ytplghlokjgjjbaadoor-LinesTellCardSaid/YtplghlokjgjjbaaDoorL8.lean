/- Numbers as digits; a line 'cut N': plain laws. -/
import Derived.Test.YtplghlokjgjjbaaDoorL7
namespace Go.Proofs.YtplghlokjgjjbaaDoor
open Go.RowKit Go.Proofs.YtplghlokjgjjbaaDoorW.PrintWords

def ofL (l : List UInt8) : ByteArray := ⟨l.toArray⟩
theorem ofL_data (s : ByteArray) : ofL s.data.toList = s := by cases s; simp [ofL]
theorem data_ofL (l : List UInt8) : (ofL l).data.toList = l := by simp [ofL]
theorem splitW_ofL (s : ByteArray) : splitW s = (splitL s.data.toList).map ofL := by
  rw [← splitW_data, List.map_map]
  conv => lhs; rw [← List.map_id (splitW s)]
  exact List.map_congr_left fun x _ => (ofL_data x).symm
/-- A number's digits. -/
def dig (n : Nat) : List UInt8 := if n < 10 then [UInt8.ofNat (48 + n)] else dig (n / 10) ++ [UInt8.ofNat (48 + n % 10)]
termination_by n
decreasing_by omega
theorem numL_append : ∀ (xs ys : List Int) (a : Int), numL (xs ++ ys) a = (numL xs a).bind (numL ys)
  | [], ys, a => rfl
  | c :: r, ys, a => by
    rw [List.cons_append, numL, numL]
    split
    · rfl
    · exact numL_append r ys _
def toI (l : List UInt8) : List Int := l.map fun b => (b.toNat : Int)
theorem toI_append (a b : List UInt8) : toI (a ++ b) = toI a ++ toI b := List.map_append
theorem digit_toNat {d : Nat} (h : d < 10) : (UInt8.ofNat (48 + d)).toNat = 48 + d := by simp; omega
theorem numL_dig (n : Nat) : numL (toI (dig n)) 0 = some (n : Int) := by
  induction n using Nat.strongRecOn with
  | ind n ih =>
    rw [dig]
    split
    · rename_i h
      simp only [toI, List.map_cons, List.map_nil, digit_toNat h, numL]
      rw [if_neg (by omega)]
      congr 1; omega
    · rename_i h
      rw [toI_append, numL_append, ih (n / 10) (by omega)]
      simp only [Option.bind_some, toI, List.map_cons, List.map_nil, digit_toNat (Nat.mod_lt n (by omega : 10 > 0)), numL]
      rw [if_neg (by omega)]
      congr 1; omega
theorem dig_le (k : Nat) : ∀ n, n < 10 ^ (k + 1) → (dig n).length ≤ k + 1 := by
  induction k with
  | zero => intro n h; rw [dig, if_pos (by simpa using h)]; simp
  | succ k ih =>
    intro n h
    rw [dig]
    split
    · simp
    · rw [List.length_append, List.length_singleton]
      have := ih (n / 10) (by rw [Nat.pow_succ] at h; omega)
      omega
theorem dig_gt (k : Nat) : ∀ n, 10 ^ k ≤ n → k < (dig n).length := by
  induction k with
  | zero => intro n _; rw [dig]; split <;> simp
  | succ k ih =>
    intro n h
    have h10 : 10 ≤ n := by have : 10 ^ (k + 1) = 10 ^ k * 10 := Nat.pow_succ ..; have : 0 < 10 ^ k := Nat.pow_pos (by omega); omega
    rw [dig, if_neg (by omega), List.length_append, List.length_singleton]
    have := ih (n / 10) (by rw [Nat.pow_succ] at h; omega)
    omega
theorem dig_head (n : Nat) (h : 0 < n) : ∃ d r, dig n = UInt8.ofNat (48 + d) :: r ∧ 1 ≤ d ∧ d < 10 := by
  induction n using Nat.strongRecOn with
  | ind n ih =>
    rw [dig]
    split
    · exact ⟨n, [], rfl, h, by assumption⟩
    · obtain ⟨d, r, e, h1, h2⟩ := ih (n / 10) (by omega) (by omega)
      exact ⟨d, r ++ [UInt8.ofNat (48 + n % 10)], by rw [e]; rfl, h1, h2⟩
theorem dig_mem (n : Nat) : ∀ b ∈ dig n, 48 ≤ b.toNat ∧ b.toNat ≤ 57 := by
  induction n using Nat.strongRecOn with
  | ind n ih =>
    rw [dig]
    split
    · rename_i h
      intro b hb
      rw [List.mem_singleton] at hb
      subst hb
      rw [digit_toNat h]; omega
    · intro b hb
      rw [List.mem_append, List.mem_singleton] at hb
      rcases hb with hb | rfl
      · exact ih (n / 10) (by omega) b hb
      · rw [digit_toNat (Nat.mod_lt n (by omega : 10 > 0))]; omega
theorem bytes_toI (s : ByteArray) : bytesOf s = toI s.data.toList := rfl
theorem size_ofL (l : List UInt8) : (ofL l).size = l.length := by simp [ofL, ByteArray.size]
theorem numS_dig (n : Nat) : numS (ofL (dig n)) = if n ≤ 999999999 then some (n : Int) else none := by
  rw [numS, size_ofL, bytes_toI, data_ofL]
  have h1 : 0 < (dig n).length := dig_gt 0 n |> fun f => by
    rcases Nat.eq_zero_or_pos n with h | h
    · subst h; rw [dig, if_pos (by omega)]; simp
    · exact f (by rw [Nat.pow_zero]; omega)
  by_cases hn : n ≤ 999999999
  · have h9 := dig_le 8 n (by have : (10 : Nat) ^ 9 = 1000000000 := by decide
                              omega)
    rw [if_pos hn, if_neg, numL_dig]
    rintro (h | h | ⟨h, h'⟩)
    · omega
    · omega
    · rcases Nat.eq_zero_or_pos n with h0 | h0
      · subst h0; rw [dig, if_pos (by omega)] at h; simp at h
      · obtain ⟨d, r, e, hd1, hd2⟩ := dig_head n h0
        rw [e] at h'
        simp only [toI, List.map_cons, gi, List.getD_cons_zero, digit_toNat hd2] at h'
        omega
  · have h9 := dig_gt 9 n (by have : (10 : Nat) ^ 9 = 1000000000 := by decide
                              omega)
    rw [if_neg hn, if_pos (.inr (.inl h9))]
theorem numS_zero_dig (n : Nat) : numS (ofL (48 :: dig n)) = none := by
  rw [numS, size_ofL, bytes_toI, data_ofL]
  have h1 : 0 < (dig n).length := dig_gt 0 n |> fun f => by
    rcases Nat.eq_zero_or_pos n with h | h
    · subst h; rw [dig, if_pos (by omega)]; simp
    · exact f (by rw [Nat.pow_zero]; omega)
  rw [if_pos]
  refine .inr (.inr ⟨by simpa using h1, ?_⟩)
  simp [toI, gi]
theorem cut_line (l : List UInt8) (h : 32 ∉ l) : splitW (ofL ([99, 117, 116, 32] ++ l)) = [ofL [99, 117, 116], ofL l] := by
  rw [splitW_ofL, data_ofL, show [99, 117, 116, 32] ++ l = [99, 117, 116] ++ 32 :: l from rfl, splitL_append l (by decide), splitL_none h]
  rfl
theorem cut_kind : kindIx (ofL [99, 117, 116]) 0 formW = 5 := by decide +kernel
theorem cut_parse (l : List UInt8) (h : 32 ∉ l) (hl : l.length ≤ 1000) : parseS (ofL ([99, 117, 116, 32] ++ l)) = match numS (ofL l) with
    | none => (zeroC, 15)
    | some v => ((5, v, 0, []), 0) := by
  rw [parseS, if_neg (by rw [size_ofL, List.length_append]; simp; omega), cut_line l h, parseL]
  rw [show gs [ofL [99, 117, 116], ofL l] 0 = ofL [99, 117, 116] from rfl, cut_kind, if_neg (by decide), parseK]
  rw [show (formAt (5 : Int).toNat).2 = 1 from rfl, parseN, if_neg (by simp), show List.drop 1 [ofL [99, 117, 116], ofL l] = [ofL l] from rfl, numsS]
  cases numS (ofL l) with
  | none => rfl
  | some v => rfl
theorem dig_blank (n : Nat) : 32 ∉ dig n := fun h => by have := dig_mem n 32 h; simp at this
theorem cut_dig (n : Nat) (h : n < 2000000000) : parseS (ofL ([99, 117, 116, 32] ++ dig n)) = if n ≤ 999999999 then ((5, (n : Int), 0, []), 0) else (zeroC, 15) := by
  have hl := dig_le 9 n (by have : (10 : Nat) ^ 10 = 10000000000 := by decide
                            omega)
  rw [cut_parse _ (dig_blank n) (by omega), numS_dig]
  split <;> (split <;> simp_all)
theorem cut_zero (n : Nat) (h : n < 2000000000) : parseS (ofL ([99, 117, 116, 32] ++ 48 :: dig n)) = (zeroC, 15) := by
  have hl := dig_le 9 n (by have : (10 : Nat) ^ 10 = 10000000000 := by decide
                            omega)
  rw [cut_parse _ (fun hm => by
    rcases List.mem_cons.1 hm with e | e
    · cases e
    · exact dig_blank n e) (by simp; omega), numS_zero_dig]
end Go.Proofs.YtplghlokjgjjbaaDoor
