/- Where a line is cut at its blanks: a plain law. -/
import Derived.Test.YtplghlokjgjjbaaDoorL4
namespace Go.Proofs.YtplghlokjgjjbaaDoor
open Go.RowKit Go.Proofs.YtplghlokjgjjbaaDoorW.PrintWords

/-- A text at its blanks. -/
def splitL : List UInt8 → List (List UInt8)
  | [] => [[]]
  | b :: r => if b = 32 then [] :: splitL r else match splitL r with
    | [] => [[b]]
    | x :: xs => (b :: x) :: xs
theorem splitL_none : ∀ {a : List UInt8}, 32 ∉ a → splitL a = [a]
  | [], _ => rfl
  | b :: r, h => by
    have hb : ¬ b = 32 := fun e => h (by rw [e]; exact List.mem_cons_self)
    have hr : 32 ∉ r := fun e => h (List.mem_cons_of_mem _ e)
    rw [splitL, if_neg hb, splitL_none hr]
theorem splitL_append : ∀ {a : List UInt8} (b : List UInt8), 32 ∉ a → splitL (a ++ 32 :: b) = a :: splitL b
  | [], b, _ => by simp [splitL]
  | x :: r, b, h => by
    have hb : ¬ x = 32 := fun e => h (by rw [e]; exact List.mem_cons_self)
    have hr : 32 ∉ r := fun e => h (List.mem_cons_of_mem _ e)
    rw [List.cons_append, splitL, if_neg hb, splitL_append b hr]
theorem split_splitL : ∀ (m : Nat) (s : List UInt8), s.length ≤ m → Lib.splitK [32] 0 (Lib.count s [32]) s = splitL s := by
  intro m
  induction m with
  | zero =>
    intro s hs
    have : s = [] := List.eq_nil_of_length_eq_zero (by omega)
    subst this
    decide
  | succ m ih =>
    intro s hs
    have hix : Lib.index s [32] = Lib.indexByte s 32 := Lib.index_one s 32
    by_cases h : Lib.indexByte s 32 = -1
    · rw [Lib.count_miss (hix.trans h)]
      have hn : 32 ∉ s := fun hm => by
        obtain ⟨k, hk, e⟩ := List.getElem_of_mem hm
        exact Lib.indexByte_none h k (by rw [List.getElem?_eq_getElem hk, e])
      rw [splitL_none hn]
      rfl
    · have hge := Lib.indexByte_ge s 32
      obtain ⟨i, hi⟩ : ∃ i : Nat, Lib.indexByte s 32 = i := ⟨(Lib.indexByte s 32).toNat, by omega⟩
      obtain ⟨h1, h2⟩ := Lib.indexByte_some hi
      have hil : i < s.length := by
        rcases Nat.lt_or_ge i s.length with h | h
        · exact h
        · rw [List.getElem?_eq_none h] at h1; cases h1
      have hs2 : s = s.take i ++ 32 :: s.drop (i + 1) := by
        have e : s[i] = 32 := by rw [List.getElem?_eq_getElem hil] at h1; exact Option.some.inj h1
        conv => lhs; rw [← List.take_append_drop i s, List.drop_eq_getElem_cons hil, e]
      have hn : 32 ∉ s.take i := fun hm => by
        obtain ⟨k, hk, e⟩ := List.getElem_of_mem hm
        have hk' : k < i := by rw [List.length_take] at hk; omega
        exact h2 k hk' (by rw [List.getElem?_eq_getElem (by omega)]; rw [List.getElem_take] at e; rw [e])
      have hc : Lib.count s [32] = 1 + Lib.count (s.drop (i + 1)) [32] := Lib.count_hit (by simp) (hix.trans hi)
      rw [hc, Nat.add_comm, Lib.splitK, if_neg (by rw [hix, hi]; simp), hix, hi]
      simp only [Int.toNat_natCast, Nat.add_zero, List.length_singleton]
      rw [ih (s.drop (i + 1)) (by rw [List.length_drop]; omega)]
      conv => rhs; rw [hs2]
      rw [splitL_append _ hn]
theorem splitW_data (s : ByteArray) : (splitW s).map (·.data.toList) = splitL s.data.toList := by
  rw [splitW, Lib.splitB_data]
  exact split_splitL _ _ (Nat.le_refl _)
end Go.Proofs.YtplghlokjgjjbaaDoor
