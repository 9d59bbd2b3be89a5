/- The reference's Parse. -/
import Derived.Test.YtplghlokjgjjbaaDoorL23
namespace Go.Proofs.YtplghlokjgjjbaaDoor
open Go.RowKit Go.Proofs.YtplghlokjgjjbaaDoorW.PrintWords

theorem refPrint_any (k x y : Int) (A : Option Addr) (c : Nat) (l : List Int) (w : World) (hl : RdI w A l) :
    Calls Tryd.prog 19 #[.agg #[.int .i64 k, .int .i64 x, .int .i64 y, .slice A l.length c]] w fun e w' => e = .returned (.tuple #[.string (strOf (printS k x y l)), .int .i64 (errOf (printS k x y l))]) ∧ Below w.heap.size w w' := by
  by_cases hb : badK k x
  · have := refPrint_bad k x y A c l w hl (.inl hb)
    rw [printS, if_pos hb]; exact this
  · by_cases hg : GoodC (wordsOf k).2 x y l.length
    · exact refPrint_good k x y A c l w hl hb hg
    · have := refPrint_bad k x y A c l w hl (.inr hg)
      rw [printS_bad hg]; exact this

/-- A command out of its numbers. -/
def builtA (n : Int) (xs : List Int) : Int := if n < 0 then 0 else gi (xs ++ [0, 0]) 0
def builtB (n : Int) (xs : List Int) : Int := if n < 0 then 0 else gi (xs ++ [0, 0]) 1
def builtL (n : Int) (xs : List Int) : List Int := if n < 0 then xs else []
theorem parse_nokind {s : ByteArray} (hs : s.size ≤ 65536) (h : ∀ q : Nat, 1 ≤ q → q < 15 → (formAt q).1 ≠ gs (splitW s) 0) : parseS s = (zeroC, 15) := by
  rw [parseS, if_neg (by omega), parseL]
  rcases kindIx_cases (gs (splitW s) 0) formW 0 with hk | ⟨q, _, hk⟩
  · rw [if_pos (by rw [hk]; decide)]; rfl
  · obtain ⟨h1, h2, h3⟩ := kind_word hk
    exact absurd h3.symm (h q h1 h2)
theorem parse_kind {s : ByteArray} {q : Nat} (hs : s.size ≤ 65536) (h1 : 1 ≤ q) (h2 : q < 15) (hw : gs (splitW s) 0 = (formAt q).1) : parseS s = wrapC (parseN q (formAt q).2 (splitW s)) := by
  rw [parseS, if_neg (by omega), parseL, hw, kind_of q h1 h2, if_neg (by omega), Int.toNat_natCast, parseK]
theorem parse_numbad {s : ByteArray} {q : Nat} (hs : s.size ≤ 65536) (h1 : 1 ≤ q) (h2 : q < 15) (hw : gs (splitW s) 0 = (formAt q).1) (hx : numsS ((splitW s).drop 1) = none) : parseS s = (zeroC, 15) := by
  rw [parse_kind hs h1 h2 hw, parseN, hx]
  split <;> rfl
theorem parse_other {s : ByteArray} {q : Nat} {xs : List Int} (hs : s.size ≤ 65536) (h1 : 1 ≤ q) (h2 : q < 15) (hw : gs (splitW s) 0 = (formAt q).1) (hx : numsS ((splitW s).drop 1) = some xs)
    (hp : printS q (builtA (formAt q).2 xs) (builtB (formAt q).2 xs) (builtL (formAt q).2 xs) ≠ some s) : parseS s = (zeroC, 15) := by
  have hk := parse_kind hs h1 h2 hw
  rw [parseN, hx, bodyK, finishK] at hk
  split at hk
  · exact hk
  · split at hk
    · rename_i hneg
      exfalso
      apply hp
      rw [builtA, builtB, builtL, if_pos hneg, if_pos hneg, if_pos hneg]
      exact parse_print hk
    · rename_i hneg
      split at hk
      · exact hk
      · exfalso
        apply hp
        rw [builtA, builtB, builtL, if_neg hneg, if_neg hneg, if_neg hneg]
        exact parse_print hk
theorem built_snoc {xs : List Int} (v : Int) : (xs.length = 0 → gi ((xs ++ [v]) ++ [0, 0]) 0 = v) ∧ (xs.length ≠ 0 → gi ((xs ++ [v]) ++ [0, 0]) 0 = gi (xs ++ [0, 0]) 0) ∧ (xs.length = 1 → gi ((xs ++ [v]) ++ [0, 0]) 1 = v) ∧ (xs.length ≠ 1 → gi ((xs ++ [v]) ++ [0, 0]) 1 = gi (xs ++ [0, 0]) 1) := by
  match xs with
  | [] => refine ⟨?_, ?_, ?_, ?_⟩ <;> intro h <;> first | rfl | (simp at h)
  | [a] => refine ⟨?_, ?_, ?_, ?_⟩ <;> intro h <;> first | rfl | (simp at h)
  | a :: b :: r => refine ⟨?_, ?_, ?_, ?_⟩ <;> intro h <;> first | rfl | (simp at h)
/-- Where the inner loop stands. -/
def RparAt (W wr : World) (g : Nat) (q : Nat) (n : Int) (l : List ByteArray) (v9 : Value) : Prop :=
  ∃ (i : Nat) (xs : List Int) (v : Value), v9 = .int .i64 i ∧ 1 ≤ i ∧ i ≤ l.length ∧ xs.length + 1 = i ∧ wr.heap[g]? = some (.cells #[.int .i64 q, .int .i64 (builtA n xs), .int .i64 (builtB n xs), v] 26 (0, 0)) ∧
    OwI wr (g + 1) v (builtL n xs) ∧ numsS (l.drop 1) = (numsS (l.drop i)).map (xs ++ ·) ∧ Below W.heap.size W wr ∧ W.heap.size ≤ g
end Go.Proofs.YtplghlokjgjjbaaDoor
