/- Rows of strings that a call owns; lines of bytes: plain laws. -/
import Derived.Test.YtplghlokjgjjbaaDoorL8
namespace Go.Proofs.YtplghlokjgjjbaaDoor
open Go.RowKit Go.Proofs.YtplghlokjgjjbaaDoorW.PrintWords

theorem info_str : (Tryd.prog.info? 9).map (fun i => (i.zero, i.size, i.bytes)) = some (some (.string ⟨#[]⟩), 1, 16) := by kernel_rfl
theorem und_strs : Tryd.prog.underlying 23 = some (.slice 9) := by kernel_rfl
/-- A row of strings that the call itself owns. -/
def OwS (w : World) (base : Nat) (v : Value) (l : List ByteArray) : Prop := w.ownsRow base 9 1 v l.length (encs Value.string l)
theorem OwS.nil (w : World) (base : Nat) : OwS w base (.slice none 0 0) [] := own_nil _ _ _ _
theorem OwS.slice_ {w : World} {base : Nat} {v : Value} {l : List ByteArray} (h : OwS w base v l) : ∃ A c, v = .slice A l.length c := own_slice h
theorem OwS.below {w w1 : World} {base : Nat} {v : Value} {l : List ByteArray} (h : OwS w base v l) (hb : Below w.heap.size w w1) : OwS w1 base v l := pw_own_below h hb
theorem OwS.reads {w : World} {base : Nat} {v : Value} {l : List ByteArray} (h : OwS w base v l) (hl : l.length ≤ 4611686018427387904) : ∃ A c, v = .slice A l.length c ∧ RdS w A l := by
  obtain ⟨A, c, e, hr⟩ := own_reads_of (d := ByteArray.empty) h
  refine ⟨A, c, e, hl, fun j hj => ?_⟩
  obtain ⟨ad, ea, hc⟩ := hr.2.2 (by omega)
  exact ⟨ad, ea, hc j hj⟩
theorem OwS.append {ops : Array Oper} {rest : List Oper} {o : Oper} {a : Act} {Q : Exit → Act → World → Prop} {w0 W : World} (base : Nat) (hgd : o.guard = none) (s x : Operand)
    (ho : o.op = .call { callee := .builtin .append, args := #[s, x], argTypes := #[23, 23] })
    (v : Value) (l : List ByteArray) (y : ByteArray) (hs : a.eval s = v) (hx : a.eval x = .slice (some ⟨W.heap.size, 0, none⟩) 1 1)
    (HO : OwS W base v l) (HB : Below base w0 W) (hbase : base ≤ W.heap.size) (hl : l.length ≤ 1099511627776)
    (h : ∀ v1 w1, OwS w1 base v1 (l ++ [y]) → Below base w0 w1 → W.grownBy w1 v.ownBlock → wpList Tryd.prog ops Q rest (a.put o.dst v1) w1) :
    wpList Tryd.prog ops Q (o :: rest) a (W.alloc (.cells #[.string y] 9)) :=
  print_append_of (P := Tryd.prog) Value.string base hgd s x 23 9 (.string ⟨#[]⟩) 16 ho und_strs info_str rfl (by decide) v l y hs hx rfl HO HB hbase (by omega) (fun v1 w1 h1 h2 h3 _ => h v1 w1 h1 h2 h3)

def lenV : Value → Nat
  | .slice _ n _ => n
  | _ => 0
/-! ### lines -/
/-- Bytes as lines. -/
def linesL : List UInt8 → List (List UInt8)
  | [] => []
  | b :: r => if b = 10 then [] :: linesL r else match linesL r with
    | [] => [[b]]
    | x :: xs => (b :: x) :: xs
theorem linesL_none : ∀ {a : List UInt8}, 10 ∉ a → a ≠ [] → linesL a = [a]
  | [], _, h => absurd rfl h
  | [b], h, _ => by
    have hb : ¬ b = 10 := fun e => h (by rw [e]; exact List.mem_cons_self)
    rw [linesL, if_neg hb]; rfl
  | b :: c :: r, h, _ => by
    have hb : ¬ b = 10 := fun e => h (by rw [e]; exact List.mem_cons_self)
    have hr : 10 ∉ c :: r := fun e => h (List.mem_cons_of_mem _ e)
    rw [linesL, if_neg hb, linesL_none hr (by simp)]
theorem linesL_append : ∀ {a : List UInt8} (b : List UInt8), 10 ∉ a → linesL (a ++ 10 :: b) = a :: linesL b
  | [], b, _ => by simp [linesL]
  | x :: r, b, h => by
    have hb : ¬ x = 10 := fun e => h (by rw [e]; exact List.mem_cons_self)
    have hr : 10 ∉ r := fun e => h (List.mem_cons_of_mem _ e)
    rw [List.cons_append, linesL, if_neg hb, linesL_append b hr]
theorem nl_none {l : List UInt8} (h : Lib.indexByte l 10 = -1) : 10 ∉ l := fun hm => by
  obtain ⟨k, hk, e⟩ := List.getElem_of_mem hm
  exact Lib.indexByte_none h k (by rw [List.getElem?_eq_getElem hk, e])
theorem nl_some {l : List UInt8} {i : Nat} (h : Lib.indexByte l 10 = i) : i < l.length ∧ l = l.take i ++ 10 :: l.drop (i + 1) ∧ 10 ∉ l.take i := by
  obtain ⟨h1, h2⟩ := Lib.indexByte_some h
  have hil : i < l.length := by
    rcases Nat.lt_or_ge i l.length with h | h
    · exact h
    · rw [List.getElem?_eq_none h] at h1; cases h1
  refine ⟨hil, ?_, fun hm => ?_⟩
  · have e : l[i] = 10 := by rw [List.getElem?_eq_getElem hil] at h1; exact Option.some.inj h1
    conv => lhs; rw [← List.take_append_drop i l, List.drop_eq_getElem_cons hil, e]
  · obtain ⟨k, hk, e⟩ := List.getElem_of_mem hm
    have hk' : k < i := by rw [List.length_take] at hk; omega
    exact h2 k hk' (by rw [List.getElem?_eq_getElem (by omega)]; rw [List.getElem_take] at e; rw [e])
/-- Bytes (as numbers) as lines (as strings). -/
def allS (xs : List Int) : List ByteArray := (linesL (Lib.bytesOf xs)).map ofL
theorem strOfNums_ofL (xs : List Int) : strOfNums xs = ofL (Lib.bytesOf xs) := by
  rw [← ofL_data (strOfNums xs)]
  congr 1
theorem allS_none {xs : List Int} (h : Lib.indexByte (Lib.bytesOf xs) 10 = -1) (hx : xs ≠ []) : allS xs = [strOfNums xs] := by
  rw [allS, linesL_none (nl_none h) (by intro e; apply hx; apply List.eq_nil_of_length_eq_zero; rw [← Lib.bytesOf_length, e]; rfl), strOfNums_ofL]; rfl
theorem allS_some {xs : List Int} {i : Nat} (h : Lib.indexByte (Lib.bytesOf xs) 10 = i) : i < xs.length ∧ allS xs = strOfNums (xs.take i) :: allS (xs.drop (i + 1)) := by
  obtain ⟨h1, h2, h3⟩ := nl_some h
  rw [Lib.bytesOf_length] at h1
  refine ⟨h1, ?_⟩
  have e : linesL (Lib.bytesOf xs) = (Lib.bytesOf xs).take i :: linesL ((Lib.bytesOf xs).drop (i + 1)) := by
    conv => lhs; rw [h2]
    exact linesL_append _ h3
  rw [allS, e, strOfNums_ofL, Lib.bytesOf_take, allS, Lib.bytesOf_drop]; rfl
theorem linesL_length : ∀ l : List UInt8, (linesL l).length ≤ l.length
  | [] => by simp [linesL]
  | b :: r => by
    have ih := linesL_length r
    rw [linesL]
    split
    · simp only [List.length_cons]; omega
    · split
      · simp
      · rename_i e; rw [e] at ih; simp at ih ⊢; omega
theorem allS_length (xs : List Int) : (allS xs).length ≤ xs.length := by
  rw [allS, List.length_map, ← Lib.bytesOf_length xs]; exact linesL_length _
end Go.Proofs.YtplghlokjgjjbaaDoor
