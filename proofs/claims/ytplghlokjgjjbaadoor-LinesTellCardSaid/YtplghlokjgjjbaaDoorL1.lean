/- reader.number of package lines: a word as a number. -/
import Derived.Test.YtplghlokjgjjbaaDoorK1
namespace Go.Proofs.YtplghlokjgjjbaaDoor
open Go.RowKit Go.Proofs.YtplghlokjgjjbaaDoorW.PrintWords

def numL : List Int → Int → Option Int
  | [], n => some n
  | c :: r, n => if c < 48 ∨ 57 < c then none else numL r (10 * n + (c - 48))
/-- A word as a number. -/
def numS (s : ByteArray) : Option Int := if s.size < 1 ∨ 9 < s.size ∨ (1 < s.size ∧ gi (bytesOf s) 0 = 48) then none else numL (bytesOf s) 0
def numV (s : ByteArray) : Int := (numS s).getD 0
def numB (s : ByteArray) : Bool := (numS s).isSome
theorem byte_lo (s : ByteArray) (k : Nat) : 0 ≤ gi (bytesOf s) k := by
  unfold gi bytesOf
  rw [List.getD_eq_getElem?_getD, List.getElem?_map]
  cases s.data.toList[k]? with
  | none => simp
  | some b => simp
theorem byte_hi (s : ByteArray) (k : Nat) : gi (bytesOf s) k ≤ 255 := by
  unfold gi bytesOf
  rw [List.getD_eq_getElem?_getD, List.getElem?_map]
  cases s.data.toList[k]? with
  | none => simp
  | some b => have := b.toNat_lt; simp; omega

theorem und_str : Tryd.prog.underlying 9 = some .string := by kernel_rfl
theorem und_bytes : Tryd.prog.underlying 34 = some (.slice 5) := by kernel_rfl
theorem und_u8 : Tryd.prog.underlying 5 = some (.int .u8) := by kernel_rfl
theorem head_byte (s : ByteArray) (hp : 0 < s.size) : (((s[0]'hp).toNat : Nat) : Int) = gi (bytesOf s) 0 := by
  have h : 0 < s.data.toList.length := by rw [data_length]; exact hp
  simp [gi, bytesOf, List.getD_eq_getElem?_getD, List.getElem?_map, List.getElem?_eq_getElem h]
  rfl
theorem numS_bad {s : ByteArray} (h : s.size < 1 ∨ 9 < s.size ∨ (1 < s.size ∧ gi (bytesOf s) 0 = 48)) : numS s = none := by rw [numS, if_pos h]
theorem numS_good {s : ByteArray} (h : ¬ (s.size < 1 ∨ 9 < s.size ∨ (1 < s.size ∧ gi (bytesOf s) 0 = 48))) : numS s = numL (bytesOf s) 0 := by rw [numS, if_neg h]
theorem bytes_RdI {w : World} {s : ByteArray} {k : Nat} (hk : k < s.size) {e : TypeId} {W : World} (hb : Below (Lib.bytesWorld w e s).heap.size (Lib.bytesWorld w e s) W) : W.cell? ⟨w.heap.size, k, none⟩ = some (.int .u8 (gi (bytesOf s) k)) := by
  refine cell_below hb ?_
  rw [Lib.bytesWorld_cell w e s k hk]
  have h : k < s.data.toList.length := by rw [data_length]; exact hk
  simp [gi, bytesOf, List.getD_eq_getElem?_getD, List.getElem?_map, List.getElem?_eq_getElem h]

set_option maxRecDepth 100000 in
set_option maxHeartbeats 2000000 in
theorem number_any (g : Nat) (A : Option Addr) (c : Nat) (l : List ByteArray) (k : Nat) (w : World) (hg : w.cell? ⟨g, 0, none⟩ = some (.slice A l.length c)) (h : RdS w A l) (hk : k < l.length) :
    Calls Tryd.prog 27 #[.pointer (some ⟨g, 0, none⟩), .int .i64 k] w fun e w' => e = .returned (.tuple #[.int .i64 (numV (gs l k)), .bool (numB (gs l k))]) ∧ Below w.heap.size w w' := by
  obtain ⟨ad, rfl, hc⟩ := h.2 k hk
  have hl := h.1
  clear h
  generalize gs l k = s at *
  have e0 := fun hp => head_byte s hp
  have kb := fun W => print_bytes (P := Tryd.prog) 9 34 5 und_str und_bytes und_u8 s W
  by_cases h1 : s.size < 1
  · have hn := numS_bad (s := s) (.inl h1)
    have HN := Lib.hid hn
    clear hn
    go_enter Tryd.func27, Tryd.ntmps27
    go_wp2
    go_ret2
    exact ⟨by simp [numV, numB, HN.out], Below.refl _ _⟩
  by_cases h9 : 9 < s.size
  · have hn := numS_bad (s := s) (.inr (.inl h9))
    have HN := Lib.hid hn
    clear hn
    go_enter Tryd.func27, Tryd.ntmps27
    go_wp2
    go_ret2
    exact ⟨by simp [numV, numB, HN.out], Below.refl _ _⟩
  have hp : 0 < s.size := by omega
  have hi1 : (1 : Int) ≤ s.size := by omega
  have hi9 : (s.size : Int) ≤ 9 := by omega
  by_cases hz : 1 < s.size ∧ gi (bytesOf s) 0 = 48
  · have hn := numS_bad (s := s) (.inr (.inr hz))
    have HN := Lib.hid hn
    obtain ⟨hz1, hz2⟩ := hz
    have hz3 : (gi (bytesOf s) 0 == 48) = true := by simpa using hz2
    clear hn hz2
    go_enter Tryd.func27, Tryd.ntmps27
    go_wp2
    go_ret2
    exact ⟨by simp [numV, numB, HN.out], Below.refl _ _⟩
  have HN := Lib.hid (numS_good (s := s) (by omega))
  go_enter Tryd.func27, Tryd.ntmps27
  by_cases hz1 : 1 < s.size
  case' pos => have hz3 : (gi (bytesOf s) 0 == 48) = false := by
                have : ¬ gi (bytesOf s) 0 = 48 := fun e => hz ⟨hz1, e⟩
                simpa using this
  all_goals clear hz
  all_goals
    go_wp2
    have HC := Lib.hid (fun (j : Nat) (hj : j < s.size) => bytes_RdI (w := w) (s := s) hj (Below.refl (Lib.bytesWorld w 5 s).heap.size (Lib.bytesWorld w 5 s)))
    have HB := Lib.hid (bytes_below (Below.refl w.heap.size w) (Nat.le_refl _) 5 s)
    clear e0 kb hc hg
    generalize Lib.bytesWorld w 5 s = W at *
    go_loop [7, 38] (fun n i => ∃ j x : Nat, j ≤ s.size ∧ i = .int .i64 j ∧ n = .int .i64 x ∧ Hid (x < 10 ^ j) ∧ Hid (numL (bytesOf s) 0 = numL ((bytesOf s).drop j) x)) (fun _ i => s.size - (intOf i).toNat)
    case atStart => exact ⟨0, 0, Nat.zero_le _, rfl, rfl, (by show _ < _; simp), (by show _ = _; simp)⟩
    case round =>
      obtain ⟨j, x, hj, rfl, rfl, HX, HL⟩ := hrel
      by_cases hlt : j < s.size
      · have hx8 : x ≤ 99999999 := by
          have h1 := HX.out
          have h2 : 10 ^ j ≤ 10 ^ 8 := Nat.pow_le_pow_right (by omega) (by omega)
          have : (10 : Nat) ^ 8 = 100000000 := by decide
          omega
        have hcl := HC.out j hlt
        have hd : (bytesOf s).drop j = gi (bytesOf s) j :: (bytesOf s).drop (j + 1) := drop_gi (by rw [bytesOf_length]; exact hlt)
        have hL := HL.out
        rw [hd, numL] at hL
        have b1 := byte_lo s j
        have b2 := byte_hi s j
        clear hd
        generalize gi (bytesOf s) j = c at *
        by_cases hbad : c < 48 ∨ 57 < c
        · rw [if_pos hbad, ← HN.out] at hL
          have hV := Lib.hid hL
          clear hL
          go_wp2
          all_goals go_ret2
          all_goals exact ⟨by simp [numV, numB, hV.out], HB.out⟩
        · rw [if_neg hbad] at hL
          have hV := Lib.hid hL
          have hc1 : 48 ≤ c := by omega
          have hc2 : c ≤ 57 := by omega
          obtain ⟨y, hy⟩ : ∃ y : Nat, 10 * (x : Int) + (c - 48) = (y : Int) := ⟨(10 * (x : Int) + (c - 48)).toNat, by omega⟩
          have hyb : y ≤ 999999999 := by omega
          have HY := Lib.hid (show y < 10 ^ (j + 1) by have := HX.out; rw [Nat.pow_succ]; omega)
          have HYe := Lib.hid hy
          clear hL hbad hy
          go_wp2
          go_round
          case rel => exact ⟨j + 1, y, by omega, by go_num, by have := HYe.out; go_num, HY, (by show _ = _; rw [hV.out, HYe.out])⟩
          case measure => simp [intOf]; omega
      · have he : j = s.size := by omega
        have hL := HL.out
        rw [he, List.drop_of_length_le (by rw [bytesOf_length]; exact Nat.le_refl _), numL, ← HN.out] at hL
        have hV := Lib.hid hL
        clear hL he
        go_wp2
        go_ret2
        exact ⟨by simp [numV, numB, hV.out], HB.out⟩
end Go.Proofs.YtplghlokjgjjbaaDoor
