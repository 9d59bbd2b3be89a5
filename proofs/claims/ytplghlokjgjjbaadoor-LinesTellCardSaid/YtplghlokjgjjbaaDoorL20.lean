/- The reference's number and split. -/
import Derived.Test.YtplghlokjgjjbaaDoorL17
import Derived.Test.YtplghlokjgjjbaaDoorK3
namespace Go.Proofs.YtplghlokjgjjbaaDoor
open Go.RowKit Go.Proofs.YtplghlokjgjjbaaDoorW.PrintWords

theorem byte_at (s : ByteArray) (j : Nat) (h : j < s.size) : (((s[j]'h).toNat : Nat) : Int) = gi (bytesOf s) j := by
  have h' : j < s.data.toList.length := by rw [data_length]; exact h
  simp [gi, bytesOf, List.getD_eq_getElem?_getD, List.getElem?_map, List.getElem?_eq_getElem h']
  rfl
def numI (s : ByteArray) : Int := (numS s).getD (-1)
theorem str_empty (s : ByteArray) : s.toList = [] ↔ s.size = 0 := by
  rw [ByteArray.toList_eq, ← data_length]
  exact ⟨fun h => by rw [h]; rfl, List.eq_nil_of_length_eq_zero⟩
theorem str_isEmpty (s : ByteArray) : s.toList.isEmpty = decide (s.size = 0) := by
  rw [Bool.eq_iff_iff, List.isEmpty_iff, str_empty]; simp
set_option maxRecDepth 100000 in
set_option maxHeartbeats 2000000 in
theorem refNumber_any (s : ByteArray) (w : World) : Calls Tryd.prog 37 #[.string s] w fun e w' => e = .returned (.int .i64 (numI s)) ∧ w = w' := by
  have e0 := fun hp => byte_at s 0 hp
  by_cases h1 : s.size < 1
  · have hn := numS_bad (s := s) (.inl h1)
    have HN := Lib.hid hn
    have g1 : s.toList.isEmpty = true := by rw [str_isEmpty]; exact decide_eq_true (by omega)
    have g2 : s.toList = [] := (str_empty s).2 (by omega)
    clear hn
    go_enter Tryd.func37, Tryd.ntmps37
    go_wp2
    go_ret
    exact ⟨by rw [numI, HN.out]; rfl, rfl⟩
  have g1 : s.toList.isEmpty = false := by rw [str_isEmpty]; exact decide_eq_false (by omega)
  by_cases h9 : 9 < s.size
  · have hn := numS_bad (s := s) (.inr (.inl h9))
    have HN := Lib.hid hn
    clear hn
    have h9i : 9 < (s.size : Int) := by omega
    go_enter Tryd.func37, Tryd.ntmps37
    go_wp2
    go_ret
    exact ⟨by rw [numI, HN.out]; rfl, rfl⟩
  have hp : 0 < s.size := by omega
  have hi1 : (1 : Int) ≤ s.size := by omega
  have hi9 : (s.size : Int) ≤ 9 := by omega
  by_cases hz : 1 < s.size ∧ gi (bytesOf s) 0 = 48
  · have hn := numS_bad (s := s) (.inr (.inr hz))
    have HN := Lib.hid hn
    obtain ⟨hz1, hz2⟩ := hz
    have hz3 : (gi (bytesOf s) 0 == 48) = true := by simpa using hz2
    clear hn hz2
    go_enter Tryd.func37, Tryd.ntmps37
    go_wp2
    go_ret
    exact ⟨by rw [numI, HN.out]; rfl, rfl⟩
  have HN := Lib.hid (numS_good (s := s) (by omega))
  have h3 : ((gi (bytesOf s) 0 == 48) = false) ∨ ((gi (bytesOf s) 0 == 48) = true ∧ ¬ 1 < s.size) := by
    by_cases h : gi (bytesOf s) 0 = 48
    · exact .inr ⟨by simpa using h, fun h' => hz ⟨h', h⟩⟩
    · exact .inl (by simpa using h)
  clear hz
  rcases h3 with h3 | ⟨h3, h4⟩
  all_goals
    go_enter Tryd.func37, Tryd.ntmps37
    go_wp2
    clear e0
    go_loop [3, 4] (fun n i => ∃ j x : Nat, j ≤ s.size ∧ i = .int .i64 j ∧ n = .int .i64 x ∧ Hid (x < 10 ^ j) ∧ Hid (numL (bytesOf s) 0 = numL ((bytesOf s).drop j) x)) (fun _ i => s.size - (intOf i).toNat)
    case atStart => exact ⟨0, 0, Nat.zero_le _, rfl, rfl, (by show _ < _; simp), (by show _ = _; simp)⟩
    case round =>
      obtain ⟨j, x, hj, rfl, rfl, HX, HL⟩ := hrel
      by_cases hlt : j < s.size
      · have hx8 : x ≤ 99999999 := by
          have h1 := HX.out
          have h2 : 10 ^ j ≤ 10 ^ 8 := Nat.pow_le_pow_right (by omega) (by omega)
          have : (10 : Nat) ^ 8 = 100000000 := by decide
          omega
        have eb := byte_at s j hlt
        have hd : (bytesOf s).drop j = gi (bytesOf s) j :: (bytesOf s).drop (j + 1) := drop_gi (by rw [bytesOf_length]; exact hlt)
        have hL := HL.out
        rw [hd, numL] at hL
        have b1 := byte_lo s j
        have b2 := byte_hi s j
        clear hd
        generalize gi (bytesOf s) j = c at *
        by_cases hbad : c < 48 ∨ 57 < c
        · rw [if_pos hbad, ← HN.out] at hL
          have hV := Lib.hid hL
          clear hL
          go_wp2
          all_goals go_ret
          all_goals exact ⟨by simp [numI, hV.out], rfl⟩
        · rw [if_neg hbad] at hL
          have hV := Lib.hid hL
          have hc1 : 48 ≤ c := by omega
          have hc2 : c ≤ 57 := by omega
          obtain ⟨y, hy⟩ : ∃ y : Nat, 10 * (x : Int) + (c - 48) = (y : Int) := ⟨(10 * (x : Int) + (c - 48)).toNat, by omega⟩
          have hyb : y ≤ 999999999 := by omega
          have HY := Lib.hid (show y < 10 ^ (j + 1) by have := HX.out; rw [Nat.pow_succ]; omega)
          have HYe := Lib.hid hy
          clear hL hbad hy
          go_wp2
          go_round
          case rel => exact ⟨j + 1, y, by omega, by go_num, by have := HYe.out; go_num, HY, (by show _ = _; rw [hV.out, HYe.out])⟩
          case measure => simp [intOf]; omega
      · have he : j = s.size := by omega
        have hL := HL.out
        rw [he, List.drop_of_length_le (by rw [bytesOf_length]; exact Nat.le_refl _), numL, ← HN.out] at hL
        have hV := Lib.hid hL
        clear hL he
        go_wp2
        go_ret
        exact ⟨by simp [numI, hV.out], rfl⟩

/-! ### a text at its blanks -/
def tailW (s : ByteArray) (f : Nat) : List ByteArray := (splitL (s.data.toList.drop f)).map ofL
/-- Where split stands: what was cut, from where the next word is, how far it was looked. -/
def SplitAt (w wr : World) (s : ByteArray) (v3 v4 v5 : Value) : Prop :=
  ∃ (i f : Nat) (done : List ByteArray), v5 = .int .i64 i ∧ v4 = .int .i64 f ∧ f ≤ i ∧ i ≤ s.size + 1 ∧ done.length ≤ i ∧
    (i ≤ s.size → (∀ j, f ≤ j → j < i → gi (bytesOf s) j ≠ 32) ∧ done ++ tailW s f = splitW s) ∧ (i = s.size + 1 → done = splitW s) ∧ OwS wr w.heap.size v3 done ∧ Below w.heap.size w wr
theorem byte_32 (s : ByteArray) (j : Nat) (h : j < s.data.toList.length) : s.data.toList[j] = 32 ↔ gi (bytesOf s) j = 32 := by
  have hj : j < s.size := by rw [← data_length]; exact h
  rw [← byte_at s j hj]
  have e : s[j]'hj = s.data.toList[j] := rfl
  rw [e]
  constructor
  · intro h; rw [h]; rfl
  · intro h; apply UInt8.toNat_inj.1; show _ = 32; omega
theorem tail_no {s : ByteArray} {f i : Nat} (hf : f ≤ i) (hi : i ≤ s.size) (h : ∀ j, f ≤ j → j < i → gi (bytesOf s) j ≠ 32) : 32 ∉ (s.data.toList.drop f).take (i - f) := by
  intro hm
  obtain ⟨k, hk, e⟩ := List.getElem_of_mem hm
  rw [List.getElem_take, List.getElem_drop] at e
  rw [List.length_take, List.length_drop] at hk
  exact h (f + k) (by omega) (by omega) ((byte_32 s (f + k) (by rw [data_length] at hk ⊢; omega)).1 e)
theorem extract_ofL (s : ByteArray) (f i : Nat) : s.extract f i = ofL ((s.data.toList.drop f).take (i - f)) := by
  rw [← ofL_data (s.extract f i), Lib.extract_data]
theorem tail_cut {s : ByteArray} {f i : Nat} (hf : f ≤ i) (hi : i < s.size) (h : ∀ j, f ≤ j → j < i → gi (bytesOf s) j ≠ 32) (h32 : gi (bytesOf s) i = 32) : tailW s f = s.extract f i :: tailW s (i + 1) := by
  have hl : i < s.data.toList.length := by rw [data_length]; exact hi
  have e : s.data.toList.drop f = (s.data.toList.drop f).take (i - f) ++ 32 :: s.data.toList.drop (i + 1) := by
    have h1 : (s.data.toList.drop f).drop (i - f) = 32 :: s.data.toList.drop (i + 1) := by
      rw [List.drop_drop, show f + (i - f) = i by omega, List.drop_eq_getElem_cons hl, (byte_32 s i hl).2 h32]
    rw [← h1, List.take_append_drop]
  rw [tailW, e, splitL_append _ (tail_no hf (by omega) h), extract_ofL]; rfl
theorem tail_last {s : ByteArray} {f : Nat} (hf : f ≤ s.size) (h : ∀ j, f ≤ j → j < s.size → gi (bytesOf s) j ≠ 32) : tailW s f = [s.extract f s.size] := by
  have e : (s.data.toList.drop f).take (s.size - f) = s.data.toList.drop f := List.take_of_length_le (by rw [List.length_drop, data_length]; omega)
  have hn := tail_no hf (Nat.le_refl _) h
  rw [e] at hn
  rw [tailW, splitL_none hn, extract_ofL, e]; rfl
set_option maxRecDepth 100000 in
set_option maxHeartbeats 2000000 in
theorem refSplit_any (s : ByteArray) (w : World) (hs : s.size ≤ 65536) : Calls Tryd.prog 35 #[.string s] w fun e w' => ∃ v, e = .returned v ∧ OwS w' w.heap.size v (splitW s) ∧ Below w.heap.size w w' := by
  go_enter Tryd.func35, Tryd.ntmps35
  go_wp2
  go_loopw [3, 4, 5] (fun v3 v4 v5 wr => SplitAt w wr s v3 v4 v5) (fun _ _ i _ => s.size + 1 - (intOf i).toNat)
  case atStart => exact ⟨0, 0, [], rfl, rfl, Nat.le_refl _, by omega, Nat.le_refl _, fun _ => ⟨fun j h1 h2 => by omega, by rw [List.nil_append, tailW, List.drop_zero, splitW_ofL]⟩, fun h => by omega, OwS.nil _ _, Below.refl _ _⟩
  case round =>
    obtain ⟨i, f, done, rfl, rfl, hf, hi, hdl, h1, h2, ho, hb⟩ := hrel
    have HO := Lib.hid ho
    have HB := Lib.hid hb
    have H1 := Lib.hid h1
    have H2 := Lib.hid h2
    have HDL : Hid (done.length ≤ 1099511627776) := by show _ ≤ _; omega
    have HDi := Lib.hid hdl
    clear ho hb h1 h2 hdl
    by_cases hle : i ≤ s.size
    · obtain ⟨ha, hc⟩ := H1.out hle
      have HA := Lib.hid ha
      have HC := Lib.hid hc
      clear ha hc H1 H2
      by_cases hlt : i < s.size
      · have hne : ((i : Int) == (s.size : Int)) = false := by simp; omega
        have eb := byte_at s i hlt
        by_cases h32 : gi (bytesOf s) i = 32
        · have hb32 : (gi (bytesOf s) i == 32) = true := by simpa using h32
          have HT := Lib.hid (tail_cut hf hlt HA.out h32)
          clear h32
          go_wp2_with ((at_builtin; refine OwS.append (w0 := w) (W := wr) w.heap.size rfl (.tmp 22) (.tmp 27) rfl _ done (s.extract f i) rfl rfl HO.out HB.out HB.out.size HDL.out ?_; intro v1 w1 o1 b1 g1; have O1 := Lib.hid o1; have B1 := Lib.hid b1; clear o1 b1 g1))
          go_roundw
          case rel => exact ⟨i + 1, i + 1, done ++ [s.extract f i], by go_num, by go_num, by omega, by omega, by have := HDi.out; simp; omega, fun _ => ⟨fun j h1 h2 => by omega, by rw [← HC.out, HT.out]; simp⟩, fun h => by omega, O1.out, B1.out⟩
          case measure => simp [intOf]; omega
        · have hb32 : (gi (bytesOf s) i == 32) = false := by simpa using h32
          have HA2 : Hid (∀ j, f ≤ j → j < i + 1 → gi (bytesOf s) j ≠ 32) := by
            intro j h1 h2
            by_cases e : j = i
            · rw [e]; exact h32
            · exact HA.out j h1 (by omega)
          clear h32
          go_wp2
          go_roundw
          case rel => exact ⟨i + 1, f, done, by go_num, rfl, by omega, by omega, by have := HDi.out; omega, fun _ => ⟨HA2.out, HC.out⟩, fun h => by omega, HO.out, HB.out⟩
          case measure => simp [intOf]; omega
      · obtain rfl : i = s.size := by omega
        have HT := Lib.hid (tail_last hf HA.out)
        go_wp2_with ((at_builtin; refine OwS.append (w0 := w) (W := wr) w.heap.size rfl (.tmp 22) (.tmp 27) rfl _ done (s.extract f s.size) rfl rfl HO.out HB.out HB.out.size HDL.out ?_; intro v1 w1 o1 b1 g1; have O1 := Lib.hid o1; have B1 := Lib.hid b1; clear o1 b1 g1))
        go_roundw
        case rel => exact ⟨s.size + 1, s.size + 1, done ++ [s.extract f s.size], by go_num, by go_num, by omega, by omega, by have := HDi.out; simp; omega, fun h => by omega, fun _ => by rw [← HC.out, HT.out], O1.out, B1.out⟩
        case measure => simp [intOf]
    · have hie : i = s.size + 1 := by omega
      have hd := H2.out hie
      go_wp2
      go_ret
      exact ⟨_, rfl, hd ▸ HO.out, HB.out⟩
end Go.Proofs.YtplghlokjgjjbaaDoor
