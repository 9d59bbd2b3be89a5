/- The reference's All. -/
import Derived.Test.YtplghlokjgjjbaaDoorL12
import Derived.Test.YtplghlokjgjjbaaDoorL20
import Derived.Test.YtplghlokjgjjbaaDoorL27
namespace Go.Proofs.YtplghlokjgjjbaaDoor
open Go.RowKit Go.Proofs.YtplghlokjgjjbaaDoorW.PrintWords

theorem ten_not {xs : List Int} (hr : ∀ x ∈ xs, 0 ≤ x ∧ x ≤ 255) (h : (10 : Int) ∉ xs) : (10 : UInt8) ∉ Lib.bytesOf xs := by
  intro hm
  rw [Lib.bytesOf, List.mem_map] at hm
  obtain ⟨x, hx, e⟩ := hm
  obtain ⟨h0, h1⟩ := hr x hx
  apply h
  have e2 := congrArg UInt8.toNat e
  have e3 : x.toNat % 256 = 10 := e2
  have : x = 10 := by omega
  rwa [← this]
theorem allS_cut {xs : List Int} (hr : ∀ x ∈ xs, 0 ≤ x ∧ x ≤ 255) {f i : Nat} (hf : f ≤ i) (hi : i < xs.length) (h : ∀ j, f ≤ j → j < i → gi xs j ≠ 10) (h10 : gi xs i = 10) : allS (xs.drop f) = strOfNums ((xs.drop f).take (i - f)) :: allS (xs.drop (i + 1)) := by
  have e : xs.drop f = (xs.drop f).take (i - f) ++ 10 :: xs.drop (i + 1) := by
    have h1 : (xs.drop f).drop (i - f) = 10 :: xs.drop (i + 1) := by
      rw [List.drop_drop, show f + (i - f) = i by omega, drop_gi hi, h10]
    rw [← h1, List.take_append_drop]
  have hn : (10 : Int) ∉ (xs.drop f).take (i - f) := by
    intro hm
    obtain ⟨k, hk, e⟩ := List.getElem_of_mem hm
    rw [List.length_take, List.length_drop] at hk
    have := h (f + k) (by omega) (by omega)
    rw [gi_get (by omega)] at this
    rw [List.getElem_take, List.getElem_drop] at e
    exact this e
  have hb := ten_not (fun x hx => hr x (List.mem_of_mem_drop (List.mem_of_mem_take hx))) hn
  rw [strOfNums_ofL]
  conv => lhs; rw [e]
  rw [allS, allS, show Lib.bytesOf ((xs.drop f).take (i - f) ++ 10 :: xs.drop (i + 1)) = Lib.bytesOf ((xs.drop f).take (i - f)) ++ 10 :: Lib.bytesOf (xs.drop (i + 1)) from by simp [Lib.bytesOf], linesL_append _ hb]
  rfl
theorem allS_last {xs : List Int} (hr : ∀ x ∈ xs, 0 ≤ x ∧ x ≤ 255) {f : Nat} (hf : f < xs.length) (h : ∀ j, f ≤ j → j < xs.length → gi xs j ≠ 10) : allS (xs.drop f) = [strOfNums (xs.drop f)] := by
  have hn : (10 : Int) ∉ xs.drop f := by
    intro hm
    obtain ⟨k, hk, e⟩ := List.getElem_of_mem hm
    rw [List.length_drop] at hk
    have := h (f + k) (by omega) (by omega)
    rw [gi_get (by omega)] at this
    rw [List.getElem_drop] at e
    exact this e
  have hb := ten_not (fun x hx => hr x (List.mem_of_mem_drop hx)) hn
  rw [strOfNums_ofL, allS, linesL_none hb]
  · rfl
  · intro e
    have := congrArg List.length e
    simp [Lib.bytesOf] at this
    omega
/-- Where the reference's All stands. -/
def AllAt2 (w wr : World) (xs : List Int) (v3 v4 v5 : Value) : Prop :=
  ∃ (i f : Nat) (done : List ByteArray), v5 = .int .i64 i ∧ v4 = .int .i64 f ∧ f ≤ i ∧ i ≤ xs.length ∧ done.length ≤ i ∧ (∀ j, f ≤ j → j < i → gi xs j ≠ 10) ∧ done ++ allS (xs.drop f) = allS xs ∧ OwS wr w.heap.size v3 done ∧ Below w.heap.size w wr
theorem add_add (a : Addr) (f j : Nat) : (a.add f).add j = a.add (f + j) := by
  unfold Addr.add
  split <;> split <;> simp_all <;> omega
theorem conv_part {w : World} {ad : Addr} {xs : List Int} (h : RdB w (some ad) xs) (f n c : Nat) (hf : f + n ≤ xs.length) : (convert 34 9 (.slice (some (ad.add f)) n c)).run Tryd.prog w = .ok (.string (strOfNums ((xs.drop f).take n))) w :=
  string_of_reads und_bytes und_u8 und_str ⟨by rw [List.length_take, List.length_drop]; omega, by have := h.1; omega, fun _ => ⟨_, rfl, fun j hj => by
    obtain ⟨ad', e, hc⟩ := h.2 (f + j) (by omega)
    injection e with e
    subst e
    rw [add_add, hc]
    simp [gi, hj]⟩⟩
set_option maxRecDepth 100000 in
set_option maxHeartbeats 2000000 in
theorem refAll_any (c : Nat) (A : Option Addr) (xs : List Int) (w : World) (h : RdB w A xs) (hr : ∀ x ∈ xs, 0 ≤ x ∧ x ≤ 255) (hl : xs.length ≤ 1099511627776) (hc : xs.length ≤ c) :
    Calls Tryd.prog 20 #[.slice A xs.length c] w fun e w' => ∃ v, e = .returned v ∧ OwS w' w.heap.size v (allS xs) ∧ Below w.heap.size w w' := by
  by_cases hx : xs = []
  · subst hx
    clear h hr hc
    go_enter Tryd.func20, Tryd.ntmps20
    go_wp2
    go_loopw [3, 4, 5] (fun v3 v4 v5 wr => v3 = .slice none 0 0 ∧ v4 = .int .i64 0 ∧ v5 = .int .i64 0 ∧ wr = w) (fun _ _ _ _ => 0)
    case atStart => exact ⟨rfl, rfl, rfl, rfl⟩
    case round =>
      obtain ⟨rfl, rfl, rfl, rfl⟩ := hrel
      go_wp2
      go_ret
      exact ⟨_, rfl, OwS.nil _ _, Below.refl _ _⟩
  have hx0 : 0 < xs.length := by
    rcases Nat.eq_zero_or_pos xs.length with h | h
    · exact absurd (List.eq_nil_of_length_eq_zero h) hx
    · exact h
  obtain ⟨ad, rfl, _⟩ := h.2 0 hx0
  have hrd := h
  have HRd := Lib.hid hrd
  have HX := Lib.hid hr
  clear h hr hx hrd hx0
  go_enter Tryd.func20, Tryd.ntmps20
  go_wp2
  go_loopw [3, 4, 5] (fun v3 v4 v5 wr => AllAt2 w wr xs v3 v4 v5) (fun _ _ i _ => xs.length - (intOf i).toNat)
  case atStart => exact ⟨0, 0, [], rfl, rfl, Nat.le_refl _, by omega, Nat.le_refl _, fun j h1 h2 => by omega, by simp, OwS.nil _ _, Below.refl _ _⟩
  case round =>
    obtain ⟨i, f, done, rfl, rfl, hf, hi, hdl, ha, hd, ho, hb⟩ := hrel
    have HO := Lib.hid ho
    have HB := Lib.hid hb
    have HA := Lib.hid ha
    have HD := Lib.hid hd
    have HDL : Hid (done.length ≤ 1099511627776) := by show _ ≤ _; omega
    have HDi := Lib.hid hdl
    have HRw := Lib.hid (HRd.out.below hb)
    clear ho hb ha hd hdl
    by_cases hlt : i < xs.length
    · obtain ⟨ad', e, c1⟩ := HRw.out.2 i hlt
      injection e with e
      subst e
      by_cases h10 : gi xs i = 10
      · have hb10 : (gi xs i == 10) = true := by simpa using h10
        have HT := Lib.hid (allS_cut HX.out hf hlt HA.out h10)
        have hcv := conv_part HRw.out f (i - f) (c - f) (by omega)
        clear h10
        go_wp2_with ((at_builtin; refine OwS.append (w0 := w) (W := wr) w.heap.size rfl (.tmp 17) (.tmp 23) rfl _ done (strOfNums ((xs.drop f).take (i - f))) rfl rfl HO.out HB.out HB.out.size HDL.out ?_; intro v1 w1 o1 b1 g1; have O1 := Lib.hid o1; have B1 := Lib.hid b1; clear o1 b1 g1))
        go_roundw
        case rel => exact ⟨i + 1, i + 1, done ++ [strOfNums ((xs.drop f).take (i - f))], by go_num, by go_num, by omega, by omega, by have := HDi.out; simp; omega, fun j h1 h2 => by omega, by rw [← HD.out, HT.out]; simp, O1.out, B1.out⟩
        case measure => simp [intOf]; omega
      · have hb10 : (gi xs i == 10) = false := by simpa using h10
        have HA2 : Hid (∀ j, f ≤ j → j < i + 1 → gi xs j ≠ 10) := by
          intro j h1 h2
          by_cases e : j = i
          · rw [e]; exact h10
          · exact HA.out j h1 (by omega)
        clear h10
        go_wp2
        go_roundw
        case rel => exact ⟨i + 1, f, done, by go_num, rfl, by omega, by omega, by have := HDi.out; omega, HA2.out, HD.out, HO.out, HB.out⟩
        case measure => simp [intOf]; omega
    · obtain rfl : i = xs.length := by omega
      by_cases hfl : f < xs.length
      · have HT := Lib.hid (allS_last HX.out hfl HA.out)
        have hcv := conv_part HRw.out f (xs.length - f) (c - f) (by omega)
        rw [List.take_of_length_le (by rw [List.length_drop]; omega)] at hcv
        go_wp2_with ((at_builtin; refine OwS.append (w0 := w) (W := wr) w.heap.size rfl (.tmp 31) (.tmp 36) rfl _ done (strOfNums (xs.drop f)) rfl rfl HO.out HB.out HB.out.size HDL.out ?_; intro v1 w1 o1 b1 g1; have O1 := Lib.hid o1; have B1 := Lib.hid b1; clear o1 b1 g1))
        go_ret
        refine ⟨_, rfl, ?_, B1.out⟩
        rw [← HD.out, HT.out]
        exact O1.out
      · obtain rfl : f = xs.length := by omega
        have hd := HD.out
        rw [List.drop_length, show allS [] = [] from rfl, List.append_nil] at hd
        have HD2 := Lib.hid hd
        clear hd
        go_wp2
        go_ret
        exact ⟨_, rfl, HD2.out ▸ HO.out, HB.out⟩
end Go.Proofs.YtplghlokjgjjbaaDoor
