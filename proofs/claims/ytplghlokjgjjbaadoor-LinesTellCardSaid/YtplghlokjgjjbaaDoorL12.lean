/- Lists of strings held against each other; bytes.Cut at a line's end; lines.All. -/
import Derived.Test.YtplghlokjgjjbaaDoorK3
namespace Go.Proofs.YtplghlokjgjjbaaDoor
open Go.RowKit Go.Proofs.YtplghlokjgjjbaaDoorW.PrintWords

theorem plainSEq_any (a b : ByteArray) (w : World) : Calls Tryd.prog 29 #[.string a, .string b] w fun e w' => e = .returned (.bool (a.toList == b.toList)) ∧ w' = w := by
  go_enter Tryd.func29, Tryd.ntmps29
  go_wp2
  go_ret
  exact ⟨rfl, rfl⟩
theorem toList_eq (a b : ByteArray) : (a.toList == b.toList) = decide (a = b) := by
  rw [Bool.eq_iff_iff]
  simp only [beq_iff_eq, decide_eq_true_eq]
  exact ⟨fun h => by rw [← ofL_data a, ← ofL_data b, ← ByteArray.toList_eq, ← ByteArray.toList_eq, h], fun h => by rw [h]⟩
set_option maxHeartbeats 1000000 in
theorem sameS_any (A B : Option Addr) (c d : Nat) (xs ys : List ByteArray) (w : World) (hx : RdS w A xs) (hy : RdS w B ys) :
    Calls Tryd.prog 28 #[.slice A xs.length c, .slice B ys.length d, .func (.func 29) #[] #[]] w fun e w' => e = .returned (.bool (decide (xs = ys))) ∧ Below w.heap.size w w' := by
  have h1 := hx.1
  have h2 := hy.1
  have HX := Lib.hid hx
  have HY := Lib.hid hy
  clear hx hy
  by_cases hl : xs.length = ys.length
  · have hle : ((xs.length : Int) != (ys.length : Int)) = false := by simp [hl]
    have HL := Lib.hid hl
    clear hl
    go_enter Tryd.func28, Tryd.ntmps28
    go_wp2
    go_loopw [7] (fun i wr => ∃ k : Nat, k ≤ xs.length ∧ i = .int .i64 k ∧ Hid (∀ j, j < k → gs xs j = gs ys j) ∧ Hid (Below w.heap.size w wr)) (fun i _ => xs.length - (intOf i).toNat)
    case atStart => exact ⟨0, Nat.zero_le _, rfl, (fun j hj => by omega), Below.refl _ _⟩
    case round =>
      obtain ⟨k, hk, rfl, HK, HBr⟩ := hrel
      by_cases hlt : k < xs.length
      · obtain ⟨ad, rfl, c1⟩ := (HX.out.below HBr.out).2 k hlt
        obtain ⟨ad', rfl, c2⟩ := (HY.out.below HBr.out).2 k (by rw [← HL.out]; exact hlt)
        have e7 : (k : Int) < (xs.length : Int) := by omega
        have e8 : (k : Int) < (ys.length : Int) := by rw [← HL.out]; omega
        by_cases hq : gs xs k = gs ys k
        · have hq' : ((gs xs k).toList == (gs ys k).toList) = true := by simp [hq]
          have HQ := Lib.hid hq
          clear hq
          go_wp2
          go_quiet ((go_at_call 29; exact Calls.quiet_of_same (plainSEq_any _ _ _)))
          go_wp2
          go_roundw
          case rel => exact ⟨k + 1, hlt, by go_num, (fun j hj => by by_cases e : j = k; · rw [e]; exact HQ.out
                                                                    · exact HK.out j (by omega)), below_drewN HBr.out _⟩
          case measure => simp [intOf]; omega
        · have hq' : ((gs xs k).toList == (gs ys k).toList) = false := by rw [toList_eq]; simpa using hq
          have HQ := Lib.hid hq
          clear hq
          go_wp2
          go_quiet ((go_at_call 29; exact Calls.quiet_of_same (plainSEq_any _ _ _)))
          go_wp2
          go_ret
          exact ⟨ret_bool (by rw [decide_eq_false (fun e => HQ.out (by rw [e]))]), below_drewN HBr.out _⟩
      · go_wp2
        go_ret
        refine ⟨ret_bool (by rw [decide_eq_true]; refine List.ext_getElem HL.out fun j hj hj' => ?_; have := HK.out j (by omega); rwa [gs_get hj, gs_get hj'] at this), HBr.out⟩
  · have hle : ((xs.length : Int) != (ys.length : Int)) = true := by simp; omega
    have HL := Lib.hid hl
    clear hl
    go_enter Tryd.func28, Tryd.ntmps28
    go_wp2
    go_ret
    exact ⟨ret_bool (by rw [decide_eq_false (fun e => HL.out (by rw [e]))]), Below.refl _ _⟩
set_option maxHeartbeats 400000 in
theorem plainS_any (A B : Option Addr) (c d : Nat) (xs ys : List ByteArray) (w : World) (hx : RdS w A xs) (hy : RdS w B ys) :
    Calls Tryd.prog 12 #[.slice A xs.length c, .slice B ys.length d] w fun e w' => e = .returned (.bool (decide (xs = ys))) ∧ Below w.heap.size w w' := by
  have HX := Lib.hid hx
  have HY := Lib.hid hy
  clear hx hy
  go_enter Tryd.func12, Tryd.ntmps12
  go_wp2_with (fail)
  refine (sameS_any A B c d xs ys _ HX.out HY.out).mono ?_
  rintro e w1 ⟨rfl, hb1⟩
  go_wp2
  go_ret
  exact ⟨rfl, hb1⟩

/-! ### bytes.Cut -/
/-- Bytes that are read, from a place on. -/
def RdU (w : World) (b o : Nat) (xs : List Int) : Prop := xs.length ≤ 4611686018427387904 ∧ ∀ j, j < xs.length → w.cell? ⟨b, o + j, none⟩ = some (.int .u8 (gi xs j))
theorem RdU.below {w w1 : World} {b o : Nat} {xs : List Int} (h : RdU w b o xs) (hb : Below w.heap.size w w1) : RdU w1 b o xs := ⟨h.1, fun j hj => cell_below hb (h.2 j hj)⟩
theorem RdU.drop {w : World} {b o : Nat} {xs : List Int} (h : RdU w b o xs) (k : Nat) : RdU w b (o + k) (xs.drop k) :=
  ⟨by have := h.1; rw [List.length_drop]; omega, fun j hj => by
    rw [List.length_drop] at hj
    rw [Nat.add_assoc, h.2 (k + j) (by omega)]
    simp [gi]⟩
theorem RdU.lt {w : World} {b o : Nat} {xs : List Int} (h : RdU w b o xs) (hx : xs ≠ []) : b < w.heap.size := by
  have h0 : 0 < xs.length := by
    rcases Nat.eq_zero_or_pos xs.length with h | h
    · exact absurd (List.eq_nil_of_length_eq_zero h) hx
    · exact h
  exact World.block_lt_of_cell? w _ (h.2 0 h0)
theorem RdU.grown {w w1 : World} {b o : Nat} {xs : List Int} (h : RdU w b o xs) {row : Option Nat} (hg : w.grownBy w1 row) (hne : some b ≠ row) : RdU w1 b o xs :=
  ⟨h.1, fun j hj => hg.cell (h.2 j hj) hne⟩
theorem RdU.reads {w : World} {b o : Nat} {xs : List Int} (h : RdU w b o xs) : ReadsInt w .u8 (some ⟨b, o, none⟩) xs.length xs :=
  ⟨rfl, by have := h.1; omega, fun _ => ⟨_, rfl, fun j hj => by
    have := h.2 j hj
    rwa [show (⟨b, o + j, none⟩ : Addr) = (⟨b, o, none⟩ : Addr).add j from by unfold Addr.add; split <;> simp_all] at this⟩⟩
theorem RdU.conv {w : World} {b o : Nat} {xs : List Int} (h : RdU w b o xs) (c : Nat) : (convert 34 9 (.slice (some ⟨b, o, none⟩) xs.length c)).run Tryd.prog w = .ok (.string (strOfNums xs)) w :=
  string_of_reads und_bytes und_u8 und_str h.reads
theorem RdU.take {w : World} {b o : Nat} {xs : List Int} (h : RdU w b o xs) (k : Nat) : RdU w b o (xs.take k) :=
  ⟨by have := h.1; rw [List.length_take]; omega, fun j hj => by
    rw [List.length_take] at hj
    rw [h.2 j (by omega)]
    have hjk : j < k := by omega
    simp [gi, hjk]⟩
/-- Where the first byte 10 is; -1: nowhere. -/
def nlI (xs : List Int) : Int := Lib.indexByte (Lib.bytesOf xs) 10
set_option maxHeartbeats 1000000 in
theorem cut_none (b o c : Nat) (xs : List Int) (b2 o2 d : Nat) (w : World) (h : RdU w b o xs) (h2 : w.cell? ⟨b2, o2, none⟩ = some (.int .u8 10)) (hi : nlI xs = -1) :
    Calls Tryd.prog 30 #[.slice (some ⟨b, o, none⟩) xs.length c, .slice (some ⟨b2, o2, none⟩) 1 d] w fun e w' => e = .returned (.tuple #[.slice (some ⟨b, o, none⟩) xs.length c, .slice none 0 0, .bool false]) ∧ w = w' := by
  have hC := Tryd.bytes_Index_one b o xs.length c b2 o2 d xs 10 w rfl h.2 h2
  rw [show Lib.indexByte (Lib.bytesOf xs) (10 : Int).toNat.toUInt8 = -1 from hi] at hC
  have HC := Lib.hid hC
  clear hC hi h h2
  go_enter Tryd.func30, Tryd.ntmps30
  go_wp2_with (fail)
  refine HC.out.mono ?_
  rintro e w1 ⟨rfl, rfl⟩
  go_wp2
  go_ret3
  exact ⟨rfl, rfl⟩
set_option maxHeartbeats 1000000 in
theorem cut_some (b o c : Nat) (xs : List Int) (b2 o2 d : Nat) (w : World) (h : RdU w b o xs) (h2 : w.cell? ⟨b2, o2, none⟩ = some (.int .u8 10)) (i : Nat) (hi : nlI xs = i) (hin : i < xs.length) (hc : xs.length ≤ c) :
    Calls Tryd.prog 30 #[.slice (some ⟨b, o, none⟩) xs.length c, .slice (some ⟨b2, o2, none⟩) 1 d] w fun e w' => ∃ o', (o' = o + (i + 1) ∨ xs.length = i + 1) ∧ e = .returned (.tuple #[.slice (some ⟨b, o, none⟩) i c, .slice (some ⟨b, o', none⟩) (xs.length - (i + 1)) (c - (i + 1)), .bool true]) ∧ Below w.heap.size w w' := by
  have hC := Tryd.bytes_Index_one b o xs.length c b2 o2 d xs 10 w rfl h.2 h2
  rw [show Lib.indexByte (Lib.bytesOf xs) (10 : Int).toNat.toUInt8 = i from hi] at hC
  have HC := Lib.hid hC
  have hl := h.1
  clear hC hi h h2
  generalize xs.length = n at *
  by_cases hci : c = i + 1
  · obtain rfl : n = i + 1 := by omega
    subst hci
    go_enter Tryd.func30, Tryd.ntmps30
    go_wp2_with (fail)
    refine HC.out.mono ?_
    rintro e w1 ⟨rfl, rfl⟩
    clear HC
    go_wp2
    go_quiet (fail)
    go_wp2
    go_ret3
    refine ⟨o, .inr trivial, ?_, below_drewN (Below.refl _ _) _⟩
    rw [Nat.sub_self]
    rfl
  · go_enter Tryd.func30, Tryd.ntmps30
    go_wp2_with (fail)
    refine HC.out.mono ?_
    rintro e w1 ⟨rfl, rfl⟩
    clear HC
    go_wp2
    go_quiet (fail)
    go_wp2
    go_ret3
    exact ⟨o + (i + 1), .inl rfl, rfl, below_drewN (Below.refl _ _) _⟩

/-- What is left to cut, and what was cut. -/
def Cutting (w wr : World) (b : Nat) (xs : List Int) (v0 v3 : Value) : Prop :=
  ∃ (ys : List Int) (done : List ByteArray) (A : Option Addr) (c : Nat), v0 = .slice A ys.length c ∧ ys.length ≤ c ∧ ys.length ≤ xs.length ∧ (ys ≠ [] → b < w.heap.size ∧ ∃ o, A = some ⟨b, o, none⟩ ∧ RdU wr b o ys) ∧ OwS wr w.heap.size v3 done ∧ done ++ allS ys = allS xs ∧ Below w.heap.size w wr
set_option maxRecDepth 100000 in
set_option maxHeartbeats 2000000 in
theorem all_any (b o c : Nat) (A : Option Addr) (xs : List Int) (w : World) (h : xs ≠ [] → A = some ⟨b, o, none⟩ ∧ RdU w b o xs) (hl : xs.length ≤ 1099511627776) (hc : xs.length ≤ c) :
    Calls Tryd.prog 13 #[.slice A xs.length c] w fun e w' => ∃ v, e = .returned v ∧ OwS w' w.heap.size v (allS xs) ∧ Below w.heap.size w w' := by
  have HH := Lib.hid h
  clear h
  go_enter Tryd.func13, Tryd.ntmps13
  go_wp2
  go_loopw [0, 3] (fun v0 v3 wr => Cutting w wr b xs v0 v3) (fun v0 _ _ => lenV v0)
  case atStart => exact ⟨xs, [], A, c, rfl, hc, Nat.le_refl _, (fun hx => ⟨(HH.out hx).2.lt hx, o, HH.out hx⟩), OwS.nil _ _, rfl, Below.refl _ _⟩
  case round =>
    obtain ⟨ys, done, A', c', rfl, hyc, hyx, hr, ho, hd, hb⟩ := hrel
    have HO := Lib.hid ho
    have HD := Lib.hid hd
    have HB := Lib.hid hb
    have HR := Lib.hid hr
    clear ho hd hb hr HH
    have hdl : done.length ≤ 1099511627776 := by
      have h1 := congrArg List.length HD.out
      have h2 := allS_length xs
      rw [List.length_append] at h1
      omega
    by_cases hy : ys = []
    · subst hy
      go_wp2
      go_ret
      refine ⟨_, rfl, ?_, HB.out⟩
      have := HD.out
      rw [show allS [] = [] from rfl, List.append_nil] at this
      rw [← this]
      exact HO.out
    · have hy0 : 0 < ys.length := by
        rcases Nat.eq_zero_or_pos ys.length with h | h
        · exact absurd (List.eq_nil_of_length_eq_zero h) hy
        · exact h
      obtain ⟨hbw, o', rfl, hrd⟩ := HR.out hy
      have HBlt := Lib.hid hbw
      clear hbw
      have HY := Lib.hid hy
      have HRd := Lib.hid hrd
      clear hy hrd HR
      go_wp2_with (fail)
      refine calls_box1 ?_
      intro W hW hsz hnew
      have hn := blk_cell hnew 0 rfl
      have hrw := HRd.out.below hW
      have HOW := Lib.hid (HO.out.below hW)
      have HBW := Lib.hid (below_thn HB.out hW)
      generalize wr.heap.size = g at *
      clear hW hsz hnew HO HB
      rcases (show nlI ys = -1 ∨ ∃ i : Nat, nlI ys = i by
        have := Lib.indexByte_ge (Lib.bytesOf ys) 10
        rcases Int.lt_or_le (nlI ys) 0 with h | h
        · left; unfold nlI at *; omega
        · exact .inr ⟨(nlI ys).toNat, by omega⟩) with hi | ⟨i, hi⟩
      · refine (cut_none b o' c' ys g 0 1 W hrw hn hi).mono ?_
        rintro e w2 ⟨rfl, rfl⟩
        have hs := allS_none hi HY.out
        have hcv := hrw.conv c'
        have HS := Lib.hid hs
        clear hs hrw hn hi HRd HY
        go_wp2_with ((at_builtin; refine OwS.append (w0 := w) (W := W) w.heap.size rfl (.tmp 17) (.tmp 20) rfl _ done (strOfNums ys) rfl rfl HOW.out HBW.out HBW.out.size hdl ?_; intro v1 w1 o1 b1 g1; have O1 := Lib.hid o1; have B1 := Lib.hid b1; clear o1 b1 g1))
        go_roundw
        case rel => exact ⟨[], _, none, 0, rfl, Nat.le_refl _, Nat.zero_le _, (fun h => absurd rfl h), O1.out, by rw [← HD.out, HS.out]; simp [allS, linesL, Lib.bytesOf], B1.out⟩
        case measure => simp [lenV]; omega
      · obtain ⟨hil, hs⟩ := allS_some hi
        refine (cut_some b o' c' ys g 0 1 W hrw hn i hi hil hyc).mono ?_
        rintro e w2 ⟨o2, ho2, rfl, hb2⟩
        have hlt : (ys.take i).length = i := by rw [List.length_take]; omega
        have hcv := ((hrw.below hb2).take i).conv c'
        rw [hlt] at hcv
        have HRn := Lib.hid ((hrw.below hb2).drop (i + 1))
        have HO2 := Lib.hid (ho2)
        have HS := Lib.hid hs
        have HOW2 := Lib.hid (HOW.out.below hb2)
        have HBW2 := Lib.hid (below_thn HBW.out hb2)
        have HLD := Lib.hid (show ys.length - (i + 1) = (ys.drop (i + 1)).length by rw [List.length_drop])
        clear hs hrw hn hi HRd HY ho2 hb2 HOW HBW hlt
        go_wp2_with ((at_builtin; refine OwS.append (w0 := w) (W := w2) w.heap.size rfl (.tmp 17) (.tmp 20) rfl _ done (strOfNums (ys.take i)) rfl rfl HOW2.out HBW2.out HBW2.out.size hdl ?_; intro v1 w3 o1 b1 g1; have O1 := Lib.hid o1; have B1 := Lib.hid b1; have G1 := Lib.hid g1; clear o1 b1 g1))
        go_roundw
        case rel =>
          refine ⟨ys.drop (i + 1), _, _, c' - (i + 1), (by rw [HLD.out]), by rw [List.length_drop]; omega, by rw [List.length_drop]; omega, (fun h => ⟨HBlt.out, o' + (i + 1), ?_, ?_⟩), O1.out, by rw [← HD.out, HS.out]; simp, B1.out⟩
          · rcases HO2.out with e | e
            · rw [e]
            · exact absurd (List.drop_eq_nil_of_le (by omega)) h
          · exact HRn.out.grown G1.out (fun e => by have := own_base HOW2.out b e.symm; have := HBlt.out; omega)
        case measure => simp [lenV]; omega
end Go.Proofs.YtplghlokjgjjbaaDoor
