/- The search among the kinds: Parse's closure; slices.IndexFunc over it. -/
import Derived.Test.YtplghlokjgjjbaaDoorL2
namespace Go.Proofs.YtplghlokjgjjbaaDoor
open Go.RowKit Go.Proofs.YtplghlokjgjjbaaDoorW.PrintWords

set_option maxRecDepth 100000 in
set_option maxHeartbeats 2000000 in
theorem isWord_any (wd : ByteArray) (n : Value) (b g : Nat) (A : Option Addr) (c : Nat) (l : List ByteArray) (w : World) (hb : w.cell? ⟨b, 0, none⟩ = some (.pointer (some ⟨g, 0, none⟩))) (hg : w.cell? ⟨g, 0, none⟩ = some (.slice A l.length c)) (h : RdS w A l) (hl : 0 < l.length) :
    Calls Tryd.prog 26 #[.agg #[.string wd, n], .pointer (some ⟨b, 0, none⟩)] w fun e w' => e = .returned (.bool (!wd.toList.isEmpty && wd.toList == (gs l 0).toList)) ∧ Below w.heap.size w w' := by
  obtain ⟨ad, rfl, hc⟩ := h.2 0 hl
  rw [show ad.add 0 = ad from by simp [Addr.add]] at hc
  clear h
  generalize l.length = L at *
  have hl0 : decide (0 < L) = true := by simpa using hl
  generalize gs l 0 = s0 at *
  go_enter Tryd.func26, Tryd.ntmps26
  go_wp2_with (fail)
  refine wp_box1 ?_
  intro W hB hsz hblk
  have c0 := blk_cell hblk 0 rfl
  have d0 := fun p : Gr W => Gr.cell c0 p
  have d1 := fun p : Gr W => Gr.cell (cell_below hB hb) p
  have d2 := fun p : Gr W => Gr.cell (cell_below hB hg) p
  have d3 := fun p : Gr W => Gr.cell (cell_below hB hc) p
  have HB := Lib.hid hB
  clear hB hsz hblk c0 hb hg hc
  have hE : ∃ b, wd.toList.isEmpty = b := ⟨_, rfl⟩
  obtain ⟨be, he⟩ := hE
  cases be
  all_goals
    refine wp_region_gr (by kernel_rfl) (by kernel_rfl) ?_
    repeat (go_big_quiet_step (fail))
    refine wpQuiet_nil ?_
    rintro _ ⟨⟨w1, hb1⟩, rfl⟩
    go_wp2
    go_ret
    exact ⟨ret_bool (by simp [he]), below_thn HB.out hb1⟩

/-- Which kind's word it is (behind the first place). -/
def kindIx (x : ByteArray) : Nat → List (ByteArray × Int) → Int
  | _, [] => -1
  | k, p :: r => if !p.1.toList.isEmpty && p.1.toList == x.toList then k else kindIx x (k + 1) r
def formAt (k : Nat) : ByteArray × Int := formW.getD k (⟨#[]⟩, 0)
theorem form_cell0 (k : Nat) (hk : k < 15) : formsC[k * 2]? = some (.string (formAt k).1) := by
  have : ∀ k, k < 15 → formsC[k * 2]? = some (.string (formAt k).1) := by
    intro k hk
    match k, hk with
    | 0, _ | 1, _ | 2, _ | 3, _ | 4, _ | 5, _ | 6, _ | 7, _ | 8, _ | 9, _ | 10, _ | 11, _ | 12, _ | 13, _ | 14, _ => rfl
  exact this k hk
theorem form_cell1 (k : Nat) (hk : k < 15) : formsC[k * 2 + 1]? = some (.int .i64 (formAt k).2) := by
  match k, hk with
  | 0, _ | 1, _ | 2, _ | 3, _ | 4, _ | 5, _ | 6, _ | 7, _ | 8, _ | 9, _ | 10, _ | 11, _ | 12, _ | 13, _ | 14, _ => rfl
theorem formW_drop (k : Nat) (hk : k < 15) : formW.drop k = formAt k :: formW.drop (k + 1) := by
  rw [List.drop_eq_getElem_cons (by simpa [formW] using hk)]
  simp [formAt, List.getD_eq_getElem?_getD, List.getElem?_eq_getElem (show k < formW.length by simpa [formW] using hk)]

set_option maxRecDepth 100000 in
set_option maxHeartbeats 2000000 in
theorem indexFunc_any (fb b g : Nat) (A : Option Addr) (c : Nat) (l : List ByteArray) (w : World) (hf : w.heap[fb]? = some (.cells formsC 54)) (hb : w.cell? ⟨b, 0, none⟩ = some (.pointer (some ⟨g, 0, none⟩))) (hg : w.cell? ⟨g, 0, none⟩ = some (.slice A l.length c)) (h : RdS w A l) (hl : 0 < l.length) :
    Calls Tryd.prog 25 #[.slice (some ⟨fb, 0, none⟩) 15 15, .func (.func 26) #[] #[.pointer (some ⟨b, 0, none⟩)]] w fun e w' => e = .returned (.int .i64 (kindIx (gs l 0) 0 formW)) ∧ Below w.heap.size w w' := by
  have HF := Lib.hid hf
  have HB := Lib.hid hb
  have HG := Lib.hid hg
  have HR := Lib.hid h
  have HL := Lib.hid hl
  clear hf hb hg h hl
  go_enter Tryd.func25, Tryd.ntmps25
  go_wp2
  go_loopw [8] (fun i wr => ∃ k : Nat, k ≤ 15 ∧ i = .int .i64 k ∧ Hid (Below w.heap.size w wr) ∧ Hid (kindIx (gs l 0) 0 formW = kindIx (gs l 0) k (formW.drop k))) (fun i _ => 15 - (intOf i).toNat)
  case atStart => exact ⟨0, by omega, rfl, Below.refl _ _, rfl⟩
  case round =>
    obtain ⟨k, hk, rfl, HBr, HK⟩ := hrel
    by_cases hlt : k < 15
    · have hk1 := HK.out
      rw [formW_drop k hlt, kindIx] at hk1
      have e0 := blk_cell (blk_below HF.out HBr.out) (k * 2) (form_cell0 k hlt)
      have e1 := blk_cell (blk_below HF.out HBr.out) (k * 2 + 1) (form_cell1 k hlt)
      have hC := isWord_any (formAt k).1 (.int .i64 (formAt k).2) b g A c l wr (cell_below HBr.out HB.out) (cell_below HBr.out HG.out) (HR.out.below HBr.out) HL.out
      have HK1 := Lib.hid hk1
      have HC := Lib.hid hC
      clear hk1 hC
      generalize formAt k = fm at *
      generalize (!fm.1.toList.isEmpty && fm.1.toList == (gs l 0).toList) = bb at *
      cases bb
      · go_wp2_with (fail)
        refine HC.out.mono ?_
        rintro e w1 ⟨rfl, hb1⟩
        have HB1 := Lib.hid (below_thn HBr.out hb1)
        clear hb1 e0 e1
        go_wp2
        go_roundw
        case rel => exact ⟨k + 1, by omega, by go_num, HB1, by have := HK1.out; show _ = _; simpa using this⟩
        case measure => simp [intOf]; omega
      · go_wp2_with (fail)
        refine HC.out.mono ?_
        rintro e w1 ⟨rfl, hb1⟩
        have HB1 := Lib.hid (below_thn HBr.out hb1)
        clear hb1 e0 e1
        go_wp2
        go_ret
        exact ⟨by have := HK1.out; simp at this; rw [this]; rfl, HB1.out⟩
    · have he : k = 15 := by omega
      have hk1 := HK.out
      rw [he, show formW.drop 15 = [] from rfl, kindIx] at hk1
      have HK1 := Lib.hid hk1
      clear hk1 he
      go_wp2
      go_ret
      exact ⟨by rw [HK1.out]; rfl, HBr.out⟩
end Go.Proofs.YtplghlokjgjjbaaDoor
