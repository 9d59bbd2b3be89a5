/- lines.Parse: the command that a line is. -/
import Derived.Test.YtplghlokjgjjbaaDoorL3
import Derived.Test.YtplghlokjgjjbaaDoorShelf
import Derived.Lib.SplitLaws
namespace Go.Proofs.YtplghlokjgjjbaaDoor
open Go.RowKit Go.Proofs.YtplghlokjgjjbaaDoorW.PrintWords

def blank : ByteArray := ⟨#[32]⟩
def splitW (s : ByteArray) : List ByteArray := Lib.splitB blank 0 (Lib.countB s blank) s
theorem splitW_length (s : ByteArray) : (splitW s).length = Lib.countB s blank + 1 := Lib.splitB_all blank (by decide) 0 _ s rfl
/-- All of the words as numbers. -/
def numsS : List ByteArray → Option (List Int)
  | [] => some []
  | x :: r => match numS x with
    | none => none
    | some v => match numsS r with
      | none => none
      | some l => some (v :: l)
/-- A command: its kind, its two numbers, its list. -/
abbrev Cmd := Int × Int × Int × List Int
def zeroC : Cmd := (0, 0, 0, [])
def finishK (q : Nat) (n : Int) (xs : List Int) : Option Cmd :=
  if n < 0 then some ((q : Int), 0, 0, xs)
  else if q = 6 ∧ gi (xs ++ [0, 0]) 0 ≠ 1 ∧ gi (xs ++ [0, 0]) 0 ≠ 2 then none
  else some ((q : Int), gi (xs ++ [0, 0]) 0, gi (xs ++ [0, 0]) 1, [])
def bodyK (q : Nat) (n : Int) : Option (List Int) → Option Cmd
  | none => none
  | some xs => finishK q n xs
def parseN (q : Nat) (n : Int) (l : List ByteArray) : Option Cmd := if 0 ≤ n ∧ (l.length : Int) ≠ n + 1 then none else bodyK q n (numsS (l.drop 1))
def parseK (q : Nat) (l : List ByteArray) : Option Cmd := parseN q (formAt q).2 l
def wrapC : Option Cmd → Cmd × Int
  | none => (zeroC, 15)
  | some c => (c, 0)
def parseL (l : List ByteArray) : Option Cmd := if kindIx (gs l 0) 0 formW < 0 then none else parseK (kindIx (gs l 0) 0 formW).toNat l
def parseS (s : ByteArray) : Cmd × Int :=
  if 65536 < s.size then (zeroC, 8) else wrapC (parseL (splitW s))
/-- What a call that hands back a command and why there is none has done. -/
def CmdPost (w : World) (r : Cmd × Int) (e : Ending) (w' : World) : Prop :=
  ∃ v, e = .returned (.tuple #[.agg #[.int .i64 r.1.1, .int .i64 r.1.2.1, .int .i64 r.1.2.2.1, v], .int .i64 r.2]) ∧ OwI w' w.heap.size v r.1.2.2.2 ∧ Below w.heap.size w w'
theorem kindIx_cases (x : ByteArray) : ∀ (l : List (ByteArray × Int)) (k : Nat), kindIx x k l = -1 ∨ ∃ q : Nat, q < k + l.length ∧ kindIx x k l = q
  | [], k => .inl rfl
  | p :: r, k => by
    rw [kindIx]
    split
    · exact .inr ⟨k, by simp, rfl⟩
    · rcases kindIx_cases x r (k + 1) with h | ⟨q, h1, h2⟩
      · exact .inl h
      · exact .inr ⟨q, by simp only [List.length_cons]; omega, h2⟩
def zeroCs : Array Value := #[.int .i64 0, .int .i64 0, .int .i64 0, .slice none 0 0]
theorem zeroCs_one : zeroCs.all (·.oneCell') = true := by kernel_rfl
theorem cmd_one (a b c : Int) (A : Option Addr) (n k : Nat) : (#[.int .i64 a, .int .i64 b, .int .i64 c, .slice A n k] : Array Value).all (·.oneCell') = true := by simp [Value.oneCell']
theorem cmd_info (c : Array Value) (h : c.size = 4) : (Tryd.prog.info? 26).map (·.size) = some c.size := by rw [h]; kernel_rfl
theorem cmd_und : ∃ fs, Tryd.prog.underlying 26 = some (.struct fs) := ⟨_, Tryd.underlying26⟩
theorem cmd_load {w : World} {g : Nat} {c : Array Value} (hg : w.heap[g]? = some (.cells c 26 (0, 0))) (h : c.size = 4) : (loadVar 26 ⟨g, 0, none⟩).run Tryd.prog w = .ok (.agg c) w := by
  obtain ⟨fs, hu⟩ := cmd_und
  exact run_loadVar_row w g 26 26 c (0, 0) _ hg hu rfl (cmd_info c h)

theorem form_n (q : Nat) (hq : q < 15) : -1 ≤ (formAt q).2 ∧ (formAt q).2 ≤ 2 := by
  match q, hq with
  | 0, _ | 1, _ | 2, _ | 3, _ | 4, _ | 5, _ | 6, _ | 7, _ | 8, _ | 9, _ | 10, _ | 11, _ | 12, _ | 13, _ | 14, _ => decide
theorem numsS_drop {l : List ByteArray} {k : Nat} (hk : k < l.length) : numsS (l.drop k) = match numS (gs l k) with
    | none => none
    | some v => match numsS (l.drop (k + 1)) with
      | none => none
      | some r => some (v :: r) := by
  rw [List.drop_eq_getElem_cons hk, numsS, gs_get hk]

theorem OwI.lt {w : World} {base : Nat} {v : Value} {xs : List Int} (h : OwI w base v xs) : ∀ b, v.ownBlock = some b → b < w.heap.size := by
  intro b hb
  rcases h.2 with ⟨h1, _⟩ | ⟨g, cap, cur, h1, _, h3, _⟩
  · rw [h1] at hb; cases hb
  · rw [h1] at hb
    simp only [Value.ownBlock, Option.some.injEq] at hb
    subst hb
    exact blk_lt h3
theorem OwI.not {w : World} {base : Nat} {v : Value} {xs : List Int} (h : OwI w base v xs) {g : Nat} (hg : w.heap.size ≤ g) : v.ownBlock = none ∨ v.ownBlock ≠ some g := .inr fun e => by have := h.lt _ e; omega
theorem OwI.ge {w : World} {base : Nat} {v : Value} {xs : List Int} (h : OwI w base v xs) {g : Nat} (hg : g < base) : v.ownBlock = none ∨ v.ownBlock ≠ some g := by
  rcases h.2 with ⟨h1, _⟩ | ⟨g', cap, cur, h1, h2, h3, _⟩
  · exact .inl (by rw [h1]; rfl)
  · refine .inr fun e => ?_
    rw [h1] at e
    simp only [Value.ownBlock, Option.some.injEq] at e
    omega
theorem OwI.mono {w : World} {base base' : Nat} {v : Value} {xs : List Int} (h : OwI w base v xs) (hb : base' ≤ base) : OwI w base' v xs := by
  refine ⟨h.1, ?_⟩
  rcases h.2 with h1 | ⟨g', cap, cur, h1, h2, h3⟩
  · exact .inl h1
  · exact .inr ⟨g', cap, cur, h1, Nat.le_trans hb h2, h3⟩
theorem set_blk {w : World} {g : Nat} {t : TypeId} {cs : Array Value} (h : w.heap[g]? = some (.cells cs t (0, 0))) (i : Nat) (u : Value) : (w.setCell ⟨g, i, none⟩ u).heap[g]? = some (.cells (cs.setIfInBounds i u) t (0, 0)) ∧ w.grownBy (w.setCell ⟨g, i, none⟩ u) (some g) := by
  rw [setCell_eq_setRow w g i cs t (0, 0) u h]
  exact ⟨setRow_heap w g cs _ t _ h, rfl, rfl, rfl, by simp, fun k _ hk => setRow_other w g k _ (fun e => hk (by rw [e]))⟩

set_option maxRecDepth 100000 in
set_option maxHeartbeats 2000000 in
theorem parse_any (s : ByteArray) (m : Int) (w : World) (hm : w.cell? ⟨0, 0, none⟩ = some (.int .i64 m)) (hs : s.size ≤ 4611686018427387904) : Calls Tryd.prog 9 #[.string s] w (CmdPost w (parseS s)) := by
  by_cases hlong : 65536 < s.size
  · have hp : parseS s = (zeroC, 8) := by rw [parseS, if_pos hlong]
    rw [hp]
    go_enter Tryd.func9, Tryd.ntmps9
    go_wp2
    refine bodyPost_ret (v := .tuple #[.agg zeroCs, .int .i64 8]) ?_ rfl ⟨.slice none 0 0, rfl, own_nil _ _ _ _, below_alloc (Below.refl _ _) _⟩
    exact results_cell_tmp rfl rfl rfl (cmd_load (heap_alloc_new w _) rfl)
  have hm1 := cell_below (below_alloc (Below.refl _ w) (.cells zeroCs 26)) hm
  have hL := splitW_length s
  have hS := Tryd.strings_Split s blank m (w.alloc (.cells zeroCs 26)) (by omega) hm1 (by decide)
  have hp : parseS s = wrapC (parseL (splitW s)) := by rw [parseS, if_neg hlong]
  generalize parseS s = r at *
  have HPS := Lib.hid hp
  rw [← hL, show Lib.splitB blank 0 (Lib.countB s blank) s = splitW s from rfl] at hS
  have HS := Lib.hid hS
  have HP := Lib.hid (show 0 < (splitW s).length by omega)
  have hll : (splitW s).length ≤ 65537 := by have := Lib.countB_le blank (by decide) _ s (Nat.le_refl _); omega
  clear hS hp hL hm hm1
  generalize splitW s = l at *
  go_enter Tryd.func9, Tryd.ntmps9
  go_wp2_with (fail)
  refine HS.out.mono ?_
  rintro e w' ⟨rfl, rfl⟩
  clear HS
  go_wp2_with (fail)
  refine calls_box4 ?_
  intro W hb hsz h1 h2 h3 h4
  have HR := Lib.hid (RdS.lit (w := W) l (by omega) h2 rfl)
  have g3 := blk_cell h3 0 rfl
  have g4 := blk_cell h4 0 rfl
  have H1 := Lib.hid h1
  have G3 := Lib.hid g3
  have G4 := Lib.hid g4
  have HB := Lib.hid hb
  clear hb h1 h2 h3 h4 g3 g4
  refine (forms_any W).mono ?_
  rintro e w1 ⟨rfl, hb1⟩
  go_wp2_with (refine step_store_new w1 rfl rfl 54 (.tmp 5) (.tmp 21) rfl _ formsC rfl rfl formsC_info rfl formsC_one ?_)
  refine calls_box1 ?_
  intro W2 hb2 hsz2 h5
  have HR2 := Lib.hid (HR.out.below (below_thn hb1 hb2))
  have H12 := Lib.hid (blk_below H1.out (below_thn hb1 hb2))
  have G32 := Lib.hid (cell_below (below_thn hb1 hb2) G3.out)
  have G42 := Lib.hid (cell_below (below_thn hb1 hb2) G4.out)
  have HB2 := Lib.hid (below_thn HB.out (below_thn hb1 hb2))
  have H5 := Lib.hid h5
  have hfb : w.heap.size + 4 ≤ w1.heap.size := by have := hb1.size; omega
  clear hb1 hb2 hsz hsz2 h5 HR H1 G3 G4 HB
  generalize w1.heap.size = fb at *
  refine (indexFunc_any fb _ _ _ _ l W2 H5.out G42.out G32.out HR2.out HP.out).mono ?_
  rintro e w3 ⟨rfl, hb3⟩
  have HR3 := Lib.hid (HR2.out.below hb3)
  have H13 := Lib.hid (blk_below H12.out hb3)
  have G33 := Lib.hid (cell_below hb3 G32.out)
  have G43 := Lib.hid (cell_below hb3 G42.out)
  have HB3 := Lib.hid (below_thn HB2.out hb3)
  have H53 := Lib.hid (blk_below H5.out hb3)
  clear hb3 HR2 H12 G32 G42 HB2 H5
  rcases kindIx_cases (gs l 0) formW 0 with hk | ⟨q, hq, hk⟩
  · have HX : Hid (r = (zeroC, 15)) := by show _ = _; rw [HPS.out, parseL, hk]; rfl
    rw [hk]
    clear hk HPS
    go_wp2_with (fail)
    refine wp_region_gr (by kernel_rfl) (by kernel_rfl) ?_
    repeat (go_big_quiet_step (fail))
    refine wpQuiet_nil ?_
    rintro w4 ⟨⟨_, hb4⟩, rfl⟩
    have HB4 := Lib.hid (below_thn HB3.out hb4)
    have H14 := Lib.hid (blk_below H13.out hb4)
    clear hb4
    go_wp2_with (refine step_store_blk w.heap.size rfl rfl 26 (.tmp 2) (.tmp 47) rfl zeroCs zeroCs rfl rfl H14.out (cmd_info _ rfl) rfl zeroCs_one ?_; intro w5 h5 hg5; have H15 := Lib.hid h5; have HG5 := Lib.hid hg5; clear h5 hg5)
    refine bodyPost_ret (v := .tuple #[.agg zeroCs, .int .i64 15]) (results_cell_tmp rfl rfl rfl (cmd_load H15.out rfl)) rfl ?_
    rw [HX.out]
    exact ⟨.slice none 0 0, rfl, own_nil _ _ _ _, HB4.out.grown HG5.out HB4.out.size (fun k hk => by injection hk with hk; omega)⟩
  · rw [Nat.zero_add] at hq
    have hq15 : q < 15 := hq
    have e1 := blk_cell H53.out (q * 2 + 1) (form_cell1 q hq15)
    have hpk : Hid (r = wrapC (parseN q (formAt q).2 l)) := by
      show _ = _
      rw [HPS.out, parseL, hk, if_neg (by omega), Int.toNat_natCast, parseK]
    rw [hk]
    have d1 := fun p : Gr w3 => Gr.cell e1 p
    have d3 := fun p : Gr w3 => Gr.cell G33.out p
    have d4 := fun p : Gr w3 => Gr.cell G43.out p
    have hn := form_n q hq15
    have hq0 : decide ((q : Int) < 0) = false := by simp
    have HF1 := Lib.hid (form_cell1 q hq15)
    obtain ⟨hn1, hn2⟩ := hn
    clear hk HPS hq e1
    generalize (formAt q).2 = n at *
    go_wp2_with (fail)
    by_cases hbad : 0 ≤ n ∧ (l.length : Int) ≠ n + 1
    · have HX : Hid (r = (zeroC, 15)) := by show _ = _; rw [hpk.out, parseN, if_pos hbad]; rfl
      obtain ⟨hb1, hb2⟩ := hbad
      have hb2' : ((l.length : Int) == n + 1) = false := by simpa using hb2
      have hb1' : decide (0 ≤ n) = true := by simpa using hb1
      clear hb2
      refine wp_region_gr (by kernel_rfl) (by kernel_rfl) ?_
      repeat (go_big_quiet_step (fail))
      refine wpQuiet_nil ?_
      rintro w4 ⟨⟨_, hb4⟩, rfl⟩
      have HB4 := Lib.hid (below_thn HB3.out hb4)
      have H14 := Lib.hid (blk_below H13.out hb4)
      have HR4 := Lib.hid (HR3.out.below hb4)
      have G34 := Lib.hid (cell_below hb4 G33.out)
      have G44 := Lib.hid (cell_below hb4 G43.out)
      have H54 := Lib.hid (blk_below H53.out hb4)
      clear hb4 d1 d3 d4
      go_wp2_with (refine step_store_blk w.heap.size rfl rfl 26 (.tmp 2) (.tmp 47) rfl zeroCs zeroCs rfl rfl H14.out (cmd_info _ rfl) rfl zeroCs_one ?_; intro w5 h5 hg5; have H15 := Lib.hid h5; have HG5 := Lib.hid hg5; clear h5 hg5)
      refine bodyPost_ret (v := .tuple #[.agg zeroCs, .int .i64 15]) (results_cell_tmp rfl rfl rfl (cmd_load H15.out rfl)) rfl ?_
      rw [HX.out]
      exact ⟨.slice none 0 0, rfl, own_nil _ _ _ _, HB4.out.grown HG5.out HB4.out.size (fun k hk => by injection hk with hk; omega)⟩
    · have hpk2 : Hid (r = wrapC (bodyK q n (numsS (l.drop 1)))) := by show _ = _; rw [hpk.out, parseN, if_neg hbad]
      have hdo : (0 ≤ n ∧ ((l.length : Int) == n + 1) = true) ∨ n < 0 := by
        by_cases h0 : 0 ≤ n
        · exact .inl ⟨h0, by simpa using (fun e => hbad ⟨h0, e⟩)⟩
        · exact .inr (by omega)
      clear hbad hpk
      have hq15i : (q : Int) < 15 := by omega
      rcases hdo with ⟨h0, h0e⟩ | h0
      case' inl =>
        have h0d : decide (0 ≤ n) = true := by simpa using h0
        have h0f : ((l.length : Int) != n + 1) = false := by rw [bne, h0e]; rfl
        clear h0e
      case' inr => have h0d : decide (0 ≤ n) = false := by simpa using h0
      all_goals
        refine wp_region_gr (by kernel_rfl) (by kernel_rfl) ?_
        repeat (go_big_quiet_step (fail))
        refine wpQuiet_nil ?_
        rintro w4 ⟨⟨_, hb4⟩, rfl⟩
        have HB4 := Lib.hid (below_thn HB3.out hb4)
        have H14 := Lib.hid (blk_below H13.out hb4)
        have HR4 := Lib.hid (HR3.out.below hb4)
        have g34 := cell_below hb4 G33.out
        have g44 := cell_below hb4 G43.out
        have H54 := Lib.hid (blk_below H53.out hb4)
        have G34 := Lib.hid g34
        have G44 := Lib.hid g44
        clear hb4 d1 d3 d4 G33 G43 H13 HR3 HB3 H53
        go_wp2
        have HRG := Lib.hid (Below.refl w4.heap.size w4)
        clear g34 g44
        go_loopw [8, 9] (fun v at_ wr => ∃ (k : Nat) (xs : List Int), 1 ≤ k ∧ k ≤ l.length ∧ at_ = .int .i64 k ∧ Hid (OwI wr w4.heap.size v xs) ∧ Hid (xs.length + 1 = k) ∧ Hid (Below w4.heap.size w4 wr) ∧ Hid (numsS (l.drop 1) = (numsS (l.drop k)).map (xs ++ ·))) (fun _ i _ => l.length - (intOf i).toNat)
        case atStart => exact ⟨1, [], by omega, HP.out, by simp, own_nil _ _ _ _, rfl, HRG.out, (by show _ = _; simp)⟩
        case round =>
          obtain ⟨k, xs, hk1, hkl, rfl, HO, HXL, HBr, HN⟩ := hrel
          have g34 := cell_below HBr.out G34.out
          have g44 := cell_below HBr.out G44.out
          clear HRG
          by_cases hlt : k < l.length
          · have hC := number_any (w.heap.size + 1 + 1) _ _ l k wr g34 (HR4.out.below HBr.out) hlt
            have hN := HN.out
            rw [numsS_drop hlt] at hN
            rw [numV, numB] at hC
            rcases hnum : numS (gs l k) with _ | v
            · have HX : Hid (r = (zeroC, 15)) := by show _ = _; rw [hpk2.out, hN, hnum]; rfl
              rw [hnum] at hC
              have HC := Lib.hid hC
              clear hC hN hnum
              go_wp2_with (fail)
              refine HC.out.mono ?_
              rintro e w5 ⟨rfl, hb5⟩
              have HB5 := Lib.hid (below_thn HB4.out (below_thn HBr.out hb5))
              have H15 := Lib.hid (blk_below H14.out (below_thn HBr.out hb5))
              clear HC g34 g44 hb5
              go_wp2_with (refine step_store_blk w.heap.size rfl rfl 26 (.tmp 2) (.tmp 67) rfl zeroCs zeroCs rfl rfl H15.out (cmd_info _ rfl) rfl zeroCs_one ?_; intro w6 h6 hg6; have H16 := Lib.hid h6; have HG6 := Lib.hid hg6; clear h6 hg6)
              refine bodyPost_ret (v := .tuple #[.agg zeroCs, .int .i64 15]) (results_cell_tmp rfl rfl rfl (cmd_load H16.out rfl)) rfl ?_
              rw [HX.out]
              exact ⟨.slice none 0 0, rfl, own_nil _ _ _ _, HB5.out.grown HG6.out HB5.out.size (fun k hk => by injection hk with hk; omega)⟩
            · rw [hnum] at hC
              have HC := Lib.hid hC
              rw [hnum] at hN
              have HN2 : Hid (numsS (l.drop 1) = (numsS (l.drop (k + 1))).map ((xs ++ [v]) ++ ·)) := by
                show _ = _
                rw [hN]
                cases numsS (l.drop (k + 1)) <;> simp
              clear hC hN hnum HN
              go_wp2_with (fail)
              refine HC.out.mono ?_
              rintro e w5 ⟨rfl, hb5⟩
              have HB5 := Lib.hid (below_thn HBr.out hb5)
              have HO5 := Lib.hid (HO.out.below hb5)
              clear HC g34 g44 hb5
              go_wp2_with ((at_builtin; refine print_append_num (w0 := w4) (W := w5) w4.heap.size rfl (.tmp 68) (.tmp 70) 24 3 .i64 8 rfl und_ints info_int (by decide) _ xs v rfl rfl HO5.out HB5.out HB5.out.size ?_ ?_; (have := HXL.out; omega); intro v9 w9 o9 b9 g9 t9; have O9 := Lib.hid o9; have B9 := Lib.hid b9; clear o9 b9 g9 t9))
              go_roundw
              case rel => exact ⟨k + 1, xs ++ [v], by omega, by omega, by go_num, O9, (by have := HXL.out; show _ = _; simp; omega), B9, HN2⟩
              case measure => simp [intOf]; omega
          · have hke : k = l.length := by omega
            have hN := HN.out
            rw [hke, List.drop_length, numsS] at hN
            have hX : Hid (r = wrapC (finishK q n xs)) := by show _ = _; rw [hpk2.out, hN]; simp [bodyK]
            clear hN hke hpk2 HN HP
            obtain ⟨A8, c8, rfl⟩ := HO.out.slice
            go_upto_region 18 with (fail)
            clear g34 g44
            refine wp_box1 ?_
            intro W6 hb6 hsz6 h6
            have e1 := blk_cell (blk_below H54.out (below_thn HBr.out hb6)) (q * 2 + 1) HF1.out
            have HB6 := Lib.hid (below_thn HB4.out (below_thn HBr.out hb6))
            have H16 := Lib.hid (blk_below H14.out (below_thn HBr.out hb6))
            have HO6 := Lib.hid (HO.out.below hb6)
            have HNE := Lib.hid (HO.out.not (Nat.le_refl wr.heap.size))
            have hcb : w.heap.size < wr.heap.size := by have := blk_lt (blk_below H14.out HBr.out); exact this
            have hw4 : w.heap.size < w4.heap.size := blk_lt H14.out
            have HB46 := Lib.hid (below_thn HBr.out hb6)
            have HC6 := Lib.hid h6
            clear hb6 hsz6 h6 HO HBr H54
            generalize wr.heap.size = cb at *
            by_cases hneg : n < 0
            · first
              | (exfalso; omega)
              | (clear HB46 HB4 H14
                 have hr : Hid (r = (((q : Int), 0, 0, xs), 0)) := by show _ = _; rw [hX.out, finishK, if_pos hneg]; rfl
                 have f1 := blk_cell HC6.out 3 rfl
                 have f2 := blk_free HC6.out 3
                 have hS := set_blk HC6.out 3 (.slice A8 xs.length c8)
                 have HS := Lib.hid hS
                 clear hS
                 go_upto_region 20 with (fail)
                 clear f1 f2 e1
                 have HB7 := Lib.hid (HB6.out.grown HS.out.2 HB6.out.size (fun k hk => by injection hk with hk; omega))
                 have HO7 := Lib.hid (HO6.out.other HS.out.2 HNE.out)
                 have HC7 := Lib.hid HS.out.1
                 have H17 := Lib.hid ((HS.out.2.block w.heap.size (blk_lt H16.out) (by simp; omega)).trans H16.out)
                 clear HB6 HO6 HS H16 HC6
                 generalize W6.setCell ⟨cb, 3, none⟩ (.slice A8 xs.length c8) = W7 at *
                 go_wp2_with (first
                   | (refine step_load_blk cb rfl 26 (.tmp 12) rfl #[.int .i64 q, .int .i64 0, .int .i64 0, .slice A8 xs.length c8] _ rfl HC7.out Tryd.underlying26 rfl (cmd_info _ rfl) ?_)
                   | (refine step_store_blk w.heap.size rfl rfl 26 (.tmp 2) (.tmp 81) rfl zeroCs #[.int .i64 q, .int .i64 0, .int .i64 0, .slice A8 xs.length c8] rfl rfl H17.out (cmd_info _ rfl) rfl (cmd_one _ _ _ _ _ _) ?_; intro w8 h8 hg8; have H18 := Lib.hid h8; have HG8 := Lib.hid hg8; clear h8 hg8))
                 refine bodyPost_ret (v := .tuple #[.agg #[.int .i64 q, .int .i64 0, .int .i64 0, .slice A8 xs.length c8], .int .i64 0]) (results_cell_tmp rfl rfl rfl (cmd_load H18.out rfl)) rfl ?_
                 rw [hr.out]
                 exact ⟨.slice A8 xs.length c8, rfl, (HO7.out.other HG8.out (HO7.out.ge (by omega))).mono (Nat.le_of_lt hw4), HB7.out.grown HG8.out HB7.out.size (fun k hk => by injection hk with hk; omega)⟩)
            · first
              | (exfalso; omega)
              | (clear hneg
                 go_upto_region 21 with (fail)
                 have R2 := Lib.hid (RdI.lit (w := W6.alloc (.cells #[.int .i64 0, .int .i64 0] 3)) (t := 3) [0, 0] (by simp) (heap_alloc_new W6 _) rfl)
                 have HO6' := Lib.hid (HO6.out.alloc (.cells #[.int .i64 0, .int .i64 0] 3))
                 have HB6' := Lib.hid (below_alloc HB46.out (.cells #[.int .i64 0, .int .i64 0] 3))
                 have HC6' := Lib.hid (blk_alloc HC6.out (.cells #[.int .i64 0, .int .i64 0] 3))
                 go_upto_region 22 with ((at_builtin; refine print_append_row (w0 := w4) (W := W6.alloc (.cells #[.int .i64 0, .int .i64 0] 3)) w4.heap.size rfl (.tmp 82) (.tmp 83) 24 3 .i64 8 rfl und_ints info_int (by decide) _ xs [0, 0] _ 2 2 rfl rfl HO6'.out R2.out.reads HB6'.out HB6'.out.size ?_ ?_; (have := HXL.out; omega); intro v9 w9 o9 b9 g9 t9; have O9 := Lib.hid o9; have B9 := Lib.hid b9; have G9 := Lib.hid (show (W6.alloc (.cells #[.int .i64 0, .int .i64 0] 3)).grownBy w9 (Value.slice A8 xs.length c8).ownBlock from g9); clear o9 b9 g9 t9))
                 have HC9 := Lib.hid ((G9.out.block cb (blk_lt HC6'.out) (by
                   rcases HNE.out with h | h
                   · rw [h]; simp
                   · exact fun e => h e.symm)).trans HC6'.out)
                 have H19 := Lib.hid (blk_below H14.out B9.out)
                 have HB9 := Lib.hid (below_thn HB4.out B9.out)
                 have hne9 := own_ne O9.out HC9.out (by decide)
                 have O10 : Hid (OwI w9 w4.heap.size v9 (xs ++ [0, 0])) := O9
                 obtain ⟨g9, c9, rfl, _, _⟩ := O10.out.form (by simp)
                 obtain ⟨e2, _⟩ := O10.out.at_ (i := 0) (by simp)
                 obtain ⟨e3, _⟩ := O10.out.at_ (i := 1) (by simp)
                 have hg9 : g9 ≠ cb := by simpa [Value.ownBlock] using fun e => hne9 (by rw [e]; rfl)
                 have hlen9 : (xs ++ [0, 0]).length = k + 1 := by have := HXL.out; simp; omega
                 rw [hlen9]
                 have f1 := blk_cell HC9.out 1 rfl
                 have f2 := blk_free HC9.out 1
                 have f3 := blk_cell HC9.out 2 rfl
                 have f4 := blk_free HC9.out 2
                 have hX2 := hX.out
                 rw [finishK, if_neg (by omega)] at hX2
                 generalize gi (xs ++ [0, 0]) 0 = a0 at *
                 generalize gi (xs ++ [0, 0]) 1 = a1 at *
                 have HX2 := Lib.hid hX2
                 clear O9 O10 hX hX2 hlen9 HO6 HO6' HB6 HB6' HC6 HC6' R2 G9 B9 HB46 e1 HXL hne9
                 go_region
                 have S1 := set_blk HC9.out 1 (.int .i64 a0)
                 have S2 := set_blk S1.1 2 (.int .i64 a1)
                 have B1 := HB9.out.grown S1.2 HB9.out.size (fun k hk => by injection hk with hk; omega)
                 have B2 := (B1.grown S2.2 B1.size (fun k hk => by injection hk with hk; omega)).drew
                 have X1 := (S1.2.block w.heap.size (blk_lt H19.out) (by simp; omega)).trans H19.out
                 have X2 := (S2.2.block w.heap.size (blk_lt X1) (by simp; omega)).trans X1
                 have HBa := Lib.hid B2
                 have HCa : Hid (((w9.setCell ⟨cb, 1, none⟩ (.int .i64 a0)).setCell ⟨cb, 2, none⟩ (.int .i64 a1)).drew.heap[cb]? = some (.cells #[.int .i64 q, .int .i64 a0, .int .i64 a1, .slice none 0 0] 26 (0, 0))) := S2.1
                 have H1a : Hid (((w9.setCell ⟨cb, 1, none⟩ (.int .i64 a0)).setCell ⟨cb, 2, none⟩ (.int .i64 a1)).drew.heap[w.heap.size]? = some (.cells zeroCs 26 (0, 0))) := X2
                 clear S1 S2 B1 B2 X1 X2 f1 f2 f3 f4 e2 e3 HC9 H19 HB9
                 generalize ((w9.setCell ⟨cb, 1, none⟩ (.int .i64 a0)).setCell ⟨cb, 2, none⟩ (.int .i64 a1)).drew = Wa at *
                 have f1 := blk_cell HCa.out 1 rfl
                 by_cases hbad : q = 6 ∧ a0 ≠ 1 ∧ a0 ≠ 2
                 · have HX : Hid (r = (zeroC, 15)) := by show _ = _; rw [HX2.out, if_pos hbad]; rfl
                   obtain ⟨b1, b2, b3⟩ := hbad
                   have c1 : ((q : Int) == 6) = true := by rw [b1]; rfl
                   have c2 : (a0 != 1) = true := by simpa using b2
                   have c3 : (a0 != 2) = true := by simpa using b3
                   clear b1 b2 b3
                   go_wp2_with (refine step_store_blk w.heap.size rfl rfl 26 (.tmp 2) (.tmp 105) rfl zeroCs zeroCs rfl rfl H1a.out (cmd_info _ rfl) rfl zeroCs_one ?_; intro w5 h5 hg5; have H15 := Lib.hid h5; have HG5 := Lib.hid hg5; clear h5 hg5)
                   refine bodyPost_ret (v := .tuple #[.agg zeroCs, .int .i64 15]) (results_cell_tmp rfl rfl rfl (cmd_load H15.out rfl)) rfl ?_
                   rw [HX.out]
                   exact ⟨.slice none 0 0, rfl, own_nil _ _ _ _, HBa.out.grown HG5.out HBa.out.size (fun k hk => by injection hk with hk; omega)⟩
                 · have HX3 : Hid (r = (((q : Int), a0, a1, []), 0)) := by show _ = _; rw [HX2.out, if_neg hbad]; rfl
                   have h3 : ((q : Int) == 6) = false ∨ (((q : Int) == 6) = true ∧ (a0 != 1) = false) ∨ (((q : Int) == 6) = true ∧ (a0 != 1) = true ∧ (a0 != 2) = false) := by
                     by_cases e1 : q = 6
                     · have c1 : ((q : Int) == 6) = true := by rw [e1]; rfl
                       by_cases e2 : a0 = 1
                       · exact .inr (.inl ⟨c1, by simpa using e2⟩)
                       · exact .inr (.inr ⟨c1, by simpa using e2, by
                           have : a0 = 2 := Decidable.byContradiction fun e3 => hbad ⟨e1, e2, e3⟩
                           simpa using this⟩)
                     · exact .inl (by simp; omega)
                   clear hbad
                   rcases h3 with c1 | ⟨c1, c2⟩ | ⟨c1, c2, c3⟩
                   · go_wp2_with (first
                     | (refine step_load_blk cb rfl 26 (.tmp 12) rfl #[.int .i64 q, .int .i64 a0, .int .i64 a1, .slice none 0 0] _ rfl HCa.out Tryd.underlying26 rfl (cmd_info _ rfl) ?_)
                     | (refine step_store_blk w.heap.size rfl rfl 26 (.tmp 2) (.tmp 106) rfl zeroCs #[.int .i64 q, .int .i64 a0, .int .i64 a1, .slice none 0 0] rfl rfl H1a.out (cmd_info _ rfl) rfl (cmd_one _ _ _ _ _ _) ?_; intro w8 h8 hg8; have H18 := Lib.hid h8; have HG8 := Lib.hid hg8; clear h8 hg8))
                     refine bodyPost_ret (v := .tuple #[.agg #[.int .i64 q, .int .i64 a0, .int .i64 a1, .slice none 0 0], .int .i64 0]) (results_cell_tmp rfl rfl rfl (cmd_load H18.out rfl)) rfl ?_
                     rw [HX3.out]
                     exact ⟨.slice none 0 0, rfl, own_nil _ _ _ _, HBa.out.grown HG8.out HBa.out.size (fun k hk => by injection hk with hk; omega)⟩
                   · go_wp2_with (first
                     | (refine step_load_blk cb rfl 26 (.tmp 12) rfl #[.int .i64 q, .int .i64 a0, .int .i64 a1, .slice none 0 0] _ rfl HCa.out Tryd.underlying26 rfl (cmd_info _ rfl) ?_)
                     | (refine step_store_blk w.heap.size rfl rfl 26 (.tmp 2) (.tmp 106) rfl zeroCs #[.int .i64 q, .int .i64 a0, .int .i64 a1, .slice none 0 0] rfl rfl H1a.out (cmd_info _ rfl) rfl (cmd_one _ _ _ _ _ _) ?_; intro w8 h8 hg8; have H18 := Lib.hid h8; have HG8 := Lib.hid hg8; clear h8 hg8))
                     refine bodyPost_ret (v := .tuple #[.agg #[.int .i64 q, .int .i64 a0, .int .i64 a1, .slice none 0 0], .int .i64 0]) (results_cell_tmp rfl rfl rfl (cmd_load H18.out rfl)) rfl ?_
                     rw [HX3.out]
                     exact ⟨.slice none 0 0, rfl, own_nil _ _ _ _, HBa.out.grown HG8.out HBa.out.size (fun k hk => by injection hk with hk; omega)⟩
                   · go_wp2_with (first
                     | (refine step_load_blk cb rfl 26 (.tmp 12) rfl #[.int .i64 q, .int .i64 a0, .int .i64 a1, .slice none 0 0] _ rfl HCa.out Tryd.underlying26 rfl (cmd_info _ rfl) ?_)
                     | (refine step_store_blk w.heap.size rfl rfl 26 (.tmp 2) (.tmp 106) rfl zeroCs #[.int .i64 q, .int .i64 a0, .int .i64 a1, .slice none 0 0] rfl rfl H1a.out (cmd_info _ rfl) rfl (cmd_one _ _ _ _ _ _) ?_; intro w8 h8 hg8; have H18 := Lib.hid h8; have HG8 := Lib.hid hg8; clear h8 hg8))
                     refine bodyPost_ret (v := .tuple #[.agg #[.int .i64 q, .int .i64 a0, .int .i64 a1, .slice none 0 0], .int .i64 0]) (results_cell_tmp rfl rfl rfl (cmd_load H18.out rfl)) rfl ?_
                     rw [HX3.out]
                     exact ⟨.slice none 0 0, rfl, own_nil _ _ _ _, HBa.out.grown HG8.out HBa.out.size (fun k hk => by injection hk with hk; omega)⟩)
end Go.Proofs.YtplghlokjgjjbaaDoor
