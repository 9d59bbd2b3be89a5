/- LinesLong returns true. -/
import Derived.Test.YtplghlokjgjjbaaDoorL8
import Derived.Test.YtplghlokjgjjbaaDoorL5
import Derived.Lib.SlBytesConst
namespace Go.Proofs.YtplghlokjgjjbaaDoor
open Go.RowKit Go.Proofs.YtplghlokjgjjbaaDoorW.PrintWords

/-- So many ones, each behind a blank. -/
def onesL (k : Nat) : List UInt8 := (List.replicate k [32, 49]).flatten
theorem onesL_succ (k : Nat) : onesL (k + 1) = onesL k ++ [32, 49] := by rw [onesL, List.replicate_succ', List.flatten_append]; simp [onesL]
theorem onesL_cons (k : Nat) : onesL (k + 1) = 32 :: ([49] ++ onesL k) := by rw [onesL, List.replicate_succ, List.flatten_cons]; rfl
theorem onesL_length (k : Nat) : (onesL k).length = 2 * k := by
  induction k with
  | zero => rfl
  | succ k ih => rw [onesL_succ, List.length_append, ih]; simp; omega
theorem splitL_ones (k : Nat) : ∀ w : List UInt8, 32 ∉ w → splitL (w ++ onesL k) = w :: List.replicate k [49] := by
  induction k with
  | zero => intro w hw; rw [show onesL 0 = [] from rfl, List.append_nil, splitL_none hw]; rfl
  | succ k ih =>
    intro w hw
    rw [onesL_cons, splitL_append _ hw, ih [49] (by decide)]
    rfl
theorem numsS_ones (k : Nat) : numsS (List.replicate k (ofL [49])) = some (List.replicate k 1) := by
  induction k with
  | zero => rfl
  | succ k ih =>
    rw [List.replicate_succ, numsS, show numS (ofL [49]) = some 1 by decide +kernel, ih]
    rfl
def facL : List UInt8 := [102, 97, 99, 116, 111, 114]
theorem fac_kind : kindIx (ofL facL) 0 formW = 11 := by decide +kernel
theorem fac_parse (k : Nat) (hk : k ≤ 32765) : parseS (ofL (facL ++ onesL k)) = ((11, 0, 0, List.replicate k 1), 0) := by
  rw [parseS, if_neg (by rw [size_ofL, List.length_append, onesL_length, show facL.length = 6 from rfl]; omega), splitW_ofL, data_ofL, splitL_ones k facL (by decide)]
  rw [List.map_cons, List.map_replicate, parseL, show gs (ofL facL :: List.replicate k (ofL [49])) 0 = ofL facL from rfl, fac_kind, if_neg (by decide), parseK]
  rw [show (formAt (11 : Int).toNat).2 = -1 from rfl, parseN, if_neg (by intro h; have := h.1; omega), show List.drop 1 (ofL facL :: List.replicate k (ofL [49])) = List.replicate k (ofL [49]) from rfl, numsS_ones]
  rfl
theorem str_ofL (l : List UInt8) : strOfNums (toI l) = ofL l := by
  apply ByteArray.ext
  apply Array.ext'
  rw [strOfNums_data, data_ofL, toI, List.map_map]
  conv => rhs; rw [← List.map_id l]
  exact List.map_congr_left fun x _ => by simp
def lenOf : Value → Nat
  | .slice _ n _ => n
  | _ => 0
theorem info_u8 : (Tryd.prog.info? 5).map (fun i => (i.zero, i.size, i.bytes)) = some (some (.int .u8 0), 1, 1) := by kernel_rfl
/-- A row of bytes that the call itself owns. -/
def OwU (w : World) (base : Nat) (v : Value) (xs : List Int) : Prop := w.ownsRow base 5 1 v xs.length (nums .u8 xs)


theorem toI_length (l : List UInt8) : (toI l).length = l.length := List.length_map ..
theorem ones_len (k : Nat) : (toI (facL ++ onesL k)).length = 6 + 2 * k := by rw [toI_length, List.length_append, onesL_length]; rfl
theorem OwU.slice_ {w : World} {base : Nat} {v : Value} {k : Nat} (h : OwU w base v (toI (facL ++ onesL k))) : ∃ A c, v = .slice A (6 + 2 * k) c := by
  obtain ⟨A, c, e⟩ := own_slice h
  exact ⟨A, c, by rw [e, ones_len]⟩
theorem ones_more (k : Nat) : toI (facL ++ onesL k) ++ bytesOf ⟨#[32, 49]⟩ = toI (facL ++ onesL (k + 1)) := by
  rw [onesL_succ, ← List.append_assoc, toI_append (facL ++ onesL k)]; rfl
theorem und_bytes_ : Tryd.prog.underlying 34 = some (.slice 5) := by kernel_rfl
theorem long_size (k : Nat) : (ofL (facL ++ onesL k)).size = 6 + 2 * k := by rw [size_ofL, List.length_append, onesL_length]; rfl
theorem app_more (k : Nat) : ofL (facL ++ onesL k) ++ (⟨#[32, 49]⟩ : ByteArray) = ofL (facL ++ onesL (k + 1)) := by
  rw [onesL_succ, ← List.append_assoc]
  exact (by apply ByteArray.ext; simp [ofL] : ofL (facL ++ onesL k) ++ ofL [32, 49] = ofL (facL ++ onesL k ++ [32, 49]))
theorem long_parse : parseS (ofL (facL ++ onesL 32766)) = (zeroC, 8) := by rw [parseS, if_pos (by rw [long_size]; decide)]

/-- The first append of a string onto bytes that are read, where there is no room. -/
theorem append_first {P : Program} {ops : Array Oper} {rest : List Oper} {o : Oper} {a : Act} {Q : Exit → Act → World → Prop} {w : World} (hgd : o.guard = none) (sl x : Operand) (t u e : TypeId)
    (ho : o.op = .call { callee := .builtin .append, args := #[sl, x], argTypes := #[t, u] })
    (ht : P.underlying t = some (.slice e)) (hu : P.underlying u = some .string) (hinfo : (P.info? e).map (fun i => (i.zero, i.size, i.bytes)) = some (some (.int .u8 0), 1, 1))
    (g : Nat) (xs : List Int) (cap : Nat) (s : ByteArray) (hs : a.eval sl = .slice (some ⟨g, 0, none⟩) xs.length cap) (hx : a.eval x = .string s)
    (hc : ∀ j, j < xs.length → w.cell? ⟨g, j, none⟩ = some (.int .u8 (gi xs j))) (hg : cap < xs.length + s.size) (hl : xs.length + s.size ≤ 140737488355328)
    (h : ∀ v' w', w'.ownsRow w.heap.size e 1 v' (xs ++ bytesOf s).length (nums .u8 (xs ++ bytesOf s)) → Below w.heap.size w w' → wpList P ops Q rest (a.put o.dst v') w') : wpList P ops Q (o :: rest) a w := by
  obtain ⟨i, hi, hzz⟩ := Option.map_eq_some_iff.1 hinfo
  simp only [Prod.mk.injEq] at hzz
  obtain ⟨hz, hsize, hby⟩ := hzz
  refine wpList_plain hgd fun K hK => ?_
  have holds : ∀ j u, (nums .u8 xs)[j]? = some u → w.cell? ((⟨g, 0, none⟩ : Addr).add j) = some u := by
    intro j u hj
    obtain ⟨hl, e⟩ := List.getElem?_eq_some_iff.1 hj
    have hl' : j < xs.length := by simpa [nums] using hl
    rw [show (⟨g, 0, none⟩ : Addr).add j = ⟨g, j, none⟩ from by unfold Addr.add; split <;> simp_all, hc j hl', ← e, gi_get hl']
    simp [nums]
  have hr := Lib.run_append_grow_string (P := P) w t u o.type e i (.int .u8 0) ht hu hi hz ⟨g, 0, none⟩ xs.length cap (nums .u8 xs) (by rw [hsize]; simp [nums]) holds s hg (by omega) (by rw [hby]; exact growslice_fits (by omega) (by omega))
  have hge := grownCap_ge w (xs.length + s.size) cap e
  have hcm : grownCap w (xs.length + s.size) cap e ≤ maxLen := grownCap_le_maxLen w (xs.length + s.size) cap e (by simp only [maxLen]; omega)
  have hn : nums .u8 (xs ++ bytesOf s) = nums .u8 xs ++ Lib.strCells s := by simp [nums, bytesOf, Lib.strCells]
  have hlen : (nums .u8 xs ++ Lib.strCells s).length = xs.length + s.size := by rw [List.length_append, Lib.strCells_length]; simp [nums]
  unfold Oper.wp execOp
  simp only [ho, resolve, invoke, builtin, Sem.run_bind, Sem.run_pure, Result.andThen_ok, List.map_toArray, List.map_cons, List.map_nil, hs, hx, hr]
  refine hK _ _ (h _ _ ?_ ?_)
  · rw [hn, List.length_append, bytesOf_length]
    refine ⟨by rw [hlen, Nat.mul_one], .inr ⟨w.heap.size, _, _, rfl, Nat.le_refl _, heap_alloc_new w.drew _, hge, hcm, ?_, ?_⟩⟩
    · have hz1 : (Value.int IntKind.u8 0).cells.size = 1 := rfl
      simp only [Array.size_append, List.size_toArray, size_zeroCells, hz1, Lib.strCells_length]
      simp [nums]; omega
    · simp only [Array.toList_append, List.append_assoc]
      rw [← List.append_assoc, ← hlen, Nat.mul_one]
      exact List.take_left
  · exact ⟨rfl, rfl, rfl, by simp, fun k hk => Below.heap_alloc w.drew _ k hk⟩
/-- The line while it grows: the constant's own row at first, then a row of the call's own. -/
def Long (w0 wr : World) (k : Nat) (v : Value) : Prop :=
  (k = 0 ∧ v = .slice (some ⟨w0.heap.size, 0, none⟩) 6 6 ∧ wr.heap[w0.heap.size]? = some (.cells (nums .u8 (toI facL)).toArray 5 (6, 7))) ∨ OwU wr w0.heap.size v (toI (facL ++ onesL k))
theorem Long.cell {w0 wr : World} (h : wr.heap[w0.heap.size]? = some (.cells (nums .u8 (toI facL)).toArray 5 (6, 7))) : ∀ j, j < (toI facL).length → wr.cell? ⟨w0.heap.size, j, none⟩ = some (.int .u8 (gi (toI facL) j)) := by
  intro j hj
  refine blk_cell h j ?_
  rw [gi_get hj]
  simp [nums, List.getElem?_eq_getElem hj]
theorem Long.slice_ {w0 wr : World} {k : Nat} {v : Value} (h : Long w0 wr k v) : ∃ A c, v = .slice A (6 + 2 * k) c := by
  rcases h with ⟨rfl, rfl, _⟩ | h
  · exact ⟨_, _, rfl⟩
  · obtain ⟨A, c, e⟩ := own_slice h
    exact ⟨A, c, by rw [e, ones_len]⟩
theorem Long.step {w0 W : World} {k : Nat} {ops : Array Oper} {rest : List Oper} {o : Oper} {a : Act} {Q : Exit → Act → World → Prop} (hgd : o.guard = none) (sl x : Operand)
    (ho : o.op = .call { callee := .builtin .append, args := #[sl, x], argTypes := #[34, 9] }) {v : Value} (hs : a.eval sl = v) (hx : a.eval x = .string ⟨#[32, 49]⟩) (hv : Long w0 W k v) (hb : Below w0.heap.size w0 W) (hk : k ≤ 32765)
    (h : ∀ v' w', Long w0 w' (k + 1) v' → Below w0.heap.size w0 w' → wpList Tryd.prog ops Q rest (a.put o.dst v') w') : wpList Tryd.prog ops Q (o :: rest) a W := by
  rcases hv with ⟨rfl, rfl, hw⟩ | hv
  · refine append_first hgd sl x 34 9 5 ho und_bytes_ und_str info_u8 w0.heap.size (toI facL) 6 ⟨#[32, 49]⟩ hs hx (Long.cell hw) (by decide) (by decide) ?_
    intro v' w' ho hb'
    refine h v' w' (.inr ?_) (below_thn hb hb')
    exact own_weaken ho hb.size
  · refine print_append_str (w0 := w0) (W := W) w0.heap.size hgd sl x 34 9 5 ho und_bytes_ und_str info_u8 v (toI (facL ++ onesL k)) ⟨#[32, 49]⟩ hs hx hv hb hb.size (by rw [ones_len]; simp [ByteArray.size]; omega) ?_
    intro v' w' ho hb' _
    refine h v' w' (.inr ?_) hb'
    rw [ones_more] at ho
    exact ho

set_option maxRecDepth 100000 in
set_option maxHeartbeats 2000000 in
theorem linesLong_any (more : Bool) (m : Int) (w : World) (hm : w.cell? ⟨0, 0, none⟩ = some (.int .i64 m)) : Calls Tryd.prog 5 #[.bool more] w fun e w' => e = .returned (.bool true) ∧ Below w.heap.size w w' := by
  have HM := Lib.hid hm
  clear hm
  have P1 := fun W h => parse_any (ofL (facL ++ onesL 32765)) m W h (by rw [long_size]; decide)
  rw [fac_parse 32765 (Nat.le_refl _)] at P1
  have P2 := fun W h => parse_any (ofL (facL ++ onesL 32766)) m W h (by rw [long_size]; decide)
  rw [long_parse] at P2
  have hone : Hid ((List.replicate 32765 (1 : Int)).length = 32765) := List.length_replicate ..
  have HZ := Lib.hid (long_size 32765)
  have HA := Lib.hid (app_more 32765)
  generalize List.replicate 32765 (1 : Int) = ones at *
  have HP1 := Lib.hid P1
  have HP2 := Lib.hid P2
  clear P1 P2
  have kc := fun (w : World) (C : Array Value) (n c : Nat) => Lib.run_convert_bytes_const (P := Tryd.prog) w 34 5 C n c und_bytes_ und_u8
  go_enter Tryd.func5, Tryd.ntmps5
  go_wp2
  go_loopw [3] (fun v wr => ∃ k : Nat, k ≤ 32765 ∧ Hid (lenOf v = 6 + 2 * k) ∧ Hid (Long w wr k v) ∧ Hid (Below w.heap.size w wr)) (fun v _ => 70000 - lenOf v)
  case atStart => exact ⟨0, Nat.zero_le _, rfl, .inl ⟨rfl, rfl, heap_alloc_new _ _⟩, below_alloc (Below.refl _ _) _⟩
  case round =>
    obtain ⟨k, hk, hlk, HO, HBr⟩ := hrel
    clear hlk
    obtain ⟨A, c, rfl⟩ := HO.out.slice_
    by_cases hlt : k < 32765
    · obtain ⟨n, hn⟩ : ∃ n, n = 6 + 2 * k := ⟨_, rfl⟩
      have hn1 : n < 65535 := by omega
      have hn2 : (n : Int) < 65535 := by omega
      rw [← hn] at HO ⊢
      have HN := Lib.hid hn
      clear hn
      go_wp2_with ((at_builtin; refine Long.step (w0 := w) rfl _ _ rfl rfl rfl HO.out HBr.out hk ?_; intro v1 w1 o1 b1; have O1 := Lib.hid o1; have B1 := Lib.hid b1; clear o1 b1))
      go_roundw
      case rel =>
        obtain ⟨A', c', e'⟩ := O1.out.slice_
        exact ⟨k + 1, by omega, (by show _ = _; rw [e']; rfl), O1, B1⟩
      case measure =>
        obtain ⟨A', c', e'⟩ := O1.out.slice_
        have := HN.out
        rw [e']
        simp [lenOf]; omega
    · have hke : k = 32765 := by omega
      subst hke
      have hown : OwU wr w.heap.size (.slice A (6 + 2 * 32765) c) (toI (facL ++ onesL 32765)) := by
        rcases HO.out with ⟨h, _⟩ | h
        · omega
        · exact h
      have hcv := own_string und_bytes_ und_u8 und_str hown
      rw [str_ofL] at hcv
      have HMr := Lib.hid (cell_below HBr.out HM.out)
      clear hlt hk HO hown HM
      generalize ofL (facL ++ onesL 32765) = s at *
      go_upto_region 5 with (fail)
      cases more
      · have hp := HP1.out wr HMr.out
        have HP := Lib.hid hp
        clear hp HP1 HP2 HA hcv kc
        go_wp2_with (fail)
        refine HP.out.mono ?_
        rintro e w2 ⟨v, rfl, hv, hb2⟩
        obtain ⟨A2, c2, rfl⟩ := hv.slice
        rw [hone.out]
        have HM2 := Lib.hid (cell_below hb2 HMr.out)
        have HB2 := Lib.hid (below_thn HBr.out hb2)
        clear HP hv hb2 HMr HBr
        go_upto_region 8 with (fail)
        refine wp_box1 ?_
        intro W3 hb3 hsz3 h3
        have HB3 := Lib.hid (below_thn HB2.out hb3)
        have HAw := Lib.hid (awake_any m W3 (cell_below hb3 HM2.out))
        have H3 := Lib.hid h3
        clear hb3 hsz3 h3 HM2 HB2
        go_wp2_with (fail)
        refine HAw.out.mono ?_
        rintro e w7 ⟨rfl, hb7⟩
        have f1 := blk_cell (blk_below H3.out hb7) 3 rfl
        have HB7 := Lib.hid (below_thn HB3.out hb7)
        have hz := HZ.out
        clear hb7 HAw
        go_wp2
        go_ret
        exact ⟨rfl, HB7.out⟩
      · have hp := HP2.out wr HMr.out
        rw [← HA.out] at hp
        have hzb : s.size ≤ 100000 := by have := HZ.out; omega
        have HP := Lib.hid hp
        clear hp HP1 HP2 HA hcv kc
        go_wp2_with (fail)
        refine HP.out.mono ?_
        rintro e w2 ⟨v, rfl, hv, hb2⟩
        obtain ⟨A2, c2, rfl⟩ := hv.slice
        have HM2 := Lib.hid (cell_below hb2 HMr.out)
        have HB2 := Lib.hid (below_thn HBr.out hb2)
        clear HP hv hb2 HMr HBr
        go_upto_region 8 with (fail)
        refine wp_box1 ?_
        intro W3 hb3 hsz3 h3
        have HB3 := Lib.hid (below_thn HB2.out hb3)
        have HAw := Lib.hid (awake_any m W3 (cell_below hb3 HM2.out))
        have H3 := Lib.hid h3
        clear hb3 hsz3 h3 HM2 HB2
        go_wp2_with (fail)
        refine HAw.out.mono ?_
        rintro e w7 ⟨rfl, hb7⟩
        have f1 := blk_cell (blk_below H3.out hb7) 3 rfl
        have HB7 := Lib.hid (below_thn HB3.out hb7)
        clear hb7 HAw
        go_wp2
        go_ret
        exact ⟨rfl, HB7.out⟩
end Go.Proofs.YtplghlokjgjjbaaDoor
