/- garlandhelp.Own: a slice of one's own with room behind it. -/
import Derived.Test.YtplghlokjgjjbaaDoorL4
import Derived.Test.YtplghlokjgjjbaaDoorL27
import Derived.Deep.DeepAppendRoom
namespace Go.Proofs.YtplghlokjgjjbaaDoor
open Go.RowKit Go.Proofs.YtplghlokjgjjbaaDoorW.PrintWords

theorem info_byte : (Tryd.prog.info? 5).map (fun i => (i.zero, i.size, i.bytes)) = some (some (.int .u8 0), 1, 1) := by kernel_rfl
/-! ### I -/
theorem app_noneI {P : Program} {ops : Array Oper} {rest : List Oper} {o : Oper} {a : Act} {Q : Exit → Act → World → Prop} {w : World} (hgd : o.guard = none) (s x : Operand) (t e : TypeId) (k : IntKind) (bytes : Nat)
    (ho : o.op = .call { callee := .builtin .append, args := #[s, x], argTypes := #[t, t] })
    (ht : P.underlying t = some (.slice e)) (hinfo : (P.info? e).map (fun i => (i.zero, i.size, i.bytes)) = some (some (.int k 0), 1, bytes))
    (A : Option Addr) (n cap c : Nat) (hnc : n ≤ cap) (hs : a.eval s = .slice A n cap) (hx : a.eval x = .slice none 0 c)
    (h : wpList P ops Q rest (a.put o.dst (.slice A n cap)) w) : wpList P ops Q (o :: rest) a w := by
  obtain ⟨i0, hi, _⟩ := Option.map_eq_some_iff.1 hinfo
  have hrun : (Builtin.append_ #[t, t] o.type #[.slice A n cap, .slice none 0 c]).run P w = .ok (.slice A n cap) w := by
    cases A <;> simp [Builtin.append_, run_underlying ht, sizeOf, typeInfo, hi, Builtin.lenOf, Builtin.firstCells, hnc, storeCells]
  refine wpList_plain hgd fun K hK => ?_
  unfold Oper.wp execOp
  simp only [ho, resolve, invoke, builtin, Sem.run_bind, Sem.run_pure, Result.andThen_ok, List.map_toArray, List.map_cons, List.map_nil, hs, hx, hrun]
  exact hK _ _ h
theorem app_spareI {P : Program} {ops : Array Oper} {rest : List Oper} {o : Oper} {a : Act} {Q : Exit → Act → World → Prop} {w : World} (base : Nat) (hgd : o.guard = none) (s x : Operand) (t e : TypeId) (bytes : Nat)
    (ho : o.op = .call { callee := .builtin .append, args := #[s, x], argTypes := #[t, t] })
    (ht : P.underlying t = some (.slice e)) (hinfo : (P.info? e).map (fun i => (i.zero, i.size, i.bytes)) = some (some (.int .i64 0), 1, bytes))
    (g cap c : Nat) (xs : List Int) (A : Option Addr) (hR : RdI w A xs) (hs : a.eval s = .slice (some ⟨g, 0, none⟩) 0 cap) (hx : a.eval x = .slice A xs.length c)
    (hown : w.ownsRow base e 1 (.slice (some ⟨g, 0, none⟩) 0 cap) 0 []) (hroom : xs.length ≤ cap)
    (h : ∀ w', w'.ownsRow base e 1 (.slice (some ⟨g, 0, none⟩) xs.length cap) xs.length (nums .i64 xs) → w.grownBy w' (some g) → wpList P ops Q rest (a.put o.dst (.slice (some ⟨g, 0, none⟩) xs.length cap)) w') : wpList P ops Q (o :: rest) a w := by
  rcases A with _ | ad
  · have hx0 : xs = [] := by
      cases xs with
      | nil => rfl
      | cons y r => obtain ⟨ad, h, _⟩ := hR.2 0 (by simp); cases h
    subst hx0
    exact app_noneI hgd s x t e .i64 bytes ho ht hinfo _ 0 cap c (Nat.zero_le _) hs hx (h w hown ⟨rfl, rfl, rfl, Nat.le_refl _, fun _ _ _ => rfl⟩)
  · obtain ⟨i0, hi, hz⟩ := Option.map_eq_some_iff.1 hinfo
    have hz1 : i0.size = 1 := by simp only [Prod.mk.injEq] at hz; exact hz.2.1
    refine wpList_append_own_spare w hgd s x t ho base e i0 1 ht hi hz1 g 0 cap [] hs hown ad xs.length c (nums .i64 xs) hx (by simp [nums]) ?_ (by intro u hu; simp only [nums, List.mem_map] at hu; obtain ⟨q, _, rfl⟩ := hu; rfl) (by omega) ?_
    · intro j u hu
      have hj : j < xs.length := by
        rcases Nat.lt_or_ge j xs.length with h | h
        · exact h
        · simp [nums, List.getElem?_eq_none h] at hu
      obtain ⟨ad', h', hc⟩ := hR.2 j hj
      injection h' with h'
      subst h'
      rw [hc]
      simp [nums, List.getElem?_eq_getElem hj] at hu
      rw [← hu, gi_get hj]
    · intro w' h1 h2
      rw [Nat.zero_add, List.nil_append] at h1
      rw [Nat.zero_add]
      exact h w' h1 h2
theorem make_roomI (n : Nat) (hn : n * 8 ≤ 140737488351232) : ∀ W : World, (Instr.makeSlice 24 (.int .i64 0) (.int .i64 ((n : Int) + 3))).run Tryd.prog W = .ok (.slice (some ⟨W.heap.size, 0, none⟩) 0 (n + 3)) (W.alloc (.cells (madeCells #[.int .i64 0] (n + 3)) 3)) := by
  intro W
  obtain ⟨i0, hi, hz⟩ := Option.map_eq_some_iff.1 info_int
  simp only [Prod.mk.injEq] at hz
  obtain ⟨hz0, hz1, hz2⟩ := hz
  have hr := run_make (P := Tryd.prog) W 24 3 i0 (.int .i64 0) und_ints hi hz0 .i64 .i64 0 ((n : Int) + 3) (by omega) (by omega) (by rw [hz2]; omega) (by omega)
  rw [hz1, Nat.mul_one, show ((n : Int) + 3).toNat = n + 3 by omega] at hr
  exact hr
theorem own_roomI (W : World) (base m : Nat) (hb : base ≤ W.heap.size) (hm : m ≤ 9223372036854775807) : (W.alloc (.cells (madeCells #[.int .i64 0] m) 3)).ownsRow base 3 1 (.slice (some ⟨W.heap.size, 0, none⟩) 0 m) 0 [] :=
  ⟨rfl, .inr ⟨_, _, _, rfl, hb, heap_alloc_new W _, Nat.zero_le _, by simpa [maxLen] using hm, by rw [size_madeCells, Nat.mul_one], by simp⟩⟩
/-- How much of the room is filled. -/
def FillingI (w wr : World) (g : Nat) (xs : List Int) (f : Int) (v7 : Value) : Prop :=
  ∃ (j : Nat) (cs : Array Value), j ≤ 3 ∧ v7 = .int .i64 ((xs.length + j : Nat) : Int) ∧ wr.heap[g]? = some (.cells cs 3 (0, 0)) ∧ cs.size = xs.length + 3 ∧ cs.toList.take (xs.length + j) = nums .i64 (xs ++ List.replicate j f) ∧ Below w.heap.size w wr
def fullCsI (xs : List Int) (f : Int) : Array Value := (nums .i64 (xs ++ [f, f, f])).toArray
set_option maxRecDepth 100000 in
set_option maxHeartbeats 2000000 in
theorem ownI_any (A : Option Addr) (c : Nat) (xs : List Int) (f : Int) (w : World) (hx : RdI w A xs) (hn : xs.length * 8 ≤ 140737488351232) :
    Calls Tryd.prog 17 #[.slice A xs.length c, .int .i64 f] w fun e w' => e = .returned (.slice (some ⟨w.heap.size, 0, none⟩) xs.length (xs.length + 3)) ∧ w'.heap[w.heap.size]? = some (.cells (fullCsI xs f) 3 (0, 0)) ∧ Below w.heap.size w w' := by
  have hmk := make_roomI xs.length hn
  have HX := Lib.hid hx
  have hn2 : xs.length ≤ 140737488351232 := by omega
  clear hx hn
  go_enter Tryd.func17, Tryd.ntmps17
  go_upto_region 2 with (fail)
  have hown := own_roomI w w.heap.size (xs.length + 3) (Nat.le_refl _) (by omega)
  have HOwn := Lib.hid hown
  have HX2 := Lib.hid (HX.out.below (below_alloc (Below.refl w.heap.size w) (.cells (madeCells #[.int .i64 0] (xs.length + 3)) 3)))
  have HB := Lib.hid (below_alloc (Below.refl w.heap.size w) (.cells (madeCells #[.int .i64 0] (xs.length + 3)) 3))
  clear hown hmk
  generalize w.alloc (.cells (madeCells #[.int .i64 0] (xs.length + 3)) 3) = W at *
  go_upto_region 3 with ((at_builtin; refine app_spareI w.heap.size rfl (.tmp 12) (.tmp 13) 24 3 8 rfl und_ints info_int w.heap.size (xs.length + 3) c xs A HX2.out rfl rfl HOwn.out (by omega) ?_; intro w1 o1 g1; have O1 := Lib.hid o1; have G1 := Lib.hid g1; clear o1 g1))
  have HB1 := Lib.hid (HB.out.grown G1.out HB.out.size (fun k hk => by injection hk with hk; omega))
  obtain ⟨cur, hc1, hc2, hc3⟩ : ∃ cur, w1.heap[w.heap.size]? = some (.cells cur 3 (0, 0)) ∧ cur.size = xs.length + 3 ∧ cur.toList.take xs.length = nums .i64 xs := by
    rcases O1.out.2 with ⟨h, _⟩ | ⟨g', cap', cur, hv, _, h1, _, _, h2, h3⟩
    · cases h
    · cases hv
      exact ⟨cur, h1, by simpa using h2, by simpa using h3⟩
  have HF : Hid (FillingI w w1 w.heap.size xs f (.int .i64 (xs.length : Int))) := ⟨0, cur, by omega, by simp, hc1, hc2, by simpa using hc3, HB1.out⟩
  clear hc1 hc2 hc3 O1 G1 HB1 HB HX2 HOwn HX
  obtain ⟨g, hg⟩ : ∃ g, g = w.heap.size := ⟨_, rfl⟩
  rw [← hg] at HF ⊢
  have HGW := Lib.hid hg
  clear hg
  go_wp2
  go_loopw [7] (fun v7 wr => FillingI w wr g xs f v7) (fun v7 _ => xs.length + 3 - (intOf v7).toNat)
  case atStart => exact HF.out
  case round =>
    obtain ⟨j, cs, hj, rfl, h1, h2, h3, hb⟩ := hrel
    have HB := Lib.hid hb
    have H1 := Lib.hid h1
    have H2 := Lib.hid h2
    have H3 := Lib.hid h3
    by_cases hlt : j < 3
    · obtain ⟨u, hu⟩ : ∃ u, cs[xs.length + j]? = some u := ⟨_, Array.getElem?_eq_getElem (by omega)⟩
      have f1 := blk_cell h1 (xs.length + j) hu
      have f2 := blk_free h1 (xs.length + j)
      have hS := set_blk h1 (xs.length + j) (.int .i64 f)
      have HS := Lib.hid hS
      have e1 : ((xs.length + j : Nat) : Int) < (xs.length : Int) + 3 := by omega
      have e3 : xs.length + j < xs.length + 3 := by omega
      have e2 : 0 ≤ ((xs.length + j : Nat) : Int) := by omega
      clear hb h1 h2 h3 hu hS HF
      generalize hm : xs.length + j = m at *
      have HM := Lib.hid hm
      go_wp2
      go_roundw
      case rel =>
        refine ⟨j + 1, cs.setIfInBounds m (.int .i64 f), hlt, by have := HM.out; congr 1; omega, HS.out.1, by rw [Array.size_setIfInBounds]; exact H2.out, ?_, HB.out.grown HS.out.2 HB.out.size (fun k hk => by injection hk with hk; have := HGW.out; omega)⟩
        have h3 := H3.out
        have h2 := H2.out
        have hm2 := HM.out
        rw [← Nat.add_assoc, hm2, Array.toList_setIfInBounds, List.take_succ_eq_append_getElem (by rw [List.length_set, Array.length_toList]; omega), List.take_set_of_le (Nat.le_refl _), h3]
        simp [nums, List.replicate_succ']
      case measure => simp [intOf]; omega
    · obtain rfl : j = 3 := by omega
      have hcs : cs = fullCsI xs f := by
        rw [List.take_of_length_le (by rw [Array.length_toList]; omega)] at h3
        rw [fullCsI, ← Array.toArray_toList (xs := cs), h3]; rfl
      subst hcs
      clear hb h1 h2 h3 HF
      go_wp2
      go_ret
      have := HGW.out
      exact ⟨by rw [this]; rfl, by rw [← this]; exact H1.out, HB.out⟩

/-! ### B -/
theorem app_noneB {P : Program} {ops : Array Oper} {rest : List Oper} {o : Oper} {a : Act} {Q : Exit → Act → World → Prop} {w : World} (hgd : o.guard = none) (s x : Operand) (t e : TypeId) (k : IntKind) (bytes : Nat)
    (ho : o.op = .call { callee := .builtin .append, args := #[s, x], argTypes := #[t, t] })
    (ht : P.underlying t = some (.slice e)) (hinfo : (P.info? e).map (fun i => (i.zero, i.size, i.bytes)) = some (some (.int k 0), 1, bytes))
    (A : Option Addr) (n cap c : Nat) (hnc : n ≤ cap) (hs : a.eval s = .slice A n cap) (hx : a.eval x = .slice none 0 c)
    (h : wpList P ops Q rest (a.put o.dst (.slice A n cap)) w) : wpList P ops Q (o :: rest) a w := by
  obtain ⟨i0, hi, _⟩ := Option.map_eq_some_iff.1 hinfo
  have hrun : (Builtin.append_ #[t, t] o.type #[.slice A n cap, .slice none 0 c]).run P w = .ok (.slice A n cap) w := by
    cases A <;> simp [Builtin.append_, run_underlying ht, sizeOf, typeInfo, hi, Builtin.lenOf, Builtin.firstCells, hnc, storeCells]
  refine wpList_plain hgd fun K hK => ?_
  unfold Oper.wp execOp
  simp only [ho, resolve, invoke, builtin, Sem.run_bind, Sem.run_pure, Result.andThen_ok, List.map_toArray, List.map_cons, List.map_nil, hs, hx, hrun]
  exact hK _ _ h
theorem app_spareB {P : Program} {ops : Array Oper} {rest : List Oper} {o : Oper} {a : Act} {Q : Exit → Act → World → Prop} {w : World} (base : Nat) (hgd : o.guard = none) (s x : Operand) (t e : TypeId) (bytes : Nat)
    (ho : o.op = .call { callee := .builtin .append, args := #[s, x], argTypes := #[t, t] })
    (ht : P.underlying t = some (.slice e)) (hinfo : (P.info? e).map (fun i => (i.zero, i.size, i.bytes)) = some (some (.int .u8 0), 1, bytes))
    (g cap c : Nat) (xs : List Int) (A : Option Addr) (hR : RdB w A xs) (hs : a.eval s = .slice (some ⟨g, 0, none⟩) 0 cap) (hx : a.eval x = .slice A xs.length c)
    (hown : w.ownsRow base e 1 (.slice (some ⟨g, 0, none⟩) 0 cap) 0 []) (hroom : xs.length ≤ cap)
    (h : ∀ w', w'.ownsRow base e 1 (.slice (some ⟨g, 0, none⟩) xs.length cap) xs.length (nums .u8 xs) → w.grownBy w' (some g) → wpList P ops Q rest (a.put o.dst (.slice (some ⟨g, 0, none⟩) xs.length cap)) w') : wpList P ops Q (o :: rest) a w := by
  rcases A with _ | ad
  · have hx0 : xs = [] := by
      cases xs with
      | nil => rfl
      | cons y r => obtain ⟨ad, h, _⟩ := hR.2 0 (by simp); cases h
    subst hx0
    exact app_noneB hgd s x t e .u8 bytes ho ht hinfo _ 0 cap c (Nat.zero_le _) hs hx (h w hown ⟨rfl, rfl, rfl, Nat.le_refl _, fun _ _ _ => rfl⟩)
  · obtain ⟨i0, hi, hz⟩ := Option.map_eq_some_iff.1 hinfo
    have hz1 : i0.size = 1 := by simp only [Prod.mk.injEq] at hz; exact hz.2.1
    refine wpList_append_own_spare w hgd s x t ho base e i0 1 ht hi hz1 g 0 cap [] hs hown ad xs.length c (nums .u8 xs) hx (by simp [nums]) ?_ (by intro u hu; simp only [nums, List.mem_map] at hu; obtain ⟨q, _, rfl⟩ := hu; rfl) (by omega) ?_
    · intro j u hu
      have hj : j < xs.length := by
        rcases Nat.lt_or_ge j xs.length with h | h
        · exact h
        · simp [nums, List.getElem?_eq_none h] at hu
      obtain ⟨ad', h', hc⟩ := hR.2 j hj
      injection h' with h'
      subst h'
      rw [hc]
      simp [nums, List.getElem?_eq_getElem hj] at hu
      rw [← hu, gi_get hj]
    · intro w' h1 h2
      rw [Nat.zero_add, List.nil_append] at h1
      rw [Nat.zero_add]
      exact h w' h1 h2
theorem make_roomB (n : Nat) (hn : n * 1 ≤ 140737488351232) : ∀ W : World, (Instr.makeSlice 34 (.int .i64 0) (.int .i64 ((n : Int) + 3))).run Tryd.prog W = .ok (.slice (some ⟨W.heap.size, 0, none⟩) 0 (n + 3)) (W.alloc (.cells (madeCells #[.int .u8 0] (n + 3)) 5)) := by
  intro W
  obtain ⟨i0, hi, hz⟩ := Option.map_eq_some_iff.1 info_byte
  simp only [Prod.mk.injEq] at hz
  obtain ⟨hz0, hz1, hz2⟩ := hz
  have hr := run_make (P := Tryd.prog) W 34 5 i0 (.int .u8 0) und_bytes hi hz0 .i64 .i64 0 ((n : Int) + 3) (by omega) (by omega) (by rw [hz2]; omega) (by omega)
  rw [hz1, Nat.mul_one, show ((n : Int) + 3).toNat = n + 3 by omega] at hr
  exact hr
theorem own_roomB (W : World) (base m : Nat) (hb : base ≤ W.heap.size) (hm : m ≤ 9223372036854775807) : (W.alloc (.cells (madeCells #[.int .u8 0] m) 5)).ownsRow base 5 1 (.slice (some ⟨W.heap.size, 0, none⟩) 0 m) 0 [] :=
  ⟨rfl, .inr ⟨_, _, _, rfl, hb, heap_alloc_new W _, Nat.zero_le _, by simpa [maxLen] using hm, by rw [size_madeCells, Nat.mul_one], by simp⟩⟩
/-- How much of the room is filled. -/
def FillingB (w wr : World) (g : Nat) (xs : List Int) (f : Int) (v7 : Value) : Prop :=
  ∃ (j : Nat) (cs : Array Value), j ≤ 3 ∧ v7 = .int .i64 ((xs.length + j : Nat) : Int) ∧ wr.heap[g]? = some (.cells cs 5 (0, 0)) ∧ cs.size = xs.length + 3 ∧ cs.toList.take (xs.length + j) = nums .u8 (xs ++ List.replicate j f) ∧ Below w.heap.size w wr
def fullCsB (xs : List Int) (f : Int) : Array Value := (nums .u8 (xs ++ [f, f, f])).toArray
set_option maxRecDepth 100000 in
set_option maxHeartbeats 2000000 in
theorem ownB_any (A : Option Addr) (c : Nat) (xs : List Int) (f : Int) (w : World) (hx : RdB w A xs) (hn : xs.length * 1 ≤ 140737488351232) :
    Calls Tryd.prog 16 #[.slice A xs.length c, .int .u8 f] w fun e w' => e = .returned (.slice (some ⟨w.heap.size, 0, none⟩) xs.length (xs.length + 3)) ∧ w'.heap[w.heap.size]? = some (.cells (fullCsB xs f) 5 (0, 0)) ∧ Below w.heap.size w w' := by
  have hmk := make_roomB xs.length hn
  have HX := Lib.hid hx
  have hn2 : xs.length ≤ 140737488351232 := by omega
  clear hx hn
  go_enter Tryd.func16, Tryd.ntmps16
  go_upto_region 2 with (fail)
  have hown := own_roomB w w.heap.size (xs.length + 3) (Nat.le_refl _) (by omega)
  have HOwn := Lib.hid hown
  have HX2 := Lib.hid (HX.out.below (below_alloc (Below.refl w.heap.size w) (.cells (madeCells #[.int .u8 0] (xs.length + 3)) 5)))
  have HB := Lib.hid (below_alloc (Below.refl w.heap.size w) (.cells (madeCells #[.int .u8 0] (xs.length + 3)) 5))
  clear hown hmk
  generalize w.alloc (.cells (madeCells #[.int .u8 0] (xs.length + 3)) 5) = W at *
  go_upto_region 3 with ((at_builtin; refine app_spareB w.heap.size rfl (.tmp 12) (.tmp 13) 34 5 1 rfl und_bytes info_byte w.heap.size (xs.length + 3) c xs A HX2.out rfl rfl HOwn.out (by omega) ?_; intro w1 o1 g1; have O1 := Lib.hid o1; have G1 := Lib.hid g1; clear o1 g1))
  have HB1 := Lib.hid (HB.out.grown G1.out HB.out.size (fun k hk => by injection hk with hk; omega))
  obtain ⟨cur, hc1, hc2, hc3⟩ : ∃ cur, w1.heap[w.heap.size]? = some (.cells cur 5 (0, 0)) ∧ cur.size = xs.length + 3 ∧ cur.toList.take xs.length = nums .u8 xs := by
    rcases O1.out.2 with ⟨h, _⟩ | ⟨g', cap', cur, hv, _, h1, _, _, h2, h3⟩
    · cases h
    · cases hv
      exact ⟨cur, h1, by simpa using h2, by simpa using h3⟩
  have HF : Hid (FillingB w w1 w.heap.size xs f (.int .i64 (xs.length : Int))) := ⟨0, cur, by omega, by simp, hc1, hc2, by simpa using hc3, HB1.out⟩
  clear hc1 hc2 hc3 O1 G1 HB1 HB HX2 HOwn HX
  obtain ⟨g, hg⟩ : ∃ g, g = w.heap.size := ⟨_, rfl⟩
  rw [← hg] at HF ⊢
  have HGW := Lib.hid hg
  clear hg
  go_wp2
  go_loopw [7] (fun v7 wr => FillingB w wr g xs f v7) (fun v7 _ => xs.length + 3 - (intOf v7).toNat)
  case atStart => exact HF.out
  case round =>
    obtain ⟨j, cs, hj, rfl, h1, h2, h3, hb⟩ := hrel
    have HB := Lib.hid hb
    have H1 := Lib.hid h1
    have H2 := Lib.hid h2
    have H3 := Lib.hid h3
    by_cases hlt : j < 3
    · obtain ⟨u, hu⟩ : ∃ u, cs[xs.length + j]? = some u := ⟨_, Array.getElem?_eq_getElem (by omega)⟩
      have f1 := blk_cell h1 (xs.length + j) hu
      have f2 := blk_free h1 (xs.length + j)
      have hS := set_blk h1 (xs.length + j) (.int .u8 f)
      have HS := Lib.hid hS
      have e1 : ((xs.length + j : Nat) : Int) < (xs.length : Int) + 3 := by omega
      have e3 : xs.length + j < xs.length + 3 := by omega
      have e2 : 0 ≤ ((xs.length + j : Nat) : Int) := by omega
      clear hb h1 h2 h3 hu hS HF
      generalize hm : xs.length + j = m at *
      have HM := Lib.hid hm
      go_wp2
      go_roundw
      case rel =>
        refine ⟨j + 1, cs.setIfInBounds m (.int .u8 f), hlt, by have := HM.out; congr 1; omega, HS.out.1, by rw [Array.size_setIfInBounds]; exact H2.out, ?_, HB.out.grown HS.out.2 HB.out.size (fun k hk => by injection hk with hk; have := HGW.out; omega)⟩
        have h3 := H3.out
        have h2 := H2.out
        have hm2 := HM.out
        rw [← Nat.add_assoc, hm2, Array.toList_setIfInBounds, List.take_succ_eq_append_getElem (by rw [List.length_set, Array.length_toList]; omega), List.take_set_of_le (Nat.le_refl _), h3]
        simp [nums, List.replicate_succ']
      case measure => simp [intOf]; omega
    · obtain rfl : j = 3 := by omega
      have hcs : cs = fullCsB xs f := by
        rw [List.take_of_length_le (by rw [Array.length_toList]; omega)] at h3
        rw [fullCsB, ← Array.toArray_toList (xs := cs), h3]; rfl
      subst hcs
      clear hb h1 h2 h3 HF
      go_wp2
      go_ret
      have := HGW.out
      exact ⟨by rw [this]; rfl, by rw [← this]; exact H1.out, HB.out⟩
end Go.Proofs.YtplghlokjgjjbaaDoor
