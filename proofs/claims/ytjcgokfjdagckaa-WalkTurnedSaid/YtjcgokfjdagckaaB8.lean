/- walk.ways: paths, which of their edges are the matching's. A set of whole numbers that the call itself keeps in a map. -/
import Derived.Test.YtjcgokfjdagckaaB7
import Derived.Maps.OwnOps
import Derived.Maps.Views
import Derived.Carry
namespace Go.Proofs.Ytjcgokfjdagckaa
open Go.RowKit Go.Proofs.YtjcgokfjdagckaaW.PrintWords

/-! ### a set of whole numbers, as map[int]bool -/
theorem und_int : Try.prog.underlying 3 = some (.int .i64) := by kernel_rfl
theorem und_bool : Try.prog.underlying 4 = some .bool := by kernel_rfl
theorem und_set : Try.prog.underlying 74 = some (.map 3 4) := by kernel_rfl
theorem key_int : Maps.Keyed Try.prog 3 := Maps.int_keyed und_int
theorem zero_bool : ∀ w : World, (zeroValue 4).run Try.prog w = .ok (.bool false) w := fun _ => by kernel_rfl
def SetI (w : World) (b k : Nat) (s : List Int) : Prop :=
  ∃ D : DataW Unit, w.ownsMap Try.prog 3 (plainElem Try.prog 4) b k D ∧ ∀ x : Int, D.atKey (.int .i64 x) (.lit (.bool false)) = .lit (.bool (decide (x ∈ s)))
theorem SetI.made (w : World) : SetI (w.alloc (.map #[] 0)) w.heap.size 0 [] :=
  ⟨.map [], World.ownsMap_made w _ _ _, fun x => by simp [DataW.atKey]⟩
theorem SetI.lt {w : World} {b k : Nat} {s : List Int} (h : SetI w b k s) : b < w.heap.size := by obtain ⟨D, h, _⟩ := h; exact h.lt
theorem SetI.block {w w1 : World} {b k : Nat} {s : List Int} (h : SetI w b k s) (hb : w1.heap[b]? = w.heap[b]?) : SetI w1 b k s := by
  obtain ⟨D, ⟨es, clock, h1, h2⟩, h3⟩ := h
  exact ⟨D, ⟨es, clock, hb.trans h1, h2⟩, h3⟩
theorem SetI.below {w w1 : World} {b k : Nat} {s : List Int} (h : SetI w b k s) (hb : Below w.heap.size w w1) : SetI w1 b k s := h.block (hb.block _ h.lt)
theorem SetI.look {w : World} {b k : Nat} {s : List Int} (h : SetI w b k s) {x : Int} (hx : (Lit.int .i64 x).wf = true) :
    (Instr.lookup 74 (.map (some b)) (.int .i64 x) false).run Try.prog w = .ok (.bool (decide (x ∈ s))) w := by
  obtain ⟨D, h1, h2⟩ := h
  obtain ⟨v, ps, hr, hv⟩ := h1.lookup key_int und_set (zero_bool w) (zd := .lit (.bool false)) (zp := []) (plainElem_bool und_bool false) (Maps.keyOf_int_mk und_int hx)
  rw [h2] at hv
  rw [hr]
  have : v = .bool (decide (x ∈ s)) := by
    unfold plainElem at hv
    rw [und_bool] at hv
    cases v <;> simp at hv
    obtain ⟨hv, _⟩ := hv
    rw [hv]
  rw [this]
theorem SetI.put {w : World} {b k : Nat} {s : List Int} {x : Int} {D : DataW Unit} (h2 : ∀ x : Int, D.atKey (.int .i64 x) (.lit (.bool false)) = .lit (.bool (decide (x ∈ s))))
    (hm : w.ownsMap Try.prog 3 (plainElem Try.prog 4) b (k + 1) (D.put (.int .i64 x) (.lit (.bool true)))) (hD : Maps.IsMap D) : SetI w b (k + 1) (s ++ [x]) := by
  refine ⟨_, hm, fun y => ?_⟩
  by_cases e : y = x
  · subst e
    rw [Maps.atKey_put_same hD (by trivial)]; simp
  · rw [Maps.atKey_put_other (by intro h; injection h with _ h; exact e h), h2]; simp [e]
theorem isMap_own {w : World} {b k : Nat} {D : DataW Unit} (h : w.ownsMap Try.prog 3 (plainElem Try.prog 4) b k D) : Maps.IsMap D := by
  obtain ⟨es, clock, _, _, _, rfl⟩ := h
  exact ⟨_, rfl⟩

/-! ### what path, alternates, augments reckon -/
def stepOk (n : Int) (es : List (Int × Int)) (xs : List Int) (i : Nat) : Bool :=
  decide (0 ≤ gi xs i) && decide (gi xs i < n) && !decide (gi xs i ∈ xs.take i) && (decide (i = 0) || hasB n es (gi xs (i - 1)) (gi xs i))
def pathB (n : Int) (es : List (Int × Int)) (xs : List Int) : Bool := decide (0 < xs.length) && (List.range xs.length).all (stepOk n es xs)
theorem path_not {n : Int} {es : List (Int × Int)} {xs : List Int} {k : Nat} (hk : k < xs.length) (h' : stepOk n es xs k = false) : pathB n es xs = false := by
  unfold pathB
  have : (List.range xs.length).all (stepOk n es xs) = false := by
    rw [List.all_eq_false]; exact ⟨k, by simpa using hk, by simp [h']⟩
  rw [this]; simp

/-- The receiver: a graph, and a matching. -/
abbrev waysV (n : Int) (A : Option Addr) (c l : Nat) (B : Option Addr) (d m : Nat) : Value := .agg #[.int .i64 n, .slice A l c, .slice B m d]

set_option maxHeartbeats 400000 in
theorem own_any (n : Int) (A : Option Addr) (c l : Nat) (B : Option Addr) (d : Nat) (mate : List Int) (a b : Int) (w : World) (h : RdI w B mate) (h0 : 0 ≤ a) (h1 : a < mate.length) :
    Calls Try.prog 30 #[waysV n A c l B d mate.length, .int .i64 a, .int .i64 b] w fun e w' => e = .returned (.bool (gi mate a.toNat == b)) ∧ Below w.heap.size w w' := by
  obtain ⟨x, rfl⟩ := Int.eq_ofNat_of_zero_le h0
  obtain ⟨ad, rfl, hc⟩ := h.2 x (by omega)
  have hlt := World.block_lt_of_cell? w _ hc
  rw [Int.toNat_natCast]
  go_enter Try.func30, Try.ntmps30
  have hcc : ∀ o, (w.alloc o).cell? (ad.add x) = some (.int .i64 (gi mate x)) := fun o => cell_below (below_alloc (Below.refl _ _) o) hc
  go_wp2
  go_ret
  exact ⟨rfl, below_alloc (Below.refl _ _) _⟩

set_option maxRecDepth 100000 in
set_option maxHeartbeats 4000000 in
theorem path_any (n : Int) (A : Option Addr) (c : Nat) (es : List (Int × Int)) (B : Option Addr) (d m : Nat) (X : Option Addr) (cx : Nat) (xs : List Int) (w : World) (h : RdE w A es) (hx : RdI w X xs) (hn : n ≤ 4096) :
    Calls Try.prog 38 #[waysV n A c es.length B d m, .slice X xs.length cx] w fun e w' => e = .returned (.bool (pathB n es xs)) ∧ Below w.heap.size w w' := by
  have hel := h.1
  have hxl := hx.1
  have HE := Lib.hid h
  have HX := Lib.hid hx
  clear h hx
  have hmm := @run_makeMap Try.prog
  go_enter Try.func38, Try.ntmps38
  go_wp2
  clear hmm
  have HB0 : Hid (Below w.heap.size w ((w.alloc (.cells #[.int .i64 n, .slice A es.length c, .slice B m d] 52)).alloc (.map #[] 0))) := below_alloc (below_alloc (Below.refl _ _) _) _
  have HS0 : Hid (SetI ((w.alloc (.cells #[.int .i64 n, .slice A es.length c, .slice B m d] 52)).alloc (.map #[] 0)) (w.heap.size + 1) 0 []) := by
    have := SetI.made (w.alloc (.cells #[.int .i64 n, .slice A es.length c, .slice B m d] 52))
    rwa [World.size_alloc] at this
  have HG0 : Hid (((w.alloc (.cells #[.int .i64 n, .slice A es.length c, .slice B m d] 52)).alloc (.map #[] 0)).heap[w.heap.size]? = some (.cells #[.int .i64 n, .slice A es.length c, .slice B m d] 52)) := blk_alloc (heap_alloc_new _ _) _
  go_loopw [11] (fun i wr => ∃ k : Nat, k ≤ xs.length ∧ i = .int .i64 k ∧ Hid (∀ j, j < k → stepOk n es xs j = true) ∧ Hid (Below w.heap.size w wr) ∧ Hid (SetI wr (w.heap.size + 1) k (xs.take k)) ∧ Hid (wr.heap[w.heap.size]? = some (.cells #[.int .i64 n, .slice A es.length c, .slice B m d] 52))) (fun i _ => xs.length - (intOf i).toNat)
  case atStart => exact ⟨0, Nat.zero_le _, by simp, (fun j hj => by omega), HB0, HS0, HG0⟩
  case round =>
    obtain ⟨k, hk, rfl, HK, HBr, HSr, HGr⟩ := hrel
    clear HB0 HS0 HG0
    by_cases hlt : k < xs.length
    · obtain ⟨ad, rfl, c1⟩ := (HX.out.below HBr.out).2 k hlt
      have cg1 := blk_cell HGr.out 0 rfl
      by_cases x1 : gi xs k < 0
      · have hno : stepOk n es xs k = false := by unfold stepOk; rw [decide_eq_false (by omega : ¬ 0 ≤ gi xs k)]; simp
        have HR0 := Lib.hid (path_not hlt hno)
        have d1 : decide (gi xs k < 0) = true := decide_eq_true x1
        clear x1 hno
        go_wp2
        go_quiet (fail)
        go_wp2
        go_ret
        exact ⟨ret_bool HR0.out.symm, below_drewN HBr.out _⟩
      by_cases x2 : n ≤ gi xs k
      · have hno : stepOk n es xs k = false := by unfold stepOk; rw [decide_eq_false (by omega : ¬ gi xs k < n)]; simp
        have HR0 := Lib.hid (path_not hlt hno)
        have e1 : decide (gi xs k < 0) = false := decide_eq_false x1
        have d1 : decide (n ≤ gi xs k) = true := decide_eq_true x2
        clear x1 x2 hno
        go_wp2
        go_quiet (fail)
        go_wp2
        go_ret
        exact ⟨ret_bool HR0.out.symm, below_drewN HBr.out _⟩
      have e1 : decide (gi xs k < 0) = false := decide_eq_false x1
      have e2 : decide (n ≤ gi xs k) = false := decide_eq_false x2
      have hwf : (Lit.int .i64 (gi xs k)).wf = true := by
        simp only [Lit.wf, IntKind.min, IntKind.max, Bool.and_eq_true]; constructor <;> (simp [IntKind.bits, IntKind.signed]; omega)
      by_cases x3 : gi xs k ∈ xs.take k
      · have hno : stepOk n es xs k = false := by unfold stepOk; rw [decide_eq_true x3]; simp
        have HR0 := Lib.hid (path_not hlt hno)
        have hlk : ∀ q, (Instr.lookup 74 (.map (some (w.heap.size + 1))) (.int .i64 (gi xs k)) false).run Try.prog (wr.drewN q) = .ok (.bool true) (wr.drewN q) := fun q => by
          have := (HSr.out.block (w1 := wr.drewN q) rfl).look hwf
          rwa [decide_eq_true x3] at this
        clear x1 x2 x3 hno
        go_wp2
        go_quiet (fail)
        go_wp2
        go_ret
        exact ⟨ret_bool HR0.out.symm, below_drewN HBr.out _⟩
      by_cases hk0 : k = 0
      · have hok : stepOk n es xs k = true := by unfold stepOk; rw [decide_eq_true (by omega : 0 ≤ gi xs k), decide_eq_true (by omega : gi xs k < n), decide_eq_false x3, decide_eq_true hk0]; rfl
        have HOK := Lib.hid hok
        have hlk : ∀ q, (Instr.lookup 74 (.map (some (w.heap.size + 1))) (.int .i64 (gi xs k)) false).run Try.prog (wr.drewN q) = .ok (.bool false) (wr.drewN q) := fun q => by
          have := (HSr.out.block (w1 := wr.drewN q) rfl).look hwf
          rwa [decide_eq_false x3] at this
        have e4 : decide (0 < k) = false := decide_eq_false (by omega)
        clear hk0 hok x1 x2 x3
        go_wp2
        go_quiet (fail)
        have HSY : Hid (SetI (wr.drewN nq) (w.heap.size + 1) k (xs.take k)) := HSr.out.block rfl
        have HBY := Lib.hid (below_drewN HBr.out nq)
        have HGY : Hid ((wr.drewN nq).heap[w.heap.size]? = some (.cells #[.int .i64 n, .slice A es.length c, .slice B m d] 52)) := HGr
        clear hlk c1 cg1 HBr HSr HGr
        generalize wr.drewN nq = Y at *
        obtain ⟨D, hD, hDa⟩ := HSY.out
        have hkey := Maps.keyOf_int_mk und_int hwf
        have hval := plainElem_bool (H := Unit) und_bool true
        have HDa := Lib.hid hDa
        have HDm := Lib.hid (isMap_own hD)
        clear hDa
        go_wp2_with ((at_mapUpdate; refine wpList_mapUpdate_own _ rfl _ _ _ 74 rfl 3 4 key_int und_set _ (w.heap.size + 1) k D rfl hD (by unfold maxLen; omega) _ _ _ rfl rfl hkey _ [] hval ?_; intro w9 hm9 hg9))
        have HS9 := Lib.hid (SetI.put HDa.out hm9 HDm.out)
        have HB9 := Lib.hid (grown_below hg9 HBY.out HBY.out.size (fun j hj => by injection hj with hj; omega))
        have HG9 := Lib.hid ((hg9.block w.heap.size (blk_lt HGY.out) (by simp)).trans HGY.out)
        clear hm9 hg9
        go_roundw
        case rel => exact ⟨k + 1, hlt, by go_num, (fun j hj => by
          by_cases e : j = k
          · rw [e]; exact HOK.out
          · exact HK.out j (by omega)), HB9, by rw [take_gi hlt]; exact HS9, HG9⟩
        case measure => simp [intOf]; omega
      · obtain ⟨p, rfl⟩ : ∃ p, k = p + 1 := ⟨k - 1, by omega⟩
        obtain ⟨ad', hadd, c3⟩ := (HX.out.below HBr.out).2 p (by omega)
        obtain rfl : ad' = ad := by simpa using hadd.symm
        have hlk : ∀ q, (Instr.lookup 74 (.map (some (w.heap.size + 1))) (.int .i64 (gi xs (p + 1))) false).run Try.prog (wr.drewN q) = .ok (.bool false) (wr.drewN q) := fun q => by
          have := (HSr.out.block (w1 := wr.drewN q) rfl).look hwf
          rwa [decide_eq_false x3] at this
        have hlk1 : (Instr.lookup 74 (.map (some (w.heap.size + 1))) (.int .i64 (gi xs (p + 1))) false).run Try.prog wr.drew = .ok (.bool false) wr.drew := hlk 1
        have e4 : decide (0 < ((p : Int) + 1)) = true := decide_eq_true (by omega)
        have e5 : IntKind.i64.wrap (p : Int) = (p : Int) := IntWalk.i64_in _ (by omega)
        have e6 : (0 : Int) ≤ (p : Int) := by omega
        have e7 : (p : Int) < (xs.length : Int) := by omega
        have cg2 := blk_cell HGr.out 1 rfl
        have cg3 := blk_cell HGr.out 2 rfl
        have HX0 := Lib.hid (And.intro x1 (And.intro x2 x3))
        have c1' := c1
        rw [add_succ] at c1'
        clear hk0 hadd x1 x2 x3 hlk
        go_wp2
        go_region_held3 (fun w' => w'.cell? ⟨w.heap.size, 0, none⟩ = some (.int .i64 n) ∧ w'.cell? ⟨w.heap.size, 1, none⟩ = some (.slice A es.length c) ∧ w'.cell? (ad'.add p) = some (.int .i64 (gi xs p)) ∧ (Instr.lookup 74 (.map (some (w.heap.size + 1))) (.int .i64 (gi xs (p + 1))) false).run Try.prog w' = .ok (.bool false) w')
          (first | go_keep | (refine ⟨?_, ?_, ?_, ?_⟩; all_goals first | (refine cell_below (by assumption) ?_; simp [*]; done) | ((have := (SetI.below (w := wr.drew) HSr.out (by assumption)).look hwf); (rwa [decide_eq_false HX0.out.2.2] at this))))
          ((first | (go_at_call 47; refine (has_any n A c es (gi xs p) (gi xs (p + 1)) _ ?_).mono ?_; exact HE.out.below (below_thn HBr.out (Below.refl _ _).drew); rintro e w' ⟨rfl, hbw⟩)))
        have HSY := Lib.hid (SetI.below (w := wr.drew) HSr.out hbw)
        have HBY := Lib.hid (below_thn HBr.out (below_thn (Below.refl _ _).drew hbw))
        have HGY := Lib.hid (blk_below (w := wr.drew) HGr.out hbw)
        clear hlk1 c1 c1' c3 cg1 cg2 cg3 HBr HSr HGr hbw
        cases hq : hasB n es (gi xs p) (gi xs (p + 1)) with
        | false =>
          have hno : stepOk n es xs (p + 1) = false := by unfold stepOk; rw [Nat.add_sub_cancel, hq, decide_eq_false (by omega : ¬ p + 1 = 0)]; simp
          have HR0 := Lib.hid (path_not hlt hno)
          have HQ := Lib.hid hq
          clear hq hno
          go_wp2
          go_ret
          exact ⟨ret_bool HR0.out.symm, HBY.out⟩
        | true =>
          have hok : stepOk n es xs (p + 1) = true := by
            obtain ⟨x1, x2, x3⟩ := HX0.out
            unfold stepOk; rw [Nat.add_sub_cancel, hq, decide_eq_true x1, decide_eq_true x2, decide_eq_false x3]; simp
          have HOK := Lib.hid hok
          clear hq hok
          obtain ⟨D, hD, hDa⟩ := HSY.out
          have hkey := Maps.keyOf_int_mk und_int hwf
          have hval := plainElem_bool (H := Unit) und_bool true
          have HDa := Lib.hid hDa
          have HDm := Lib.hid (isMap_own hD)
          clear hDa
          go_wp2_with ((at_mapUpdate; refine wpList_mapUpdate_own _ rfl _ _ _ 74 rfl 3 4 key_int und_set _ (w.heap.size + 1) (p + 1) D rfl hD (by unfold maxLen; omega) _ _ _ rfl rfl hkey _ [] hval ?_; intro w9 hm9 hg9))
          have HS9 := Lib.hid (SetI.put HDa.out hm9 HDm.out)
          have HB9 := Lib.hid (grown_below hg9 HBY.out HBY.out.size (fun j hj => by injection hj with hj; omega))
          have HG9 := Lib.hid ((hg9.block w.heap.size (blk_lt HGY.out) (by simp)).trans HGY.out)
          clear hm9 hg9
          go_roundw
          case rel => exact ⟨p + 1 + 1, hlt, by go_num, (fun j hj => by
            by_cases e : j = p + 1
            · rw [e]; exact HOK.out
            · exact HK.out j (by omega)), HB9, by rw [take_gi hlt]; exact HS9, HG9⟩
          case measure => simp [intOf]; omega
    · have hR : Hid (pathB n es xs = decide (0 < xs.length)) := by
        show _ = _
        unfold pathB
        have : (List.range xs.length).all (stepOk n es xs) = true := by
          rw [List.all_eq_true]; intro j hj; exact HK.out j (by have := List.mem_range.1 hj; omega)
        rw [this]; simp
      go_wp2
      go_ret
      refine ⟨ret_bool (hR.out.trans ?_).symm, HBr.out⟩
      simp

end Go.Proofs.Ytjcgokfjdagckaa
