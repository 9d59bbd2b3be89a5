/- The reference's Print. -/
import Derived.Test.YtplghlokjgjjbaaDoorL21
import Derived.Test.YtplghlokjgjjbaaDoorL16
namespace Go.Proofs.YtplghlokjgjjbaaDoor
open Go.RowKit Go.Proofs.YtplghlokjgjjbaaDoorW.PrintWords

theorem wordsOf_good {k x : Int} (h : ¬ badK k x) : wordsOf k = formAt k.toNat ∧ (wordsOf k).1.toList.isEmpty = false ∧ (wordsOf k).1.size ≤ 8 := by
  have h1 : 1 ≤ k ∧ k ≤ 14 := by unfold badK at h; omega
  have hw : wordsOf k = formAt k.toNat := by rw [wordsOf, if_pos h1]
  rw [hw]
  refine ⟨rfl, ?_, form_size _ (by omega)⟩
  rw [str_isEmpty]
  have h2 : ∀ q, 1 ≤ q → q < 15 → decide ((formAt q).1.size = 0) = false := by
    intro q a b
    match q, a, b with
    | 1, _, _ | 2, _, _ | 3, _, _ | 4, _, _ | 5, _, _ | 6, _, _ | 7, _, _ | 8, _, _ | 9, _, _ | 10, _, _ | 11, _, _ | 12, _, _ | 13, _, _ | 14, _, _ => decide
  exact h2 _ (by omega) (by omega)
theorem ofL_e1' : (ofL []).toList.isEmpty = true := by rw [ByteArray.toList_eq]; rfl
/-- What the reference asks ahead of the list. -/
def GoodC (n x y : Int) (len : Nat) : Prop := mayB x = true ∧ mayB y = true ∧ (n < 2 → y = 0) ∧ (n < 1 → x = 0) ∧ (0 ≤ n → len = 0)
def argsC (n x y : Int) (l : List Int) : List Int := if n < 0 then l else [x, y].take n.toNat
theorem may_iff {x : Int} : mayB x = true ↔ 0 ≤ x ∧ x ≤ 999999999 := by rw [mayB, decide_eq_true_eq]
theorem printS_good {k x y : Int} {l : List Int} (hb : ¬ badK k x) (hg : GoodC (wordsOf k).2 x y l.length) : printS k x y l = printN (wordsOf k).1 (argsC (wordsOf k).2 x y l) := by
  obtain ⟨hw, _, _⟩ := wordsOf_good hb
  obtain ⟨_, _, g3, g4, g5⟩ := hg
  rw [hw] at *
  rw [printS, if_neg hb, numbersP, argsC]
  split
  · rw [if_pos ⟨g4 (by omega), g3 (by omega)⟩]; rfl
  · rw [if_neg (by
      rintro (⟨h1, h2⟩ | ⟨h1, h2⟩ | h)
      · exact h2 (g3 h1)
      · exact h2 (g4 h1)
      · have := g5 (by omega); omega)]; rfl
theorem printS_bad {k x y : Int} {l : List Int} (h : ¬ GoodC (wordsOf k).2 x y l.length) : printS k x y l = none := by
  by_cases hb : badK k x
  · rw [printS, if_pos hb]
  · obtain ⟨hw, _, h8⟩ := wordsOf_good hb
    cases hp : printS k x y l with
    | none => rfl
    | some t =>
      exfalso
      apply h
      have h1 : k.toNat < 15 := by unfold badK at hb; omega
      have hn := form_n k.toNat h1
      rw [printS, if_neg hb, numbersP] at hp
      rw [hw]
      generalize (formAt k.toNat).2 = n at *
      split at hp
      · split at hp
        · rename_i hxy
          exact ⟨by rw [hxy.1]; decide, by rw [hxy.2]; decide, fun _ => hxy.2, fun _ => hxy.1, fun h => by omega⟩
        · cases hp
      · split at hp
        · cases hp
        · rename_i hc
          rw [Option.bind_some, printN_iff (by rw [hw] at h8; exact h8)] at hp
          have hz := hp.2.1
          refine ⟨?_, ?_, fun h => Decidable.byContradiction fun e => hc (.inl ⟨h, e⟩), fun h => Decidable.byContradiction fun e => hc (.inr (.inl ⟨h, e⟩)), fun _ => by omega⟩
          · rw [may_iff]
            by_cases h0 : n < 1
            · have : x = 0 := Decidable.byContradiction fun e => hc (.inr (.inl ⟨h0, e⟩))
              omega
            · exact hz x (by rcases (show n = 1 ∨ n = 2 by omega) with rfl | rfl <;> simp)
          · rw [may_iff]
            by_cases h0 : n < 2
            · have : y = 0 := Decidable.byContradiction fun e => hc (.inl ⟨h0, e⟩)
              omega
            · exact hz y (by rcases (show n = 2 by omega) with rfl; simp)
theorem joinW_app (wd : ByteArray) (ds : List ByteArray) (d : ByteArray) : joinW wd ds ++ ⟨#[32]⟩ ++ d = joinW wd (ds ++ [d]) := by
  rw [← ofL_data (joinW wd ds ++ ⟨#[32]⟩ ++ d), ← ofL_data (joinW wd (ds ++ [d]))]
  congr 1
  rw [joinW_data, List.map_append, List.flatten_append]
  simp only [ByteArray.toList_data_append, joinW_data]
  simp
theorem joinW_nil (wd : ByteArray) : joinW wd [] = wd := by
  rw [← ofL_data (joinW wd []), joinW_data]; simp [ofL_data]
theorem wordsD_take {l : List Int} {j : Nat} (h : j < l.length) : wordsD (l.take (j + 1)) = wordsD (l.take j) ++ [ofL (dig (gi l j).toNat)] := by
  rw [take_gi h, wordsD, List.map_append]; rfl
theorem joinW_le (wd : ByteArray) (l : List Int) (j : Nat) : (joinW wd (wordsD (l.take j))).size ≤ (joinW wd (wordsD l)).size := by
  rw [joinW_size, joinW_size, words_sum, words_sum]
  have h : ∀ (l : List Int) (j : Nat), sumD (l.take j) ≤ sumD l := by
    intro l
    induction l with
    | nil => intro j; simp
    | cons z r ih =>
      intro j
      cases j with
      | zero => simp [sumD]
      | succ j => rw [List.take_succ_cons, sumD_cons, sumD_cons]; have := ih j; omega
  have := h l j
  omega

/-- Good words: what the walk needs of them. -/
structure Calm (wd : ByteArray) : Prop where
  ne : wd.toList.isEmpty = false
  le : wd.size ≤ 8
set_option maxRecDepth 100000 in
set_option maxHeartbeats 4000000 in
theorem refPrint_bad (k x y : Int) (A : Option Addr) (c : Nat) (l : List Int) (w : World) (hl : RdI w A l) (hbad : badK k x ∨ ¬ GoodC (wordsOf k).2 x y l.length) :
    Calls Tryd.prog 19 #[.agg #[.int .i64 k, .int .i64 x, .int .i64 y, .slice A l.length c]] w (PrintPost w none) := by
  have hll := hl.1
  clear hl
  obtain ⟨wd, hwd⟩ : ∃ wd, wd = (wordsOf k).1 := ⟨_, rfl⟩
  obtain ⟨n, hn⟩ : ∃ n, n = (wordsOf k).2 := ⟨_, rfl⟩
  have HW := Lib.hid (show ∀ w : World, Calls Tryd.prog 36 #[.int .i64 k] w fun e w' => e = .returned (.tuple #[.string wd, .int .i64 n]) ∧ w = w' from fun w => by rw [hwd, hn]; exact refWords_any k w)
  have h6 : k = 6 → n = 1 := by rintro rfl; rw [hn]; decide
  have hcases : (wd.toList.isEmpty = true) ∨ (wd.toList.isEmpty = false ∧ ((mayB x = false) ∨ (mayB x = true ∧ ((mayB y = false) ∨ (mayB y = true ∧ (
      (n < 2 ∧ (y != 0) = true) ∨ (n < 2 ∧ (y != 0) = false ∧ n < 1 ∧ (x != 0) = true) ∨
      (n < 2 ∧ (y != 0) = false ∧ n < 1 ∧ (x != 0) = false ∧ 0 ≤ n ∧ 0 < l.length) ∨
      (n < 2 ∧ (y != 0) = false ∧ ¬ n < 1 ∧ 0 ≤ n ∧ 0 < l.length) ∨
      (¬ n < 2 ∧ ¬ n < 1 ∧ 0 ≤ n ∧ 0 < l.length) ∨
      ((k == 6) = true ∧ n = 1 ∧ (y != 0) = false ∧ l.length = 0 ∧ (x != 1) = true ∧ (x != 2) = true))))))) := by
    cases he : wd.toList.isEmpty
    · refine .inr ⟨rfl, ?_⟩
      cases hmx : mayB x
      · exact .inl rfl
      · refine .inr ⟨rfl, ?_⟩
        cases hmy : mayB y
        · exact .inl rfl
        · refine .inr ⟨rfl, ?_⟩
          by_cases g1 : n < 2 ∧ y ≠ 0
          · exact .inl ⟨g1.1, by simpa using g1.2⟩
          by_cases g2 : n < 1 ∧ x ≠ 0
          · exact .inr (.inl ⟨by omega, by simpa using (show y = 0 by omega), g2.1, by simpa using g2.2⟩)
          by_cases g3 : 0 ≤ n ∧ 0 < l.length
          · by_cases a1 : n < 2
            · have hy0 : (y != 0) = false := by simpa using (show y = 0 by omega)
              by_cases a2 : n < 1
              · exact .inr (.inr (.inl ⟨a1, hy0, a2, by simpa using (show x = 0 by omega), g3⟩))
              · exact .inr (.inr (.inr (.inl ⟨a1, hy0, a2, g3⟩)))
            · exact .inr (.inr (.inr (.inr (.inl ⟨a1, by omega, g3⟩))))
          · rcases hbad with hb | hg
            · rcases hb with hb | hb | ⟨rfl, h1, h2⟩
              · exfalso
                rw [hwd, wordsOf, if_neg (by omega), ofL_data ⟨#[]⟩ |>.symm] at he
                rw [show ofL (ByteArray.mk #[]).data.toList = ofL [] from rfl, ofL_e1'] at he
                cases he
              · exfalso
                rw [hwd, wordsOf, if_neg (by omega), ofL_data ⟨#[]⟩ |>.symm] at he
                rw [show ofL (ByteArray.mk #[]).data.toList = ofL [] from rfl, ofL_e1'] at he
                cases he
              · have hn1 := h6 rfl
                exact .inr (.inr (.inr (.inr (.inr ⟨rfl, hn1, by simpa using (show y = 0 by omega), by omega, by simpa using h1, by simpa using h2⟩))))
            · exfalso
              rw [← hn] at hg
              exact hg ⟨hmx, hmy, fun h => by omega, fun h => by omega, fun h => by omega⟩
    · exact .inl rfl
  have HM := Lib.hid (fun z w => refMay_any z w)
  clear hwd hn h6 hbad
  rcases hcases with h1 | ⟨h1, h2 | ⟨h2, h3 | ⟨h3, ⟨h4, h5⟩ | ⟨h4, h5, h6, h7⟩ | ⟨h4, h5, h6, h7, h8, h9⟩ | ⟨h4, h5, h6, h8, h9⟩ | ⟨h4, h6, h8, h9⟩ | ⟨h0, rfl, h5, h9, h10, h11⟩⟩⟩⟩
  case' inl => have h1' : wd.toList = [] := by simpa using h1
  all_goals
    go_enter Tryd.func19, Tryd.ntmps19
    go_wp2_with (first
      | (go_at_call 36; refine (HW.out _).mono ?_; rintro e w' ⟨rfl, rfl⟩)
      | (go_at_call 38; refine (HM.out _ _).mono ?_; rintro e w' ⟨rfl, rfl⟩))
    go_ret2
    exact printPost_none (below_alloc (Below.refl _ _) _)
end Go.Proofs.YtplghlokjgjjbaaDoor
