/- What is printed is parsed; what is parsed, printed again, is the same line: plain laws. -/
import Derived.Test.YtplghlokjgjjbaaDoorL15
namespace Go.Proofs.YtplghlokjgjjbaaDoor
open Go.RowKit Go.Proofs.YtplghlokjgjjbaaDoorW.PrintWords

/-! ### numbers as words -/
theorem numL_one (c : UInt8) (a v : Int) (h : numL [(c.toNat : Int)] a = some v) : 48 ≤ c.toNat ∧ c.toNat ≤ 57 ∧ v = 10 * a + (c.toNat - 48 : Nat) := by
  rw [numL] at h
  split at h
  · cases h
  · rw [numL] at h
    injection h with h
    omega
theorem byte_of {c : UInt8} {d : Nat} (h1 : 48 ≤ c.toNat) (h2 : d = c.toNat - 48) (h3 : c.toNat ≤ 57) : UInt8.ofNat (48 + d) = c := by
  apply UInt8.toNat_inj.1
  rw [digit_toNat (by omega)]
  omega
theorem canon (m : Nat) : ∀ (l : List UInt8) (c : UInt8) (v : Int), l.length = m → numL (toI (l ++ [c])) 0 = some v → (l ≠ [] → l.head? ≠ some 48) →
    ∃ n : Nat, v = n ∧ dig n = l ++ [c] ∧ ((l ++ [c]).head? ≠ some 48 → 1 ≤ n) := by
  induction m with
  | zero =>
    intro l c v hl h _
    obtain rfl : l = [] := List.eq_nil_of_length_eq_zero hl
    obtain ⟨h1, h2, h3⟩ := numL_one c 0 v h
    refine ⟨c.toNat - 48, by omega, ?_, fun hh => ?_⟩
    · rw [dig, if_pos (by omega), byte_of h1 rfl h2]; rfl
    · rcases Nat.eq_zero_or_pos (c.toNat - 48) with h0 | h0
      · exfalso
        apply hh
        have : c = 48 := UInt8.toNat_inj.1 (by show c.toNat = 48; omega)
        rw [this]; rfl
      · exact h0
  | succ m ih =>
    intro l c v hl h h0
    obtain ⟨l', c', rfl⟩ : ∃ l' c', l = l' ++ [c'] := by
      rcases List.eq_nil_or_concat l with h | ⟨a, b, h⟩
      · rw [h] at hl; simp at hl
      · exact ⟨a, b, by rw [h, List.concat_eq_append]⟩
    rw [toI_append, numL_append] at h
    cases hv : numL (toI (l' ++ [c'])) 0 with
    | none => rw [hv] at h; cases h
    | some v' =>
      rw [hv, Option.bind_some] at h
      have hhead : (l' ++ [c']).head? ≠ some 48 := h0 (by simp)
      obtain ⟨n, hn, hd, hpos⟩ := ih l' c' v' (by simp at hl; omega) hv (fun hne e => hhead (by cases l' with
        | nil => exact absurd rfl hne
        | cons a r => simpa using e))
      have hp := hpos hhead
      obtain ⟨h1, h2, h3⟩ := numL_one c v' v h
      refine ⟨10 * n + (c.toNat - 48), by rw [h3, hn]; omega, ?_, fun _ => by omega⟩
      rw [dig, if_neg (by omega), show (10 * n + (c.toNat - 48)) / 10 = n by omega, show (10 * n + (c.toNat - 48)) % 10 = c.toNat - 48 by omega, hd, byte_of h1 rfl h2]
theorem numS_canon {s : ByteArray} {v : Int} (h : numS s = some v) : 0 ≤ v ∧ v ≤ 999999999 ∧ s = ofL (dig v.toNat) := by
  rw [numS] at h
  split at h
  · cases h
  · rename_i hb
    have hs : s.data.toList.length = s.size := data_length s
    obtain ⟨l, c, hlc⟩ : ∃ l c, s.data.toList = l ++ [c] := by
      rcases List.eq_nil_or_concat s.data.toList with h | ⟨a, b, h⟩
      · rw [h] at hs; simp at hs; omega
      · exact ⟨a, b, by rw [h, List.concat_eq_append]⟩
    have h' : numL (toI (l ++ [c])) 0 = some v := by rw [← hlc]; exact h
    have h0 : l ≠ [] → l.head? ≠ some 48 := by
      intro hne e
      apply hb
      refine .inr (.inr ⟨?_, ?_⟩)
      · have : 0 < l.length := List.length_pos_iff.2 hne
        rw [← hs, hlc, List.length_append]; simp; omega
      · rw [bytes_toI, hlc]
        cases l with
        | nil => exact absurd rfl hne
        | cons a r => simp at e; subst e; rfl
    obtain ⟨n, rfl, hd, _⟩ := canon l.length l c v rfl h' h0
    have hs2 : s = ofL (dig n) := by rw [hd, ← hlc, ofL_data]
    refine ⟨by omega, ?_, by rw [Int.toNat_natCast]; exact hs2⟩
    rcases Nat.lt_or_ge n 1000000000 with h1 | h1
    · omega
    · have := dig_gt 9 n (by have : (10 : Nat) ^ 9 = 1000000000 := by decide
                             omega)
      rw [hd, ← hlc, hs] at this
      omega
theorem numS_word {z : Int} (h0 : 0 ≤ z) (h1 : z ≤ 999999999) : numS (ofL (dig z.toNat)) = some z := by
  rw [numS_dig, if_pos (by omega)]
  congr 1; omega
def wordsD (xs : List Int) : List ByteArray := xs.map fun z => ofL (dig z.toNat)
theorem numsS_words : ∀ (xs : List Int), (∀ z ∈ xs, 0 ≤ z ∧ z ≤ 999999999) → numsS (wordsD xs) = some xs
  | [], _ => rfl
  | z :: r, h => by
    have hz := h z List.mem_cons_self
    show numsS (ofL (dig z.toNat) :: wordsD r) = _
    rw [numsS, numS_word hz.1 hz.2, numsS_words r (fun y hy => h y (List.mem_cons_of_mem _ hy))]
theorem numsS_canon : ∀ {l : List ByteArray} {xs : List Int}, numsS l = some xs → l = wordsD xs ∧ ∀ z ∈ xs, 0 ≤ z ∧ z ≤ 999999999
  | [], xs, h => by
    rw [numsS] at h; injection h with h; subst h
    exact ⟨rfl, by simp⟩
  | s :: r, xs, h => by
    rw [numsS] at h
    cases h1 : numS s with
    | none => rw [h1] at h; cases h
    | some v =>
      rw [h1] at h
      cases h2 : numsS r with
      | none => rw [h2] at h; cases h
      | some ys =>
        rw [h2] at h
        injection h with h
        subst h
        obtain ⟨a1, a2, a3⟩ := numS_canon h1
        obtain ⟨b1, b2⟩ := numsS_canon h2
        refine ⟨by rw [a3, b1]; rfl, fun z hz => ?_⟩
        rcases List.mem_cons.1 hz with rfl | hz
        · exact ⟨a1, a2⟩
        · exact b2 z hz
def sumD (xs : List Int) : Nat := (xs.map fun z => 1 + lenD z).sum
theorem sumD_cons (z : Int) (r : List Int) : sumD (z :: r) = 1 + lenD z + sumD r := by simp [sumD]
theorem numsD_iff : ∀ (xs : List Int) (sz : Nat) (ds : List ByteArray), sz ≤ 65536 → (numsD xs sz = some ds ↔ ds = wordsD xs ∧ (∀ z ∈ xs, 0 ≤ z ∧ z ≤ 999999999) ∧ sz + sumD xs ≤ 65536)
  | [], sz, ds, hs => by
    rw [numsD]
    constructor
    · intro h; injection h with h; exact ⟨h.symm, by simp, by simpa [sumD] using hs⟩
    · rintro ⟨rfl, _, _⟩; rfl
  | z :: r, sz, ds, hs => by
    rw [numsD]
    constructor
    · intro h
      split at h
      · cases h
      · split at h
        · cases h
        · rename_i h1 h2
          cases h3 : numsD r (sz + (1 + lenD z)) with
          | none => rw [h3] at h; cases h
          | some ds' =>
            rw [h3] at h
            injection h with h
            subst h
            obtain ⟨e1, e2, e3⟩ := (numsD_iff r _ _ (by omega)).1 h3
            refine ⟨by rw [e1]; rfl, fun y hy => ?_, by rw [sumD_cons]; omega⟩
            rcases List.mem_cons.1 hy with rfl | hy
            · omega
            · exact e2 y hy
    · rintro ⟨rfl, h2, h3⟩
      have hz := h2 z List.mem_cons_self
      rw [sumD_cons] at h3
      rw [if_neg (by omega), if_neg (by omega), (numsD_iff r (sz + (1 + lenD z)) (wordsD r) (by omega)).2 ⟨rfl, fun y hy => h2 y (List.mem_cons_of_mem _ hy), by omega⟩]
      rfl
/-! ### a line cut, and joined -/
theorem joinW_data (wd : ByteArray) (ds : List ByteArray) : (joinW wd ds).data.toList = wd.data.toList ++ (ds.map fun d => 32 :: d.data.toList).flatten := by
  rw [joinW, data_ofL, List.map_cons, Lib.join_cons, Lib.joinTail, List.map_map]
  rfl
theorem split_join : ∀ (ds : List ByteArray) (wd : ByteArray), 32 ∉ wd.data.toList → (∀ d ∈ ds, 32 ∉ d.data.toList) → splitL (wd.data.toList ++ (ds.map fun d => 32 :: d.data.toList).flatten) = (wd :: ds).map (·.data.toList)
  | [], wd, h, _ => by simp [splitL_none h]
  | d :: r, wd, h, hd => by
    rw [List.map_cons, List.flatten_cons, List.cons_append, splitL_append _ h, split_join r d (hd d List.mem_cons_self) (fun y hy => hd y (List.mem_cons_of_mem _ hy))]
    rfl
theorem splitW_join (wd : ByteArray) (ds : List ByteArray) (h : 32 ∉ wd.data.toList) (hd : ∀ d ∈ ds, 32 ∉ d.data.toList) : splitW (joinW wd ds) = wd :: ds := by
  rw [splitW_ofL, joinW_data, split_join ds wd h hd, List.map_map]
  conv => rhs; rw [← List.map_id (wd :: ds)]
  exact List.map_congr_left fun x _ => ofL_data x
theorem join_split : ∀ (l : List UInt8), ∃ a r, splitL l = a :: r ∧ l = a ++ (r.map fun d => 32 :: d).flatten
  | [] => ⟨[], [], rfl, rfl⟩
  | b :: t => by
    obtain ⟨a, r, h1, h2⟩ := join_split t
    by_cases hb : b = 32
    · subst hb
      exact ⟨[], a :: r, by rw [splitL, if_pos rfl, h1], by rw [List.map_cons, List.flatten_cons, List.nil_append, List.cons_append, ← h2]⟩
    · exact ⟨b :: a, r, by rw [splitL, if_neg hb, h1], by rw [List.cons_append, ← h2]⟩
theorem join_splitW (s : ByteArray) : ∃ wd ds, splitW s = wd :: ds ∧ s = joinW wd ds := by
  obtain ⟨a, r, h1, h2⟩ := join_split s.data.toList
  refine ⟨ofL a, r.map ofL, by rw [splitW_ofL, h1]; rfl, ?_⟩
  rw [← ofL_data s, ← ofL_data (joinW _ _), joinW_data, data_ofL, List.map_map]
  congr 1

/-! ### a command and its line -/
theorem kind_of (q : Nat) (h1 : 1 ≤ q) (h2 : q < 15) : kindIx (formAt q).1 0 formW = q := by
  match q, h1, h2 with
  | 1, _, _ | 2, _, _ | 3, _, _ | 4, _, _ | 5, _, _ | 6, _, _ | 7, _, _ | 8, _, _ | 9, _, _ | 10, _, _ | 11, _, _ | 12, _, _ | 13, _, _ | 14, _, _ => decide +kernel
theorem form_blank (q : Nat) (h2 : q < 15) : 32 ∉ (formAt q).1.data.toList := by
  match q, h2 with
  | 0, _ | 1, _ | 2, _ | 3, _ | 4, _ | 5, _ | 6, _ | 7, _ | 8, _ | 9, _ | 10, _ | 11, _ | 12, _ | 13, _ | 14, _ => decide +kernel
theorem kindIx_spec (x : ByteArray) : ∀ (l : List (ByteArray × Int)) (k : Nat) (q : Nat), kindIx x k l = q → ∃ j, j < l.length ∧ q = k + j ∧ (l.getD j (⟨#[]⟩, 0)).1.toList = x.toList ∧ (l.getD j (⟨#[]⟩, 0)).1.toList.isEmpty = false
  | [], k, q, h => by rw [kindIx] at h; omega
  | p :: r, k, q, h => by
    rw [kindIx] at h
    split at h
    · rename_i hp
      simp only [Bool.and_eq_true, Bool.not_eq_true', beq_iff_eq] at hp
      exact ⟨0, by simp, by omega, hp.2, hp.1⟩
    · obtain ⟨j, h1, h2, h3, h4⟩ := kindIx_spec x r (k + 1) q h
      exact ⟨j + 1, by simp only [List.length_cons]; omega, by omega, by simpa using h3, by simpa using h4⟩
theorem kind_word {x : ByteArray} {q : Nat} (h : kindIx x 0 formW = q) : 1 ≤ q ∧ q < 15 ∧ x = (formAt q).1 := by
  obtain ⟨j, h1, h2, h3, h4⟩ := kindIx_spec x formW 0 q h
  obtain rfl : q = j := by omega
  refine ⟨?_, h1, ?_⟩
  · rcases Nat.eq_zero_or_pos q with h0 | h0
    · subst h0; exact absurd h4 (by decide +kernel)
    · exact h0
  · rw [ByteArray.toList_eq, ByteArray.toList_eq] at h3
    rw [← ofL_data x, ← h3, ofL_data]; rfl
theorem words_blank (xs : List Int) : ∀ d ∈ wordsD xs, 32 ∉ d.data.toList := by
  intro d hd
  obtain ⟨z, _, rfl⟩ := List.mem_map.1 hd
  rw [data_ofL]; exact dig_blank _
theorem words_sum (xs : List Int) : ((wordsD xs).map fun d => 1 + d.size).sum = sumD xs := by
  rw [wordsD, List.map_map, sumD]
  exact congrArg List.sum (List.map_congr_left fun z _ => by show 1 + (ofL (dig z.toNat)).size = 1 + lenD z; rw [size_dig])
theorem printN_iff {wd : ByteArray} {xs : List Int} {t : ByteArray} (h8 : wd.size ≤ 8) : printN wd xs = some t ↔ t = joinW wd (wordsD xs) ∧ (∀ z ∈ xs, 0 ≤ z ∧ z ≤ 999999999) ∧ t.size ≤ 65536 := by
  rw [printN]
  constructor
  · intro h
    cases h1 : numsD xs wd.size with
    | none => rw [h1] at h; cases h
    | some ds =>
      rw [h1] at h
      injection h with h
      subst h
      obtain ⟨e1, e2, e3⟩ := (numsD_iff xs _ _ (by omega)).1 h1
      exact ⟨by rw [e1], e2, by rw [joinW_size, e1, words_sum]; exact e3⟩
  · rintro ⟨rfl, h2, h3⟩
    rw [(numsD_iff xs wd.size (wordsD xs) (by omega)).2 ⟨rfl, h2, by rw [joinW_size, words_sum] at h3; exact h3⟩]
    rfl
/-- What is printed is parsed. -/
theorem print_parse {k x y : Int} {l : List Int} {t : ByteArray} (h : printS k x y l = some t) : parseS t = ((k, x, y, l), 0) := by
  rw [printS] at h
  split at h
  · cases h
  · rename_i hb
    obtain ⟨q, rfl⟩ : ∃ q : Nat, k = q := ⟨k.toNat, by unfold badK at hb; omega⟩
    have hq1 : 1 ≤ q := by unfold badK at hb; omega
    have hq2 : q < 15 := by unfold badK at hb; omega
    rw [Int.toNat_natCast] at h
    cases hn : numbersP q x y l with
    | none => rw [hn] at h; cases h
    | some xs =>
      rw [hn, Option.bind_some, printN_iff (form_size q hq2)] at h
      obtain ⟨rfl, hz, hs⟩ := h
      rw [parseS, if_neg (by omega), splitW_join _ _ (form_blank q hq2) (words_blank xs), parseL]
      rw [show gs ((formAt q).1 :: wordsD xs) 0 = (formAt q).1 from rfl, kind_of q hq1 hq2, if_neg (by omega), Int.toNat_natCast, parseK, parseN]
      rw [show List.drop 1 ((formAt q).1 :: wordsD xs) = wordsD xs from rfl, numsS_words xs hz, bodyK, finishK]
      have hn1 := form_n q hq2
      have hlen : (wordsD xs).length = xs.length := by simp [wordsD]
      rw [numbersP] at hn
      generalize (formAt q).2 = n at *
      split at hn
      · rename_i hneg
        split at hn
        · rename_i hxy
          injection hn with hn
          subst hn
          rw [if_neg (by omega), if_pos hneg, hxy.1, hxy.2]; rfl
        · cases hn
      · rename_i hneg
        split at hn
        · cases hn
        · rename_i hc
          injection hn with hn
          have hl : l = [] := List.eq_nil_of_length_eq_zero (by omega)
          subst hl
          have h6 : ¬ (q = 6 ∧ x ≠ 1 ∧ x ≠ 2) := fun h => hb (.inr (.inr ⟨by rw [h.1]; rfl, h.2.1, h.2.2⟩))
          obtain rfl | rfl | rfl : n = 0 ∨ n = 1 ∨ n = 2 := by omega
          · have hx : x = 0 := by omega
            have hy : y = 0 := by omega
            subst hn; subst hx; subst hy
            have hq6 : q ≠ 6 := fun e => h6 ⟨e, by omega, by omega⟩
            rw [if_neg (by simp [wordsD]), if_neg (by omega), if_neg (fun h => hq6 h.1)]; rfl
          · have hy : y = 0 := by omega
            subst hn; subst hy
            rw [if_neg (by simp [wordsD]), if_neg (by omega), if_neg]
            · rfl
            · exact h6
          · subst hn
            rw [if_neg (by simp [wordsD]), if_neg (by omega), if_neg]
            · rfl
            · exact h6
/-- What is parsed, printed again, is the same line. -/
theorem parse_print {k x y : Int} {l : List Int} {s : ByteArray} (h : parseS s = ((k, x, y, l), 0)) : printS k x y l = some s := by
  rw [parseS] at h
  split at h
  · cases h
  · rename_i hs
    obtain ⟨wd, ds, h1, h2⟩ := join_splitW s
    rw [h1, parseL, show gs (wd :: ds) 0 = wd from rfl] at h
    split at h
    · cases h
    · rename_i hk
      obtain ⟨q, hq⟩ : ∃ q : Nat, kindIx wd 0 formW = q := ⟨(kindIx wd 0 formW).toNat, by omega⟩
      obtain ⟨hq1, hq2, rfl⟩ := kind_word hq
      rw [hq, Int.toNat_natCast, parseK, parseN, show List.drop 1 ((formAt q).1 :: ds) = ds from rfl] at h
      split at h
      · cases h
      · rename_i hlen
        cases hx : numsS ds with
        | none => rw [hx] at h; cases h
        | some xs =>
          rw [hx, bodyK, finishK] at h
          obtain ⟨hd, hz⟩ := numsS_canon hx
          have hp : printN (formAt q).1 xs = some s := (printN_iff (form_size q hq2)).2 ⟨by rw [h2, hd], hz, by omega⟩
          have hl : (((formAt q).1 :: ds).length : Int) = xs.length + 1 := by rw [hd]; simp [wordsD]
          rw [hl] at hlen
          have hn1 := form_n q hq2
          rw [printS]
          split at h
          · rename_i hneg
            simp only [wrapC, Prod.mk.injEq] at h
            obtain ⟨⟨rfl, rfl, rfl, rfl⟩, _⟩ := h
            have hnq : q ≠ 6 := by rintro rfl; revert hneg; decide
            rw [if_neg (by unfold badK; omega), Int.toNat_natCast, numbersP, if_pos hneg, if_pos ⟨rfl, rfl⟩]
            exact hp
          · rename_i hneg
            split at h
            · cases h
            · rename_i h6
              simp only [wrapC, Prod.mk.injEq] at h
              obtain ⟨⟨rfl, rfl, rfl, rfl⟩, _⟩ := h
              have hxl : (xs.length : Int) = (formAt q).2 := by
                rcases Decidable.em ((xs.length : Int) + 1 = (formAt q).2 + 1) with h | h
                · omega
                · exact absurd ⟨by omega, h⟩ hlen
              rw [if_neg (by
                rintro (h | h | ⟨h, h7, h8⟩)
                · omega
                · omega
                · exact h6 ⟨by omega, h7, h8⟩), Int.toNat_natCast, numbersP, if_neg hneg]
              obtain h0 | h0 | h0 : (formAt q).2 = 0 ∨ (formAt q).2 = 1 ∨ (formAt q).2 = 2 := by omega
              · obtain rfl : xs = [] := List.eq_nil_of_length_eq_zero (by omega)
                rw [h0, if_neg (by simp [gi])]
                exact hp
              · obtain ⟨a, rfl⟩ : ∃ a, xs = [a] := List.length_eq_one_iff.1 (by omega)
                rw [h0, if_neg (by simp [gi])]
                exact hp
              · obtain ⟨a, b, rfl⟩ : ∃ a b, xs = [a, b] := by
                  match xs, (show xs.length = 2 by omega) with
                  | [a, b], _ => exact ⟨a, b, rfl⟩
                rw [h0, if_neg (by simp)]
                exact hp
end Go.Proofs.YtplghlokjgjjbaaDoor
