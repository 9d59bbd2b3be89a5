/- graph.edge, graph.place, graph.Index, graph.Has: where an edge is among edges that rise. -/
import Derived.Test.YtjcgokfjdagckaaB2
namespace Go.Proofs.Ytjcgokfjdagckaa
open Go.RowKit

def ltE (a b : Int × Int) : Prop := a.1 < b.1 ∨ (a.1 = b.1 ∧ a.2 < b.2)
theorem cmpE_neg (a b : Int × Int) : cmpE a b < 0 ↔ ltE a b := by
  unfold cmpE orI cmpI ltE orI orI
  repeat' split
  all_goals omega
theorem cmpE_zero (a b : Int × Int) : cmpE a b = 0 ↔ a = b := by
  rw [Prod.ext_iff]
  unfold cmpE orI cmpI orI orI
  repeat' split
  all_goals omega
theorem ltE_trans {a b c : Int × Int} (h : ltE a b) (k : ltE b c) : ltE a c := by unfold ltE at *; omega
theorem ltE_irrefl (a : Int × Int) : ¬ ltE a a := by unfold ltE; omega
theorem ltE_total (a b : Int × Int) : ltE a b ∨ a = b ∨ ltE b a := by rw [Prod.ext_iff]; unfold ltE; omega
/-- Edges that rise. -/
def Rises (es : List (Int × Int)) : Prop := ∀ i j, i < j → j < es.length → ltE (gE es i) (gE es j)
/-- How many edges stand ahead of one. -/
def lowE (es : List (Int × Int)) (t : Int × Int) : Nat := (es.takeWhile fun e => decide (cmpE e t < 0)).length
theorem low_le (es : List (Int × Int)) (t : Int × Int) : lowE es t ≤ es.length := (List.takeWhile_prefix _).length_le
theorem low_lt {es : List (Int × Int)} {t : Int × Int} {j : Nat} (h : j < lowE es t) : cmpE (gE es j) t < 0 := by
  have hj : j < es.length := Nat.lt_of_lt_of_le h (low_le es t)
  have hp := List.takeWhile_prefix (p := fun e => decide (cmpE e t < 0)) (l := es)
  have hm : gE es j ∈ es.takeWhile fun e => decide (cmpE e t < 0) := by
    have e := List.IsPrefix.getElem hp h
    rw [gE_get hj, ← e]; exact List.getElem_mem _
  have : ∀ l : List (Int × Int), ∀ x, x ∈ l.takeWhile (fun e => decide (cmpE e t < 0)) → cmpE x t < 0 := by
    intro l; induction l with
    | nil => intro x hx; simp at hx
    | cons y r ih =>
      intro x hx
      by_cases hy : cmpE y t < 0
      · rw [List.takeWhile_cons_of_pos (by simpa using hy)] at hx
        rcases List.mem_cons.1 hx with rfl | hx
        · exact hy
        · exact ih _ hx
      · rw [List.takeWhile_cons_of_neg (by simpa using hy)] at hx; simp at hx
  exact this _ _ hm
theorem low_stop : ∀ {es : List (Int × Int)} {t : Int × Int}, lowE es t < es.length → ¬ cmpE (gE es (lowE es t)) t < 0
  | [], t, h => by simp at h
  | y :: r, t, h => by
    by_cases hy : cmpE y t < 0
    · have e : lowE (y :: r) t = lowE r t + 1 := by unfold lowE; rw [List.takeWhile_cons_of_pos (by simpa using hy)]; simp
      rw [e] at h ⊢
      have := low_stop (es := r) (t := t) (by simpa using h)
      simpa [gE] using this
    · have e : lowE (y :: r) t = 0 := by unfold lowE; rw [List.takeWhile_cons_of_neg (by simpa using hy)]; simp
      rw [e]; simpa [gE] using hy
theorem low_iff {es : List (Int × Int)} (hr : Rises es) {t : Int × Int} {j : Nat} (hj : j < es.length) : cmpE (gE es j) t < 0 ↔ j < lowE es t := by
  refine ⟨fun h => ?_, low_lt⟩
  by_cases hc : j < lowE es t
  · exact hc
  · exfalso
    have hl : lowE es t < es.length := by omega
    refine low_stop hl ?_
    by_cases e : j = lowE es t
    · rw [← e]; exact h
    · rw [cmpE_neg] at h ⊢
      exact ltE_trans (hr _ _ (by omega) hj) h
theorem mem_gE {es : List (Int × Int)} {t : Int × Int} : t ∈ es ↔ ∃ j, j < es.length ∧ gE es j = t := by
  constructor
  · intro h; obtain ⟨j, hj, e⟩ := List.getElem_of_mem h; exact ⟨j, hj, by rw [gE_get hj, e]⟩
  · rintro ⟨j, hj, e⟩; rw [← e, gE_get hj]; exact List.getElem_mem _
theorem low_found {es : List (Int × Int)} (hr : Rises es) {t : Int × Int} : t ∈ es ↔ (lowE es t < es.length ∧ gE es (lowE es t) = t) := by
  rw [mem_gE]
  constructor
  · rintro ⟨j, hj, e⟩
    have h1 : ¬ j < lowE es t := fun h => by
      have := low_lt h; rw [e, cmpE_neg] at this; exact ltE_irrefl _ this
    by_cases h2 : j = lowE es t
    · subst h2; exact ⟨hj, e⟩
    · exfalso
      have hl : lowE es t < es.length := by omega
      refine low_stop hl ?_
      rw [cmpE_neg]
      have := hr (lowE es t) j (by omega) hj
      rwa [e] at this
  · rintro ⟨h, e⟩; exact ⟨_, h, e⟩

/-- order.compare, handed over. -/
abbrev cmpV : Value := .func (.func 37) #[.agg #[]] #[]

set_option maxHeartbeats 1000000 in
theorem bsearch_any (A : Option Addr) (c : Nat) (es : List (Int × Int)) (t : Int × Int) (w : World) (h : RdE w A es) (hr : Rises es) :
    Calls Try.prog 56 #[.slice A es.length c, .agg #[.int .i64 t.1, .int .i64 t.2], cmpV] w fun e w' => e = .returned (.tuple #[.int .i64 (lowE es t), .bool (decide (t ∈ es))]) ∧ Below w.heap.size w w' := by
  have h1 := h.1
  have HR := Lib.hid h
  have HS := Lib.hid hr
  clear h hr
  go_enter Try.func56, Try.ntmps56
  go_wp2
  refine wp_box1 ?_
  intro W hb hs hg
  have HG := Lib.hid hg
  have HB := Lib.hid hb
  clear hg hb hs
  go_loopw [9, 10] (fun i j wr => ∃ a b : Nat, a ≤ b ∧ b ≤ es.length ∧ i = .int .i64 a ∧ j = .int .i64 b ∧ Hid (a ≤ lowE es t) ∧ Hid (lowE es t ≤ b) ∧ Hid (Below w.heap.size w wr) ∧ Hid (wr.heap[w.heap.size]? = some (.cells #[.int .i64 t.1, .int .i64 t.2] 28))) (fun i j _ => (intOf j - intOf i).toNat)
  case atStart => exact ⟨0, es.length, Nat.zero_le _, Nat.le_refl _, by simp, rfl, Nat.zero_le _, low_le _ _, HB, HG⟩
  case round =>
    obtain ⟨a, b, hab, hbl, rfl, rfl, HA, HBb, HBr, HGr⟩ := hrel
    clear HB HG
    by_cases hlt : a < b
    · obtain ⟨h, hh⟩ : ∃ h, h = (a + b) / 2 := ⟨_, rfl⟩
      obtain ⟨ad, rfl, c1, c2⟩ := (HR.out.below (HBr.out)).2 h (by omega)
      have cg1 := blk_cell HGr.out 0 rfl
      have cg2 := blk_cell HGr.out 1 rfl
      have hh1 : a ≤ h := by omega
      have hh2 : h < b := by omega
      have hq : ((a : Int) + (b : Int)) / 2 = (h : Int) := by omega
      have e6 : (0 : Int) ≤ (h : Int) := by omega
      have e7 : (h : Int) < (es.length : Int) := by omega
      clear hh
      go_wp2
      go_region_held3 (fun w' => w'.cell? ⟨w.heap.size, 0, none⟩ = some (.int .i64 t.1) ∧ w'.cell? ⟨w.heap.size, 1, none⟩ = some (.int .i64 t.2) ∧ w'.cell? (ad.add (h * 2)) = some (.int .i64 (gE es h).1) ∧ w'.cell? ⟨(ad.add (h * 2)).block, (ad.add (h * 2)).off + 1, none⟩ = some (.int .i64 (gE es h).2)) (first | go_keep | (refine ⟨?_, ?_, ?_, ?_⟩ <;> refine cell_below (by assumption) ?_ <;> simp [*]))
        ((first | (go_at_call 37; refine (compareE_any (gE es h) t _).mono ?_; rintro e w' ⟨rfl, hbw⟩)))
      have HW := Lib.hid (below_thn HBr.out (below_thn ((Below.refl _ _).drew) hbw))
      have HG3 := Lib.hid (blk_below (w := wr.drew) HGr.out hbw)
      clear hbw HBr HGr c1 c2 cg1 cg2
      by_cases hc : cmpE (gE es h) t < 0
      · have HL := Lib.hid ((low_iff HS.out (by omega)).1 hc)
        go_wp2
        go_roundw
        case rel => exact ⟨h + 1, b, by omega, hbl, by go_num, rfl, HL, HBb, HW, HG3⟩
        case measure => simp [intOf]; omega
      · have HL := Lib.hid (Nat.le_of_not_lt fun k => hc ((low_iff HS.out (by omega)).2 k))
        go_wp2
        go_roundw
        case rel => exact ⟨a, h, by omega, by omega, rfl, rfl, HA, HL, HW, HG3⟩
        case measure => simp [intOf]; omega
    · have hba : b = a := by omega
      have hl : a = lowE es t := Nat.le_antisymm HA.out (by have := HBb.out; omega)
      by_cases hlen : a < es.length
      · obtain ⟨ad, rfl, c1, c2⟩ := (HR.out.below (HBr.out)).2 a hlen
        have cg1 := blk_cell HGr.out 0 rfl
        have cg2 := blk_cell HGr.out 1 rfl
        have e7 : (a : Int) < (es.length : Int) := by omega
        have e8 : decide (a < es.length) = true := decide_eq_true hlen
        have HF : Hid ((cmpE (gE es a) t == 0) = decide (t ∈ es)) := by
          show _ = _
          rw [Bool.eq_iff_iff, beq_iff_eq, decide_eq_true_eq, cmpE_zero, low_found HS.out, ← hl]
          exact ⟨fun k => ⟨hlen, k⟩, fun k => k.2⟩
        have HLa := Lib.hid hl
        clear hl hba
        go_wp2
        go_region_held3 (fun w' => w'.cell? ⟨w.heap.size, 0, none⟩ = some (.int .i64 t.1) ∧ w'.cell? ⟨w.heap.size, 1, none⟩ = some (.int .i64 t.2) ∧ w'.cell? (ad.add (a * 2)) = some (.int .i64 (gE es a).1) ∧ w'.cell? ⟨(ad.add (a * 2)).block, (ad.add (a * 2)).off + 1, none⟩ = some (.int .i64 (gE es a).2)) (first | go_keep | (refine ⟨?_, ?_, ?_, ?_⟩ <;> refine cell_below (by assumption) ?_ <;> simp [*]))
          ((first | (go_at_call 37; refine (compareE_any (gE es a) t _).mono ?_; rintro e w' ⟨rfl, hbw⟩)))
        have HW := Lib.hid (below_thn HBr.out (below_thn ((Below.refl _ _).drew) hbw))
        clear hbw HBr HGr c1 c2 cg1 cg2
        go_wp2
        go_ret2
        exact ⟨by rw [← HF.out, ← HLa.out]; rfl, HW.out⟩
      · have e8 : decide (a < es.length) = false := decide_eq_false hlen
        have HF : Hid (false = decide (t ∈ es)) := by
          show _ = _
          rw [Eq.comm, decide_eq_false_iff_not, low_found HS.out, ← hl]
          exact fun k => hlen k.1
        have HLa := Lib.hid hl
        clear hl hba
        go_wp2
        go_quiet (fail)
        go_wp2
        go_ret2
        exact ⟨by rw [← HF.out, ← HLa.out]; rfl, below_drewN HBr.out _⟩
end Go.Proofs.Ytjcgokfjdagckaa
