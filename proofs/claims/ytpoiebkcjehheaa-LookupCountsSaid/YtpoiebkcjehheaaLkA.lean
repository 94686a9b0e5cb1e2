/- Contracts of lookup.ints, lookup.whole, (lookup.grid).line. -/
import Derived.Test.YtpoiebkcjehheaaCmp
namespace Go.Proofs.Ytpoiebkcjehheaa
open Go.RowKit
set_option linter.unusedSimpArgs false
set_option linter.unusedVariables false

theorem V.good_size {v : V} (h : v.good = true) : v.s.size ≤ 255 := by
  unfold V.good at h
  split at h
  · simp only [Bool.and_eq_true, decide_eq_true_eq] at h; exact h.2
  · split at h
    · cases h
    · omega

theorem badV_good (n : Int) : (badV n).good = true := by
  unfold badV V.good
  simp only [ByteArray.size]
  split <;> simp <;> omega

theorem one_good (a : A) : a.one.good = true := by
  unfold A.one
  split
  · split
    · rename_i v h hg
      simp only [A.good, Bool.and_eq_true] at hg
      have := hg.2
      rw [h] at this
      simpa using this
    · exact badV_good 2
  · exact badV_good 2

theorem one_size (a : A) : a.one.s.size ≤ 255 := V.good_size (one_good a)

theorem ofV_good (n : Int) (b : Bool) : (ofV n b).good = true := by
  unfold ofV
  split
  · rename_i h
    simp only [Bool.and_eq_true] at h
    simp [V.good, h.2, ByteArray.size]
  · exact badV_good 5

/-- An area as a whole number, or which error. -/
def A.ints (a : A) : Int × Int := if a.one.toNum.2 > 0 then (0, a.one.toNum.2) else if isWhole a.one.toNum.1 then (a.one.toNum.1.tdiv 10000, 0) else (0, 5)

theorem lookup_ints (x : Value) (a : A) (w : World) (h : IsArea w x a) (hg : Glob w) :
    Calls Try.prog 28 #[x] w fun e w' => e = .returned (.tuple #[.int .i64 a.ints.1, .int .i64 a.ints.2]) ∧ Below w.heap.size w w' := by
  have H1 := fun w' (H : Below w.heap.size w w') => maths_One x a w' (h.below H)
  have H2 := fun w' (H : Below w.heap.size w w') => value_ToNum a.one (by have := one_size a; omega) w' (hg.below H)
  have hr1 : a.ints.1 = if a.one.toNum.2 > 0 then 0 else if isWhole a.one.toNum.1 then a.one.toNum.1.tdiv 10000 else 0 := by unfold A.ints; split; rfl; split <;> rfl
  have hr2 : a.ints.2 = if a.one.toNum.2 > 0 then a.one.toNum.2 else if isWhole a.one.toNum.1 then 0 else 5 := by unfold A.ints; split; rfl; split <;> rfl
  obtain ⟨r1, er1⟩ : ∃ r, r = a.ints.1 := ⟨_, rfl⟩
  obtain ⟨r2, er2⟩ : ∃ r, r = a.ints.2 := ⟨_, rfl⟩
  rw [← er1, ← er2]
  rw [← er1] at hr1
  rw [← er2] at hr2
  have H3 := fun w' => num_Whole a.one.toNum.1 w'
  obtain ⟨n, hn⟩ : ∃ n, n = a.one.toNum.1 := ⟨_, rfl⟩
  obtain ⟨b, hb⟩ : ∃ b, b = a.one.toNum.2 := ⟨_, rfl⟩
  simp only [← hn, ← hb] at H2 H3 hr1 hr2
  obtain ⟨ao, cap, rfl⟩ := h.form
  obtain ⟨v, hv⟩ : ∃ v, v = a.one := ⟨_, rfl⟩
  simp only [← hv] at H1 H2
  have HH1 := Lib.hid H1
  have HH2 := Lib.hid H2
  have HH3 := Lib.hid H3
  clear H1 H2 H3 hn hb hv er1 er2 h
  by_cases hb : b > 0
  · rw [if_pos hb] at hr1 hr2
    subst hr1 hr2
    go_enter Try.func28, Try.ntmps28
    go_wp2_with fail
    refine (HH1.out _ (by (repeat (first | exact Below.refl _ _ | assumption | refine Below.alloc ?_ (by first | assumption | omega | (simp; done) | (simp; omega)) _ | refine Below.drew ?_ | refine bel_drewN ?_ _ | refine Below.setCell ?_ (by first | assumption | omega | (simp; done) | (simp; omega)) _ | (refine Below.trans ?_ (Below.mono (by assumption) (by first | assumption | omega | (simp; done) | (simp; omega)))))); done)).mono ?_
    rintro e w1 ⟨rfl, hb1⟩; obtain ⟨hc1, hf1, hz1⟩ := bcell hb1; (try simp only [World.size_alloc, World.size_setCell, World.size_drew] at hz1); have G1 : Below w.heap.size w w1 := (by (refine Below.trans ?_ (Below.mono hb1 (by first | assumption | omega | (simp; done) | (simp; omega)))); (repeat (first | exact Below.refl _ _ | assumption | refine Below.alloc ?_ (by first | assumption | omega | (simp; done) | (simp; omega)) _ | refine Below.drew ?_ | refine bel_drewN ?_ _ | refine Below.setCell ?_ (by first | assumption | omega | (simp; done) | (simp; omega)) _ | (refine Below.trans ?_ (Below.mono (by assumption) (by first | assumption | omega | (simp; done) | (simp; omega)))))); done); obtain ⟨co1, fo1, zo1⟩ := bcell G1; (first | have L1 : Below wr.heap.size wr w1 := (by (refine Below.trans ?_ (Below.mono hb1 (by first | assumption | omega | (simp; done) | (simp; omega)))); (repeat (first | exact Below.refl _ _ | assumption | refine Below.alloc ?_ (by first | assumption | omega | (simp; done) | (simp; omega)) _ | refine Below.drew ?_ | refine bel_drewN ?_ _ | refine Below.setCell ?_ (by first | assumption | omega | (simp; done) | (simp; omega)) _ | (refine Below.trans ?_ (Below.mono (by assumption) (by first | assumption | omega | (simp; done) | (simp; omega)))))); done) | (skip)); (try have z1w0 : w.heap.size < w1.heap.size := by omega); (try have z1w1 : w.heap.size + 1 < w1.heap.size := by omega); (try have z1w2 : w.heap.size + 1 + 1 < w1.heap.size := by omega); (try have z1w3 : w.heap.size + 1 + 1 + 1 < w1.heap.size := by omega); (try have zb1 : b < w1.heap.size := by omega); (try have zgb1 : gb < w1.heap.size := by omega)
    go_wp2_with fail
    refine (HH2.out _ (by (repeat (first | exact Below.refl _ _ | assumption | refine Below.alloc ?_ (by first | assumption | omega | (simp; done) | (simp; omega)) _ | refine Below.drew ?_ | refine bel_drewN ?_ _ | refine Below.setCell ?_ (by first | assumption | omega | (simp; done) | (simp; omega)) _ | (refine Below.trans ?_ (Below.mono (by assumption) (by first | assumption | omega | (simp; done) | (simp; omega)))))); done)).mono ?_
    rintro e w2 ⟨rfl, hb2⟩; obtain ⟨hc2, hf2, hz2⟩ := bcell hb2; (try simp only [World.size_alloc, World.size_setCell, World.size_drew] at hz2); have G2 : Below w.heap.size w w2 := (by (refine Below.trans ?_ (Below.mono hb2 (by first | assumption | omega | (simp; done) | (simp; omega)))); (repeat (first | exact Below.refl _ _ | assumption | refine Below.alloc ?_ (by first | assumption | omega | (simp; done) | (simp; omega)) _ | refine Below.drew ?_ | refine bel_drewN ?_ _ | refine Below.setCell ?_ (by first | assumption | omega | (simp; done) | (simp; omega)) _ | (refine Below.trans ?_ (Below.mono (by assumption) (by first | assumption | omega | (simp; done) | (simp; omega)))))); done); obtain ⟨co2, fo2, zo2⟩ := bcell G2; (first | have L2 : Below wr.heap.size wr w2 := (by (refine Below.trans ?_ (Below.mono hb2 (by first | assumption | omega | (simp; done) | (simp; omega)))); (repeat (first | exact Below.refl _ _ | assumption | refine Below.alloc ?_ (by first | assumption | omega | (simp; done) | (simp; omega)) _ | refine Below.drew ?_ | refine bel_drewN ?_ _ | refine Below.setCell ?_ (by first | assumption | omega | (simp; done) | (simp; omega)) _ | (refine Below.trans ?_ (Below.mono (by assumption) (by first | assumption | omega | (simp; done) | (simp; omega)))))); done) | (skip; (try have B1x2 : Below w1.heap.size w1 w2 := (by (refine Below.trans ?_ (Below.mono hb2 (by first | assumption | omega | (simp; done) | (simp; omega)))); (repeat (first | exact Below.refl _ _ | assumption | refine Below.alloc ?_ (by first | assumption | omega | (simp; done) | (simp; omega)) _ | refine Below.drew ?_ | refine bel_drewN ?_ _ | refine Below.setCell ?_ (by first | assumption | omega | (simp; done) | (simp; omega)) _ | (refine Below.trans ?_ (Below.mono (by assumption) (by first | assumption | omega | (simp; done) | (simp; omega)))))); done)))); (try have z2w0 : w.heap.size < w2.heap.size := by omega); (try have z2w1 : w.heap.size + 1 < w2.heap.size := by omega); (try have z2w2 : w.heap.size + 1 + 1 < w2.heap.size := by omega); (try have z2w3 : w.heap.size + 1 + 1 + 1 < w2.heap.size := by omega); (try have z2w10 : w1.heap.size < w2.heap.size := by omega); (try have z2w11 : w1.heap.size + 1 < w2.heap.size := by omega); (try have z2w12 : w1.heap.size + 1 + 1 < w2.heap.size := by omega); (try have z2w13 : w1.heap.size + 1 + 1 + 1 < w2.heap.size := by omega); (try have zb2 : b < w2.heap.size := by omega); (try have zgb2 : gb < w2.heap.size := by omega)
    go_wp2_with fail
    go_ret2
    exact ⟨rfl, (by (repeat (first | exact Below.refl _ _ | assumption | refine Below.alloc ?_ (by first | assumption | omega | (simp; done) | (simp; omega)) _ | refine Below.drew ?_ | refine bel_drewN ?_ _ | refine Below.setCell ?_ (by first | assumption | omega | (simp; done) | (simp; omega)) _ | (refine Below.trans ?_ (Below.mono (by assumption) (by first | assumption | omega | (simp; done) | (simp; omega)))))); done)⟩
  · rw [if_neg hb] at hr1 hr2
    cases hw : isWhole n
    · simp only [hw, Bool.false_eq_true, if_false] at hr1 hr2 HH3
      subst hr1 hr2
      clear hw
      go_enter Try.func28, Try.ntmps28
      go_wp2_with fail
      refine (HH1.out _ (by (repeat (first | exact Below.refl _ _ | assumption | refine Below.alloc ?_ (by first | assumption | omega | (simp; done) | (simp; omega)) _ | refine Below.drew ?_ | refine bel_drewN ?_ _ | refine Below.setCell ?_ (by first | assumption | omega | (simp; done) | (simp; omega)) _ | (refine Below.trans ?_ (Below.mono (by assumption) (by first | assumption | omega | (simp; done) | (simp; omega)))))); done)).mono ?_
      rintro e w1 ⟨rfl, hb1⟩; obtain ⟨hc1, hf1, hz1⟩ := bcell hb1; (try simp only [World.size_alloc, World.size_setCell, World.size_drew] at hz1); have G1 : Below w.heap.size w w1 := (by (refine Below.trans ?_ (Below.mono hb1 (by first | assumption | omega | (simp; done) | (simp; omega)))); (repeat (first | exact Below.refl _ _ | assumption | refine Below.alloc ?_ (by first | assumption | omega | (simp; done) | (simp; omega)) _ | refine Below.drew ?_ | refine bel_drewN ?_ _ | refine Below.setCell ?_ (by first | assumption | omega | (simp; done) | (simp; omega)) _ | (refine Below.trans ?_ (Below.mono (by assumption) (by first | assumption | omega | (simp; done) | (simp; omega)))))); done); obtain ⟨co1, fo1, zo1⟩ := bcell G1; (first | have L1 : Below wr.heap.size wr w1 := (by (refine Below.trans ?_ (Below.mono hb1 (by first | assumption | omega | (simp; done) | (simp; omega)))); (repeat (first | exact Below.refl _ _ | assumption | refine Below.alloc ?_ (by first | assumption | omega | (simp; done) | (simp; omega)) _ | refine Below.drew ?_ | refine bel_drewN ?_ _ | refine Below.setCell ?_ (by first | assumption | omega | (simp; done) | (simp; omega)) _ | (refine Below.trans ?_ (Below.mono (by assumption) (by first | assumption | omega | (simp; done) | (simp; omega)))))); done) | (skip)); (try have z1w0 : w.heap.size < w1.heap.size := by omega); (try have z1w1 : w.heap.size + 1 < w1.heap.size := by omega); (try have z1w2 : w.heap.size + 1 + 1 < w1.heap.size := by omega); (try have z1w3 : w.heap.size + 1 + 1 + 1 < w1.heap.size := by omega); (try have zb1 : b < w1.heap.size := by omega); (try have zgb1 : gb < w1.heap.size := by omega)
      go_wp2_with fail
      refine (HH2.out _ (by (repeat (first | exact Below.refl _ _ | assumption | refine Below.alloc ?_ (by first | assumption | omega | (simp; done) | (simp; omega)) _ | refine Below.drew ?_ | refine bel_drewN ?_ _ | refine Below.setCell ?_ (by first | assumption | omega | (simp; done) | (simp; omega)) _ | (refine Below.trans ?_ (Below.mono (by assumption) (by first | assumption | omega | (simp; done) | (simp; omega)))))); done)).mono ?_
      rintro e w2 ⟨rfl, hb2⟩; obtain ⟨hc2, hf2, hz2⟩ := bcell hb2; (try simp only [World.size_alloc, World.size_setCell, World.size_drew] at hz2); have G2 : Below w.heap.size w w2 := (by (refine Below.trans ?_ (Below.mono hb2 (by first | assumption | omega | (simp; done) | (simp; omega)))); (repeat (first | exact Below.refl _ _ | assumption | refine Below.alloc ?_ (by first | assumption | omega | (simp; done) | (simp; omega)) _ | refine Below.drew ?_ | refine bel_drewN ?_ _ | refine Below.setCell ?_ (by first | assumption | omega | (simp; done) | (simp; omega)) _ | (refine Below.trans ?_ (Below.mono (by assumption) (by first | assumption | omega | (simp; done) | (simp; omega)))))); done); obtain ⟨co2, fo2, zo2⟩ := bcell G2; (first | have L2 : Below wr.heap.size wr w2 := (by (refine Below.trans ?_ (Below.mono hb2 (by first | assumption | omega | (simp; done) | (simp; omega)))); (repeat (first | exact Below.refl _ _ | assumption | refine Below.alloc ?_ (by first | assumption | omega | (simp; done) | (simp; omega)) _ | refine Below.drew ?_ | refine bel_drewN ?_ _ | refine Below.setCell ?_ (by first | assumption | omega | (simp; done) | (simp; omega)) _ | (refine Below.trans ?_ (Below.mono (by assumption) (by first | assumption | omega | (simp; done) | (simp; omega)))))); done) | (skip; (try have B1x2 : Below w1.heap.size w1 w2 := (by (refine Below.trans ?_ (Below.mono hb2 (by first | assumption | omega | (simp; done) | (simp; omega)))); (repeat (first | exact Below.refl _ _ | assumption | refine Below.alloc ?_ (by first | assumption | omega | (simp; done) | (simp; omega)) _ | refine Below.drew ?_ | refine bel_drewN ?_ _ | refine Below.setCell ?_ (by first | assumption | omega | (simp; done) | (simp; omega)) _ | (refine Below.trans ?_ (Below.mono (by assumption) (by first | assumption | omega | (simp; done) | (simp; omega)))))); done)))); (try have z2w0 : w.heap.size < w2.heap.size := by omega); (try have z2w1 : w.heap.size + 1 < w2.heap.size := by omega); (try have z2w2 : w.heap.size + 1 + 1 < w2.heap.size := by omega); (try have z2w3 : w.heap.size + 1 + 1 + 1 < w2.heap.size := by omega); (try have z2w10 : w1.heap.size < w2.heap.size := by omega); (try have z2w11 : w1.heap.size + 1 < w2.heap.size := by omega); (try have z2w12 : w1.heap.size + 1 + 1 < w2.heap.size := by omega); (try have z2w13 : w1.heap.size + 1 + 1 + 1 < w2.heap.size := by omega); (try have zb2 : b < w2.heap.size := by omega); (try have zgb2 : gb < w2.heap.size := by omega)
      go_wp2_with fail
      refine (HH3.out _).mono ?_
      rintro e w3 ⟨rfl, rfl⟩
      go_wp2_with fail
      go_ret2
      exact ⟨rfl, (by (repeat (first | exact Below.refl _ _ | assumption | refine Below.alloc ?_ (by first | assumption | omega | (simp; done) | (simp; omega)) _ | refine Below.drew ?_ | refine bel_drewN ?_ _ | refine Below.setCell ?_ (by first | assumption | omega | (simp; done) | (simp; omega)) _ | (refine Below.trans ?_ (Below.mono (by assumption) (by first | assumption | omega | (simp; done) | (simp; omega)))))); done)⟩
    · simp only [hw, if_true] at hr1 hr2 HH3
      subst hr1 hr2
      clear hw
      go_enter Try.func28, Try.ntmps28
      go_wp2_with fail
      refine (HH1.out _ (by (repeat (first | exact Below.refl _ _ | assumption | refine Below.alloc ?_ (by first | assumption | omega | (simp; done) | (simp; omega)) _ | refine Below.drew ?_ | refine bel_drewN ?_ _ | refine Below.setCell ?_ (by first | assumption | omega | (simp; done) | (simp; omega)) _ | (refine Below.trans ?_ (Below.mono (by assumption) (by first | assumption | omega | (simp; done) | (simp; omega)))))); done)).mono ?_
      rintro e w1 ⟨rfl, hb1⟩; obtain ⟨hc1, hf1, hz1⟩ := bcell hb1; (try simp only [World.size_alloc, World.size_setCell, World.size_drew] at hz1); have G1 : Below w.heap.size w w1 := (by (refine Below.trans ?_ (Below.mono hb1 (by first | assumption | omega | (simp; done) | (simp; omega)))); (repeat (first | exact Below.refl _ _ | assumption | refine Below.alloc ?_ (by first | assumption | omega | (simp; done) | (simp; omega)) _ | refine Below.drew ?_ | refine bel_drewN ?_ _ | refine Below.setCell ?_ (by first | assumption | omega | (simp; done) | (simp; omega)) _ | (refine Below.trans ?_ (Below.mono (by assumption) (by first | assumption | omega | (simp; done) | (simp; omega)))))); done); obtain ⟨co1, fo1, zo1⟩ := bcell G1; (first | have L1 : Below wr.heap.size wr w1 := (by (refine Below.trans ?_ (Below.mono hb1 (by first | assumption | omega | (simp; done) | (simp; omega)))); (repeat (first | exact Below.refl _ _ | assumption | refine Below.alloc ?_ (by first | assumption | omega | (simp; done) | (simp; omega)) _ | refine Below.drew ?_ | refine bel_drewN ?_ _ | refine Below.setCell ?_ (by first | assumption | omega | (simp; done) | (simp; omega)) _ | (refine Below.trans ?_ (Below.mono (by assumption) (by first | assumption | omega | (simp; done) | (simp; omega)))))); done) | (skip)); (try have z1w0 : w.heap.size < w1.heap.size := by omega); (try have z1w1 : w.heap.size + 1 < w1.heap.size := by omega); (try have z1w2 : w.heap.size + 1 + 1 < w1.heap.size := by omega); (try have z1w3 : w.heap.size + 1 + 1 + 1 < w1.heap.size := by omega); (try have zb1 : b < w1.heap.size := by omega); (try have zgb1 : gb < w1.heap.size := by omega)
      go_wp2_with fail
      refine (HH2.out _ (by (repeat (first | exact Below.refl _ _ | assumption | refine Below.alloc ?_ (by first | assumption | omega | (simp; done) | (simp; omega)) _ | refine Below.drew ?_ | refine bel_drewN ?_ _ | refine Below.setCell ?_ (by first | assumption | omega | (simp; done) | (simp; omega)) _ | (refine Below.trans ?_ (Below.mono (by assumption) (by first | assumption | omega | (simp; done) | (simp; omega)))))); done)).mono ?_
      rintro e w2 ⟨rfl, hb2⟩; obtain ⟨hc2, hf2, hz2⟩ := bcell hb2; (try simp only [World.size_alloc, World.size_setCell, World.size_drew] at hz2); have G2 : Below w.heap.size w w2 := (by (refine Below.trans ?_ (Below.mono hb2 (by first | assumption | omega | (simp; done) | (simp; omega)))); (repeat (first | exact Below.refl _ _ | assumption | refine Below.alloc ?_ (by first | assumption | omega | (simp; done) | (simp; omega)) _ | refine Below.drew ?_ | refine bel_drewN ?_ _ | refine Below.setCell ?_ (by first | assumption | omega | (simp; done) | (simp; omega)) _ | (refine Below.trans ?_ (Below.mono (by assumption) (by first | assumption | omega | (simp; done) | (simp; omega)))))); done); obtain ⟨co2, fo2, zo2⟩ := bcell G2; (first | have L2 : Below wr.heap.size wr w2 := (by (refine Below.trans ?_ (Below.mono hb2 (by first | assumption | omega | (simp; done) | (simp; omega)))); (repeat (first | exact Below.refl _ _ | assumption | refine Below.alloc ?_ (by first | assumption | omega | (simp; done) | (simp; omega)) _ | refine Below.drew ?_ | refine bel_drewN ?_ _ | refine Below.setCell ?_ (by first | assumption | omega | (simp; done) | (simp; omega)) _ | (refine Below.trans ?_ (Below.mono (by assumption) (by first | assumption | omega | (simp; done) | (simp; omega)))))); done) | (skip; (try have B1x2 : Below w1.heap.size w1 w2 := (by (refine Below.trans ?_ (Below.mono hb2 (by first | assumption | omega | (simp; done) | (simp; omega)))); (repeat (first | exact Below.refl _ _ | assumption | refine Below.alloc ?_ (by first | assumption | omega | (simp; done) | (simp; omega)) _ | refine Below.drew ?_ | refine bel_drewN ?_ _ | refine Below.setCell ?_ (by first | assumption | omega | (simp; done) | (simp; omega)) _ | (refine Below.trans ?_ (Below.mono (by assumption) (by first | assumption | omega | (simp; done) | (simp; omega)))))); done)))); (try have z2w0 : w.heap.size < w2.heap.size := by omega); (try have z2w1 : w.heap.size + 1 < w2.heap.size := by omega); (try have z2w2 : w.heap.size + 1 + 1 < w2.heap.size := by omega); (try have z2w3 : w.heap.size + 1 + 1 + 1 < w2.heap.size := by omega); (try have z2w10 : w1.heap.size < w2.heap.size := by omega); (try have z2w11 : w1.heap.size + 1 < w2.heap.size := by omega); (try have z2w12 : w1.heap.size + 1 + 1 < w2.heap.size := by omega); (try have z2w13 : w1.heap.size + 1 + 1 + 1 < w2.heap.size := by omega); (try have zb2 : b < w2.heap.size := by omega); (try have zgb2 : gb < w2.heap.size := by omega)
      go_wp2_with fail
      refine (HH3.out _).mono ?_
      rintro e w3 ⟨rfl, rfl⟩
      go_wp2_with fail
      go_ret2
      exact ⟨rfl, (by (repeat (first | exact Below.refl _ _ | assumption | refine Below.alloc ?_ (by first | assumption | omega | (simp; done) | (simp; omega)) _ | refine Below.drew ?_ | refine bel_drewN ?_ _ | refine Below.setCell ?_ (by first | assumption | omega | (simp; done) | (simp; omega)) _ | (refine Below.trans ?_ (Below.mono (by assumption) (by first | assumption | omega | (simp; done) | (simp; omega)))))); done)⟩

theorem lookup_whole (k : Int) (h : -1000000000 ≤ k ∧ k ≤ 1000000000) (w : World) :
    Calls Try.prog 26 #[.int .i64 k] w fun e w' => e = .returned (.agg #[.int .i64 (ofV (k * 10000) true).k, .int .i64 (ofV (k * 10000) true).n, .string (ofV (k * 10000) true).s]) ∧ Below w.heap.size w w' := by
  obtain ⟨h1, h2⟩ := h
  go_enter Try.func26, Try.ntmps26
  go_wp2_with (go_at_call 40; refine (value_Of _ _ _).mono ?_; rintro e w1 ⟨rfl, hb1⟩; obtain ⟨hc1, hf1, hz1⟩ := bcell hb1; (try simp only [World.size_alloc, World.size_setCell, World.size_drew] at hz1); have G1 : Below w.heap.size w w1 := (by (refine Below.trans ?_ (Below.mono hb1 (by first | assumption | omega | (simp; done) | (simp; omega)))); (repeat (first | exact Below.refl _ _ | assumption | refine Below.alloc ?_ (by first | assumption | omega | (simp; done) | (simp; omega)) _ | refine Below.drew ?_ | refine bel_drewN ?_ _ | refine Below.setCell ?_ (by first | assumption | omega | (simp; done) | (simp; omega)) _ | (refine Below.trans ?_ (Below.mono (by assumption) (by first | assumption | omega | (simp; done) | (simp; omega)))))); done); obtain ⟨co1, fo1, zo1⟩ := bcell G1; (first | have L1 : Below wr.heap.size wr w1 := (by (refine Below.trans ?_ (Below.mono hb1 (by first | assumption | omega | (simp; done) | (simp; omega)))); (repeat (first | exact Below.refl _ _ | assumption | refine Below.alloc ?_ (by first | assumption | omega | (simp; done) | (simp; omega)) _ | refine Below.drew ?_ | refine bel_drewN ?_ _ | refine Below.setCell ?_ (by first | assumption | omega | (simp; done) | (simp; omega)) _ | (refine Below.trans ?_ (Below.mono (by assumption) (by first | assumption | omega | (simp; done) | (simp; omega)))))); done) | (skip)); (try have z1w0 : w.heap.size < w1.heap.size := by omega); (try have z1w1 : w.heap.size + 1 < w1.heap.size := by omega); (try have z1w2 : w.heap.size + 1 + 1 < w1.heap.size := by omega); (try have z1w3 : w.heap.size + 1 + 1 + 1 < w1.heap.size := by omega); (try have zb1 : b < w1.heap.size := by omega); (try have zgb1 : gb < w1.heap.size := by omega))
  refine bodyPost_ret (v := (.agg #[.int .i64 (ofV (k * 10000) true).k, .int .i64 (ofV (k * 10000) true).n, .string (ofV (k * 10000) true).s])) (by simp (maxDischargeDepth := 9) [results, Try.results26, go_sem, *]) rfl ⟨rfl, (by (repeat (first | exact Below.refl _ _ | assumption | refine Below.alloc ?_ (by first | assumption | omega | (simp; done) | (simp; omega)) _ | refine Below.drew ?_ | refine bel_drewN ?_ _ | refine Below.setCell ?_ (by first | assumption | omega | (simp; done) | (simp; omega)) _ | (refine Below.trans ?_ (Below.mono (by assumption) (by first | assumption | omega | (simp; done) | (simp; omega)))))); done)⟩

/-- One row or one column. -/
def A.line (a : A) : Bool := decide (a.rows = 1) || decide (a.cols = 1)

theorem grid_line (x : Value) (a : A) (w : World) (h : IsArea w x a) :
    Calls Try.prog 31 #[x] w fun e w' => e = .returned (.bool a.line) ∧ Below w.heap.size w w' := by
  obtain ⟨ao, cap, rfl⟩ := h.form
  clear h
  obtain ⟨rows, cols, l, many⟩ := a
  simp only
  by_cases h1 : rows = 1
  · subst h1
    go_enter Try.func31, Try.ntmps31
    go_wp2
    go_ret
    exact ⟨rfl, (by (repeat (first | exact Below.refl _ _ | assumption | refine Below.alloc ?_ (by first | assumption | omega | (simp; done) | (simp; omega)) _ | refine Below.drew ?_ | refine bel_drewN ?_ _ | refine Below.setCell ?_ (by first | assumption | omega | (simp; done) | (simp; omega)) _ | (refine Below.trans ?_ (Below.mono (by assumption) (by first | assumption | omega | (simp; done) | (simp; omega)))))); done)⟩
  · have h2 : (rows == 1) = false := by simp [h1]
    have e : A.line ⟨rows, cols, l, many⟩ = (cols == 1) := by simp only [A.line, h1, decide_false, Bool.false_or]; rfl
    rw [e]
    clear e h1
    go_enter Try.func31, Try.ntmps31
    go_wp2
    go_ret
    exact ⟨rfl, (by (repeat (first | exact Below.refl _ _ | assumption | refine Below.alloc ?_ (by first | assumption | omega | (simp; done) | (simp; omega)) _ | refine Below.drew ?_ | refine bel_drewN ?_ _ | refine Below.setCell ?_ (by first | assumption | omega | (simp; done) | (simp; omega)) _ | (refine Below.trans ?_ (Below.mono (by assumption) (by first | assumption | omega | (simp; done) | (simp; omega)))))); done)⟩
end Go.Proofs.Ytpoiebkcjehheaa
