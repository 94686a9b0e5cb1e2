/- Contract of value.Cmp. -/
import Derived.Test.YtpoiebkcjehheaaTo
import Derived.Deep.QuietTactic
import Derived.BigQuiet
namespace Go.Proofs.Ytpoiebkcjehheaa
open Go.RowKit
set_option linter.unusedSimpArgs false
set_option linter.unusedVariables false

/-- Where a value stands beside another. -/
def cmpPlace (v o : V) : Int × Int × ByteArray :=
  if v.k = 0 then (if o.k = 2 then (2, 0, upStr ⟨#[]⟩) else if o.k = 3 then (3, 0, ⟨#[]⟩) else (1, 0, ⟨#[]⟩))
  else if v.k = 1 ∨ v.k = 3 then (v.k, v.n, ⟨#[]⟩)
  else if v.k = 2 then (2, 0, upStr v.s)
  else (4, v.n, ⟨#[]⟩)

theorem cmp_place (v o : V) (hs : v.s.size ≤ 9223372036854775807) (w : World) :
    Calls Try.prog 51 #[(.agg #[.int .i64 (v).k, .int .i64 (v).n, .string (v).s]), (.agg #[.int .i64 (o).k, .int .i64 (o).n, .string (o).s])] w fun e w' => e = .returned (.tuple #[.int .i64 (cmpPlace v o).1, .int .i64 (cmpPlace v o).2.1, .string (cmpPlace v o).2.2]) ∧ Below w.heap.size w w' := by
  obtain ⟨k, n, s⟩ := v
  obtain ⟨k', n', s'⟩ := o
  simp only at hs ⊢
  have HU := fun w' => value_Upper s hs w'
  have HE := fun w' => value_Upper ⟨#[]⟩ (by simp [ByteArray.size]) w'
  obtain ⟨r, hr⟩ : ∃ r, r = cmpPlace ⟨k, n, s⟩ ⟨k', n', s'⟩ := ⟨_, rfl⟩
  rw [← hr]
  have HUH := Lib.hid HU
  have HEH := Lib.hid HE
  clear HU HE
  by_cases k0 : k = 0
  · subst k0
    by_cases c2 : k' = 2
    · subst c2
      obtain rfl : r = (2, 0, upStr ⟨#[]⟩) := by rw [hr]; rfl
      clear hr
      go_enter Try.func51, Try.ntmps51
      go_wp2_with (go_at_call 27; refine (HEH.out _).mono ?_; rintro e w1 ⟨rfl, hb1⟩)
      go_ret3
      exact ⟨rfl, (by (repeat (first | exact Below.refl _ _ | assumption | refine Below.alloc ?_ (by first | assumption | omega | (simp; done) | (simp; omega)) _ | refine Below.drew ?_ | refine bel_drewN ?_ _ | refine Below.setCell ?_ (by first | assumption | omega | (simp; done) | (simp; omega)) _ | (refine Below.trans ?_ (Below.mono (by assumption) (by first | assumption | omega | (simp; done) | (simp; omega)))))); done)⟩
    by_cases c3 : k' = 3
    · subst c3
      obtain rfl : r = (3, 0, ⟨#[]⟩) := by rw [hr]; rfl
      clear hr c2
      go_enter Try.func51, Try.ntmps51
      go_wp2_with fail
      go_quiet (fail)
      go_wp2_with fail
      go_ret3
      exact ⟨rfl, (by (repeat (first | exact Below.refl _ _ | assumption | refine Below.alloc ?_ (by first | assumption | omega | (simp; done) | (simp; omega)) _ | refine Below.drew ?_ | refine bel_drewN ?_ _ | refine Below.setCell ?_ (by first | assumption | omega | (simp; done) | (simp; omega)) _ | (refine Below.trans ?_ (Below.mono (by assumption) (by first | assumption | omega | (simp; done) | (simp; omega)))))); done)⟩
    · obtain rfl : r = (1, 0, ⟨#[]⟩) := by rw [hr]; simp [cmpPlace, c2, c3]
      have d2 : (k' == 2) = false := by simp [c2]
      have d3 : (k' == 3) = false := by simp [c3]
      clear hr c2 c3
      go_enter Try.func51, Try.ntmps51
      go_wp2_with fail
      go_quiet (fail)
      go_wp2_with fail
      go_ret3
      exact ⟨rfl, (by (repeat (first | exact Below.refl _ _ | assumption | refine Below.alloc ?_ (by first | assumption | omega | (simp; done) | (simp; omega)) _ | refine Below.drew ?_ | refine bel_drewN ?_ _ | refine Below.setCell ?_ (by first | assumption | omega | (simp; done) | (simp; omega)) _ | (refine Below.trans ?_ (Below.mono (by assumption) (by first | assumption | omega | (simp; done) | (simp; omega)))))); done)⟩
  have d0 : (k == 0) = false := by simp [k0]
  by_cases k1 : k = 1
  · subst k1
    obtain rfl : r = (1, n, ⟨#[]⟩) := by rw [hr]; rfl
    clear hr d0 k0
    go_enter Try.func51, Try.ntmps51
    go_wp2_with fail
    go_quiet (fail)
    go_wp2_with fail
    go_ret3
    exact ⟨rfl, (by (repeat (first | exact Below.refl _ _ | assumption | refine Below.alloc ?_ (by first | assumption | omega | (simp; done) | (simp; omega)) _ | refine Below.drew ?_ | refine bel_drewN ?_ _ | refine Below.setCell ?_ (by first | assumption | omega | (simp; done) | (simp; omega)) _ | (refine Below.trans ?_ (Below.mono (by assumption) (by first | assumption | omega | (simp; done) | (simp; omega)))))); done)⟩
  by_cases k3 : k = 3
  · subst k3
    obtain rfl : r = (3, n, ⟨#[]⟩) := by rw [hr]; rfl
    clear hr d0 k0 k1
    go_enter Try.func51, Try.ntmps51
    go_wp2_with fail
    go_quiet (fail)
    go_wp2_with fail
    go_ret3
    exact ⟨rfl, (by (repeat (first | exact Below.refl _ _ | assumption | refine Below.alloc ?_ (by first | assumption | omega | (simp; done) | (simp; omega)) _ | refine Below.drew ?_ | refine bel_drewN ?_ _ | refine Below.setCell ?_ (by first | assumption | omega | (simp; done) | (simp; omega)) _ | (refine Below.trans ?_ (Below.mono (by assumption) (by first | assumption | omega | (simp; done) | (simp; omega)))))); done)⟩
  by_cases k2 : k = 2
  · subst k2
    obtain rfl : r = (2, 0, upStr s) := by rw [hr]; rfl
    clear hr d0 k0 k1 k3
    go_enter Try.func51, Try.ntmps51
    go_wp2_with (go_at_call 27; refine (HUH.out _).mono ?_; rintro e w1 ⟨rfl, hb1⟩)
    go_ret3
    exact ⟨rfl, (by (repeat (first | exact Below.refl _ _ | assumption | refine Below.alloc ?_ (by first | assumption | omega | (simp; done) | (simp; omega)) _ | refine Below.drew ?_ | refine bel_drewN ?_ _ | refine Below.setCell ?_ (by first | assumption | omega | (simp; done) | (simp; omega)) _ | (refine Below.trans ?_ (Below.mono (by assumption) (by first | assumption | omega | (simp; done) | (simp; omega)))))); done)⟩
  · obtain rfl : r = (4, n, ⟨#[]⟩) := by rw [hr]; simp [cmpPlace, k0, k1, k2, k3]
    have d1 : (k == 1) = false := by simp [k1]
    have d2 : (k == 2) = false := by simp [k2]
    have d3 : (k == 3) = false := by simp [k3]
    clear hr k0 k1 k2 k3
    go_enter Try.func51, Try.ntmps51
    go_wp2_with fail
    go_quiet (fail)
    go_wp2_with fail
    go_ret3
    exact ⟨rfl, (by (repeat (first | exact Below.refl _ _ | assumption | refine Below.alloc ?_ (by first | assumption | omega | (simp; done) | (simp; omega)) _ | refine Below.drew ?_ | refine bel_drewN ?_ _ | refine Below.setCell ?_ (by first | assumption | omega | (simp; done) | (simp; omega)) _ | (refine Below.trans ?_ (Below.mono (by assumption) (by first | assumption | omega | (simp; done) | (simp; omega)))))); done)⟩

theorem value_order (b : Bool) (w : World) : Calls Try.prog 52 #[.bool b] w fun e w' => e = .returned (.int .i64 (if b then -1 else 1)) ∧ w = w' := by
  cases b
  all_goals
    go_enter Try.func52, Try.ntmps52
    go_wp2
    go_ret
    exact ⟨rfl, rfl⟩

/-- -1, 0 or 1. -/
def V.cmp (a b : V) : Int :=
  if (cmpPlace a b).1 ≠ (cmpPlace b a).1 then (if (cmpPlace a b).1 < (cmpPlace b a).1 then -1 else 1)
  else if (cmpPlace a b).2.1 ≠ (cmpPlace b a).2.1 then (if (cmpPlace a b).2.1 < (cmpPlace b a).2.1 then -1 else 1)
  else if (cmpPlace a b).2.2.toList ≠ (cmpPlace b a).2.2.toList then (if Op.bytesLess (cmpPlace a b).2.2.toList (cmpPlace b a).2.2.toList then -1 else 1)
  else 0

set_option maxHeartbeats 4000000 in
theorem value_Cmp (a b : V) (ha : a.s.size ≤ 9223372036854775807) (hb : b.s.size ≤ 9223372036854775807) (w : World) :
    Calls Try.prog 45 #[(.agg #[.int .i64 (a).k, .int .i64 (a).n, .string (a).s]), (.agg #[.int .i64 (b).k, .int .i64 (b).n, .string (b).s])] w fun e w' => e = .returned (.int .i64 (a.cmp b)) ∧ Below w.heap.size w w' := by
  have HA := fun w' => cmp_place a b ha w'
  have HB := fun w' => cmp_place b a hb w'
  obtain ⟨r, hr⟩ : ∃ r, r = a.cmp b := ⟨_, rfl⟩
  rw [← hr]
  unfold V.cmp at hr
  obtain ⟨p, hp⟩ : ∃ p, p = cmpPlace a b := ⟨_, rfl⟩
  obtain ⟨q, hq⟩ : ∃ q, q = cmpPlace b a := ⟨_, rfl⟩
  rw [← hp, ← hq] at hr
  simp only [← hp] at HA
  simp only [← hq] at HB
  obtain ⟨i, n, s⟩ := p
  obtain ⟨j, m, t⟩ := q
  simp only at hr HA HB
  have HAH := Lib.hid HA
  have HBH := Lib.hid HB
  clear HA HB hp hq
  have Hr := Lib.hid hr
  clear hr
  by_cases hij : i = j
  · subst hij
    have e1 : (i != i) = false := by simp
    by_cases hnm : n = m
    · subst hnm
      have e2 : (n != n) = false := by simp
      by_cases hst : s.toList = t.toList
      · obtain rfl : r = 0 := by rw [Hr.out]; simp [hst]
        have e3 : (s.toList == t.toList) = true := by simp [hst]
        have e4 : (s.toList != t.toList) = false := by simp [hst]
        clear hst Hr
        go_enter Try.func45, Try.ntmps45
        go_wp2_with fail
        refine (HAH.out _).mono ?_
        rintro e w1 ⟨rfl, hb1⟩; obtain ⟨hc1, hf1, hz1⟩ := bcell hb1; (try simp only [World.size_alloc, World.size_setCell, World.size_drew] at hz1); have G1 : Below w.heap.size w w1 := (by (refine Below.trans ?_ (Below.mono hb1 (by first | assumption | omega | (simp; done) | (simp; omega)))); (repeat (first | exact Below.refl _ _ | assumption | refine Below.alloc ?_ (by first | assumption | omega | (simp; done) | (simp; omega)) _ | refine Below.drew ?_ | refine bel_drewN ?_ _ | refine Below.setCell ?_ (by first | assumption | omega | (simp; done) | (simp; omega)) _ | (refine Below.trans ?_ (Below.mono (by assumption) (by first | assumption | omega | (simp; done) | (simp; omega)))))); done); obtain ⟨co1, fo1, zo1⟩ := bcell G1; (first | have L1 : Below wr.heap.size wr w1 := (by (refine Below.trans ?_ (Below.mono hb1 (by first | assumption | omega | (simp; done) | (simp; omega)))); (repeat (first | exact Below.refl _ _ | assumption | refine Below.alloc ?_ (by first | assumption | omega | (simp; done) | (simp; omega)) _ | refine Below.drew ?_ | refine bel_drewN ?_ _ | refine Below.setCell ?_ (by first | assumption | omega | (simp; done) | (simp; omega)) _ | (refine Below.trans ?_ (Below.mono (by assumption) (by first | assumption | omega | (simp; done) | (simp; omega)))))); done) | (skip)); (try have z1w0 : w.heap.size < w1.heap.size := by omega); (try have z1w1 : w.heap.size + 1 < w1.heap.size := by omega); (try have z1w2 : w.heap.size + 1 + 1 < w1.heap.size := by omega); (try have z1w3 : w.heap.size + 1 + 1 + 1 < w1.heap.size := by omega); (try have zb1 : b < w1.heap.size := by omega); (try have zgb1 : gb < w1.heap.size := by omega)
        go_wp2_with fail
        refine (HBH.out _).mono ?_
        rintro e w2 ⟨rfl, hb2⟩; obtain ⟨hc2, hf2, hz2⟩ := bcell hb2; (try simp only [World.size_alloc, World.size_setCell, World.size_drew] at hz2); have G2 : Below w.heap.size w w2 := (by (refine Below.trans ?_ (Below.mono hb2 (by first | assumption | omega | (simp; done) | (simp; omega)))); (repeat (first | exact Below.refl _ _ | assumption | refine Below.alloc ?_ (by first | assumption | omega | (simp; done) | (simp; omega)) _ | refine Below.drew ?_ | refine bel_drewN ?_ _ | refine Below.setCell ?_ (by first | assumption | omega | (simp; done) | (simp; omega)) _ | (refine Below.trans ?_ (Below.mono (by assumption) (by first | assumption | omega | (simp; done) | (simp; omega)))))); done); obtain ⟨co2, fo2, zo2⟩ := bcell G2; (first | have L2 : Below wr.heap.size wr w2 := (by (refine Below.trans ?_ (Below.mono hb2 (by first | assumption | omega | (simp; done) | (simp; omega)))); (repeat (first | exact Below.refl _ _ | assumption | refine Below.alloc ?_ (by first | assumption | omega | (simp; done) | (simp; omega)) _ | refine Below.drew ?_ | refine bel_drewN ?_ _ | refine Below.setCell ?_ (by first | assumption | omega | (simp; done) | (simp; omega)) _ | (refine Below.trans ?_ (Below.mono (by assumption) (by first | assumption | omega | (simp; done) | (simp; omega)))))); done) | (skip; (try have B1x2 : Below w1.heap.size w1 w2 := (by (refine Below.trans ?_ (Below.mono hb2 (by first | assumption | omega | (simp; done) | (simp; omega)))); (repeat (first | exact Below.refl _ _ | assumption | refine Below.alloc ?_ (by first | assumption | omega | (simp; done) | (simp; omega)) _ | refine Below.drew ?_ | refine bel_drewN ?_ _ | refine Below.setCell ?_ (by first | assumption | omega | (simp; done) | (simp; omega)) _ | (refine Below.trans ?_ (Below.mono (by assumption) (by first | assumption | omega | (simp; done) | (simp; omega)))))); done)))); (try have z2w0 : w.heap.size < w2.heap.size := by omega); (try have z2w1 : w.heap.size + 1 < w2.heap.size := by omega); (try have z2w2 : w.heap.size + 1 + 1 < w2.heap.size := by omega); (try have z2w3 : w.heap.size + 1 + 1 + 1 < w2.heap.size := by omega); (try have z2w10 : w1.heap.size < w2.heap.size := by omega); (try have z2w11 : w1.heap.size + 1 < w2.heap.size := by omega); (try have z2w12 : w1.heap.size + 1 + 1 < w2.heap.size := by omega); (try have z2w13 : w1.heap.size + 1 + 1 + 1 < w2.heap.size := by omega); (try have zb2 : b < w2.heap.size := by omega); (try have zgb2 : gb < w2.heap.size := by omega)
        go_wp2_with (go_at_call 52; refine (value_order _ _).mono ?_; rintro e w' ⟨rfl, rfl⟩)
        go_ret
        exact ⟨rfl, (by (repeat (first | exact Below.refl _ _ | assumption | refine Below.alloc ?_ (by first | assumption | omega | (simp; done) | (simp; omega)) _ | refine Below.drew ?_ | refine bel_drewN ?_ _ | refine Below.setCell ?_ (by first | assumption | omega | (simp; done) | (simp; omega)) _ | (refine Below.trans ?_ (Below.mono (by assumption) (by first | assumption | omega | (simp; done) | (simp; omega)))))); done)⟩
      · have e3 : (s.toList == t.toList) = false := by simp [hst]
        have e4 : (s.toList != t.toList) = true := by simp [hst]
        obtain ⟨x, hx⟩ : ∃ x, x = Op.bytesLess s.toList t.toList := ⟨_, rfl⟩
        cases x
        · obtain rfl : r = 1 := by rw [Hr.out]; simp [hst, ← hx]
          have hx2 := hx.symm
          clear hst Hr hx
          go_enter Try.func45, Try.ntmps45
          go_wp2_with fail
          refine (HAH.out _).mono ?_
          rintro e w1 ⟨rfl, hb1⟩; obtain ⟨hc1, hf1, hz1⟩ := bcell hb1; (try simp only [World.size_alloc, World.size_setCell, World.size_drew] at hz1); have G1 : Below w.heap.size w w1 := (by (refine Below.trans ?_ (Below.mono hb1 (by first | assumption | omega | (simp; done) | (simp; omega)))); (repeat (first | exact Below.refl _ _ | assumption | refine Below.alloc ?_ (by first | assumption | omega | (simp; done) | (simp; omega)) _ | refine Below.drew ?_ | refine bel_drewN ?_ _ | refine Below.setCell ?_ (by first | assumption | omega | (simp; done) | (simp; omega)) _ | (refine Below.trans ?_ (Below.mono (by assumption) (by first | assumption | omega | (simp; done) | (simp; omega)))))); done); obtain ⟨co1, fo1, zo1⟩ := bcell G1; (first | have L1 : Below wr.heap.size wr w1 := (by (refine Below.trans ?_ (Below.mono hb1 (by first | assumption | omega | (simp; done) | (simp; omega)))); (repeat (first | exact Below.refl _ _ | assumption | refine Below.alloc ?_ (by first | assumption | omega | (simp; done) | (simp; omega)) _ | refine Below.drew ?_ | refine bel_drewN ?_ _ | refine Below.setCell ?_ (by first | assumption | omega | (simp; done) | (simp; omega)) _ | (refine Below.trans ?_ (Below.mono (by assumption) (by first | assumption | omega | (simp; done) | (simp; omega)))))); done) | (skip)); (try have z1w0 : w.heap.size < w1.heap.size := by omega); (try have z1w1 : w.heap.size + 1 < w1.heap.size := by omega); (try have z1w2 : w.heap.size + 1 + 1 < w1.heap.size := by omega); (try have z1w3 : w.heap.size + 1 + 1 + 1 < w1.heap.size := by omega); (try have zb1 : b < w1.heap.size := by omega); (try have zgb1 : gb < w1.heap.size := by omega)
          go_wp2_with fail
          refine (HBH.out _).mono ?_
          rintro e w2 ⟨rfl, hb2⟩; obtain ⟨hc2, hf2, hz2⟩ := bcell hb2; (try simp only [World.size_alloc, World.size_setCell, World.size_drew] at hz2); have G2 : Below w.heap.size w w2 := (by (refine Below.trans ?_ (Below.mono hb2 (by first | assumption | omega | (simp; done) | (simp; omega)))); (repeat (first | exact Below.refl _ _ | assumption | refine Below.alloc ?_ (by first | assumption | omega | (simp; done) | (simp; omega)) _ | refine Below.drew ?_ | refine bel_drewN ?_ _ | refine Below.setCell ?_ (by first | assumption | omega | (simp; done) | (simp; omega)) _ | (refine Below.trans ?_ (Below.mono (by assumption) (by first | assumption | omega | (simp; done) | (simp; omega)))))); done); obtain ⟨co2, fo2, zo2⟩ := bcell G2; (first | have L2 : Below wr.heap.size wr w2 := (by (refine Below.trans ?_ (Below.mono hb2 (by first | assumption | omega | (simp; done) | (simp; omega)))); (repeat (first | exact Below.refl _ _ | assumption | refine Below.alloc ?_ (by first | assumption | omega | (simp; done) | (simp; omega)) _ | refine Below.drew ?_ | refine bel_drewN ?_ _ | refine Below.setCell ?_ (by first | assumption | omega | (simp; done) | (simp; omega)) _ | (refine Below.trans ?_ (Below.mono (by assumption) (by first | assumption | omega | (simp; done) | (simp; omega)))))); done) | (skip; (try have B1x2 : Below w1.heap.size w1 w2 := (by (refine Below.trans ?_ (Below.mono hb2 (by first | assumption | omega | (simp; done) | (simp; omega)))); (repeat (first | exact Below.refl _ _ | assumption | refine Below.alloc ?_ (by first | assumption | omega | (simp; done) | (simp; omega)) _ | refine Below.drew ?_ | refine bel_drewN ?_ _ | refine Below.setCell ?_ (by first | assumption | omega | (simp; done) | (simp; omega)) _ | (refine Below.trans ?_ (Below.mono (by assumption) (by first | assumption | omega | (simp; done) | (simp; omega)))))); done)))); (try have z2w0 : w.heap.size < w2.heap.size := by omega); (try have z2w1 : w.heap.size + 1 < w2.heap.size := by omega); (try have z2w2 : w.heap.size + 1 + 1 < w2.heap.size := by omega); (try have z2w3 : w.heap.size + 1 + 1 + 1 < w2.heap.size := by omega); (try have z2w10 : w1.heap.size < w2.heap.size := by omega); (try have z2w11 : w1.heap.size + 1 < w2.heap.size := by omega); (try have z2w12 : w1.heap.size + 1 + 1 < w2.heap.size := by omega); (try have z2w13 : w1.heap.size + 1 + 1 + 1 < w2.heap.size := by omega); (try have zb2 : b < w2.heap.size := by omega); (try have zgb2 : gb < w2.heap.size := by omega)
          go_wp2_with (go_at_call 52; refine (value_order _ _).mono ?_; rintro e w' ⟨rfl, rfl⟩)
          go_ret
          exact ⟨rfl, (by (repeat (first | exact Below.refl _ _ | assumption | refine Below.alloc ?_ (by first | assumption | omega | (simp; done) | (simp; omega)) _ | refine Below.drew ?_ | refine bel_drewN ?_ _ | refine Below.setCell ?_ (by first | assumption | omega | (simp; done) | (simp; omega)) _ | (refine Below.trans ?_ (Below.mono (by assumption) (by first | assumption | omega | (simp; done) | (simp; omega)))))); done)⟩
        · obtain rfl : r = -1 := by rw [Hr.out]; simp [hst, ← hx]
          have hx2 := hx.symm
          clear hst Hr hx
          go_enter Try.func45, Try.ntmps45
          go_wp2_with fail
          refine (HAH.out _).mono ?_
          rintro e w1 ⟨rfl, hb1⟩; obtain ⟨hc1, hf1, hz1⟩ := bcell hb1; (try simp only [World.size_alloc, World.size_setCell, World.size_drew] at hz1); have G1 : Below w.heap.size w w1 := (by (refine Below.trans ?_ (Below.mono hb1 (by first | assumption | omega | (simp; done) | (simp; omega)))); (repeat (first | exact Below.refl _ _ | assumption | refine Below.alloc ?_ (by first | assumption | omega | (simp; done) | (simp; omega)) _ | refine Below.drew ?_ | refine bel_drewN ?_ _ | refine Below.setCell ?_ (by first | assumption | omega | (simp; done) | (simp; omega)) _ | (refine Below.trans ?_ (Below.mono (by assumption) (by first | assumption | omega | (simp; done) | (simp; omega)))))); done); obtain ⟨co1, fo1, zo1⟩ := bcell G1; (first | have L1 : Below wr.heap.size wr w1 := (by (refine Below.trans ?_ (Below.mono hb1 (by first | assumption | omega | (simp; done) | (simp; omega)))); (repeat (first | exact Below.refl _ _ | assumption | refine Below.alloc ?_ (by first | assumption | omega | (simp; done) | (simp; omega)) _ | refine Below.drew ?_ | refine bel_drewN ?_ _ | refine Below.setCell ?_ (by first | assumption | omega | (simp; done) | (simp; omega)) _ | (refine Below.trans ?_ (Below.mono (by assumption) (by first | assumption | omega | (simp; done) | (simp; omega)))))); done) | (skip)); (try have z1w0 : w.heap.size < w1.heap.size := by omega); (try have z1w1 : w.heap.size + 1 < w1.heap.size := by omega); (try have z1w2 : w.heap.size + 1 + 1 < w1.heap.size := by omega); (try have z1w3 : w.heap.size + 1 + 1 + 1 < w1.heap.size := by omega); (try have zb1 : b < w1.heap.size := by omega); (try have zgb1 : gb < w1.heap.size := by omega)
          go_wp2_with fail
          refine (HBH.out _).mono ?_
          rintro e w2 ⟨rfl, hb2⟩; obtain ⟨hc2, hf2, hz2⟩ := bcell hb2; (try simp only [World.size_alloc, World.size_setCell, World.size_drew] at hz2); have G2 : Below w.heap.size w w2 := (by (refine Below.trans ?_ (Below.mono hb2 (by first | assumption | omega | (simp; done) | (simp; omega)))); (repeat (first | exact Below.refl _ _ | assumption | refine Below.alloc ?_ (by first | assumption | omega | (simp; done) | (simp; omega)) _ | refine Below.drew ?_ | refine bel_drewN ?_ _ | refine Below.setCell ?_ (by first | assumption | omega | (simp; done) | (simp; omega)) _ | (refine Below.trans ?_ (Below.mono (by assumption) (by first | assumption | omega | (simp; done) | (simp; omega)))))); done); obtain ⟨co2, fo2, zo2⟩ := bcell G2; (first | have L2 : Below wr.heap.size wr w2 := (by (refine Below.trans ?_ (Below.mono hb2 (by first | assumption | omega | (simp; done) | (simp; omega)))); (repeat (first | exact Below.refl _ _ | assumption | refine Below.alloc ?_ (by first | assumption | omega | (simp; done) | (simp; omega)) _ | refine Below.drew ?_ | refine bel_drewN ?_ _ | refine Below.setCell ?_ (by first | assumption | omega | (simp; done) | (simp; omega)) _ | (refine Below.trans ?_ (Below.mono (by assumption) (by first | assumption | omega | (simp; done) | (simp; omega)))))); done) | (skip; (try have B1x2 : Below w1.heap.size w1 w2 := (by (refine Below.trans ?_ (Below.mono hb2 (by first | assumption | omega | (simp; done) | (simp; omega)))); (repeat (first | exact Below.refl _ _ | assumption | refine Below.alloc ?_ (by first | assumption | omega | (simp; done) | (simp; omega)) _ | refine Below.drew ?_ | refine bel_drewN ?_ _ | refine Below.setCell ?_ (by first | assumption | omega | (simp; done) | (simp; omega)) _ | (refine Below.trans ?_ (Below.mono (by assumption) (by first | assumption | omega | (simp; done) | (simp; omega)))))); done)))); (try have z2w0 : w.heap.size < w2.heap.size := by omega); (try have z2w1 : w.heap.size + 1 < w2.heap.size := by omega); (try have z2w2 : w.heap.size + 1 + 1 < w2.heap.size := by omega); (try have z2w3 : w.heap.size + 1 + 1 + 1 < w2.heap.size := by omega); (try have z2w10 : w1.heap.size < w2.heap.size := by omega); (try have z2w11 : w1.heap.size + 1 < w2.heap.size := by omega); (try have z2w12 : w1.heap.size + 1 + 1 < w2.heap.size := by omega); (try have z2w13 : w1.heap.size + 1 + 1 + 1 < w2.heap.size := by omega); (try have zb2 : b < w2.heap.size := by omega); (try have zgb2 : gb < w2.heap.size := by omega)
          go_wp2_with (go_at_call 52; refine (value_order _ _).mono ?_; rintro e w' ⟨rfl, rfl⟩)
          go_ret
          exact ⟨rfl, (by (repeat (first | exact Below.refl _ _ | assumption | refine Below.alloc ?_ (by first | assumption | omega | (simp; done) | (simp; omega)) _ | refine Below.drew ?_ | refine bel_drewN ?_ _ | refine Below.setCell ?_ (by first | assumption | omega | (simp; done) | (simp; omega)) _ | (refine Below.trans ?_ (Below.mono (by assumption) (by first | assumption | omega | (simp; done) | (simp; omega)))))); done)⟩
    · have e2 : (n != m) = true := by simp [hnm]
      by_cases hlt : n < m
      · obtain rfl : r = -1 := by rw [Hr.out]; simp [hnm, hlt]
        clear hnm Hr
        go_enter Try.func45, Try.ntmps45
        go_wp2_with fail
        refine (HAH.out _).mono ?_
        rintro e w1 ⟨rfl, hb1⟩; obtain ⟨hc1, hf1, hz1⟩ := bcell hb1; (try simp only [World.size_alloc, World.size_setCell, World.size_drew] at hz1); have G1 : Below w.heap.size w w1 := (by (refine Below.trans ?_ (Below.mono hb1 (by first | assumption | omega | (simp; done) | (simp; omega)))); (repeat (first | exact Below.refl _ _ | assumption | refine Below.alloc ?_ (by first | assumption | omega | (simp; done) | (simp; omega)) _ | refine Below.drew ?_ | refine bel_drewN ?_ _ | refine Below.setCell ?_ (by first | assumption | omega | (simp; done) | (simp; omega)) _ | (refine Below.trans ?_ (Below.mono (by assumption) (by first | assumption | omega | (simp; done) | (simp; omega)))))); done); obtain ⟨co1, fo1, zo1⟩ := bcell G1; (first | have L1 : Below wr.heap.size wr w1 := (by (refine Below.trans ?_ (Below.mono hb1 (by first | assumption | omega | (simp; done) | (simp; omega)))); (repeat (first | exact Below.refl _ _ | assumption | refine Below.alloc ?_ (by first | assumption | omega | (simp; done) | (simp; omega)) _ | refine Below.drew ?_ | refine bel_drewN ?_ _ | refine Below.setCell ?_ (by first | assumption | omega | (simp; done) | (simp; omega)) _ | (refine Below.trans ?_ (Below.mono (by assumption) (by first | assumption | omega | (simp; done) | (simp; omega)))))); done) | (skip)); (try have z1w0 : w.heap.size < w1.heap.size := by omega); (try have z1w1 : w.heap.size + 1 < w1.heap.size := by omega); (try have z1w2 : w.heap.size + 1 + 1 < w1.heap.size := by omega); (try have z1w3 : w.heap.size + 1 + 1 + 1 < w1.heap.size := by omega); (try have zb1 : b < w1.heap.size := by omega); (try have zgb1 : gb < w1.heap.size := by omega)
        go_wp2_with fail
        refine (HBH.out _).mono ?_
        rintro e w2 ⟨rfl, hb2⟩; obtain ⟨hc2, hf2, hz2⟩ := bcell hb2; (try simp only [World.size_alloc, World.size_setCell, World.size_drew] at hz2); have G2 : Below w.heap.size w w2 := (by (refine Below.trans ?_ (Below.mono hb2 (by first | assumption | omega | (simp; done) | (simp; omega)))); (repeat (first | exact Below.refl _ _ | assumption | refine Below.alloc ?_ (by first | assumption | omega | (simp; done) | (simp; omega)) _ | refine Below.drew ?_ | refine bel_drewN ?_ _ | refine Below.setCell ?_ (by first | assumption | omega | (simp; done) | (simp; omega)) _ | (refine Below.trans ?_ (Below.mono (by assumption) (by first | assumption | omega | (simp; done) | (simp; omega)))))); done); obtain ⟨co2, fo2, zo2⟩ := bcell G2; (first | have L2 : Below wr.heap.size wr w2 := (by (refine Below.trans ?_ (Below.mono hb2 (by first | assumption | omega | (simp; done) | (simp; omega)))); (repeat (first | exact Below.refl _ _ | assumption | refine Below.alloc ?_ (by first | assumption | omega | (simp; done) | (simp; omega)) _ | refine Below.drew ?_ | refine bel_drewN ?_ _ | refine Below.setCell ?_ (by first | assumption | omega | (simp; done) | (simp; omega)) _ | (refine Below.trans ?_ (Below.mono (by assumption) (by first | assumption | omega | (simp; done) | (simp; omega)))))); done) | (skip; (try have B1x2 : Below w1.heap.size w1 w2 := (by (refine Below.trans ?_ (Below.mono hb2 (by first | assumption | omega | (simp; done) | (simp; omega)))); (repeat (first | exact Below.refl _ _ | assumption | refine Below.alloc ?_ (by first | assumption | omega | (simp; done) | (simp; omega)) _ | refine Below.drew ?_ | refine bel_drewN ?_ _ | refine Below.setCell ?_ (by first | assumption | omega | (simp; done) | (simp; omega)) _ | (refine Below.trans ?_ (Below.mono (by assumption) (by first | assumption | omega | (simp; done) | (simp; omega)))))); done)))); (try have z2w0 : w.heap.size < w2.heap.size := by omega); (try have z2w1 : w.heap.size + 1 < w2.heap.size := by omega); (try have z2w2 : w.heap.size + 1 + 1 < w2.heap.size := by omega); (try have z2w3 : w.heap.size + 1 + 1 + 1 < w2.heap.size := by omega); (try have z2w10 : w1.heap.size < w2.heap.size := by omega); (try have z2w11 : w1.heap.size + 1 < w2.heap.size := by omega); (try have z2w12 : w1.heap.size + 1 + 1 < w2.heap.size := by omega); (try have z2w13 : w1.heap.size + 1 + 1 + 1 < w2.heap.size := by omega); (try have zb2 : b < w2.heap.size := by omega); (try have zgb2 : gb < w2.heap.size := by omega)
        go_wp2_with (go_at_call 52; refine (value_order _ _).mono ?_; rintro e w' ⟨rfl, rfl⟩)
        go_ret
        exact ⟨rfl, (by (repeat (first | exact Below.refl _ _ | assumption | refine Below.alloc ?_ (by first | assumption | omega | (simp; done) | (simp; omega)) _ | refine Below.drew ?_ | refine bel_drewN ?_ _ | refine Below.setCell ?_ (by first | assumption | omega | (simp; done) | (simp; omega)) _ | (refine Below.trans ?_ (Below.mono (by assumption) (by first | assumption | omega | (simp; done) | (simp; omega)))))); done)⟩
      · obtain rfl : r = 1 := by rw [Hr.out]; simp [hnm, hlt]
        clear hnm Hr
        go_enter Try.func45, Try.ntmps45
        go_wp2_with fail
        refine (HAH.out _).mono ?_
        rintro e w1 ⟨rfl, hb1⟩; obtain ⟨hc1, hf1, hz1⟩ := bcell hb1; (try simp only [World.size_alloc, World.size_setCell, World.size_drew] at hz1); have G1 : Below w.heap.size w w1 := (by (refine Below.trans ?_ (Below.mono hb1 (by first | assumption | omega | (simp; done) | (simp; omega)))); (repeat (first | exact Below.refl _ _ | assumption | refine Below.alloc ?_ (by first | assumption | omega | (simp; done) | (simp; omega)) _ | refine Below.drew ?_ | refine bel_drewN ?_ _ | refine Below.setCell ?_ (by first | assumption | omega | (simp; done) | (simp; omega)) _ | (refine Below.trans ?_ (Below.mono (by assumption) (by first | assumption | omega | (simp; done) | (simp; omega)))))); done); obtain ⟨co1, fo1, zo1⟩ := bcell G1; (first | have L1 : Below wr.heap.size wr w1 := (by (refine Below.trans ?_ (Below.mono hb1 (by first | assumption | omega | (simp; done) | (simp; omega)))); (repeat (first | exact Below.refl _ _ | assumption | refine Below.alloc ?_ (by first | assumption | omega | (simp; done) | (simp; omega)) _ | refine Below.drew ?_ | refine bel_drewN ?_ _ | refine Below.setCell ?_ (by first | assumption | omega | (simp; done) | (simp; omega)) _ | (refine Below.trans ?_ (Below.mono (by assumption) (by first | assumption | omega | (simp; done) | (simp; omega)))))); done) | (skip)); (try have z1w0 : w.heap.size < w1.heap.size := by omega); (try have z1w1 : w.heap.size + 1 < w1.heap.size := by omega); (try have z1w2 : w.heap.size + 1 + 1 < w1.heap.size := by omega); (try have z1w3 : w.heap.size + 1 + 1 + 1 < w1.heap.size := by omega); (try have zb1 : b < w1.heap.size := by omega); (try have zgb1 : gb < w1.heap.size := by omega)
        go_wp2_with fail
        refine (HBH.out _).mono ?_
        rintro e w2 ⟨rfl, hb2⟩; obtain ⟨hc2, hf2, hz2⟩ := bcell hb2; (try simp only [World.size_alloc, World.size_setCell, World.size_drew] at hz2); have G2 : Below w.heap.size w w2 := (by (refine Below.trans ?_ (Below.mono hb2 (by first | assumption | omega | (simp; done) | (simp; omega)))); (repeat (first | exact Below.refl _ _ | assumption | refine Below.alloc ?_ (by first | assumption | omega | (simp; done) | (simp; omega)) _ | refine Below.drew ?_ | refine bel_drewN ?_ _ | refine Below.setCell ?_ (by first | assumption | omega | (simp; done) | (simp; omega)) _ | (refine Below.trans ?_ (Below.mono (by assumption) (by first | assumption | omega | (simp; done) | (simp; omega)))))); done); obtain ⟨co2, fo2, zo2⟩ := bcell G2; (first | have L2 : Below wr.heap.size wr w2 := (by (refine Below.trans ?_ (Below.mono hb2 (by first | assumption | omega | (simp; done) | (simp; omega)))); (repeat (first | exact Below.refl _ _ | assumption | refine Below.alloc ?_ (by first | assumption | omega | (simp; done) | (simp; omega)) _ | refine Below.drew ?_ | refine bel_drewN ?_ _ | refine Below.setCell ?_ (by first | assumption | omega | (simp; done) | (simp; omega)) _ | (refine Below.trans ?_ (Below.mono (by assumption) (by first | assumption | omega | (simp; done) | (simp; omega)))))); done) | (skip; (try have B1x2 : Below w1.heap.size w1 w2 := (by (refine Below.trans ?_ (Below.mono hb2 (by first | assumption | omega | (simp; done) | (simp; omega)))); (repeat (first | exact Below.refl _ _ | assumption | refine Below.alloc ?_ (by first | assumption | omega | (simp; done) | (simp; omega)) _ | refine Below.drew ?_ | refine bel_drewN ?_ _ | refine Below.setCell ?_ (by first | assumption | omega | (simp; done) | (simp; omega)) _ | (refine Below.trans ?_ (Below.mono (by assumption) (by first | assumption | omega | (simp; done) | (simp; omega)))))); done)))); (try have z2w0 : w.heap.size < w2.heap.size := by omega); (try have z2w1 : w.heap.size + 1 < w2.heap.size := by omega); (try have z2w2 : w.heap.size + 1 + 1 < w2.heap.size := by omega); (try have z2w3 : w.heap.size + 1 + 1 + 1 < w2.heap.size := by omega); (try have z2w10 : w1.heap.size < w2.heap.size := by omega); (try have z2w11 : w1.heap.size + 1 < w2.heap.size := by omega); (try have z2w12 : w1.heap.size + 1 + 1 < w2.heap.size := by omega); (try have z2w13 : w1.heap.size + 1 + 1 + 1 < w2.heap.size := by omega); (try have zb2 : b < w2.heap.size := by omega); (try have zgb2 : gb < w2.heap.size := by omega)
        go_wp2_with (go_at_call 52; refine (value_order _ _).mono ?_; rintro e w' ⟨rfl, rfl⟩)
        go_ret
        exact ⟨rfl, (by (repeat (first | exact Below.refl _ _ | assumption | refine Below.alloc ?_ (by first | assumption | omega | (simp; done) | (simp; omega)) _ | refine Below.drew ?_ | refine bel_drewN ?_ _ | refine Below.setCell ?_ (by first | assumption | omega | (simp; done) | (simp; omega)) _ | (refine Below.trans ?_ (Below.mono (by assumption) (by first | assumption | omega | (simp; done) | (simp; omega)))))); done)⟩
  · have e1 : (i != j) = true := by simp [hij]
    by_cases hlt : i < j
    · obtain rfl : r = -1 := by rw [Hr.out]; simp [hij, hlt]
      clear hij Hr
      go_enter Try.func45, Try.ntmps45
      go_wp2_with fail
      refine (HAH.out _).mono ?_
      rintro e w1 ⟨rfl, hb1⟩; obtain ⟨hc1, hf1, hz1⟩ := bcell hb1; (try simp only [World.size_alloc, World.size_setCell, World.size_drew] at hz1); have G1 : Below w.heap.size w w1 := (by (refine Below.trans ?_ (Below.mono hb1 (by first | assumption | omega | (simp; done) | (simp; omega)))); (repeat (first | exact Below.refl _ _ | assumption | refine Below.alloc ?_ (by first | assumption | omega | (simp; done) | (simp; omega)) _ | refine Below.drew ?_ | refine bel_drewN ?_ _ | refine Below.setCell ?_ (by first | assumption | omega | (simp; done) | (simp; omega)) _ | (refine Below.trans ?_ (Below.mono (by assumption) (by first | assumption | omega | (simp; done) | (simp; omega)))))); done); obtain ⟨co1, fo1, zo1⟩ := bcell G1; (first | have L1 : Below wr.heap.size wr w1 := (by (refine Below.trans ?_ (Below.mono hb1 (by first | assumption | omega | (simp; done) | (simp; omega)))); (repeat (first | exact Below.refl _ _ | assumption | refine Below.alloc ?_ (by first | assumption | omega | (simp; done) | (simp; omega)) _ | refine Below.drew ?_ | refine bel_drewN ?_ _ | refine Below.setCell ?_ (by first | assumption | omega | (simp; done) | (simp; omega)) _ | (refine Below.trans ?_ (Below.mono (by assumption) (by first | assumption | omega | (simp; done) | (simp; omega)))))); done) | (skip)); (try have z1w0 : w.heap.size < w1.heap.size := by omega); (try have z1w1 : w.heap.size + 1 < w1.heap.size := by omega); (try have z1w2 : w.heap.size + 1 + 1 < w1.heap.size := by omega); (try have z1w3 : w.heap.size + 1 + 1 + 1 < w1.heap.size := by omega); (try have zb1 : b < w1.heap.size := by omega); (try have zgb1 : gb < w1.heap.size := by omega)
      go_wp2_with fail
      refine (HBH.out _).mono ?_
      rintro e w2 ⟨rfl, hb2⟩; obtain ⟨hc2, hf2, hz2⟩ := bcell hb2; (try simp only [World.size_alloc, World.size_setCell, World.size_drew] at hz2); have G2 : Below w.heap.size w w2 := (by (refine Below.trans ?_ (Below.mono hb2 (by first | assumption | omega | (simp; done) | (simp; omega)))); (repeat (first | exact Below.refl _ _ | assumption | refine Below.alloc ?_ (by first | assumption | omega | (simp; done) | (simp; omega)) _ | refine Below.drew ?_ | refine bel_drewN ?_ _ | refine Below.setCell ?_ (by first | assumption | omega | (simp; done) | (simp; omega)) _ | (refine Below.trans ?_ (Below.mono (by assumption) (by first | assumption | omega | (simp; done) | (simp; omega)))))); done); obtain ⟨co2, fo2, zo2⟩ := bcell G2; (first | have L2 : Below wr.heap.size wr w2 := (by (refine Below.trans ?_ (Below.mono hb2 (by first | assumption | omega | (simp; done) | (simp; omega)))); (repeat (first | exact Below.refl _ _ | assumption | refine Below.alloc ?_ (by first | assumption | omega | (simp; done) | (simp; omega)) _ | refine Below.drew ?_ | refine bel_drewN ?_ _ | refine Below.setCell ?_ (by first | assumption | omega | (simp; done) | (simp; omega)) _ | (refine Below.trans ?_ (Below.mono (by assumption) (by first | assumption | omega | (simp; done) | (simp; omega)))))); done) | (skip; (try have B1x2 : Below w1.heap.size w1 w2 := (by (refine Below.trans ?_ (Below.mono hb2 (by first | assumption | omega | (simp; done) | (simp; omega)))); (repeat (first | exact Below.refl _ _ | assumption | refine Below.alloc ?_ (by first | assumption | omega | (simp; done) | (simp; omega)) _ | refine Below.drew ?_ | refine bel_drewN ?_ _ | refine Below.setCell ?_ (by first | assumption | omega | (simp; done) | (simp; omega)) _ | (refine Below.trans ?_ (Below.mono (by assumption) (by first | assumption | omega | (simp; done) | (simp; omega)))))); done)))); (try have z2w0 : w.heap.size < w2.heap.size := by omega); (try have z2w1 : w.heap.size + 1 < w2.heap.size := by omega); (try have z2w2 : w.heap.size + 1 + 1 < w2.heap.size := by omega); (try have z2w3 : w.heap.size + 1 + 1 + 1 < w2.heap.size := by omega); (try have z2w10 : w1.heap.size < w2.heap.size := by omega); (try have z2w11 : w1.heap.size + 1 < w2.heap.size := by omega); (try have z2w12 : w1.heap.size + 1 + 1 < w2.heap.size := by omega); (try have z2w13 : w1.heap.size + 1 + 1 + 1 < w2.heap.size := by omega); (try have zb2 : b < w2.heap.size := by omega); (try have zgb2 : gb < w2.heap.size := by omega)
      go_wp2_with (go_at_call 52; refine (value_order _ _).mono ?_; rintro e w' ⟨rfl, rfl⟩)
      go_ret
      exact ⟨rfl, (by (repeat (first | exact Below.refl _ _ | assumption | refine Below.alloc ?_ (by first | assumption | omega | (simp; done) | (simp; omega)) _ | refine Below.drew ?_ | refine bel_drewN ?_ _ | refine Below.setCell ?_ (by first | assumption | omega | (simp; done) | (simp; omega)) _ | (refine Below.trans ?_ (Below.mono (by assumption) (by first | assumption | omega | (simp; done) | (simp; omega)))))); done)⟩
    · obtain rfl : r = 1 := by rw [Hr.out]; simp [hij, hlt]
      clear hij Hr
      go_enter Try.func45, Try.ntmps45
      go_wp2_with fail
      refine (HAH.out _).mono ?_
      rintro e w1 ⟨rfl, hb1⟩; obtain ⟨hc1, hf1, hz1⟩ := bcell hb1; (try simp only [World.size_alloc, World.size_setCell, World.size_drew] at hz1); have G1 : Below w.heap.size w w1 := (by (refine Below.trans ?_ (Below.mono hb1 (by first | assumption | omega | (simp; done) | (simp; omega)))); (repeat (first | exact Below.refl _ _ | assumption | refine Below.alloc ?_ (by first | assumption | omega | (simp; done) | (simp; omega)) _ | refine Below.drew ?_ | refine bel_drewN ?_ _ | refine Below.setCell ?_ (by first | assumption | omega | (simp; done) | (simp; omega)) _ | (refine Below.trans ?_ (Below.mono (by assumption) (by first | assumption | omega | (simp; done) | (simp; omega)))))); done); obtain ⟨co1, fo1, zo1⟩ := bcell G1; (first | have L1 : Below wr.heap.size wr w1 := (by (refine Below.trans ?_ (Below.mono hb1 (by first | assumption | omega | (simp; done) | (simp; omega)))); (repeat (first | exact Below.refl _ _ | assumption | refine Below.alloc ?_ (by first | assumption | omega | (simp; done) | (simp; omega)) _ | refine Below.drew ?_ | refine bel_drewN ?_ _ | refine Below.setCell ?_ (by first | assumption | omega | (simp; done) | (simp; omega)) _ | (refine Below.trans ?_ (Below.mono (by assumption) (by first | assumption | omega | (simp; done) | (simp; omega)))))); done) | (skip)); (try have z1w0 : w.heap.size < w1.heap.size := by omega); (try have z1w1 : w.heap.size + 1 < w1.heap.size := by omega); (try have z1w2 : w.heap.size + 1 + 1 < w1.heap.size := by omega); (try have z1w3 : w.heap.size + 1 + 1 + 1 < w1.heap.size := by omega); (try have zb1 : b < w1.heap.size := by omega); (try have zgb1 : gb < w1.heap.size := by omega)
      go_wp2_with fail
      refine (HBH.out _).mono ?_
      rintro e w2 ⟨rfl, hb2⟩; obtain ⟨hc2, hf2, hz2⟩ := bcell hb2; (try simp only [World.size_alloc, World.size_setCell, World.size_drew] at hz2); have G2 : Below w.heap.size w w2 := (by (refine Below.trans ?_ (Below.mono hb2 (by first | assumption | omega | (simp; done) | (simp; omega)))); (repeat (first | exact Below.refl _ _ | assumption | refine Below.alloc ?_ (by first | assumption | omega | (simp; done) | (simp; omega)) _ | refine Below.drew ?_ | refine bel_drewN ?_ _ | refine Below.setCell ?_ (by first | assumption | omega | (simp; done) | (simp; omega)) _ | (refine Below.trans ?_ (Below.mono (by assumption) (by first | assumption | omega | (simp; done) | (simp; omega)))))); done); obtain ⟨co2, fo2, zo2⟩ := bcell G2; (first | have L2 : Below wr.heap.size wr w2 := (by (refine Below.trans ?_ (Below.mono hb2 (by first | assumption | omega | (simp; done) | (simp; omega)))); (repeat (first | exact Below.refl _ _ | assumption | refine Below.alloc ?_ (by first | assumption | omega | (simp; done) | (simp; omega)) _ | refine Below.drew ?_ | refine bel_drewN ?_ _ | refine Below.setCell ?_ (by first | assumption | omega | (simp; done) | (simp; omega)) _ | (refine Below.trans ?_ (Below.mono (by assumption) (by first | assumption | omega | (simp; done) | (simp; omega)))))); done) | (skip; (try have B1x2 : Below w1.heap.size w1 w2 := (by (refine Below.trans ?_ (Below.mono hb2 (by first | assumption | omega | (simp; done) | (simp; omega)))); (repeat (first | exact Below.refl _ _ | assumption | refine Below.alloc ?_ (by first | assumption | omega | (simp; done) | (simp; omega)) _ | refine Below.drew ?_ | refine bel_drewN ?_ _ | refine Below.setCell ?_ (by first | assumption | omega | (simp; done) | (simp; omega)) _ | (refine Below.trans ?_ (Below.mono (by assumption) (by first | assumption | omega | (simp; done) | (simp; omega)))))); done)))); (try have z2w0 : w.heap.size < w2.heap.size := by omega); (try have z2w1 : w.heap.size + 1 < w2.heap.size := by omega); (try have z2w2 : w.heap.size + 1 + 1 < w2.heap.size := by omega); (try have z2w3 : w.heap.size + 1 + 1 + 1 < w2.heap.size := by omega); (try have z2w10 : w1.heap.size < w2.heap.size := by omega); (try have z2w11 : w1.heap.size + 1 < w2.heap.size := by omega); (try have z2w12 : w1.heap.size + 1 + 1 < w2.heap.size := by omega); (try have z2w13 : w1.heap.size + 1 + 1 + 1 < w2.heap.size := by omega); (try have zb2 : b < w2.heap.size := by omega); (try have zgb2 : gb < w2.heap.size := by omega)
      go_wp2_with (go_at_call 52; refine (value_order _ _).mono ?_; rintro e w' ⟨rfl, rfl⟩)
      go_ret
      exact ⟨rfl, (by (repeat (first | exact Below.refl _ _ | assumption | refine Below.alloc ?_ (by first | assumption | omega | (simp; done) | (simp; omega)) _ | refine Below.drew ?_ | refine bel_drewN ?_ _ | refine Below.setCell ?_ (by first | assumption | omega | (simp; done) | (simp; omega)) _ | (refine Below.trans ?_ (Below.mono (by assumption) (by first | assumption | omega | (simp; done) | (simp; omega)))))); done)⟩
end Go.Proofs.Ytpoiebkcjehheaa
