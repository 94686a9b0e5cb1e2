/- Contracts of num.Good and value.Good. -/
import Derived.Test.YtpoiebkcjehheaaBase
namespace Go.Proofs.Ytpoiebkcjehheaa
open Go.RowKit
set_option linter.unusedSimpArgs false
set_option linter.unusedVariables false
attribute [local go_sem] ta_blank_blank ta_blank_dec ta_blank_text ta_blank_truth ta_blank_fault ta_dec_blank ta_dec_dec ta_dec_text ta_dec_truth ta_dec_fault ta_text_blank ta_text_dec ta_text_text ta_text_truth ta_text_fault ta_truth_blank ta_truth_dec ta_truth_text ta_truth_truth ta_truth_fault ta_fault_blank ta_fault_dec ta_fault_text ta_fault_truth ta_fault_fault ta_nil_blank ta_nil_dec ta_nil_text ta_nil_truth ta_nil_fault

def numGood (n : Int) : Bool := decide (-100000000000 ≤ n) && decide (n ≤ 100000000000)

theorem num_Good (n : Int) (w : World) : Calls Try.prog 49 #[.int .i64 n] w fun e w' => e = .returned (.bool (numGood n)) ∧ w = w' := by
  obtain ⟨r, hr⟩ : ∃ r, r = numGood n := ⟨_, rfl⟩
  rw [← hr]
  have Hr := Lib.hid hr
  clear hr
  by_cases h : -100000000000 ≤ n
  · go_enter Try.func49, Try.ntmps49
    go_wp2
    go_ret
    exact ⟨ret_bool (by rw [Hr.out]; simp [numGood, h]), rfl⟩
  · go_enter Try.func49, Try.ntmps49
    go_wp2
    go_ret
    exact ⟨ret_bool (by rw [Hr.out]; simp [numGood]; omega), rfl⟩

def V.good (v : V) : Bool :=
  if v.k = 2 then decide (v.n = 0) && decide (v.s.size ≤ 255)
  else if v.s.size ≠ 0 then false
  else if v.k = 0 then decide (v.n = 0)
  else if v.k = 1 then numGood v.n
  else if v.k = 3 then decide (v.n = 0) || decide (v.n = 1)
  else if v.k = 4 then decide (1 ≤ v.n) && decide (v.n ≤ 8)
  else false

theorem value_Good (k n : Int) (s : ByteArray) (w : World) :
    Calls Try.prog 48 #[.agg #[.int .i64 k, .int .i64 n, .string s]] w fun e w' => e = .returned (.bool (V.good ⟨k, n, s⟩)) ∧ Below w.heap.size w w' := by
  obtain ⟨r, hr⟩ : ∃ r, r = V.good ⟨k, n, s⟩ := ⟨_, rfl⟩
  rw [← hr]
  have he := isEmpty_size s
  have Hr := Lib.hid hr
  clear hr
  by_cases k2 : k = 2
  · subst k2
    clear he
    by_cases hn : n = 0
    · subst hn
      go_enter Try.func48, Try.ntmps48
      go_wp2
      go_ret
      exact ⟨ret_bool (by rw [Hr.out]; simp [V.good]; omega), (by (repeat (first | exact Below.refl _ _ | assumption | refine Below.alloc ?_ (by first | assumption | omega | (simp; done) | (simp; omega)) _ | refine Below.drew ?_ | refine bel_drewN ?_ _ | refine Below.setCell ?_ (by first | assumption | omega | (simp; done) | (simp; omega)) _ | (refine Below.trans ?_ (Below.mono (by assumption) (by first | assumption | omega | (simp; done) | (simp; omega)))))); done)⟩
    · go_enter Try.func48, Try.ntmps48
      go_wp2
      go_ret
      exact ⟨ret_bool (by rw [Hr.out]; simp [V.good, hn]), (by (repeat (first | exact Below.refl _ _ | assumption | refine Below.alloc ?_ (by first | assumption | omega | (simp; done) | (simp; omega)) _ | refine Below.drew ?_ | refine bel_drewN ?_ _ | refine Below.setCell ?_ (by first | assumption | omega | (simp; done) | (simp; omega)) _ | (refine Below.trans ?_ (Below.mono (by assumption) (by first | assumption | omega | (simp; done) | (simp; omega)))))); done)⟩
  have b2 : (k != 2) = true := by simp [k2]
  by_cases hz : s.size = 0
  · have hz1 : (!s.toList.isEmpty) = false := by simp [he, hz]
    have Hz := Lib.hid hz
    clear hz he
    by_cases k0 : k = 0
    · subst k0
      clear b2 k2
      go_enter Try.func48, Try.ntmps48
      go_wp2
      go_ret
      exact ⟨ret_bool (by rw [Hr.out]; simp [V.good, Hz.out]; rfl), (by (repeat (first | exact Below.refl _ _ | assumption | refine Below.alloc ?_ (by first | assumption | omega | (simp; done) | (simp; omega)) _ | refine Below.drew ?_ | refine bel_drewN ?_ _ | refine Below.setCell ?_ (by first | assumption | omega | (simp; done) | (simp; omega)) _ | (refine Below.trans ?_ (Below.mono (by assumption) (by first | assumption | omega | (simp; done) | (simp; omega)))))); done)⟩
    by_cases k1 : k = 1
    · subst k1
      clear b2 k2 k0
      go_enter Try.func48, Try.ntmps48
      go_wp2_with (first | (go_at_call 49; refine (num_Good _ _).mono ?_; rintro e w' ⟨rfl, rfl⟩) | go_in)
      go_ret
      exact ⟨ret_bool (by rw [Hr.out]; simp [V.good, Hz.out]), (by (repeat (first | exact Below.refl _ _ | assumption | refine Below.alloc ?_ (by first | assumption | omega | (simp; done) | (simp; omega)) _ | refine Below.drew ?_ | refine bel_drewN ?_ _ | refine Below.setCell ?_ (by first | assumption | omega | (simp; done) | (simp; omega)) _ | (refine Below.trans ?_ (Below.mono (by assumption) (by first | assumption | omega | (simp; done) | (simp; omega)))))); done)⟩
    by_cases k3 : k = 3
    · subst k3
      clear b2 k2 k0 k1
      by_cases hn : n = 0
      · subst hn
        go_enter Try.func48, Try.ntmps48
        go_wp2
        go_ret
        exact ⟨ret_bool (by rw [Hr.out]; simp [V.good, Hz.out]), (by (repeat (first | exact Below.refl _ _ | assumption | refine Below.alloc ?_ (by first | assumption | omega | (simp; done) | (simp; omega)) _ | refine Below.drew ?_ | refine bel_drewN ?_ _ | refine Below.setCell ?_ (by first | assumption | omega | (simp; done) | (simp; omega)) _ | (refine Below.trans ?_ (Below.mono (by assumption) (by first | assumption | omega | (simp; done) | (simp; omega)))))); done)⟩
      · go_enter Try.func48, Try.ntmps48
        go_wp2
        go_ret
        exact ⟨ret_bool (by rw [Hr.out]; simp [V.good, Hz.out, hn]; rw [Bool.eq_iff_iff]; simp; omega), (by (repeat (first | exact Below.refl _ _ | assumption | refine Below.alloc ?_ (by first | assumption | omega | (simp; done) | (simp; omega)) _ | refine Below.drew ?_ | refine bel_drewN ?_ _ | refine Below.setCell ?_ (by first | assumption | omega | (simp; done) | (simp; omega)) _ | (refine Below.trans ?_ (Below.mono (by assumption) (by first | assumption | omega | (simp; done) | (simp; omega)))))); done)⟩
    by_cases k4 : k = 4
    · subst k4
      clear b2 k2 k0 k1 k3
      by_cases hn : 1 ≤ n
      · go_enter Try.func48, Try.ntmps48
        go_wp2
        go_ret
        exact ⟨ret_bool (by rw [Hr.out]; simp [V.good, Hz.out, hn]), (by (repeat (first | exact Below.refl _ _ | assumption | refine Below.alloc ?_ (by first | assumption | omega | (simp; done) | (simp; omega)) _ | refine Below.drew ?_ | refine bel_drewN ?_ _ | refine Below.setCell ?_ (by first | assumption | omega | (simp; done) | (simp; omega)) _ | (refine Below.trans ?_ (Below.mono (by assumption) (by first | assumption | omega | (simp; done) | (simp; omega)))))); done)⟩
      · go_enter Try.func48, Try.ntmps48
        go_wp2
        go_ret
        exact ⟨ret_bool (by rw [Hr.out]; simp [V.good, Hz.out]; omega), (by (repeat (first | exact Below.refl _ _ | assumption | refine Below.alloc ?_ (by first | assumption | omega | (simp; done) | (simp; omega)) _ | refine Below.drew ?_ | refine bel_drewN ?_ _ | refine Below.setCell ?_ (by first | assumption | omega | (simp; done) | (simp; omega)) _ | (refine Below.trans ?_ (Below.mono (by assumption) (by first | assumption | omega | (simp; done) | (simp; omega)))))); done)⟩
    · have c0 : (k == 0) = false := by simp [k0]
      have c1 : (k == 1) = false := by simp [k1]
      have c2 : (k == 2) = false := by simp [k2]
      have c3 : (k == 3) = false := by simp [k3]
      have c4 : (k == 4) = false := by simp [k4]
      go_enter Try.func48, Try.ntmps48
      go_wp2
      go_ret
      exact ⟨ret_bool (by rw [Hr.out]; simp [V.good, Hz.out, k0, k1, k2, k3, k4]), (by (repeat (first | exact Below.refl _ _ | assumption | refine Below.alloc ?_ (by first | assumption | omega | (simp; done) | (simp; omega)) _ | refine Below.drew ?_ | refine bel_drewN ?_ _ | refine Below.setCell ?_ (by first | assumption | omega | (simp; done) | (simp; omega)) _ | (refine Below.trans ?_ (Below.mono (by assumption) (by first | assumption | omega | (simp; done) | (simp; omega)))))); done)⟩
  · have hz1 : (!s.toList.isEmpty) = true := by simp [he, hz]
    go_enter Try.func48, Try.ntmps48
    go_wp2
    go_ret
    exact ⟨ret_bool (by rw [Hr.out]; simp [V.good, k2, hz]), (by (repeat (first | exact Below.refl _ _ | assumption | refine Below.alloc ?_ (by first | assumption | omega | (simp; done) | (simp; omega)) _ | refine Below.drew ?_ | refine bel_drewN ?_ _ | refine Below.setCell ?_ (by first | assumption | omega | (simp; done) | (simp; omega)) _ | (refine Below.trans ?_ (Below.mono (by assumption) (by first | assumption | omega | (simp; done) | (simp; omega)))))); done)⟩
end Go.Proofs.Ytpoiebkcjehheaa
