/- Contracts of value.ToNum and value.ToBool. -/
import Derived.Test.YtpoiebkcjehheaaParse
namespace Go.Proofs.Ytpoiebkcjehheaa
open Go.RowKit
set_option linter.unusedSimpArgs false
set_option linter.unusedVariables false
attribute [local go_sem] ta_blank_blank ta_blank_dec ta_blank_text ta_blank_truth ta_blank_fault ta_dec_blank ta_dec_dec ta_dec_text ta_dec_truth ta_dec_fault ta_text_blank ta_text_dec ta_text_text ta_text_truth ta_text_fault ta_truth_blank ta_truth_dec ta_truth_text ta_truth_truth ta_truth_fault ta_fault_blank ta_fault_dec ta_fault_text ta_fault_truth ta_fault_fault ta_nil_blank ta_nil_dec ta_nil_text ta_nil_truth ta_nil_fault

/-- A value's number, or which error. -/
def V.toNum (v : V) : Int × Int :=
  if v.k = 0 then (0, 0)
  else if v.k = 1 then (v.n, 0)
  else if v.k = 2 then (match parseOf v.s.data.toList with
    | some n => (n, 0)
    | none => (0, 2))
  else if v.k = 3 then (if v.n = 0 then 0 else 10000, 0)
  else if v.k = 4 then (0, v.n)
  else (0, 2)

theorem value_ToNum (v : V) (hs : v.s.size < 4294967281) (w : World) (hg : Glob w) :
    Calls Try.prog 43 #[(.agg #[.int .i64 (v).k, .int .i64 (v).n, .string (v).s])] w fun e w' => e = .returned (.tuple #[.int .i64 v.toNum.1, .int .i64 v.toNum.2]) ∧ Below w.heap.size w w' := by
  obtain ⟨k, n, s⟩ := v
  simp only at hs ⊢
  have HG := fun w' (H : Below w.heap.size w w') => num_Parse s hs w' (hg.below H)
  obtain ⟨r1, hr1⟩ : ∃ r, r = (V.toNum ⟨k, n, s⟩).1 := ⟨_, rfl⟩
  obtain ⟨r2, hr2⟩ : ∃ r, r = (V.toNum ⟨k, n, s⟩).2 := ⟨_, rfl⟩
  rw [← hr1, ← hr2]
  by_cases k0 : k = 0
  · subst k0
    obtain rfl : r1 = 0 := by rw [hr1]; rfl
    obtain rfl : r2 = 0 := by rw [hr2]; rfl
    clear hr1 hr2 HG
    go_enter Try.func43, Try.ntmps43
    go_wp2
    go_ret2
    exact ⟨rfl, (by (repeat (first | exact Below.refl _ _ | assumption | refine Below.alloc ?_ (by first | assumption | omega | (simp; done) | (simp; omega)) _ | refine Below.drew ?_ | refine bel_drewN ?_ _ | refine Below.setCell ?_ (by first | assumption | omega | (simp; done) | (simp; omega)) _ | (refine Below.trans ?_ (Below.mono (by assumption) (by first | assumption | omega | (simp; done) | (simp; omega)))))); done)⟩
  by_cases k1 : k = 1
  · subst k1
    obtain rfl : r1 = n := by rw [hr1]; rfl
    obtain rfl : r2 = 0 := by rw [hr2]; rfl
    clear hr1 hr2 HG k0
    go_enter Try.func43, Try.ntmps43
    go_wp2
    go_ret2
    exact ⟨rfl, (by (repeat (first | exact Below.refl _ _ | assumption | refine Below.alloc ?_ (by first | assumption | omega | (simp; done) | (simp; omega)) _ | refine Below.drew ?_ | refine bel_drewN ?_ _ | refine Below.setCell ?_ (by first | assumption | omega | (simp; done) | (simp; omega)) _ | (refine Below.trans ?_ (Below.mono (by assumption) (by first | assumption | omega | (simp; done) | (simp; omega)))))); done)⟩
  by_cases k2 : k = 2
  · subst k2
    have h1 : r1 = ((parseOf s.data.toList).getD 0) := by rw [hr1]; simp only [V.toNum, k0, k1, if_false, if_true]; cases parseOf s.data.toList <;> rfl
    have h2 : r2 = if (parseOf s.data.toList).isSome then 0 else 2 := by rw [hr2]; simp only [V.toNum, k0, k1, if_false, if_true]; cases parseOf s.data.toList <;> rfl
    obtain ⟨pv, hpv⟩ : ∃ pv, pv = (parseOf s.data.toList).getD 0 := ⟨_, rfl⟩
    obtain ⟨pb, hpb⟩ : ∃ pb, pb = (parseOf s.data.toList).isSome := ⟨_, rfl⟩
    have hz : pb = false → pv = 0 := by rw [hpb, hpv]; cases parseOf s.data.toList <;> simp
    simp only [← hpv, ← hpb] at h1 h2 HG
    have HGH := Lib.hid HG
    subst h1
    clear hr1 hr2 hpv hpb HG k0 k1
    cases pb
    · obtain rfl : r2 = 2 := by rw [h2]; rfl
      obtain rfl : r1 = 0 := hz rfl
      clear h2 hz
      go_enter Try.func43, Try.ntmps43
      go_wp2_with (first | (go_at_call 50; refine (HGH.out _ (by (repeat (first | exact Below.refl _ _ | assumption | refine Below.alloc ?_ (by first | assumption | omega | (simp; done) | (simp; omega)) _ | refine Below.drew ?_ | refine bel_drewN ?_ _ | refine Below.setCell ?_ (by first | assumption | omega | (simp; done) | (simp; omega)) _ | (refine Below.trans ?_ (Below.mono (by assumption) (by first | assumption | omega | (simp; done) | (simp; omega)))))); done)).mono ?_; rintro e w1 ⟨rfl, hb1⟩) | go_in)
      go_ret2
      exact ⟨rfl, (by (repeat (first | exact Below.refl _ _ | assumption | refine Below.alloc ?_ (by first | assumption | omega | (simp; done) | (simp; omega)) _ | refine Below.drew ?_ | refine bel_drewN ?_ _ | refine Below.setCell ?_ (by first | assumption | omega | (simp; done) | (simp; omega)) _ | (refine Below.trans ?_ (Below.mono (by assumption) (by first | assumption | omega | (simp; done) | (simp; omega)))))); done)⟩
    · obtain rfl : r2 = 0 := by rw [h2]; rfl
      clear h2 hz
      go_enter Try.func43, Try.ntmps43
      go_wp2_with (first | (go_at_call 50; refine (HGH.out _ (by (repeat (first | exact Below.refl _ _ | assumption | refine Below.alloc ?_ (by first | assumption | omega | (simp; done) | (simp; omega)) _ | refine Below.drew ?_ | refine bel_drewN ?_ _ | refine Below.setCell ?_ (by first | assumption | omega | (simp; done) | (simp; omega)) _ | (refine Below.trans ?_ (Below.mono (by assumption) (by first | assumption | omega | (simp; done) | (simp; omega)))))); done)).mono ?_; rintro e w1 ⟨rfl, hb1⟩) | go_in)
      go_ret2
      exact ⟨rfl, (by (repeat (first | exact Below.refl _ _ | assumption | refine Below.alloc ?_ (by first | assumption | omega | (simp; done) | (simp; omega)) _ | refine Below.drew ?_ | refine bel_drewN ?_ _ | refine Below.setCell ?_ (by first | assumption | omega | (simp; done) | (simp; omega)) _ | (refine Below.trans ?_ (Below.mono (by assumption) (by first | assumption | omega | (simp; done) | (simp; omega)))))); done)⟩
  by_cases k3 : k = 3
  · subst k3
    obtain rfl : r2 = 0 := by rw [hr2]; rfl
    clear hr2 HG k0 k1 k2
    by_cases hn : n = 0
    · subst hn
      obtain rfl : r1 = 0 := by rw [hr1]; rfl
      clear hr1
      go_enter Try.func43, Try.ntmps43
      go_wp2
      go_ret2
      exact ⟨rfl, (by (repeat (first | exact Below.refl _ _ | assumption | refine Below.alloc ?_ (by first | assumption | omega | (simp; done) | (simp; omega)) _ | refine Below.drew ?_ | refine bel_drewN ?_ _ | refine Below.setCell ?_ (by first | assumption | omega | (simp; done) | (simp; omega)) _ | (refine Below.trans ?_ (Below.mono (by assumption) (by first | assumption | omega | (simp; done) | (simp; omega)))))); done)⟩
    · obtain rfl : r1 = 10000 := by rw [hr1]; simp [V.toNum, hn]
      clear hr1
      have hn2 : (n != 0) = true := by rw [bne_iff_ne]; exact hn
      go_enter Try.func43, Try.ntmps43
      go_wp2
      go_ret2
      exact ⟨rfl, (by (repeat (first | exact Below.refl _ _ | assumption | refine Below.alloc ?_ (by first | assumption | omega | (simp; done) | (simp; omega)) _ | refine Below.drew ?_ | refine bel_drewN ?_ _ | refine Below.setCell ?_ (by first | assumption | omega | (simp; done) | (simp; omega)) _ | (refine Below.trans ?_ (Below.mono (by assumption) (by first | assumption | omega | (simp; done) | (simp; omega)))))); done)⟩
  by_cases k4 : k = 4
  · subst k4
    obtain rfl : r1 = 0 := by rw [hr1]; rfl
    obtain rfl : r2 = n := by rw [hr2]; rfl
    clear hr1 hr2 HG k0 k1 k2 k3
    go_enter Try.func43, Try.ntmps43
    go_wp2
    go_ret2
    exact ⟨rfl, (by (repeat (first | exact Below.refl _ _ | assumption | refine Below.alloc ?_ (by first | assumption | omega | (simp; done) | (simp; omega)) _ | refine Below.drew ?_ | refine bel_drewN ?_ _ | refine Below.setCell ?_ (by first | assumption | omega | (simp; done) | (simp; omega)) _ | (refine Below.trans ?_ (Below.mono (by assumption) (by first | assumption | omega | (simp; done) | (simp; omega)))))); done)⟩
  · have e : V.toNum ⟨k, n, s⟩ = (0, 2) := by simp [V.toNum, k0, k1, k2, k3, k4]
    rw [e] at hr1 hr2
    subst hr1 hr2
    have c0 : (k == 0) = false := by simp [k0]
    have c1 : (k == 1) = false := by simp [k1]
    have c2 : (k == 2) = false := by simp [k2]
    have c3 : (k == 3) = false := by simp [k3]
    have c4 : (k == 4) = false := by simp [k4]
    clear HG e
    go_enter Try.func43, Try.ntmps43
    go_wp2
    go_ret2
    exact ⟨rfl, (by (repeat (first | exact Below.refl _ _ | assumption | refine Below.alloc ?_ (by first | assumption | omega | (simp; done) | (simp; omega)) _ | refine Below.drew ?_ | refine bel_drewN ?_ _ | refine Below.setCell ?_ (by first | assumption | omega | (simp; done) | (simp; omega)) _ | (refine Below.trans ?_ (Below.mono (by assumption) (by first | assumption | omega | (simp; done) | (simp; omega)))))); done)⟩

/-- Whether a value is true, or which error. -/
def V.toBool (v : V) : Bool × Int :=
  if v.k = 0 then (false, 0)
  else if v.k = 1 then (decide (v.n ≠ 0), 0)
  else if v.k = 2 then (match wordOf v.s with
    | some b => (b, 0)
    | none => (false, 2))
  else if v.k = 3 then (decide (v.n ≠ 0), 0)
  else if v.k = 4 then (false, v.n)
  else (false, 2)

theorem value_ToBool (v : V) (hs : v.s.size < 4294967281) (w : World) :
    Calls Try.prog 36 #[(.agg #[.int .i64 (v).k, .int .i64 (v).n, .string (v).s])] w fun e w' => e = .returned (.tuple #[.bool v.toBool.1, .int .i64 v.toBool.2]) ∧ Below w.heap.size w w' := by
  obtain ⟨k, n, s⟩ := v
  simp only at hs ⊢
  have HG := fun w' => value_word s (by omega) w'
  obtain ⟨r1, hr1⟩ : ∃ r, r = (V.toBool ⟨k, n, s⟩).1 := ⟨_, rfl⟩
  obtain ⟨r2, hr2⟩ : ∃ r, r = (V.toBool ⟨k, n, s⟩).2 := ⟨_, rfl⟩
  rw [← hr1, ← hr2]
  have hne : (n != 0) = decide (n ≠ 0) := by by_cases h : n = 0 <;> simp [h]
  by_cases k0 : k = 0
  · subst k0
    obtain rfl : r1 = false := by rw [hr1]; rfl
    obtain rfl : r2 = 0 := by rw [hr2]; rfl
    clear hr1 hr2 HG hne
    go_enter Try.func36, Try.ntmps36
    go_wp2
    go_ret2
    exact ⟨rfl, (by (repeat (first | exact Below.refl _ _ | assumption | refine Below.alloc ?_ (by first | assumption | omega | (simp; done) | (simp; omega)) _ | refine Below.drew ?_ | refine bel_drewN ?_ _ | refine Below.setCell ?_ (by first | assumption | omega | (simp; done) | (simp; omega)) _ | (refine Below.trans ?_ (Below.mono (by assumption) (by first | assumption | omega | (simp; done) | (simp; omega)))))); done)⟩
  by_cases k1 : k = 1
  · subst k1
    obtain rfl : r1 = (n != 0) := by rw [hr1, hne]; rfl
    obtain rfl : r2 = 0 := by rw [hr2]; rfl
    clear hr1 hr2 HG k0 hne
    go_enter Try.func36, Try.ntmps36
    go_wp2
    go_ret2
    exact ⟨rfl, (by (repeat (first | exact Below.refl _ _ | assumption | refine Below.alloc ?_ (by first | assumption | omega | (simp; done) | (simp; omega)) _ | refine Below.drew ?_ | refine bel_drewN ?_ _ | refine Below.setCell ?_ (by first | assumption | omega | (simp; done) | (simp; omega)) _ | (refine Below.trans ?_ (Below.mono (by assumption) (by first | assumption | omega | (simp; done) | (simp; omega)))))); done)⟩
  by_cases k2 : k = 2
  · subst k2
    have h1 : r1 = ((wordOf s).getD false) := by rw [hr1]; simp only [V.toBool, k0, k1, if_false, if_true]; cases wordOf s <;> rfl
    have h2 : r2 = if (wordOf s).isSome then 0 else 2 := by rw [hr2]; simp only [V.toBool, k0, k1, if_false, if_true]; cases wordOf s <;> rfl
    obtain ⟨pv, hpv⟩ : ∃ pv, pv = (wordOf s).getD false := ⟨_, rfl⟩
    obtain ⟨pb, hpb⟩ : ∃ pb, pb = (wordOf s).isSome := ⟨_, rfl⟩
    have hz : pb = false → pv = false := by rw [hpb, hpv]; cases wordOf s <;> simp
    simp only [← hpv, ← hpb] at h1 h2 HG
    have HGH := Lib.hid HG
    subst h1
    clear hr1 hr2 hpv hpb HG k0 k1 hne
    cases pb
    · obtain rfl : r2 = 2 := by rw [h2]; rfl
      obtain rfl : r1 = false := hz rfl
      clear h2 hz
      go_enter Try.func36, Try.ntmps36
      go_wp2_with (first | (go_at_call 47; refine (HGH.out _).mono ?_; rintro e w1 ⟨rfl, hb1⟩) | go_in)
      go_ret2
      exact ⟨rfl, (by (repeat (first | exact Below.refl _ _ | assumption | refine Below.alloc ?_ (by first | assumption | omega | (simp; done) | (simp; omega)) _ | refine Below.drew ?_ | refine bel_drewN ?_ _ | refine Below.setCell ?_ (by first | assumption | omega | (simp; done) | (simp; omega)) _ | (refine Below.trans ?_ (Below.mono (by assumption) (by first | assumption | omega | (simp; done) | (simp; omega)))))); done)⟩
    · obtain rfl : r2 = 0 := by rw [h2]; rfl
      clear h2 hz
      go_enter Try.func36, Try.ntmps36
      go_wp2_with (first | (go_at_call 47; refine (HGH.out _).mono ?_; rintro e w1 ⟨rfl, hb1⟩) | go_in)
      go_ret2
      exact ⟨rfl, (by (repeat (first | exact Below.refl _ _ | assumption | refine Below.alloc ?_ (by first | assumption | omega | (simp; done) | (simp; omega)) _ | refine Below.drew ?_ | refine bel_drewN ?_ _ | refine Below.setCell ?_ (by first | assumption | omega | (simp; done) | (simp; omega)) _ | (refine Below.trans ?_ (Below.mono (by assumption) (by first | assumption | omega | (simp; done) | (simp; omega)))))); done)⟩
  by_cases k3 : k = 3
  · subst k3
    obtain rfl : r2 = 0 := by rw [hr2]; rfl
    obtain rfl : r1 = (n != 0) := by rw [hr1, hne]; rfl
    clear hr1 hr2 HG k0 k1 k2 hne
    go_enter Try.func36, Try.ntmps36
    go_wp2
    go_ret2
    exact ⟨rfl, (by (repeat (first | exact Below.refl _ _ | assumption | refine Below.alloc ?_ (by first | assumption | omega | (simp; done) | (simp; omega)) _ | refine Below.drew ?_ | refine bel_drewN ?_ _ | refine Below.setCell ?_ (by first | assumption | omega | (simp; done) | (simp; omega)) _ | (refine Below.trans ?_ (Below.mono (by assumption) (by first | assumption | omega | (simp; done) | (simp; omega)))))); done)⟩
  by_cases k4 : k = 4
  · subst k4
    obtain rfl : r1 = false := by rw [hr1]; rfl
    obtain rfl : r2 = n := by rw [hr2]; rfl
    clear hr1 hr2 HG k0 k1 k2 k3 hne
    go_enter Try.func36, Try.ntmps36
    go_wp2
    go_ret2
    exact ⟨rfl, (by (repeat (first | exact Below.refl _ _ | assumption | refine Below.alloc ?_ (by first | assumption | omega | (simp; done) | (simp; omega)) _ | refine Below.drew ?_ | refine bel_drewN ?_ _ | refine Below.setCell ?_ (by first | assumption | omega | (simp; done) | (simp; omega)) _ | (refine Below.trans ?_ (Below.mono (by assumption) (by first | assumption | omega | (simp; done) | (simp; omega)))))); done)⟩
  · have e : V.toBool ⟨k, n, s⟩ = (false, 2) := by simp [V.toBool, k0, k1, k2, k3, k4]
    rw [e] at hr1 hr2
    subst hr1 hr2
    have c0 : (k == 0) = false := by simp [k0]
    have c1 : (k == 1) = false := by simp [k1]
    have c2 : (k == 2) = false := by simp [k2]
    have c3 : (k == 3) = false := by simp [k3]
    have c4 : (k == 4) = false := by simp [k4]
    clear HG e hne
    go_enter Try.func36, Try.ntmps36
    go_wp2
    go_ret2
    exact ⟨rfl, (by (repeat (first | exact Below.refl _ _ | assumption | refine Below.alloc ?_ (by first | assumption | omega | (simp; done) | (simp; omega)) _ | refine Below.drew ?_ | refine bel_drewN ?_ _ | refine Below.setCell ?_ (by first | assumption | omega | (simp; done) | (simp; omega)) _ | (refine Below.trans ?_ (Below.mono (by assumption) (by first | assumption | omega | (simp; done) | (simp; omega)))))); done)⟩
end Go.Proofs.Ytpoiebkcjehheaa
