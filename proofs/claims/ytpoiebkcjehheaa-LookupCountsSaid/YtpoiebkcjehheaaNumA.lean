/- Contracts of num.Whole, num.told, value.Upper. -/
import Derived.Test.YtpoiebkcjehheaaOne
namespace Go.Proofs.Ytpoiebkcjehheaa
open Go.RowKit
set_option linter.unusedSimpArgs false
set_option linter.unusedVariables false

/-- The whole number that a number is. -/
def isWhole (n : Int) : Bool := numGood n && decide (n.tmod 10000 = 0)

theorem num_Whole (n : Int) (w : World) :
    Calls Try.prog 44 #[.int .i64 n] w fun e w' => e = .returned (.tuple #[.int .i64 (if isWhole n then n.tdiv 10000 else 0), .bool (isWhole n)]) ∧ w = w' := by
  obtain ⟨r, hr⟩ : ∃ r, r = isWhole n := ⟨_, rfl⟩
  rw [← hr]
  obtain ⟨g, hg⟩ : ∃ g, g = numGood n := ⟨_, rfl⟩
  have hG := num_Good n
  rw [← hg] at hG
  have HG := Lib.hid hG
  have Hr := Lib.hid hr
  have Hg := Lib.hid hg
  clear hG hr hg
  cases g
  · obtain rfl : r = false := by rw [Hr.out, isWhole, ← Hg.out]; rfl
    go_enter Try.func44, Try.ntmps44
    go_wp2_with (first | (go_at_call 49; refine (HG.out _).mono ?_; rintro e w' ⟨rfl, rfl⟩))
    go_ret2
    exact ⟨rfl, rfl⟩
  · have hb := Hg.out
    simp only [numGood, Bool.true_eq, Bool.and_eq_true, decide_eq_true_eq] at hb
    obtain ⟨hb1, hb2⟩ := hb
    by_cases hm : n.tmod 10000 = 0
    · obtain rfl : r = true := by rw [Hr.out, isWhole, ← Hg.out]; simp [hm]
      have Hm := Lib.hid hm
      have hm2 : (n.tmod 10000 != 0) = false := by rw [bne_eq_false_iff_eq]; exact hm
      clear hm
      go_enter Try.func44, Try.ntmps44
      go_wp2_with (first | (go_at_call 49; refine (HG.out _).mono ?_; rintro e w' ⟨rfl, rfl⟩))
      go_ret2
      exact ⟨rfl, rfl⟩
    · obtain rfl : r = false := by rw [Hr.out, isWhole, ← Hg.out]; simp [hm]
      have hm2 : (n.tmod 10000 != 0) = true := by rw [bne_iff_ne]; exact hm
      clear hm
      go_enter Try.func44, Try.ntmps44
      go_wp2_with (first | (go_at_call 49; refine (HG.out _).mono ?_; rintro e w' ⟨rfl, rfl⟩))
      go_ret2
      exact ⟨rfl, rfl⟩
end Go.Proofs.Ytpoiebkcjehheaa
