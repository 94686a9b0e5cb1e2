/- Maps keyed by values. -/
import Derived.Test.YtpoiebkcjehheaaKm
namespace Go.Proofs.Ytpoiebkcjehheaa
open Go.RowKit
set_option linter.unusedSimpArgs false
set_option linter.unusedVariables false
instance : DecidableEq V := fun a b =>
  if h1 : a.k = b.k then if h2 : a.n = b.n then if h3 : a.s.toList = b.s.toList then .isTrue (by obtain ⟨_, _, _⟩ := a; obtain ⟨_, _, _⟩ := b; simp only [V.mk.injEq]; exact ⟨h1, h2, toList_inj h3⟩)
    else .isFalse (fun e => h3 (by rw [e])) else .isFalse (fun e => h2 (by rw [e])) else .isFalse (fun e => h1 (by rw [e]))
theorem run_eq_val (v u : V) (w : World) : (Op.equal 26 v.val u.val).run Try.prog w = .ok (decide (v = u)) w := by
  show (Op.equalIn (9999 + 1) 26 _ _).run Try.prog w = _
  by_cases h1 : v.k = u.k <;> by_cases h2 : v.n = u.n <;> by_cases h3 : v.s.toList = u.s.toList <;> simp [V.val, go_sem, h1, h2, h3]
  · obtain ⟨_, _, _⟩ := v; obtain ⟨_, _, _⟩ := u
    simp only [V.mk.injEq]
    exact ⟨h1, h2, toList_inj h3⟩
  all_goals (intro e; subst e; simp_all)
theorem run_findAsking (v : V) : ∀ (l : List (V × Int)) (i n : Nat) (w : World), (Instr.findAsking 26 v.val (mkE V.val n l) i).run Try.prog w = .ok ((kFind v l i).map fun p => (p.1, .int .i64 p.2)) w
  | [], i, n, w => by simp [mkE, Instr.findAsking, kFind]
  | x :: l, i, n, w => by
    simp only [mkE, Instr.findAsking, Sem.run_bind, run_eq_val, Result.andThen_ok, Sem.run_ite, kFind, decide_eq_true_eq]
    split
    · simp
    · exact run_findAsking v l (i + 1) (n + 1) w
theorem und_val : ∃ F, Try.prog.underlying 26 = some (.struct F) := ⟨Try.prog.fieldsOf 26, by kernel_rfl⟩
/-- Maps keyed by values. -/
def mkV : MK V.val 53 where
  kt := 26
  und := by kernel_rfl
  chk := fun e v w => by
    show (Instr.checkKey e (9998 + 1 + 1) 26 v.val).run Try.prog w = _
    unfold V.val
    kernel_rfl
  fnd := fun v l w => by
    obtain ⟨F, hF⟩ := und_val
    simp only [Instr.findKey, Sem.run_bind, run_underlying hF, Result.andThen_ok]
    cases l with
    | nil => simp [mkE, Instr.findNow, kFind]
    | cons x l =>
      have : Instr.findNow (.struct F) v.val (mkE V.val 0 (x :: l)) 0 = none := by simp [mkE, Instr.findNow, Instr.sameNow]
      rw [this]
      exact run_findAsking v (x :: l) 0 0 w
  sty := fun v w => by simp [Instr.keyThatStays, V.val, Instr.sameBits, beq_toListBytes]
end Go.Proofs.Ytpoiebkcjehheaa
