/- Contracts of maths.Good and maths.One. -/
import Derived.Test.YtpoiebkcjehheaaVal
namespace Go.Proofs.Ytpoiebkcjehheaa
open Go.RowKit
set_option linter.unusedSimpArgs false
set_option linter.unusedVariables false

/-- Is an area good? -/
def A.good (a : A) : Bool :=
  decide (1 ≤ a.rows) && decide (1 ≤ a.cols) && decide (a.rows ≤ 4096) && decide (a.cols ≤ 4096) && decide ((a.l.length : Int) = a.rows * a.cols) && a.l.all V.good

theorem IsArea.form {w : World} {x : Value} {a : A} (h : IsArea w x a) : ∃ (ao : Option Addr) (cap : Nat), x = .agg #[.int .i64 a.rows, .int .i64 a.cols, .slice ao a.l.length cap, .bool a.many] := by
  obtain ⟨sl, rfl, ⟨ao, cap, rfl, _⟩, _⟩ := h
  exact ⟨ao, cap, rfl⟩

theorem maths_Good_loop (a : A) (b off cap : Nat) (w : World) (hb : b < w.heap.size) (hv : ValsAt w b off a.l) (hf : a.fit) (hc : a.l.length ≤ cap) (hm : cap ≤ 9223372036854775807)
    (h1 : 1 ≤ a.rows) (h2 : 1 ≤ a.cols) (h3 : a.rows ≤ 4096) (h4 : a.cols ≤ 4096) (h5 : (a.l.length : Int) = a.rows * a.cols) :
    Calls Try.prog 39 #[a.val (.slice (some ⟨b, off, none⟩) a.l.length cap)] w fun e w' => e = .returned (.bool (a.l.all V.good)) ∧ Below w.heap.size w w' := by
  obtain ⟨rows, cols, l, many⟩ := a
  simp only [A.val] at *
  have h6 : ((l.length : Int) != rows * cols) = false := by simp [h5]
  have H5 := Lib.hid h5
  clear h5
  have g3 : rows * cols ≤ 16777216 := by
    have : rows * cols ≤ 4096 * 4096 := Int.mul_le_mul h3 h4 (by omega) (by omega)
    omega
  have g0 : 0 ≤ rows * cols := Int.mul_nonneg (by omega) (by omega)
  go_enter Try.func39, Try.ntmps39
  go_wp2
  go_loopw [37] (fun i wr => ∃ k : Nat, k ≤ l.length ∧ i = .int .i64 k ∧ (∀ j (h : j < l.length), j < k → l[j].good = true) ∧ Below w.heap.size w wr) (fun i _ => l.length - (intOf i).toNat)
  case atStart => exact ⟨0, Nat.zero_le _, rfl, fun j _ h => by omega, (by (repeat (first | exact Below.refl _ _ | assumption | refine Below.alloc ?_ (by first | assumption | omega | (simp; done) | (simp; omega)) _ | refine Below.drew ?_ | refine bel_drewN ?_ _ | refine Below.setCell ?_ (by first | assumption | omega | (simp; done) | (simp; omega)) _ | (refine Below.trans ?_ (Below.mono (by assumption) (by first | assumption | omega | (simp; done) | (simp; omega)))))); done)⟩
  case round =>
    obtain ⟨k, hk, rfl, hgood, hbel⟩ := hrel
    by_cases hlt : k < l.length
    · obtain ⟨c1, c2, c3⟩ := (hv.below hb hbel) k hlt
      go_wp2_with (go_at_call 48; refine (value_Good _ _ _ _).mono ?_; rintro e w' ⟨rfl, hbel'⟩)
      · go_ret
        have hb2 : (V.mk l[k].k l[k].n l[k].s).good = false := by have h : (!(V.mk l[k].k l[k].n l[k].s).good) = true := by assumption
                                                                  simpa using h
        have hall : l.all V.good = false := by
          rw [List.all_eq_false]
          exact ⟨l[k], List.getElem_mem hlt, by rw [show l[k] = V.mk l[k].k l[k].n l[k].s from rfl, hb2]; simp⟩
        exact ⟨ret_bool hall.symm, (hbel.alloc hbel.size _).trans (hbel'.mono (by have := hbel.size; simp; omega))⟩
      · go_roundw
        have hb2 : (V.mk l[k].k l[k].n l[k].s).good = true := by have h : (!(V.mk l[k].k l[k].n l[k].s).good) = false := by assumption
                                                                 simpa using h
        case rel =>
          refine ⟨k + 1, by omega, by go_num, fun j h hj => ?_, (hbel.alloc hbel.size _).trans (hbel'.mono (by have := hbel.size; simp; omega))⟩
          by_cases e : j = k
          · subst e; exact hb2
          · exact hgood j h (by omega)
        case measure => simp [intOf]; omega
    · go_wp2
      go_ret
      have hall : l.all V.good = true := by
        rw [List.all_eq_true]
        intro v hv'
        obtain ⟨j, hj, rfl⟩ := List.getElem_of_mem hv'
        exact hgood j hj (by omega)
      exact ⟨ret_bool hall.symm, hbel⟩

theorem maths_Good (x : Value) (a : A) (w : World) (h : IsArea w x a) :
    Calls Try.prog 39 #[x] w fun e w' => e = .returned (.bool a.good) ∧ Below w.heap.size w w' := by
  obtain ⟨sl, rfl, ⟨ao, cap, rfl, hc, hm, hfit, hv⟩, hf⟩ := h
  obtain ⟨r, hr⟩ : ∃ r, r = a.good := ⟨_, rfl⟩
  rw [← hr]
  have Hr := Lib.hid hr
  clear hr
  by_cases hall : (1 ≤ a.rows ∧ 1 ≤ a.cols ∧ a.rows ≤ 4096 ∧ a.cols ≤ 4096) ∧ (a.l.length : Int) = a.rows * a.cols
  · obtain ⟨⟨h1, h2, h3, h4⟩, h5⟩ := hall
    rcases hv with hv | ⟨b, off, rfl, hb, hv⟩
    · rw [hv] at h5
      have : 1 ≤ a.rows * a.cols := Int.mul_le_mul h1 h2 (by omega) (by omega)
      simp at h5
      omega
    · refine (maths_Good_loop a b off cap w hb hv hf hc hm h1 h2 h3 h4 h5).mono fun e w' ⟨he, hw⟩ => ⟨?_, hw⟩
      rw [he, Hr.out]
      simp only [A.good, h1, h2, h3, h4, h5, decide_true, Bool.true_and]
  · obtain ⟨rows, cols, l, many⟩ := a
    simp only [A.val] at *
    have hr : r = false := by
      rw [Hr.out]
      simp only [A.good]
      rw [Bool.eq_false_iff]
      intro hh
      simp only [Bool.and_eq_true, decide_eq_true_eq] at hh
      exact hall ⟨⟨hh.1.1.1.1.1, hh.1.1.1.1.2, hh.1.1.1.2, hh.1.1.2⟩, hh.1.2⟩
    subst hr
    have H := Lib.hid hall
    clear hall hv Hr hfit
    by_cases h1 : rows < 1
    · go_enter Try.func39, Try.ntmps39
      go_wp2
      go_ret
      exact ⟨rfl, (by (repeat (first | exact Below.refl _ _ | assumption | refine Below.alloc ?_ (by first | assumption | omega | (simp; done) | (simp; omega)) _ | refine Below.drew ?_ | refine bel_drewN ?_ _ | refine Below.setCell ?_ (by first | assumption | omega | (simp; done) | (simp; omega)) _ | (refine Below.trans ?_ (Below.mono (by assumption) (by first | assumption | omega | (simp; done) | (simp; omega)))))); done)⟩
    by_cases h2 : cols < 1
    · go_enter Try.func39, Try.ntmps39
      go_wp2
      go_ret
      exact ⟨rfl, (by (repeat (first | exact Below.refl _ _ | assumption | refine Below.alloc ?_ (by first | assumption | omega | (simp; done) | (simp; omega)) _ | refine Below.drew ?_ | refine bel_drewN ?_ _ | refine Below.setCell ?_ (by first | assumption | omega | (simp; done) | (simp; omega)) _ | (refine Below.trans ?_ (Below.mono (by assumption) (by first | assumption | omega | (simp; done) | (simp; omega)))))); done)⟩
    by_cases h3 : 4096 < rows
    · go_enter Try.func39, Try.ntmps39
      go_wp2
      go_ret
      exact ⟨rfl, (by (repeat (first | exact Below.refl _ _ | assumption | refine Below.alloc ?_ (by first | assumption | omega | (simp; done) | (simp; omega)) _ | refine Below.drew ?_ | refine bel_drewN ?_ _ | refine Below.setCell ?_ (by first | assumption | omega | (simp; done) | (simp; omega)) _ | (refine Below.trans ?_ (Below.mono (by assumption) (by first | assumption | omega | (simp; done) | (simp; omega)))))); done)⟩
    by_cases h4 : 4096 < cols
    · go_enter Try.func39, Try.ntmps39
      go_wp2
      go_ret
      exact ⟨rfl, (by (repeat (first | exact Below.refl _ _ | assumption | refine Below.alloc ?_ (by first | assumption | omega | (simp; done) | (simp; omega)) _ | refine Below.drew ?_ | refine bel_drewN ?_ _ | refine Below.setCell ?_ (by first | assumption | omega | (simp; done) | (simp; omega)) _ | (refine Below.trans ?_ (Below.mono (by assumption) (by first | assumption | omega | (simp; done) | (simp; omega)))))); done)⟩
    have g3 : rows * cols ≤ 16777216 := by
      have : rows * cols ≤ 4096 * 4096 := Int.mul_le_mul (by omega) (by omega) (by omega) (by omega)
      omega
    have g0 : 0 ≤ rows * cols := Int.mul_nonneg (by omega) (by omega)
    have h6 : ((l.length : Int) != rows * cols) = true := by
      rw [bne_iff_ne]
      intro hh
      exact H.out ⟨⟨by omega, by omega, by omega, by omega⟩, hh⟩
    go_enter Try.func39, Try.ntmps39
    go_wp2
    go_ret
    exact ⟨rfl, (by (repeat (first | exact Below.refl _ _ | assumption | refine Below.alloc ?_ (by first | assumption | omega | (simp; done) | (simp; omega)) _ | refine Below.drew ?_ | refine bel_drewN ?_ _ | refine Below.setCell ?_ (by first | assumption | omega | (simp; done) | (simp; omega)) _ | (refine Below.trans ?_ (Below.mono (by assumption) (by first | assumption | omega | (simp; done) | (simp; omega)))))); done)⟩
end Go.Proofs.Ytpoiebkcjehheaa
