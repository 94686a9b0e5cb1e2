/- own_cell, at_good. -/
import Derived.Test.YtpoiebkcjehheaaTk
namespace Go.Proofs.Ytpoiebkcjehheaa
open Go.RowKit
set_option linter.unusedSimpArgs false
set_option linter.unusedVariables false
theorem own_cell {w0 w : World} {r : Va} {H : List (Nat × Blk)} {k : Nat} {x : SV} {T : TypeId} (hI : Inv w0 r H w) (hk : lk H k = some (.cells [x] T)) : w.cell? ⟨r.lo k, 0, none⟩ = some (x.den r) := by
  obtain ⟨_, _, hb⟩ := hI.blk k _ hk
  simp [World.cell?, hb.2, dens]
theorem at_good {a : A} (h : a.good = true) (r c : Int) : (a.at r c).good = true := by
  obtain ⟨⟨g1, g2, g3, g4⟩, g5, _⟩ := a.good_parts h
  unfold A.at
  split
  · exact badV_good 3
  · rename_i hb
    have b1 : 1 ≤ r ∧ r ≤ a.rows ∧ 1 ≤ c ∧ c ≤ a.cols := by omega
    have k1 : 0 ≤ (r - 1) * a.cols := Int.mul_nonneg (by omega) (by omega)
    have k2 : (r - 1) * a.cols ≤ (a.rows - 1) * a.cols := Int.mul_le_mul_of_nonneg_right (by omega) (by omega)
    have k3 : (a.rows - 1) * a.cols = a.rows * a.cols - a.cols := by rw [Int.sub_mul, Int.one_mul]
    have := nth_good h ((r - 1) * a.cols + c) (by omega) (by omega)
    unfold A.nth at this
    exact this
end Go.Proofs.Ytpoiebkcjehheaa
