/- lookup.goods at one and two areas, as a walk uses it; lookup.index, choose, place. -/
import Derived.Test.YtpoiebkcjehheaaMt
namespace Go.Proofs.Ytpoiebkcjehheaa
open Go.RowKit
set_option linter.unusedSimpArgs false
set_option linter.unusedVariables false

/-- An area's value, its slice said. -/
def A.at4 (a : A) (ao : Option Addr) (cap : Nat) : List Value := [.int .i64 a.rows, .int .i64 a.cols, .slice ao a.l.length cap, .bool a.many]
def A.sv4 (a : A) (ao : Option Addr) (cap : Nat) : List SV := [.v (.int .i64 a.rows), .v (.int .i64 a.cols), .v (.slice ao a.l.length cap), .v (.bool a.many)]

theorem area_parts {w : World} {ao : Option Addr} {cap : Nat} {a : A} (h : IsArea w (.agg #[.int .i64 a.rows, .int .i64 a.cols, .slice ao a.l.length cap, .bool a.many]) a) : IsVals w (.slice ao a.l.length cap) a.l ∧ a.fit := by
  obtain ⟨sl, h2, h3, h4⟩ := h
  simp only [A.val, Value.agg.injEq, Array.mk.injEq, List.cons.injEq, and_true, true_and] at h2
  exact ⟨h2 ▸ h3, h4⟩

theorem goods_of (g : Nat) (xs : List A) (aos : Nat → Option Addr) (caps : Nat → Nat) (w : World) (hn : xs.length ≤ 1000000) (hne : xs ≠ [])
    (c : Array Value) (T : TypeId) (hc : w.heap[g]? = some (.cells c T (0, 0)))
    (h4 : ∀ i (hi : i < xs.length), ∀ j v, (xs[i].at4 (aos i) (caps i))[j]? = some v → c[i * 4 + j]? = some v)
    (h : ∀ i (hi : i < xs.length), IsArea w (.agg #[.int .i64 xs[i].rows, .int .i64 xs[i].cols, .slice (aos i) xs[i].l.length (caps i), .bool xs[i].many]) xs[i]) :
    Calls Try.prog 25 #[.slice (some ⟨g, 0, none⟩) xs.length xs.length] w fun e w' => Below w.heap.size w w' ∧
      ((xs.all A.good = false ∧ e = .returned (.tuple #[.slice none 0 0, .bool false])) ∨
       (xs.all A.good = true ∧ ∃ q cap c, e = .returned (.tuple #[.slice (some ⟨q, 0, none⟩) xs.length cap, .bool true]) ∧ w.heap.size ≤ q ∧ w'.heap[q]? = some (.cells c 46 (0, 0)) ∧
          c.toList.take (xs.length * 4) = areaRow xs (fun i => .slice (aos i) (xs.getD i ⟨0, 0, [], false⟩).l.length (caps i)) xs.length)) := by
  have hlt : g < w.heap.size := (Array.getElem?_eq_some_iff.1 hc).1
  have hcell : ∀ o v, c[o]? = some v → w.cell? ⟨g, o, none⟩ = some v := fun o v ho => by rw [cell_of_row w g o c T _ hc]; exact ho
  refine (lookup_goods g 0 xs.length xs (fun i => .slice (aos i) (xs.getD i ⟨0, 0, [], false⟩).l.length (caps i)) w hlt (Nat.le_refl _) (by omega) hn hne fun i hi => ?_).mono fun e w' ⟨hb, hh⟩ => ⟨hb, ?_⟩
  · have e0 : xs.getD i ⟨0, 0, [], false⟩ = xs[i] := by simp [List.getD, hi]
    obtain ⟨p1, p2⟩ := area_parts (h i hi)
    simp only [Nat.zero_add, e0]
    exact ⟨hcell _ _ (by simpa using h4 i hi 0 _ rfl), hcell _ _ (h4 i hi 1 _ rfl), hcell _ _ (h4 i hi 2 _ rfl), hcell _ _ (h4 i hi 3 _ rfl), p1, p2⟩
  · rcases hh with hh | ⟨h1, out, h2, h3⟩
    · exact .inl hh
    · refine .inr ⟨h1, ?_⟩
      rcases h3.2 with ⟨_, h0⟩ | ⟨q, cap, cur, hv, k1, k2, k3, k4, k5, k6⟩
      · exact absurd (List.length_eq_zero_iff.1 h0) hne
      · subst hv
        exact ⟨q, cap, cur, h2, k1, k2, k6⟩

/-- At one area. -/
theorem goods1 (g : Nat) (a : A) (ao : Option Addr) (cap : Nat) (w : World) (T : TypeId) (hc : w.heap[g]? = some (.cells (a.at4 ao cap).toArray T (0, 0)))
    (h : IsArea w (.agg #[.int .i64 a.rows, .int .i64 a.cols, .slice ao a.l.length cap, .bool a.many]) a) :
    Calls Try.prog 25 #[.slice (some ⟨g, 0, none⟩) 1 1] w fun e w' => Below w.heap.size w w' ∧
      ((a.good = false ∧ e = .returned (.tuple #[.slice none 0 0, .bool false])) ∨
       (a.good = true ∧ ∃ q cap2 c, e = .returned (.tuple #[.slice (some ⟨q, 0, none⟩) 1 cap2, .bool true]) ∧ w.heap.size ≤ q ∧ w'.heap[q]? = some (.cells c 46 (0, 0)) ∧ c.toList.take 4 = a.at4 ao cap)) := by
  refine (goods_of g [a] (fun _ => ao) (fun _ => cap) w (by simp) (by simp) _ T hc (fun i hi j v hj => ?_) (fun i hi => ?_)).mono fun e w' ⟨hb, hh⟩ => ⟨hb, ?_⟩
  · obtain rfl : i = 0 := by simp at hi; omega
    simpa using hj
  · obtain rfl : i = 0 := by simp at hi; omega
    exact h
  · simpa [areaRow, A.cells, A.at4, List.range_succ] using hh
/-- At two areas. -/
theorem goods2 (g : Nat) (a a' : A) (ao ao' : Option Addr) (cap cap' : Nat) (w : World) (T : TypeId) (hc : w.heap[g]? = some (.cells (a.at4 ao cap ++ a'.at4 ao' cap').toArray T (0, 0)))
    (h : IsArea w (.agg #[.int .i64 a.rows, .int .i64 a.cols, .slice ao a.l.length cap, .bool a.many]) a) (h' : IsArea w (.agg #[.int .i64 a'.rows, .int .i64 a'.cols, .slice ao' a'.l.length cap', .bool a'.many]) a') :
    Calls Try.prog 25 #[.slice (some ⟨g, 0, none⟩) 2 2] w fun e w' => Below w.heap.size w w' ∧
      (((a.good && a'.good) = false ∧ e = .returned (.tuple #[.slice none 0 0, .bool false])) ∨
       ((a.good && a'.good) = true ∧ ∃ q cap2 c, e = .returned (.tuple #[.slice (some ⟨q, 0, none⟩) 2 cap2, .bool true]) ∧ w.heap.size ≤ q ∧ w'.heap[q]? = some (.cells c 46 (0, 0)) ∧ c.toList.take 8 = a.at4 ao cap ++ a'.at4 ao' cap')) := by
  refine (goods_of g [a, a'] (fun i => if i = 0 then ao else ao') (fun i => if i = 0 then cap else cap') w (by simp) (by simp) _ T hc (fun i hi j v hj => ?_) (fun i hi => ?_)).mono fun e w' ⟨hb, hh⟩ => ⟨hb, ?_⟩
  · match i, hi with
    | 0, _ =>
      simp only [List.getElem_cons_zero, if_pos] at hj
      have hlt : j < (a.at4 ao cap).length := (List.getElem?_eq_some_iff.1 hj).1
      simp only [Nat.zero_mul, Nat.zero_add, List.getElem?_toArray, List.getElem?_append_left hlt]
      exact hj
    | 1, _ =>
      simp only [List.getElem_cons_succ, List.getElem_cons_zero, if_neg (show ¬ (1 : Nat) = 0 by omega)] at hj
      simp only [Nat.one_mul, List.getElem?_toArray]
      rw [List.getElem?_append_right (by simp [A.at4])]
      simpa [A.at4] using hj
  · match i, hi with
    | 0, _ => exact h
    | 1, _ => exact h'
  · simpa [areaRow, A.cells, A.at4, List.range_succ] using hh
end Go.Proofs.Ytpoiebkcjehheaa
