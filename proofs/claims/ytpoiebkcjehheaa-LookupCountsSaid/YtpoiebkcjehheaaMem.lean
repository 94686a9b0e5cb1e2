/- What the memory of a call's beginning says of values and areas, for the symbolic walk. -/
import Derived.Test.YtpoiebkcjehheaaSyT
import Derived.Test.YtpoiebkcjehheaaBase
namespace Go.Proofs.Ytpoiebkcjehheaa
open Go.RowKit
set_option linter.unusedSimpArgs false
set_option linter.unusedVariables false

theorem mem_agg {t : TypeId} {i : TI} (ht : tab t = some i) (hi : i.k.agg = true) {w : World} {A : Addr} (hA : A.block < w.heap.size) (l : List Value) (hl : l.length = i.size) (hc : ∀ j v, l[j]? = some v → w.cell? (A.add j) = some v) :
    memOf tab w t A = some (.agg l.toArray) := by
  have key : ∀ (n j : Nat) (l : List Value), l.length = n → (∀ q v, l[q]? = some v → w.cell? (A.add (j + q)) = some v) → readCells w A j n = some l := by
    intro n
    induction n with
    | zero => intro j l hl _; simp only [readCells, Option.some.injEq]; exact (List.eq_nil_of_length_eq_zero hl).symm
    | succ n ih =>
      intro j l hl hc
      cases l with
      | nil => simp at hl
      | cons x l =>
        have h0 := hc 0 x (by simp)
        have h1 := ih (j + 1) l (by simpa using hl) fun q v hq => by
          have := hc (q + 1) v (by simpa using hq)
          rwa [show j + 1 + q = j + (q + 1) by omega]
        simp only [Nat.add_zero] at h0
        simp only [readCells, h0, h1]
  unfold memOf
  rw [if_pos hA, ht]
  simp only [hi, if_true, key i.size 0 l hl (fun q v hq => by simpa using hc q v hq), Option.map_some]
theorem mem_one {t : TypeId} {i : TI} (ht : tab t = some i) (hi : i.k.agg = false) {w : World} {A : Addr} (hA : A.block < w.heap.size) {v : Value} (hc : w.cell? A = some v) : memOf tab w t A = some v := by
  unfold memOf
  rw [if_pos hA, ht]
  simp only [hi, Bool.false_eq_true, if_false, hc]
theorem addr_add (b o n : Nat) : (⟨b, o, none⟩ : Addr).add n = ⟨b, o + n, none⟩ := by unfold Addr.add; split <;> simp_all

theorem vals_mem {w : World} {b off : Nat} {l : List V} (h : ValsAt w b off l) (hb : b < w.heap.size) (i : Nat) (hi : i < l.length) :
    memOf tab w 26 ((⟨b, off, none⟩ : Addr).add (i * 3)) = some (.agg #[.int .i64 (l[i]).k, .int .i64 (l[i]).n, .string (l[i]).s]) := by
  obtain ⟨h1, h2, h3⟩ := h i hi
  refine mem_agg (i := _) rfl rfl (by rw [addr_add]; exact hb) [.int .i64 l[i].k, .int .i64 l[i].n, .string l[i].s] rfl fun j v hj => ?_
  rw [addr_add, addr_add]
  match j, hj with
  | 0, hj => simp only [List.getElem?_cons_zero, Option.some.injEq] at hj; subst hj; exact h1
  | 1, hj => simp only [List.getElem?_cons_succ, List.getElem?_cons_zero, Option.some.injEq] at hj; subst hj; exact h2
  | 2, hj => simp only [List.getElem?_cons_succ, List.getElem?_cons_zero, Option.some.injEq] at hj; subst hj; exact h3
  | j + 3, hj => simp at hj
theorem areas_mem {w : World} {b off : Nat} {xs : List A} (h : AreasAt w b off xs) (hb : b < w.heap.size) (i : Nat) (hi : i < xs.length) :
    ∃ ao cap, memOf tab w 33 ((⟨b, off, none⟩ : Addr).add (i * 4)) = some (.agg #[.int .i64 xs[i].rows, .int .i64 xs[i].cols, .slice ao xs[i].l.length cap, .bool xs[i].many]) ∧
      IsArea w (.agg #[.int .i64 xs[i].rows, .int .i64 xs[i].cols, .slice ao xs[i].l.length cap, .bool xs[i].many]) xs[i] := by
  obtain ⟨sl, h1, h2, h3, h4, h5, h6⟩ := h i hi
  obtain ⟨ao, cap, e, r⟩ := h5
  subst e
  refine ⟨ao, cap, ?_, ⟨_, rfl, ⟨ao, cap, rfl, r⟩, h6⟩⟩
  refine mem_agg (i := _) rfl rfl (by rw [addr_add]; exact hb) [.int .i64 xs[i].rows, .int .i64 xs[i].cols, .slice ao xs[i].l.length cap, .bool xs[i].many] rfl fun j v hj => ?_
  rw [addr_add, addr_add]
  match j, hj with
  | 0, hj => simp only [List.getElem?_cons_zero, Option.some.injEq] at hj; subst hj; exact h1
  | 1, hj => simp only [List.getElem?_cons_succ, List.getElem?_cons_zero, Option.some.injEq] at hj; subst hj; exact h2
  | 2, hj => simp only [List.getElem?_cons_succ, List.getElem?_cons_zero, Option.some.injEq] at hj; subst hj; exact h3
  | 3, hj => simp only [List.getElem?_cons_succ, List.getElem?_cons_zero, Option.some.injEq] at hj; subst hj; exact h4
  | j + 4, hj => simp at hj
end Go.Proofs.Ytpoiebkcjehheaa
