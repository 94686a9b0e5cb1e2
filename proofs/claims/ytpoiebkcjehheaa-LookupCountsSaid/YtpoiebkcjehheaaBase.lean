/- The plain data of the program (values, areas), how they lie in memory, and closed facts on type assertions. -/
import Derived.Test.YtpoiebkcjehheaaProg
import Derived.WalkKit
import Derived.WalkLawsBesides
import Derived.WalkSpells
import Derived.Lib.Hide
namespace Go.Proofs.Ytpoiebkcjehheaa
open Go.RowKit
set_option linter.unusedSimpArgs false
set_option linter.unusedVariables false

/-- A value of the program. -/
structure V where
  k : Int
  n : Int
  s : ByteArray

/-- A value xs Go's. -/
def V.val (v : V) : Value := .agg #[.int .i64 v.k, .int .i64 v.n, .string v.s]

/-- The numbers fit their kinds. -/
def V.fit (v : V) : Prop := (-9223372036854775808 ≤ v.k ∧ v.k ≤ 9223372036854775807) ∧ (-9223372036854775808 ≤ v.n ∧ v.n ≤ 9223372036854775807) ∧ v.s.size ≤ 9223372036854775807

/-- Values in a row of cells. -/
def ValsAt (w : World) (b off : Nat) (l : List V) : Prop :=
  ∀ i (h : i < l.length), w.cell? ⟨b, off + i * 3, none⟩ = some (.int .i64 l[i].k) ∧ w.cell? ⟨b, off + i * 3 + 1, none⟩ = some (.int .i64 l[i].n) ∧
    w.cell? ⟨b, off + i * 3 + 2, none⟩ = some (.string l[i].s)

/-- A slice of values. -/
def IsVals (w : World) (sl : Value) (l : List V) : Prop :=
  ∃ (ao : Option Addr) (cap : Nat), sl = .slice ao l.length cap ∧ l.length ≤ cap ∧ cap ≤ 9223372036854775807 ∧ (∀ v ∈ l, v.fit) ∧
    (l = [] ∨ ∃ b off, ao = some ⟨b, off, none⟩ ∧ b < w.heap.size ∧ ValsAt w b off l)

/-- An area. -/
structure A where
  rows : Int
  cols : Int
  l : List V
  many : Bool

def A.val (a : A) (sl : Value) : Value := .agg #[.int .i64 a.rows, .int .i64 a.cols, sl, .bool a.many]

def A.fit (a : A) : Prop := (-9223372036854775808 ≤ a.rows ∧ a.rows ≤ 9223372036854775807) ∧ (-9223372036854775808 ≤ a.cols ∧ a.cols ≤ 9223372036854775807)

/-- An area xs a value: what its slice holds. -/
def IsArea (w : World) (x : Value) (a : A) : Prop := ∃ sl, x = a.val sl ∧ IsVals w sl a.l ∧ a.fit

/-- Areas in a row of cells. -/
def AreasAt (w : World) (b off : Nat) (xs : List A) : Prop :=
  ∀ i (h : i < xs.length), ∃ sl, w.cell? ⟨b, off + i * 4, none⟩ = some (.int .i64 xs[i].rows) ∧ w.cell? ⟨b, off + i * 4 + 1, none⟩ = some (.int .i64 xs[i].cols) ∧
    w.cell? ⟨b, off + i * 4 + 2, none⟩ = some sl ∧ w.cell? ⟨b, off + i * 4 + 3, none⟩ = some (.bool xs[i].many) ∧ IsVals w sl xs[i].l ∧ xs[i].fit

/-- A slice of areas. -/
def IsAreas (w : World) (sl : Value) (xs : List A) : Prop :=
  ∃ (ao : Option Addr) (cap : Nat), sl = .slice ao xs.length cap ∧ xs.length ≤ cap ∧ cap ≤ 9223372036854775807 ∧
    (xs = [] ∨ ∃ b off, ao = some ⟨b, off, none⟩ ∧ b < w.heap.size ∧ AreasAt w b off xs)

theorem ValsAt.below {w w' : World} {b off : Nat} {l : List V} {B : Nat} (h : ValsAt w b off l) (hb : b < B) (H : Below B w w') : ValsAt w' b off l :=
  fun i hi => ⟨(H.cell (p := ⟨b, _, none⟩) hb).trans (h i hi).1, (H.cell (p := ⟨b, _, none⟩) hb).trans (h i hi).2.1, (H.cell (p := ⟨b, _, none⟩) hb).trans (h i hi).2.2⟩

theorem IsVals.below {w w' : World} {sl : Value} {l : List V} (h : IsVals w sl l) (H : Below w.heap.size w w') : IsVals w' sl l := by
  obtain ⟨ao, cap, h1, h2, h3, h5, h4⟩ := h
  refine ⟨ao, cap, h1, h2, h3, h5, ?_⟩
  rcases h4 with h4 | ⟨b, off, h5, h6, h7⟩
  · exact .inl h4
  · exact .inr ⟨b, off, h5, Nat.lt_of_lt_of_le h6 H.size, h7.below h6 H⟩

theorem IsArea.below {w w' : World} {x : Value} {a : A} (h : IsArea w x a) (H : Below w.heap.size w w') : IsArea w' x a := by
  obtain ⟨sl, h1, h2, h3⟩ := h
  exact ⟨sl, h1, h2.below H, h3⟩

theorem AreasAt.below {w w' : World} {b off : Nat} {xs : List A} (h : AreasAt w b off xs) (hb : b < w.heap.size) (H : Below w.heap.size w w') : AreasAt w' b off xs := by
  intro i hi
  obtain ⟨sl, h1, h2, h3, h4, h5, h6⟩ := h i hi
  exact ⟨sl, (H.cell (p := ⟨b, _, none⟩) hb).trans h1, (H.cell (p := ⟨b, _, none⟩) hb).trans h2, (H.cell (p := ⟨b, _, none⟩) hb).trans h3, (H.cell (p := ⟨b, _, none⟩) hb).trans h4, h5.below H, h6⟩

theorem IsAreas.below {w w' : World} {sl : Value} {xs : List A} (h : IsAreas w sl xs) (H : Below w.heap.size w w') : IsAreas w' sl xs := by
  obtain ⟨ao, cap, h1, h2, h3, h4⟩ := h
  refine ⟨ao, cap, h1, h2, h3, ?_⟩
  rcases h4 with h4 | ⟨b, off, h5, h6, h7⟩
  · exact .inl h4
  · exact .inr ⟨b, off, h5, Nat.lt_of_lt_of_le h6 H.size, h7.below h6 H⟩

/-- What a call that changes nothing old leaves as it was, as the walk uses it. -/
theorem bcell {W w1 : World} (hb : Below W.heap.size W w1) :
    (∀ b o, b < W.heap.size → w1.cell? ⟨b, o, none⟩ = W.cell? ⟨b, o, none⟩) ∧ (∀ b o, b < W.heap.size → w1.frozen? ⟨b, o, none⟩ = W.frozen? ⟨b, o, none⟩) ∧ W.heap.size ≤ w1.heap.size :=
  ⟨fun b o h => hb.cell (p := ⟨b, o, none⟩) h, fun b o h => hb.frozen (p := ⟨b, o, none⟩) h, hb.size⟩

theorem bel_drewN {B : Nat} {a w : World} (h : Below B a w) (n : Nat) : Below B a (w.drewN n) := ⟨h.os, h.tape, h.output, h.size, h.block⟩
theorem ret_bool {a b : Bool} (h : a = b) : Ending.returned (.bool a) = .returned (.bool b) := by rw [h]
theorem ret_int {k : IntKind} {a b : Int} (h : a = b) : Ending.returned (.int k a) = .returned (.int k b) := by rw [h]

theorem isEmpty_size (s : ByteArray) : s.toList.isEmpty = decide (s.size = 0) := by
  have h : s.toList.length = s.size := by rw [ByteArray.toList_eq]; simp
  cases hl : s.toList with
  | nil => rw [hl] at h; simp at h; simp [← h]
  | cons a l => rw [hl] at h; simp at h; simp only [List.isEmpty_cons]; symm; rw [decide_eq_false_iff_not]; omega

/-! Type assertions on the program's own kinds. -/
section
variable (w : World)
theorem ta_blank_blank : (Instr.typeAssert (.iface 72 (.agg #[])) 20 72 true).run Try.prog w = .ok (.tuple #[.agg #[], .bool true]) w := by kernel_rfl
theorem ta_blank_dec : (Instr.typeAssert (.iface 72 (.agg #[])) 20 73 true).run Try.prog w = .ok (.tuple #[.int .i64 0, .bool false]) w := by kernel_rfl
theorem ta_blank_text : (Instr.typeAssert (.iface 72 (.agg #[])) 20 75 true).run Try.prog w = .ok (.tuple #[.string ⟨#[]⟩, .bool false]) w := by kernel_rfl
theorem ta_blank_truth : (Instr.typeAssert (.iface 72 (.agg #[])) 20 74 true).run Try.prog w = .ok (.tuple #[.bool false, .bool false]) w := by kernel_rfl
theorem ta_blank_fault : (Instr.typeAssert (.iface 72 (.agg #[])) 20 78 true).run Try.prog w = .ok (.tuple #[.int .i64 0, .bool false]) w := by kernel_rfl
theorem ta_dec_blank (n : Int) : (Instr.typeAssert (.iface 73 (.int .i64 n)) 20 72 true).run Try.prog w = .ok (.tuple #[.agg #[], .bool false]) w := by kernel_rfl
theorem ta_dec_dec (n : Int) : (Instr.typeAssert (.iface 73 (.int .i64 n)) 20 73 true).run Try.prog w = .ok (.tuple #[.int .i64 n, .bool true]) w := by kernel_rfl
theorem ta_dec_text (n : Int) : (Instr.typeAssert (.iface 73 (.int .i64 n)) 20 75 true).run Try.prog w = .ok (.tuple #[.string ⟨#[]⟩, .bool false]) w := by kernel_rfl
theorem ta_dec_truth (n : Int) : (Instr.typeAssert (.iface 73 (.int .i64 n)) 20 74 true).run Try.prog w = .ok (.tuple #[.bool false, .bool false]) w := by kernel_rfl
theorem ta_dec_fault (n : Int) : (Instr.typeAssert (.iface 73 (.int .i64 n)) 20 78 true).run Try.prog w = .ok (.tuple #[.int .i64 0, .bool false]) w := by kernel_rfl
theorem ta_text_blank (s : ByteArray) : (Instr.typeAssert (.iface 75 (.string s)) 20 72 true).run Try.prog w = .ok (.tuple #[.agg #[], .bool false]) w := by kernel_rfl
theorem ta_text_dec (s : ByteArray) : (Instr.typeAssert (.iface 75 (.string s)) 20 73 true).run Try.prog w = .ok (.tuple #[.int .i64 0, .bool false]) w := by kernel_rfl
theorem ta_text_text (s : ByteArray) : (Instr.typeAssert (.iface 75 (.string s)) 20 75 true).run Try.prog w = .ok (.tuple #[.string s, .bool true]) w := by kernel_rfl
theorem ta_text_truth (s : ByteArray) : (Instr.typeAssert (.iface 75 (.string s)) 20 74 true).run Try.prog w = .ok (.tuple #[.bool false, .bool false]) w := by kernel_rfl
theorem ta_text_fault (s : ByteArray) : (Instr.typeAssert (.iface 75 (.string s)) 20 78 true).run Try.prog w = .ok (.tuple #[.int .i64 0, .bool false]) w := by kernel_rfl
theorem ta_truth_blank (b : Bool) : (Instr.typeAssert (.iface 74 (.bool b)) 20 72 true).run Try.prog w = .ok (.tuple #[.agg #[], .bool false]) w := by kernel_rfl
theorem ta_truth_dec (b : Bool) : (Instr.typeAssert (.iface 74 (.bool b)) 20 73 true).run Try.prog w = .ok (.tuple #[.int .i64 0, .bool false]) w := by kernel_rfl
theorem ta_truth_text (b : Bool) : (Instr.typeAssert (.iface 74 (.bool b)) 20 75 true).run Try.prog w = .ok (.tuple #[.string ⟨#[]⟩, .bool false]) w := by kernel_rfl
theorem ta_truth_truth (b : Bool) : (Instr.typeAssert (.iface 74 (.bool b)) 20 74 true).run Try.prog w = .ok (.tuple #[.bool b, .bool true]) w := by kernel_rfl
theorem ta_truth_fault (b : Bool) : (Instr.typeAssert (.iface 74 (.bool b)) 20 78 true).run Try.prog w = .ok (.tuple #[.int .i64 0, .bool false]) w := by kernel_rfl
theorem ta_fault_blank (n : Int) : (Instr.typeAssert (.iface 78 (.int .i64 n)) 20 72 true).run Try.prog w = .ok (.tuple #[.agg #[], .bool false]) w := by kernel_rfl
theorem ta_fault_dec (n : Int) : (Instr.typeAssert (.iface 78 (.int .i64 n)) 20 73 true).run Try.prog w = .ok (.tuple #[.int .i64 0, .bool false]) w := by kernel_rfl
theorem ta_fault_text (n : Int) : (Instr.typeAssert (.iface 78 (.int .i64 n)) 20 75 true).run Try.prog w = .ok (.tuple #[.string ⟨#[]⟩, .bool false]) w := by kernel_rfl
theorem ta_fault_truth (n : Int) : (Instr.typeAssert (.iface 78 (.int .i64 n)) 20 74 true).run Try.prog w = .ok (.tuple #[.bool false, .bool false]) w := by kernel_rfl
theorem ta_fault_fault (n : Int) : (Instr.typeAssert (.iface 78 (.int .i64 n)) 20 78 true).run Try.prog w = .ok (.tuple #[.int .i64 n, .bool true]) w := by kernel_rfl
theorem ta_nil_blank : (Instr.typeAssert .nilIface 20 72 true).run Try.prog w = .ok (.tuple #[.agg #[], .bool false]) w := by kernel_rfl
theorem ta_nil_dec : (Instr.typeAssert .nilIface 20 73 true).run Try.prog w = .ok (.tuple #[.int .i64 0, .bool false]) w := by kernel_rfl
theorem ta_nil_text : (Instr.typeAssert .nilIface 20 75 true).run Try.prog w = .ok (.tuple #[.string ⟨#[]⟩, .bool false]) w := by kernel_rfl
theorem ta_nil_truth : (Instr.typeAssert .nilIface 20 74 true).run Try.prog w = .ok (.tuple #[.bool false, .bool false]) w := by kernel_rfl
theorem ta_nil_fault : (Instr.typeAssert .nilIface 20 78 true).run Try.prog w = .ok (.tuple #[.int .i64 0, .bool false]) w := by kernel_rfl
end
end Go.Proofs.Ytpoiebkcjehheaa
