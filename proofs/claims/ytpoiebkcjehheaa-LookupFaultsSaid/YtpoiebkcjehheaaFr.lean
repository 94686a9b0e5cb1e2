/- How the arguments of the statements read: values, areas. -/
import Derived.Test.YtpoiebkcjehheaaBase
import Derived.Test.YtpoiebkcjehheaaParse
import Derived.Test.YtpoiebkcjehheaaMem
import Derived.Deep.Slices
import Derived.ChangeSame
import Derived.Carry
import Derived.ProofKit
import Derived.HandedShaped
import Derived.Shelf.Vars
namespace Go.Proofs.Ytpoiebkcjehheaa
open Go.RowKit Go.ChangeShapes Go.WideShapes Go.Deep
set_option linter.unusedSimpArgs false
set_option linter.unusedVariables false

theorem frame_own : ownKnob Try.prog.godebug = none := by kernel_rfl
theorem frame_laid : laidOutB Try.prog = true := by kernel_rfl
theorem cell_spot {w : World} {a : Addr} {v : Value} (h : w.cell? a = some v) : a.spot = none := by
  unfold World.cell? at h
  split at h
  · split at h
    · cases h
    · rename_i hs; simpa using hs
  · cases h
theorem wf_i64 {n : Int} (h : (Lit.int .i64 n).wf = true) : -9223372036854775808 ≤ n ∧ n ≤ 9223372036854775807 := by
  simp [Lit.wf, IntKind.min, IntKind.max, IntKind.signed, IntKind.bits] at h
  omega
theorem glob_of_shape {w : World} (h : w.ShapedOpen Try.prog) : Glob w :=
  Go.Proofs.cell_of_shapedOpen_int (zero := #[.int .i64 0]) (t := 3) h (of_decide_eq_true (by kernel_rfl)) (by kernel_rfl) rfl (by kernel_rfl) (by kernel_rfl) Try.underlying3

theorem trodAll_stays {H : Type} {enc : TypeId × Value → H} {P : Program} (hl : laidOutB P = true) {W W' : World} {sp : Nat → Bool} (hb : Below W.heap.size W W') :
    ∀ {ts : List TypeId} {vs : List Value} {ds : List (DataW H)} {ps : List MemPlace}, (∀ t ∈ ts, P.readableRec t = true ∧ t < P.types.size) → (∀ x ∈ ps, x.block < W.heap.size) → (∀ x ∈ ps, sp x.block = true) →
      DataW.TrodAll enc P W 0 (fun _ => true) true ts vs ds ps → DataW.TrodAll enc P W' 0 sp true ts vs ds ps
  | [], [], [], ps, _, _, _, h => h
  | t :: ts, v :: vs, d :: ds, ps, hr, hlt, hsp, h => by
    obtain ⟨p, q, h1, h2, e⟩ := h
    subst e
    obtain ⟨r1, r2⟩ := hr t (List.mem_cons_self ..)
    exact ⟨p, q, WideElems.Trod_stays hl r1 r2 h1 (fun x hx => hb.same (hlt x (List.mem_append_left _ hx))) (fun x hx => hsp x (List.mem_append_left _ hx)),
      trodAll_stays hl hb (fun t ht => hr t (List.mem_cons_of_mem _ ht)) (fun x hx => hlt x (List.mem_append_right _ hx)) (fun x hx => hsp x (List.mem_append_right _ hx)) h2, rfl⟩
  | [], _ :: _, _, _, _, _, _, h => h.elim
  | [], [], _ :: _, _, _, _, _, h => h.elim
  | _ :: _, [], _, _, _, _, _, h => h.elim
  | _ :: _, _ :: _, [], _, _, _, _, h => h.elim


section
variable {H : Type} {enc : TypeId × Value → H} {W : World} {sp : Nat → Bool}
theorem vals_of_trod {fuel : Nat} {cs : List Value} {x : DataW H × List MemPlace} (h : DataW.trod enc Try.prog W 0 sp true fuel 31 cs = some x) : ∃ sl l, cs = [sl] ∧ IsVals W sl l := by
  rcases open_slice Try.underlying31 h with ⟨rfl, _⟩ | ⟨a, len, cap, m, n, D, Pl, rfl, hb, hl, hm, hmm, hx, hi⟩
  · exact ⟨_, [], rfl, none, 0, rfl, Nat.le_refl _, by omega, fun v hv => (by cases hv), .inl rfl⟩
  have hlm : len ≤ m := by rw [hmm]; split <;> omega
  have hC : Try.prog.cellsOf 26 = 3 := by kernel_rfl
  have hI1 : Try.prog.cellsOf 3 = 1 := by kernel_rfl
  have hS1 : Try.prog.cellsOf 9 = 1 := by kernel_rfl
  have each : ∀ i, i < len → ∃ v : V, v.fit ∧ W.cell? (a.add (i * 3)) = some (.int .i64 v.k) ∧ W.cell? (a.add (i * 3 + 1)) = some (.int .i64 v.n) ∧ W.cell? (a.add (i * 3 + 2)) = some (.string v.s) := by
    intro i hi'
    obtain ⟨cs', h1, h2⟩ := hi i (by omega)
    rw [hC] at h1
    obtain ⟨_, hlen, hcell⟩ := World.cells?_some h1
    obtain ⟨ys, n', _, _, _, _, hf⟩ := DataW.trod_struct Try.underlying26 h2
    match cs', hlen with
    | [v0, v1, v2], _ =>
      have u0 := hf 0 _ rfl
      have u1 := hf 1 _ rfl
      have u2 := hf 2 _ rfl
      have hlen3 : ys.length = 3 := by assumption
      match ys, hlen3 with
      | [y0, y1, y2], _ =>
      simp [hI1, hS1] at u0 u1 u2
      obtain ⟨k, e0, _, f0⟩ := DataW.trod_int Try.underlying3 u0
      obtain ⟨q, e1, _, f1⟩ := DataW.trod_int Try.underlying3 u1
      obtain ⟨s, e2, _, f2⟩ := DataW.trod_string Try.underlying9 u2
      simp only [List.cons.injEq, and_true] at e0 e1 e2
      subst e0; subst e1; subst e2
      have c0 := hcell 0 (by omega)
      have c1 := hcell 1 (by omega)
      have c2 := hcell 2 (by omega)
      rw [Go.Deep.add_add] at c0 c1 c2
      refine ⟨⟨k, q, s⟩, ⟨wf_i64 f0, wf_i64 f1, ?_⟩, by simpa using c0, by simpa using c1, by simpa using c2⟩
      unfold maxLen at f2; simp only; omega
  have hcap : cap ≤ 9223372036854775807 := by unfold maxLen at hm; omega
  by_cases hz : len = 0
  · subst hz
    exact ⟨_, [], rfl, some a, cap, rfl, Nat.zero_le _, hcap, fun v hv => (by cases hv), .inl rfl⟩
  obtain ⟨_, _, g0, _⟩ := each 0 (by omega)
  rw [Nat.zero_mul, add_zero'] at g0
  have hs := cell_spot g0
  have hlt := World.block_lt_of_cell? W _ g0
  obtain ⟨b, off, spot⟩ := a
  simp only at hs hlt
  subst hs
  simp only [addr_add] at each
  obtain ⟨f, hf⟩ : ∃ f : Nat → V, ∀ i, i < len → (f i).fit ∧ W.cell? ⟨b, off + i * 3, none⟩ = some (.int .i64 (f i).k) ∧ W.cell? ⟨b, off + (i * 3 + 1), none⟩ = some (.int .i64 (f i).n) ∧ W.cell? ⟨b, off + (i * 3 + 2), none⟩ = some (.string (f i).s) :=
    ⟨fun i => if h : i < len then Classical.choose (each i h) else ⟨0, 0, ⟨#[]⟩⟩, fun i hi => by simp only [dif_pos hi]; exact Classical.choose_spec (each i hi)⟩
  refine ⟨_, (List.range len).map f, rfl, some ⟨b, off, none⟩, cap, by simp, by simpa using hl, hcap, ?_, .inr ⟨b, off, rfl, hlt, ?_⟩⟩
  · intro v hv
    simp only [List.mem_map, List.mem_range] at hv
    obtain ⟨i, hi', rfl⟩ := hv
    exact (hf i hi').1
  · intro i hi'
    have hi2 : i < len := by simpa using hi'
    obtain ⟨_, g0, g1, g2⟩ := hf i hi2
    simp only [List.getElem_map, List.getElem_range]
    exact ⟨g0, by rw [Nat.add_assoc]; exact g1, by rw [Nat.add_assoc]; exact g2⟩
theorem areas_of_trod {fuel : Nat} {cs : List Value} {x : DataW H × List MemPlace} (h : DataW.trod enc Try.prog W 0 sp true fuel 22 cs = some x) : ∃ sl xs, cs = [sl] ∧ IsAreas W sl xs := by
  rcases open_slice Try.underlying22 h with ⟨rfl, _⟩ | ⟨a, len, cap, m, n, D, Pl, rfl, hb, hl, hm, hmm, hx, hi⟩
  · exact ⟨_, [], rfl, none, 0, rfl, Nat.le_refl _, by omega, .inl rfl⟩
  have hlm : len ≤ m := by rw [hmm]; split <;> omega
  have hC : Try.prog.cellsOf 33 = 4 := by kernel_rfl
  have hI1 : Try.prog.cellsOf 3 = 1 := by kernel_rfl
  have hB1 : Try.prog.cellsOf 4 = 1 := by kernel_rfl
  have hS1 : Try.prog.cellsOf 31 = 1 := by kernel_rfl
  have each : ∀ i, i < len → ∃ q : A × Value, IsVals W q.2 q.1.l ∧ q.1.fit ∧ W.cell? (a.add (i * 4)) = some (.int .i64 q.1.rows) ∧ W.cell? (a.add (i * 4 + 1)) = some (.int .i64 q.1.cols) ∧ W.cell? (a.add (i * 4 + 2)) = some q.2 ∧ W.cell? (a.add (i * 4 + 3)) = some (.bool q.1.many) := by
    intro i hi'
    obtain ⟨cs', h1, h2⟩ := hi i (by omega)
    rw [hC] at h1
    obtain ⟨_, hlen, hcell⟩ := World.cells?_some h1
    obtain ⟨ys, n', _, _, _, _, hf⟩ := DataW.trod_struct Try.underlying33 h2
    match cs', hlen with
    | [v0, v1, v2, v3], _ =>
      have u0 := hf 0 _ rfl
      have u1 := hf 1 _ rfl
      have u2 := hf 2 _ rfl
      have u3 := hf 3 _ rfl
      have hlen4 : ys.length = 4 := by assumption
      match ys, hlen4 with
      | [y0, y1, y2, y3], _ =>
      simp [hI1, hS1, hB1] at u0 u1 u2 u3
      obtain ⟨k, e0, _, f0⟩ := DataW.trod_int Try.underlying3 u0
      obtain ⟨q, e1, _, f1⟩ := DataW.trod_int Try.underlying3 u1
      obtain ⟨sl, l, e2, hv⟩ := vals_of_trod u2
      obtain ⟨b, e3, _⟩ := DataW.trod_bool Try.underlying4 u3
      simp only [List.cons.injEq, and_true] at e0 e1 e2 e3
      subst e0; subst e1; subst e2; subst e3
      have c0 := hcell 0 (by omega)
      have c1 := hcell 1 (by omega)
      have c2 := hcell 2 (by omega)
      have c3 := hcell 3 (by omega)
      rw [Go.Deep.add_add] at c0 c1 c2 c3
      exact ⟨(⟨k, q, l, b⟩, _), hv, ⟨wf_i64 f0, wf_i64 f1⟩, by simpa using c0, by simpa using c1, by simpa using c2, by simpa using c3⟩
  have hcap : cap ≤ 9223372036854775807 := by unfold maxLen at hm; omega
  by_cases hz : len = 0
  · subst hz
    exact ⟨_, [], rfl, some a, cap, rfl, Nat.zero_le _, hcap, .inl rfl⟩
  obtain ⟨_, _, _, g0, _⟩ := each 0 (by omega)
  rw [Nat.zero_mul, add_zero'] at g0
  have hs := cell_spot g0
  have hlt := World.block_lt_of_cell? W _ g0
  obtain ⟨b, off, spot⟩ := a
  simp only at hs hlt
  subst hs
  simp only [addr_add] at each
  obtain ⟨f, hf⟩ : ∃ f : Nat → A × Value, ∀ i, i < len → IsVals W (f i).2 (f i).1.l ∧ (f i).1.fit ∧ W.cell? ⟨b, off + i * 4, none⟩ = some (.int .i64 (f i).1.rows) ∧ W.cell? ⟨b, off + (i * 4 + 1), none⟩ = some (.int .i64 (f i).1.cols) ∧
      W.cell? ⟨b, off + (i * 4 + 2), none⟩ = some (f i).2 ∧ W.cell? ⟨b, off + (i * 4 + 3), none⟩ = some (.bool (f i).1.many) :=
    ⟨fun i => if h : i < len then Classical.choose (each i h) else (⟨0, 0, [], false⟩, undef), fun i hi => by simp only [dif_pos hi]; exact Classical.choose_spec (each i hi)⟩
  refine ⟨_, (List.range len).map fun i => (f i).1, rfl, some ⟨b, off, none⟩, cap, by simp, by simpa using hl, hcap, .inr ⟨b, off, rfl, hlt, ?_⟩⟩
  intro i hi'
  have hi2 : i < len := by simpa using hi'
  obtain ⟨gv, gf, g0, g1, g2, g3⟩ := hf i hi2
  simp only [List.getElem_map, List.getElem_range]
  exact ⟨(f i).2, g0, by rw [Nat.add_assoc]; exact g1, by rw [Nat.add_assoc]; exact g2, by rw [Nat.add_assoc]; exact g3, gv, gf⟩
end
end Go.Proofs.Ytpoiebkcjehheaa
