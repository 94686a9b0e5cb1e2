/- Values and areas that lie in memory of the call's own. -/
import Derived.Test.YtpoiebkcjehheaaLt
namespace Go.Proofs.Ytpoiebkcjehheaa
open Go.RowKit
set_option linter.unusedSimpArgs false
set_option linter.unusedVariables false

def vCells (v : V) : List Value := [.int .i64 v.k, .int .i64 v.n, .string v.s]
theorem flat_at {α : Type} (c : Nat) (f : α → List Value) (hf : ∀ x, (f x).length = c) : ∀ (l : List α) (i j : Nat) (h : i < l.length), j < c → (l.flatMap f)[i * c + j]? = (f l[i])[j]?
  | [], i, j, h, _ => by simp at h
  | x :: l, 0, j, h, hj => by
    rw [List.flatMap_cons, Nat.zero_mul, Nat.zero_add, List.getElem?_append_left (by rw [hf]; exact hj)]
    rfl
  | x :: l, i + 1, j, h, hj => by
    rw [List.flatMap_cons, List.getElem?_append_right (by rw [hf, Nat.succ_mul]; omega), hf, show (i + 1) * c + j - c = i * c + j by rw [Nat.succ_mul]; omega]
    exact flat_at c f hf l i j (by simpa using h) hj
theorem flat_len {α : Type} (c : Nat) (f : α → List Value) (hf : ∀ x, (f x).length = c) : ∀ (l : List α), (l.flatMap f).length = l.length * c
  | [] => by simp
  | x :: l => by rw [List.flatMap_cons, List.length_append, hf, flat_len c f hf l, List.length_cons, Nat.succ_mul]; omega
section
variable {w0 w : World} {r : Va} {H : List (Nat × Blk)}
theorem own_at (hI : Inv w0 r H w) {j : Nat} {l : List SV} {T : TypeId} (hk : lk H j = some (.cells l T) ∨ lk H j = some (.pre l T)) {i : Nat} {v : Value} (h : (dens r l)[i]? = some v) : w.cell? ⟨r.lo j, i, none⟩ = some v := by
  rcases hk with hk | hk
  · obtain ⟨_, _, hb⟩ := hI.blk j _ hk
    simp [World.cell?, hb.2, h]
  · obtain ⟨_, _, hb⟩ := hI.blk j _ hk
    obtain ⟨_, c, h1, h2⟩ := hb
    have hlt : i < (dens r l).length := (List.getElem?_eq_some_iff.1 h).1
    have hi : i < l.length := by rw [dens_length] at hlt; exact hlt
    have h3 : c.toList[i]? = some v := by
      rw [← h, ← h2, List.getElem?_take_of_lt hi]
    simp [World.cell?, h1]
    simpa using h3
theorem own_lt (hI : Inv w0 r H w) {j : Nat} {l : List SV} {T : TypeId} (hk : lk H j = some (.cells l T) ∨ lk H j = some (.pre l T)) : r.lo j < w.heap.size := by
  rcases hk with hk | hk
  · obtain ⟨_, h, hb⟩ := hI.blk j _ hk
    have := hb.1; omega
  · obtain ⟨_, h, hb⟩ := hI.blk j _ hk
    have := hb.1; omega
theorem own_vals (hI : Inv w0 r H w) {j : Nat} {l : List SV} {T : TypeId} (vs : List V) (hk : lk H j = some (.cells l T) ∨ lk H j = some (.pre l T)) (hl : dens r l = vs.flatMap vCells) (hc : vs.length ≤ 9223372036854775807) (hfit : ∀ v ∈ vs, v.fit) :
    IsVals w (.slice (some ⟨r.lo j, 0, none⟩) vs.length vs.length) vs := by
  refine ⟨_, _, rfl, Nat.le_refl _, hc, hfit, .inr ⟨_, _, rfl, own_lt hI hk, fun i hi => ?_⟩⟩
  have key : ∀ m, m < 3 → w.cell? ⟨r.lo j, 0 + i * 3 + m, none⟩ = (vCells vs[i])[m]? := by
    intro m hm
    have h1 := flat_at 3 vCells (fun _ => rfl) vs i m hi hm
    have h2 : (vCells vs[i])[m]? = some ((vCells vs[i])[m]'(by exact hm)) := List.getElem?_eq_getElem _
    rw [Nat.zero_add, h2]
    exact own_at hI hk (by rw [hl, h1, h2])
  exact ⟨key 0 (by omega), key 1 (by omega), key 2 (by omega)⟩
theorem own_areas (hI : Inv w0 r H w) {j : Nat} {l : List SV} {T : TypeId} (ps : List (A × Value)) (hk : lk H j = some (.cells l T) ∨ lk H j = some (.pre l T)) (hl : dens r l = ps.flatMap fun p => p.1.cells p.2) (hc : ps.length ≤ 9223372036854775807) (hs : ∀ p ∈ ps, IsVals w p.2 p.1.l ∧ p.1.fit) :
    IsAreas w (.slice (some ⟨r.lo j, 0, none⟩) ps.length ps.length) (ps.map (·.1)) := by
  refine ⟨some ⟨r.lo j, 0, none⟩, ps.length, by simp, by simp, hc, .inr ⟨_, _, rfl, own_lt hI hk, fun i hi => ?_⟩⟩
  have hi' : i < ps.length := by simpa using hi
  have key : ∀ m, m < 4 → w.cell? ⟨r.lo j, 0 + i * 4 + m, none⟩ = (ps[i].1.cells ps[i].2)[m]? := by
    intro m hm
    have h1 := flat_at 4 (fun p : A × Value => p.1.cells p.2) (fun _ => rfl) ps i m hi' hm
    have h2 : (ps[i].1.cells ps[i].2)[m]? = some ((ps[i].1.cells ps[i].2)[m]'(by exact hm)) := List.getElem?_eq_getElem _
    rw [Nat.zero_add, h2]
    exact own_at hI hk (by rw [hl, h1, h2])
  obtain ⟨g1, g2⟩ := hs ps[i] (List.getElem_mem hi')
  simp only [List.getElem_map]
  exact ⟨ps[i].2, key 0 (by omega), key 1 (by omega), key 2 (by omega), key 3 (by omega), g1, g2⟩
end
def numV (n : Int) : V := ⟨1, n, ⟨#[]⟩⟩
def oneA (v : V) : A := ⟨1, 1, [v], false⟩
theorem v_fit {v : V} (h : v.good = true) : v.fit := by
  have hs := V.good_size h
  unfold V.good at h
  refine ⟨?_, ?_, by omega⟩ <;> revert h <;> (repeat' split) <;> simp_all [numGood] <;> omega
theorem oneA_fit (v : V) : (oneA v).fit := by
  show ((-9223372036854775808 : Int) ≤ 1 ∧ (1 : Int) ≤ 9223372036854775807) ∧ ((-9223372036854775808 : Int) ≤ 1 ∧ (1 : Int) ≤ 9223372036854775807)
  omega
section
variable {C : Cx} {k : List Item} {S : St} {full rest : List Oper} {base sz i : Nat} {o : Oper} {ms : List Ms} {g : FuncId} {args : List SV}
/-- A call in a drawn region that answers one block of its own. -/
theorem dcallb_r (hC : CxOK C) (x : SV) (l : List SV) (T : TypeId) {mk : Nat → Value} {lv l0 : List Value} (hp : pvs args = some l0) (hc : callable C.P g = true) (hl : namesL l = [])
    (hmk : ∀ r : Va, x.den r = mk (r.lo (base + i))) (hlv : ∀ r : Va, dens r l = lv)
    (h : ∀ w, Below C.w0.heap.size C.w0 w → Calls C.P g l0.toArray w (RetB w mk lv T))
    (hk : symD C full base sz k rest (i + 1) (ms ++ [⟨[], [], some (base + i), false, x.names ++ namesL l⟩]) ({ S with heap := (base + i, .pre l T) :: S.heap }.put o.dst x)) : DCallG C g args full base sz k rest i o ms S := by
  refine dcallb_go hC x l T [] hc hl (fun r w hI => ?_) hk
  rw [pvs_den r args l0 hp]
  refine (h w hI.below).mono fun e w2 ⟨g, h1, h2, h3, c, h4, h5⟩ => ⟨g, 0, c, ?_, h2, h3, h4, ?_⟩
  · rw [h1, hmk]; simp [Va.set]
  · have := dens_length r l
    rw [hlv] at this
    rw [hlv, ← this]; exact h5
end
end Go.Proofs.Ytpoiebkcjehheaa
