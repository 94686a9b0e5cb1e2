/- A symbolic walk, part C: the model does what part B says of an operation. -/
import Derived.Test.YtpoiebkcjehheaaSyB
import Derived.Laws.CopyOwn
import Derived.Laws.Tables
namespace Go.Proofs.Ytpoiebkcjehheaa
open Go.RowKit

def callable (P : Program) (f : FuncId) : Bool :=
  match P.funcs[f]? with
  | some fn => !(fn.name == "runtime.NumGoroutine") && fn.body.isSome
  | none => false

theorem run_callFunc {P : Program} {f : FuncId} (h : callable P f = true) (args : Array Value) (w : World) : (callFunc f args).run P w = .ok (.enter f args) w := by
  unfold callable at h
  cases hf : P.funcs[f]? with
  | none => rw [hf] at h; cases h
  | some fn =>
    rw [hf] at h
    simp only [Bool.and_eq_true, Bool.not_eq_true'] at h
    have h2 : ¬ fn.body = none := by
      intro hb; rw [hb] at h; simp at h
    have h1 : ¬ fn.name = "runtime.NumGoroutine" := by simpa using h.1
    simp [callFunc, program, Sem.run, hf, h1, h2, bind, Sem.bind]

theorem SV.cs_ok (r : Va) {p : Nat → Bool} {y : SV} {c : List SV} (h : y.cs = some c) : (y.den r).cells = (dens r c).toArray ∧ (y.nm p = true → nms p c = true) := by
  cases y with
  | v x =>
    cases x <;> simp only [SV.cs, Option.some.injEq] at h <;> first
      | cases h; done
      | (subst h; exact ⟨by simp only [SV.den, Value.cells, dens], fun _ => by simp only [nms, SV.nm, Bool.and_self]⟩)
      | (subst h; exact ⟨by simp only [SV.den, Value.cells, dens_mapv, Array.toArray_toList], fun _ => nms_mapv p _⟩)
  | agg l => simp only [SV.cs, Option.some.injEq] at h; subst h; exact ⟨by simp only [SV.den, Value.cells], fun h => by simpa only [SV.nm] using h⟩
  | tup l => simp only [SV.cs] at h; cases h
  | unk k => simp only [SV.cs] at h; cases h
  | _ => simp only [SV.cs, Option.some.injEq] at h; subst h; exact ⟨by simp only [SV.den, Value.cells, dens], fun h => by simpa only [nms, SV.nm, Bool.and_true] using h⟩

theorem SV.one_ok (r : Va) {y : SV} (h : y.one = true) : (y.den r).oneCell' = true := by
  cases y with
  | v x => cases x <;> first | rfl | (simp only [SV.one] at h; cases h)
  | agg l => simp only [SV.one] at h; cases h
  | tup l => simp only [SV.one] at h; cases h
  | unk k => simp only [SV.one] at h; cases h
  | _ => simp only [SV.den, Value.oneCell']

theorem ones_ok (r : Va) : ∀ l : List SV, ones l = true → ∀ x ∈ dens r l, x.oneCell' = true
  | [], _, x, hx => by simp only [dens] at hx; cases hx
  | y :: l, h, x, hx => by
    simp only [ones, Bool.and_eq_true] at h
    simp only [dens, List.mem_cons] at hx
    rcases hx with rfl | hx
    · exact y.one_ok r h.1
    · exact ones_ok r l h.2 x hx

theorem lay_length : ∀ (c l : List SV) (o : Nat), (lay l o c).length = l.length
  | [], l, o => by simp only [lay]
  | x :: c, l, o => by simp only [lay, lay_length c, List.length_set]
theorem lay_nms (p : Nat → Bool) : ∀ (c l : List SV) (o : Nat), nms p l = true → nms p c = true → nms p (lay l o c) = true
  | [], l, o, h, _ => by simpa only [lay] using h
  | x :: c, l, o, h, hc => by
    simp only [nms, Bool.and_eq_true] at hc
    simp only [lay]
    exact lay_nms p c _ _ (nms_set p l o x h hc.1) hc.2
theorem lset_take {α : Type} (X : α) : ∀ (L : List α) (o : Nat), o < L.length → (L.set o X).take (o + 1) = L.take o ++ [X]
  | [], o, h => by simp at h
  | y :: L, 0, _ => by simp
  | y :: L, o + 1, h => by
    have := lset_take X L o (by simpa using h)
    simp only [List.set_cons_succ, List.take_succ_cons, this, List.cons_append]
theorem lset_drop {α : Type} (X : α) (n : Nat) : ∀ (L : List α) (o : Nat), (L.set o X).drop (o + 1 + n) = L.drop (o + 1 + n)
  | [], o => by simp
  | y :: L, 0 => by rw [show 0 + 1 + n = n + 1 by omega]; simp only [List.set_cons_zero, List.drop_succ_cons]
  | y :: L, o + 1 => by
    have := lset_drop X n L o
    rw [show o + 1 + 1 + n = (o + 1 + n) + 1 by omega]
    simp only [List.set_cons_succ, List.drop_succ_cons, this]
theorem lay_den (r : Va) : ∀ (c l : List SV) (o : Nat), o + c.length ≤ l.length → dens r (lay l o c) = (dens r l).take o ++ dens r c ++ (dens r l).drop (o + c.length)
  | [], l, o, _ => by simp only [lay, dens, List.append_nil, List.length_nil, Nat.add_zero, List.take_append_drop]
  | x :: c, l, o, h => by
    simp only [List.length_cons] at h
    have hl := dens_length r l
    rw [lay, lay_den r c (l.set o x) (o + 1) (by simp only [List.length_set]; omega), dens_set, lset_take _ _ _ (by omega), lset_drop]
    simp only [dens, List.append_assoc, List.length_cons, List.cons_append, List.nil_append]
    rw [show o + 1 + c.length = o + (c.length + 1) by omega]

/-- The same on values. -/
def layV : List Value → Nat → List Value → List Value
  | l, _, [] => l
  | l, o, c :: cs => layV (l.set o c) (o + 1) cs
theorem dens_lay (r : Va) : ∀ (c l : List SV) (o : Nat), dens r (lay l o c) = layV (dens r l) o (dens r c)
  | [], l, o => by simp only [lay, dens, layV]
  | x :: c, l, o => by simp only [lay, dens, layV, dens_lay r c, dens_set]
theorem layV_length : ∀ (c l : List Value) (o : Nat), (layV l o c).length = l.length
  | [], l, o => by simp only [layV]
  | x :: c, l, o => by simp only [layV, layV_length c, List.length_set]
theorem foldl_lay : ∀ (c : List Value) (n o : Nat) (l : List Value),
    (c.zipIdx n).foldl (fun (cs : Array Value) (x : Value × Nat) => cs.setIfInBounds (o + x.2) x.1) l.toArray = (layV l (o + n) c).toArray
  | [], n, o, l => by simp only [List.zipIdx_nil, List.foldl_nil, layV]
  | x :: c, n, o, l => by
    simp only [List.zipIdx_cons, List.foldl_cons, List.setIfInBounds_toArray, layV]
    rw [foldl_lay c (n + 1) o (l.set (o + n) x), show o + (n + 1) = o + n + 1 by omega]

/-- Parts and what they are in the model. -/
def partsOK (r : Va) (p : Nat → Bool) : List (Nat × Option SV) → List (Nat × Value) → Prop
  | [], [] => True
  | (i, x) :: l, (j, v) :: m => i = j ∧ (∀ y, x = some y → v = y.den r ∧ y.nm p = true) ∧ partsOK r p l m
  | _, _ => False
theorem fill_ok (r : Va) (p : Nat → Bool) (place place' : Nat → Option (Nat × Nat)) (hp : ∀ i, place i = place' i) : ∀ (ps : List (Nat × Option SV)) (vs : List (Nat × Value)) (l l' : List SV), fillS place l ps = some l' → partsOK r p ps vs → nms p l = true →
    Instr.fill place' (dens r l).toArray vs = some (dens r l').toArray ∧ nms p l' = true
  | [], [], l, l', h, _, hl => by
    simp only [fillS, Option.some.injEq] at h; subst h
    exact ⟨by simp only [Instr.fill], hl⟩
  | [], _ :: _, l, l', h, hv, hl => by simp only [partsOK] at hv
  | _ :: _, [], l, l', h, hv, hl => by simp only [partsOK] at hv
  | (i, x) :: ps, (j, v) :: vs, l, l', h, hv, hl => by
    obtain ⟨rfl, hx, hv⟩ := hv
    simp only [fillS] at h
    cases hpl : place i with
    | none => rw [hpl] at h; simp at h
    | some q =>
      obtain ⟨off, size⟩ := q
      cases x with
      | none => rw [hpl] at h; simp at h
      | some y =>
        obtain ⟨hy, hyn⟩ := hx y rfl
        rw [hpl] at h
        simp only at h
        cases hc : y.cs with
        | none => rw [hc] at h; cases h
        | some c =>
          obtain ⟨h3, h4⟩ := SV.cs_ok r (p := p) hc
          rw [hc] at h
          simp only at h
          cases hb : ((c.length == size) && decide ((off + c.length) ≤ l.length)) with
          | false => rw [hb] at h; cases h
          | true =>
            rw [hb] at h
            simp only [cond_true] at h
            simp only [Bool.and_eq_true, decide_eq_true_eq, beq_iff_eq] at hb
            have ih := fill_ok r p place place' hp ps vs _ _ h hv (lay_nms p c l off hl (h4 hyn))
            have hcl := dens_length r c
            have hll := dens_length r l
            have hsz : (dens r c).toArray.size = size := by simp; omega
            refine ⟨?_, ih.2⟩
            have e0 : ((dens r c).toArray.zipIdx.foldl (fun cs (c, j) => cs.setIfInBounds (off + j) c) (dens r l).toArray) = (dens r (lay l off c)).toArray := by
              rw [dens_lay]
              have := foldl_lay (dens r c) 0 off (dens r l)
              simpa using this
            simp only [Instr.fill, ← hp, hpl, hy, h3]
            rw [if_neg (by simp; omega)]
            rw [e0]
            exact ih.1

def EffOK (P : Program) (w0 : World) (r : Va) (S : St) (a : Act) (w : World) (o : Oper) : Eff → Prop
  | .ask => True
  | .ok c x => c → (execOp a.eval o).run P w = .ok (.value (x.den r)) w ∧ x.nm (lt S.next) = true
  | .box l T => (execOp a.eval o).run P w = .ok (.value (.pointer (some ⟨w.heap.size, 0, none⟩))) (w.alloc (.cells (dens r l).toArray T)) ∧ nms (lt S.next) l = true
  | .row l T n => (execOp a.eval o).run P w = .ok (.value (.slice (some ⟨w.heap.size, 0, none⟩) n n)) (w.alloc (.cells (dens r l).toArray T)) ∧ nms (lt S.next) l = true
  | .upd k l T => ∃ l0 w', lk S.heap k = some (.cells l0 T) ∧ nms (lt S.next) l = true ∧ (execOp a.eval o).run P w = .ok .skip w' ∧
      Below w0.heap.size w w' ∧ (∀ i, i ≠ r.lo k → w'.heap[i]? = w.heap[i]?) ∧ w'.heap[r.lo k]? = some (.cells (dens r l).toArray T (0, 0))
  | .call f args => callable P f = true → (execOp a.eval o).run P w = .ok (.enter f (dens r args).toArray) w ∧ nms (lt S.next) args = true

section
variable {P : Program} {tab : TypeId → Option TI} {w0 : World} {r : Va} {S : St} {a : Act} {w : World} {o : Oper}

theorem opt1_ok (hR : Rel w0 r S a w) {x : Operand} {f : SV → Eff} (h : ∀ y, a.eval x = y.den r → y.nm (lt S.next) = true → EffOK P w0 r S a w o (f y)) : EffOK P w0 r S a w o (opt1 (S.ev x) f) := by
  cases hx : S.ev x with
  | none => exact trivial
  | some y => obtain ⟨h1, h2⟩ := hR.ev hx; exact h y h1 h2
theorem opt2_ok (hR : Rel w0 r S a w) {x y : Operand} {f : SV → SV → Eff} (h : ∀ s t, a.eval x = s.den r → s.nm (lt S.next) = true → a.eval y = t.den r → t.nm (lt S.next) = true → EffOK P w0 r S a w o (f s t)) :
    EffOK P w0 r S a w o (opt2 (S.ev x) (S.ev y) f) := by
  cases hx : S.ev x with
  | none => exact trivial
  | some s =>
    cases hy : S.ev y with
    | none => exact trivial
    | some t =>
      obtain ⟨h1, h2⟩ := hR.ev hx
      obtain ⟨h3, h4⟩ := hR.ev hy
      exact h s t h1 h2 h3 h4
theorem evs_ok (hR : Rel w0 r S a w) : ∀ (l : List Operand) (y : List SV), evs S l = some y → l.map a.eval = dens r y ∧ nms (lt S.next) y = true
  | [], y, h => by simp only [evs, Option.some.injEq] at h; subst h; exact ⟨by simp only [List.map_nil, dens], by simp only [nms]⟩
  | x :: l, y, h => by
    simp only [evs] at h
    split at h
    · rename_i s t hs ht
      simp only [Option.some.injEq] at h
      subst h
      obtain ⟨h1, h2⟩ := hR.ev hs
      obtain ⟨h3, h4⟩ := evs_ok hR l t ht
      exact ⟨by simp only [List.map_cons, dens, h1, h3], by simp only [nms, h2, h4, Bool.and_self]⟩
    · cases h

theorem eff_alloc (hT : TabOK P tab) {t : TypeId} (ho : o.op = .alloc t) : EffOK P w0 r S a w o (effOf tab (memOf tab w0) o.op S) := by
  rw [ho]
  simp only [effOf]
  cases hi : tab t with
  | none => exact trivial
  | some i =>
    simp only
    cases hc : (SV.v i.zero).cs with
    | none => exact trivial
    | some c =>
      obtain ⟨h1, h2⟩ := SV.cs_ok r (p := lt S.next) hc
      refine ⟨?_, h2 (by simp only [SV.nm])⟩
      simp only [SV.den] at h1
      simp [execOp, ho, Instr.alloc, hT.zero hi, newVar, newRow, newObj, Sem.run, h1]
theorem eff_box (hR : Rel w0 r S a w) {t : TypeId} {x : Operand} (ho : o.op = .box t x) : EffOK P w0 r S a w o (effOf tab (memOf tab w0) o.op S) := by
  rw [ho]
  simp only [effOf]
  refine opt1_ok hR fun y h1 h2 => ?_
  cases hc : y.cs with
  | none => exact trivial
  | some c =>
    obtain ⟨h3, h4⟩ := SV.cs_ok r (p := lt S.next) hc
    refine ⟨?_, h4 h2⟩
    simp [execOp, ho, Instr.box, newVar, newRow, newObj, Sem.run, h1, h3]
theorem readCells_get {w : World} {a : Addr} : ∀ (n i : Nat) (l : List Value), readCells w a i n = some l → l.length = n ∧ ∀ j v, l[j]? = some v → w.cell? (a.add (i + j)) = some v
  | 0, i, l, h => by
    simp only [readCells, Option.some.injEq] at h
    subst h
    exact ⟨rfl, fun j v h => by simp at h⟩
  | n + 1, i, l, h => by
    simp only [readCells] at h
    split at h
    · rename_i v r hv hr
      simp only [Option.some.injEq] at h
      subst h
      obtain ⟨h1, h2⟩ := readCells_get n (i + 1) r hr
      refine ⟨by simp [h1], fun j u hu => ?_⟩
      cases j with
      | zero => simp only [List.getElem?_cons_zero, Option.some.injEq] at hu; subst hu; exact hv
      | succ j =>
        have := h2 j u (by simpa using hu)
        rwa [show i + 1 + j = i + (j + 1) by omega] at this
    · cases h
theorem run_memOf (hT : TabOK P tab) {t : TypeId} {A : Addr} {v : Value} (h : memOf tab w0 t A = some v) (hb : Below w0.heap.size w0 w) : (loadVar t A).run P w = .ok v w := by
  unfold memOf at h
  split at h
  · rename_i hA
    have hcell : ∀ j, w.cell? (A.add j) = w0.cell? (A.add j) := fun j => World.cell?_of_block (w := w0) (hb.block _ (by unfold Addr.add; split <;> exact hA))
    split at h
    · rename_i i hi
      cases hag : i.k.agg with
      | true =>
        rw [hag] at h
        simp only [if_true] at h
        cases hr : readCells w0 A 0 i.size with
        | none => rw [hr] at h; cases h
        | some l =>
          rw [hr] at h
          simp only [Option.map_some, Option.some.injEq] at h
          subst h
          obtain ⟨h1, h2⟩ := readCells_get _ _ _ hr
          have := run_loadCells_list (P := P) w A l fun j u hu => by rw [hcell]; simpa using h2 j u hu
          rw [h1] at this
          simp only [loadVar, Sem.run_bind, hT.agg hi, hag, Result.andThen_ok, if_true, hT.size hi, this, Sem.run_pure]
      | false =>
        rw [hag] at h
        simp only [Bool.false_eq_true, if_false] at h
        have h0 : w.cell? A = some v := by
          have := hcell 0
          simp only [Addr.add, if_true] at this
          rw [this, h]
        simp only [loadVar, Sem.run_bind, hT.agg hi, hag, Result.andThen_ok, Bool.false_eq_true, if_false, run_load, h0]
    · cases h
  · cases h
theorem eff_load (hT : TabOK P tab) (hR : Rel w0 r S a w) {t : TypeId} {x : Operand} (ho : o.op = .load t x) : EffOK P w0 r S a w o (effOf tab (memOf tab w0) o.op S) := by
  rw [ho]
  simp only [effOf]
  refine opt1_ok hR fun y h1 h2 => ?_
  unfold pLoad
  split
  · rename_i A
    split
    · rename_i v hv
      simp only [SV.den] at h1
      intro _
      refine ⟨?_, by simp only [SV.nm]⟩
      simp [execOp, ho, h1, SV.den, Instr.loadAt, Instr.sureAddr, run_memOf hT hv hR.inv.below]
    · exact trivial
  rotate_left
  · exact trivial
  rename_i k of
  cases hi : tab t with
  | none => exact trivial
  | some i =>
    cases hb : lk S.heap k with
    | none => exact trivial
    | some b =>
      have hex : ∀ l T, (b = .cells l T ∨ b = .pre l T) → nms (lt S.next) l = true ∧ ∀ j v, (dens r l)[of + j]? = some v → w.cell? ((⟨r.lo k, of, none⟩ : Addr).add j) = some v := by
        intro l T hbl
        obtain ⟨_, _, h4⟩ := hR.inv.blk k _ hb
        have hl := (hR.ok.heap k _ hb).2
        have ha : ∀ j, (⟨r.lo k, of, none⟩ : Addr).add j = ⟨r.lo k, of + j, none⟩ := fun j => by unfold Addr.add; split <;> simp_all
        rcases hbl with rfl | rfl
        · simp only [Blk.ok] at h4
          simp only [Blk.nm] at hl
          refine ⟨hl, fun j v hv => ?_⟩
          rw [ha, cell_of_row w _ _ _ _ _ h4.2]
          simpa using hv
        · simp only [Blk.ok] at h4
          simp only [Blk.nm] at hl
          obtain ⟨_, c, g1, g2⟩ := h4
          refine ⟨hl, fun j v hv => ?_⟩
          rw [ha, cell_of_row w _ _ _ _ _ g1]
          rw [← g2, List.getElem?_take] at hv
          split at hv
          · simpa using hv
          · cases hv
      have key : ∀ l T, (b = .cells l T ∨ b = .pre l T) → EffOK P w0 r S a w o (bif i.k.agg then (bif decide (of + i.size ≤ l.length) then .ok True (.agg ((l.drop of).take i.size)) else .ask)
          else match l[of]? with | some x => .ok True x | none => .ask) := by
       intro l T hbl
       obtain ⟨hl, hcell⟩ := hex l T hbl
       cases hag : i.k.agg with
       | true =>
         simp only [cond_true]
         by_cases hle : of + i.size ≤ l.length
         · have hle' : decide ((of + i.size) ≤ l.length) = true := by simpa using hle
           rw [hle']
           simp only [cond_true]
           intro _
           refine ⟨?_, by simp only [SV.nm]; exact nms_take _ _ _ (nms_drop _ _ _ hl)⟩
           have hlen : (dens r ((l.drop of).take i.size)).length = i.size := by rw [dens_length, List.length_take, List.length_drop]; omega
           have := run_loadCells_list (P := P) w ⟨r.lo k, of, none⟩ (dens r ((l.drop of).take i.size)) (fun j v hv => hcell j v (by
             rw [dens_take, dens_drop, List.getElem?_take] at hv
             split at hv
             · simpa [List.getElem?_drop] using hv
             · cases hv))
           rw [hlen] at this
           simp [execOp, ho, h1, SV.den, Instr.loadAt, Instr.sureAddr, loadVar, hT.agg hi, hT.size hi, hag, this]
         · have hle' : decide ((of + i.size) ≤ l.length) = false := by rw [← Bool.not_eq_true]; simpa using hle
           rw [hle']
           exact trivial
       | false =>
         simp only [cond_false]
         cases hx : l[of]? with
         | none => exact trivial
         | some x =>
           intro _
           refine ⟨?_, nms_get _ _ _ _ hl hx⟩
           have := hcell 0 (x.den r) (by rw [dens_get]; simp [hx])
           simp only [Addr.add, if_true] at this
           simp [execOp, ho, h1, SV.den, Instr.loadAt, Instr.sureAddr, loadVar, hT.agg hi, hag, this]
      cases b <;> first | exact trivial | exact key _ _ (.inl rfl) | exact key _ _ (.inr rfl)
theorem eff_move (hR : Rel w0 r S a w) {x : Operand} (ho : o.op = .move x ∨ o.op = .assign x) : EffOK P w0 r S a w o (effOf tab (memOf tab w0) o.op S) := by
  rcases ho with ho | ho <;> rw [ho] <;> simp only [effOf] <;> refine opt1_ok hR fun y h1 h2 _ => ⟨?_, h2⟩ <;> simp [execOp, ho, h1]
theorem eff_store (hT : TabOK P tab) (hR : Rel w0 r S a w) {t : TypeId} {x y : Operand} (ho : o.op = .store t x y) : EffOK P w0 r S a w o (effOf tab (memOf tab w0) o.op S) := by
  rw [ho]
  simp only [effOf]
  refine opt2_ok hR fun s u h1 h2 h3 h4 => ?_
  cases s <;> simp only [pStore] <;> try exact trivial
  rename_i k of
  cases hi : tab t with
  | none => exact trivial
  | some i =>
    cases hb : lk S.heap k with
    | none => exact trivial
    | some b =>
      cases b <;> first | exact trivial | skip
      rename_i l T
      cases hc : u.cs with
      | none => exact trivial
      | some c =>
        simp only
        cases hcond : ((c.length == i.size) && decide ((of + c.length) ≤ l.length) && ones c) with
        | false => exact trivial
        | true =>
          simp only [cond_true]
          simp only [Bool.and_eq_true, decide_eq_true_eq, beq_iff_eq] at hcond
          obtain ⟨⟨c1, c2⟩, c3⟩ := hcond
          obtain ⟨q1, q2, q3⟩ := hR.inv.blk k _ hb
          simp only [Blk.ok] at q3
          have hl := (hR.ok.heap k _ hb).2
          simp only [Blk.nm] at hl
          obtain ⟨d1, d2⟩ := SV.cs_ok r (p := lt S.next) hc
          have hlen := dens_length r c
          have hll := dens_length r l
          have hst := run_storeCells_at P (r.lo k) of T (dens r c) 0 _ w q3.2 (by simp; omega) (ones_ok r c c3)
          refine ⟨l, w.setRow (r.lo k) (dens r (lay l of c)).toArray, hb, lay_nms _ _ _ _ hl (d2 h4), ?_, below_setRow (Below.refl _ _) q1 _, fun i hi => setRow_other w _ _ _ hi, setRow_heap w _ _ _ _ _ q3.2⟩
          rw [lay_den r c l of c2]
          simp only [Nat.add_zero, hlen] at hst
          simp [execOp, ho, h1, h3, SV.den, Instr.storeAt, Instr.sureAddr, storeVar, hT.size hi, d1, hlen, c1, hst]
theorem eff_nilCheck (hR : Rel w0 r S a w) {x : Operand} (ho : o.op = .nilCheck x) : EffOK P w0 r S a w o (effOf tab (memOf tab w0) o.op S) := by
  rw [ho]
  simp only [effOf]
  refine opt1_ok hR fun y h1 h2 => ?_
  cases y with
  | ptr k of => exact fun _ => ⟨by simp [execOp, ho, h1, SV.den], h2⟩
  | v x =>
    cases x with
    | pointer p => cases p with
      | none => exact trivial
      | some p => exact fun _ => ⟨by simp [execOp, ho, h1, SV.den], h2⟩
    | func f _ _ => cases f with
      | func f => exact fun _ => ⟨by simp [execOp, ho, h1, SV.den], h2⟩
      | _ => exact trivial
    | _ => exact trivial
  | fn f _ _ => cases f with
    | func f => exact fun _ => ⟨by simp [execOp, ho, h1, SV.den], h2⟩
    | _ => exact trivial
  | _ => exact trivial
theorem eff_unOp (hR : Rel w0 r S a w) {t : TypeId} {op : UnOp} {x : Operand} (ho : o.op = .unOp op t x) : EffOK P w0 r S a w o (effOf tab (memOf tab w0) o.op S) := by
  rw [ho]
  simp only [effOf]
  refine opt1_ok hR fun y h1 h2 => ?_
  cases y with
  | v x =>
    cases x with
    | int k n => cases op with
      | neg => exact fun _ => ⟨by simp [execOp, ho, h1, SV.den, Op.unary, Op.intArith], by simp only [SV.nm]⟩
      | _ => exact trivial
    | bool b => cases op with
      | not => exact fun _ => ⟨by simp [execOp, ho, h1, SV.den, Op.unary], by simp only [SV.nm]⟩
      | _ => exact trivial
    | _ => exact trivial
  | _ => exact trivial
theorem eff_convert (hT : TabOK P tab) (hR : Rel w0 r S a w) {s t : TypeId} {x : Operand} (ho : o.op = .convert s t x) : EffOK P w0 r S a w o (effOf tab (memOf tab w0) o.op S) := by
  rw [ho]
  simp only [effOf]
  cases hsi : tab s with
  | none => exact trivial
  | some si =>
  obtain ⟨_, d, _, hd, _⟩ := hT.at hsi
  refine opt1_ok hR fun y h1 h2 => ?_
  cases y with
  | v x =>
    cases x with
    | int k n =>
      cases hi : tab t with
      | none => exact trivial
      | some i =>
        obtain ⟨sz, z, kk⟩ := i
        cases kk <;> first | exact trivial | skip
        rename_i k'
        refine fun _ => ⟨?_, by simp only [SV.nm]⟩
        simp [execOp, ho, h1, SV.den, convert, run_underlying hd, run_underlying (hT.int hi rfl), Conv.intToInt]
    | string s =>
      cases hi : tab t with
      | none => exact trivial
      | some i =>
        obtain ⟨sz, z, kk⟩ := i
        cases kk <;> first | exact trivial | skip
        refine fun _ => ⟨?_, by simp only [SV.nm]⟩
        simp [execOp, ho, h1, SV.den, convert, run_underlying hd, run_underlying (hT.string hi rfl)]
    | _ => exact trivial
  | _ => exact trivial
theorem eff_pInt (hR : Rel w0 r S a w) {op : BinOp} {t u : TypeId} {x y : Operand} {k : IntKind} {m n : Int} (hx : a.eval x = .int k m) (hy : a.eval y = .int k n) (ho : o.op = .binOp op t x y u) :
    EffOK P w0 r S a w o (pInt op k m n) := by
  have _ := hR
  cases op
  case quo => intro hc; exact ⟨by simp [execOp, ho, hx, hy, SV.den, eqGuard, binOp, Op.intDiv, show ¬ n = 0 from hc], by simp only [SV.nm]⟩
  case rem => intro hc; exact ⟨by simp [execOp, ho, hx, hy, SV.den, eqGuard, binOp, Op.intDiv, show ¬ n = 0 from hc], by simp only [SV.nm]⟩
  all_goals first
    | exact trivial
    | (intro _; exact ⟨by simp [execOp, ho, hx, hy, SV.den, eqGuard, binOp, Op.intArith, Op.intCmp], by simp only [SV.nm]⟩)
theorem eff_pStr (hR : Rel w0 r S a w) {op : BinOp} {t u : TypeId} {x y : Operand} {m n : ByteArray} (hx : a.eval x = .string m) (hy : a.eval y = .string n) (ho : o.op = .binOp op t x y u) :
    EffOK P w0 r S a w o (pStr op m n) := by
  have _ := hR
  cases op
  case add =>
    intro hc
    have hn : ¬ (((m.size + n.size : Nat) : Int) > IntKind.i64.max) := by
      have : IntKind.i64.max = 9223372036854775807 := rfl
      omega
    refine ⟨?_, by simp only [SV.nm]⟩
    simp only [execOp, ho, hx, hy, SV.den, eqGuard, binOp, Op.stringOp, if_neg hn]
    simp
  all_goals first
    | exact trivial
    | (intro _; exact ⟨by simp [execOp, ho, hx, hy, SV.den, eqGuard, binOp, Op.stringOp], by simp only [SV.nm]⟩)
theorem run_equal_bool {t : TypeId} (h : P.underlying t = some .bool) (x y : Bool) (w : World) : (Op.equal t (.bool x) (.bool y)).run P w = .ok (x == y) w := by
  show (Op.equalIn (9999 + 1) t _ _).run P w = _
  unfold Op.equalIn
  simp only [Sem.run_bind, run_underlying h, Result.andThen_ok]
  rfl
theorem run_equal_nn {t : TypeId} {p q : Array TypeId} {b : Bool} (h : P.underlying t = some (.func p q b)) (w : World) : (Op.equal t .nilFunc .nilFunc).run P w = .ok true w := by
  show (Op.equalIn (9999 + 1) t _ _).run P w = _
  unfold Op.equalIn
  simp only [Sem.run_bind, run_underlying h, Result.andThen_ok]
  rfl
theorem run_equal_fn {t : TypeId} {p q : Array TypeId} {b : Bool} (h : P.underlying t = some (.func p q b)) (f : Fn) (x y : Array Value) (w : World) : (Op.equal t (.func f x y) .nilFunc).run P w = .ok false w := by
  show (Op.equalIn (9999 + 1) t _ _).run P w = _
  unfold Op.equalIn
  simp only [Sem.run_bind, run_underlying h, Result.andThen_ok]
  rfl
theorem bin_eql {t u : TypeId} {x y : Operand} {b : Bool} (ho : o.op = .binOp .eql t x y u) (hg : ∀ w, (eqGuard .eql t x y (a.eval x) (a.eval y)).run P w = .ok () w) (hb : binOp .eql t (a.eval x) (a.eval y) = (do pure (.bool (← Op.equal t (a.eval x) (a.eval y))))) (he : ∀ w, (Op.equal t (a.eval x) (a.eval y)).run P w = .ok b w) :
    (execOp a.eval o).run P w = .ok (.value (.bool b)) w := by
  simp only [execOp, ho, Sem.run_bind, hg, Result.andThen_ok, hb, he, Sem.run_pure]
theorem bin_neq {t u : TypeId} {x y : Operand} {b : Bool} (ho : o.op = .binOp .neq t x y u) (hg : ∀ w, (eqGuard .neq t x y (a.eval x) (a.eval y)).run P w = .ok () w) (hb : binOp .neq t (a.eval x) (a.eval y) = (do pure (.bool (!(← Op.equal t (a.eval x) (a.eval y)))))) (he : ∀ w, (Op.equal t (a.eval x) (a.eval y)).run P w = .ok b w) :
    (execOp a.eval o).run P w = .ok (.value (.bool (!b))) w := by
  simp only [execOp, ho, Sem.run_bind, hg, Result.andThen_ok, hb, he, Sem.run_pure]
theorem run_part {t : TypeId} (h : hasT P t = true) (cs : Array Value) (off : Nat) (w : World) :
    (part t cs off).run P w = if aggOf P t then .ok (.agg (cs.extract off (off + szOf P t))) w else match cs[off]? with | some v => .ok v w | none => .halt (.stuck "part: no such cell") w := by
  simp only [part, Sem.run_bind, run_isAgg' h, Result.andThen_ok]
  cases aggOf P t with
  | true => simp [run_sizeOf' h]
  | false => simp only [Bool.false_eq_true, if_false]; cases cs[off]? <;> rfl
theorem run_eqFields (r : Va) (d : Nat) (w : World) (L M : List SV) : ∀ (F : List Field) (n : Nat) (c : List Nat) (l m : List SV) (b : Bool), codesF P n F = some c → L.drop n = l → M.drop n = m → eqLL c l m = some b →
    (Op.eqFields (d + 1) (dens r L).toArray (dens r M).toArray F).run P w = .ok b w
  | [], n, c, l, m, b, hF, hl, hm, he => by
    simp only [codesF, Option.some.injEq] at hF
    subst hF
    have : b = true := by cases l <;> cases m <;> simp [eqLL] at he; exact he
    subst this
    simp [Op.eqFields]
  | f :: F, n, c, l, m, b, hF, hl, hm, he => by
    simp only [codesF] at hF
    split at hF
    · rename_i hf
      obtain ⟨f1, f2, f4⟩ := hf
      have key : ∃ c2 x y l2 m2 b1 b2, codesF P (n + 1) F = some c2 ∧ l = x :: l2 ∧ m = y :: m2 ∧ b = (b1 && b2) ∧ eqLL c2 l2 m2 = some b2 ∧ hasT P f.type = true ∧ aggOf P f.type = false ∧
          ∀ w, (Op.equalIn (d + 1) f.type (x.den r) (y.den r)).run P w = .ok b1 w := by
        split at hF
        · rename_i kk c2 hu hc
          simp only [Option.some.injEq] at hF
          subst hF
          cases l with
          | nil => cases m <;> simp [eqLL] at he
          | cons x l2 =>
            cases m with
            | nil => cases x with
              | v x => cases x <;> simp [eqLL] at he
              | _ => simp [eqLL] at he
            | cons y m2 =>
              cases x with
              | v x =>
                cases y with
                | v y =>
                  cases x <;> first | (simp [eqLL] at he; done) | skip
                  cases y <;> first | (simp [eqLL] at he; done) | skip
                  simp only [eqLL] at he
                  split at he
                  · rename_i r2 hr
                    rw [Bool.cond_eq_ite] at he
                    split at he
                    · rename_i hk
                      obtain rfl := kNum_inj hk
                      simp only [Option.some.injEq] at he
                      exact ⟨_, _, _, _, _, _, _, hc, rfl, rfl, he.symm, hr, by simp [hasT, f4, hu], by simp [aggOf, hu], fun w => by simp only [SV.den]; exact run_equalIn_int w d _ _ _ _ _ hu⟩
                    · cases he
                  · cases he
                | _ => cases x <;> simp [eqLL] at he
              | _ => simp [eqLL] at he
        · rename_i c2 hu hc
          simp only [Option.some.injEq] at hF
          subst hF
          cases l with
          | nil => cases m <;> simp [eqLL] at he
          | cons x l2 =>
            cases m with
            | nil => cases x with
              | v x => cases x <;> simp [eqLL] at he
              | _ => simp [eqLL] at he
            | cons y m2 =>
              cases x with
              | v x =>
                cases y with
                | v y =>
                  cases x <;> first | (simp [eqLL] at he; done) | skip
                  cases y <;> first | (simp [eqLL] at he; done) | skip
                  simp only [eqLL] at he
                  split at he
                  · rename_i r2 hr
                    simp only [Option.some.injEq] at he
                    exact ⟨_, _, _, _, _, _, _, hc, rfl, rfl, he.symm, hr, by simp [hasT, f4, hu], by simp [aggOf, hu], fun w => by simp only [SV.den]; exact run_equalIn_bool' w d _ _ _ hu⟩
                  · cases he
                | _ => cases x <;> simp [eqLL] at he
              | _ => simp [eqLL] at he
        · rename_i c2 hu hc
          simp only [Option.some.injEq] at hF
          subst hF
          cases l with
          | nil => cases m <;> simp [eqLL] at he
          | cons x l2 =>
            cases m with
            | nil => cases x with
              | v x => cases x <;> simp [eqLL] at he
              | _ => simp [eqLL] at he
            | cons y m2 =>
              cases x with
              | v x =>
                cases y with
                | v y =>
                  cases x <;> first | (simp [eqLL] at he; done) | skip
                  cases y <;> first | (simp [eqLL] at he; done) | skip
                  simp only [eqLL] at he
                  split at he
                  · rename_i r2 hr
                    simp only [Option.some.injEq] at he
                    exact ⟨_, _, _, _, _, _, _, hc, rfl, rfl, he.symm, hr, by simp [hasT, f4, hu], by simp [aggOf, hu], fun w => by simp only [SV.den]; exact run_equalIn_string w d _ _ _ hu⟩
                  · cases he
                | _ => cases x <;> simp [eqLL] at he
              | _ => simp [eqLL] at he
        · cases hF
      obtain ⟨c2, x, y, l2, m2, b1, b2, hc, rfl, rfl, rfl, k2, hT, hag, k3⟩ := key
      have g1 : (dens r L)[n]? = some (x.den r) := by
        have := congrArg (fun z => z[0]?) hl
        simp only [List.getElem?_drop, Nat.add_zero, List.getElem?_cons_zero] at this
        rw [dens_get, this]; rfl
      have g2 : (dens r M)[n]? = some (y.den r) := by
        have := congrArg (fun z => z[0]?) hm
        simp only [List.getElem?_drop, Nat.add_zero, List.getElem?_cons_zero] at this
        rw [dens_get, this]; rfl
      have d1 : L.drop (n + 1) = l2 := by rw [← List.drop_drop, hl]; rfl
      have d2 : M.drop (n + 1) = m2 := by rw [← List.drop_drop, hm]; rfl
      have p1 : ∀ w, (part f.type (dens r L).toArray f.offset).run P w = .ok (x.den r) w := fun w => by
        rw [run_part hT, hag, f1]
        simp only [Bool.false_eq_true, if_false, List.getElem?_toArray, g1]
      have p2 : ∀ w, (part f.type (dens r M).toArray f.offset).run P w = .ok (y.den r) w := fun w => by
        rw [run_part hT, hag, f1]
        simp only [Bool.false_eq_true, if_false, List.getElem?_toArray, g2]
      have ih := run_eqFields r d w L M F (n + 1) c2 l2 m2 b2 hc d1 d2 k2
      simp only [Op.eqFields, if_pos f2, Sem.run_bind, p1, p2, Result.andThen_ok, k3]
      cases b1 with
      | true => simpa using ih
      | false => simp
    · cases hF
theorem aggL_ok (r : Va) {x : SV} {l : List SV} (h : aggL x = some l) : x.den r = .agg (dens r l).toArray := by
  unfold aggL at h
  split at h
  · simp only [Option.some.injEq] at h; subst h; simp only [SV.den]
  · simp only [Option.some.injEq] at h; subst h; simp only [SV.den, dens_mapv, Array.toArray_toList]
  · cases h
theorem eff_pEq (hT : TabOK P tab) {op : BinOp} {t u : TypeId} {x y : Operand} {s v : SV} {sz : Nat} {z : Value} {fs : List Fd} {c : List Nat} {ng : Bool} (hi : tab t = some ⟨sz, z, .str fs c⟩) (ho : o.op = .binOp op t x y u)
    (hop : (op = .eql ∧ ng = false) ∨ (op = .neq ∧ ng = true)) (h1 : a.eval x = s.den r) (h3 : a.eval y = v.den r) : EffOK P w0 r S a w o (pEq c s v ng) := by
  unfold pEq
  split
  · rename_i l m hl hm
    split
    · rename_i b hb
      obtain ⟨F, hF, he⟩ := hT.strE hi rfl
      rw [aggL_ok r hl] at h1
      rw [aggL_ok r hm] at h3
      unfold eqOK at he
      split at he
      · rename_i hcond
        cases hc : codesF P 0 F.toList with
        | none =>
          rw [hc] at he
          simp only [Option.getD_none] at he
          subst he
          unfold eqLL at hb
          split at hb <;> first | (exfalso; simp_all; done) | cases hb
        | some c2 =>
          rw [hc] at he
          simp only [Option.getD_some] at he
          subst he
          have hFo : P.fieldsOf t = F := by simp only [Program.fieldsOf, hF]
          have heq : ∀ w, (Op.equal t (a.eval x) (a.eval y)).run P w = .ok b w := fun w => by
            rw [h1, h3]
            show (Op.equalIn (9999 + 1) t _ _).run P w = _
            rw [run_equalIn_struct w 9999 t _ _ (by rw [hFo]; exact hF) hcond.1, hFo]
            exact run_eqFields r 9998 w l m F.toList 0 c2 l m b hc rfl rfl hb
          have hg : ∀ (op : BinOp) w, (eqGuard op t x y (a.eval x) (a.eval y)).run P w = .ok () w := fun op w => by
            rw [h1, h3]
            unfold eqGuard
            simp only [Sem.run_ite, Sem.run_pure, Sem.run_bind, run_program, Result.andThen_ok, hcond.2, Bool.not_false, if_true]
            split <;> rfl
          intro _
          refine ⟨?_, by simp only [SV.nm]⟩
          rcases hop with ⟨rfl, rfl⟩ | ⟨rfl, rfl⟩
          · exact bin_eql ho (hg _) (by rw [h1, h3]; rfl) heq
          · exact bin_neq ho (hg _) (by rw [h1, h3]; rfl) heq
      · subst he
        unfold eqLL at hb
        split at hb <;> first | (exfalso; simp_all; done) | cases hb
    · exact trivial
  · exact trivial
theorem eff_binOp (hT : TabOK P tab) (hR : Rel w0 r S a w) {op : BinOp} {t u : TypeId} {x y : Operand} (ho : o.op = .binOp op t x y u) : EffOK P w0 r S a w o (effOf tab (memOf tab w0) o.op S) := by
  rw [ho]
  simp only [effOf]
  refine opt2_ok hR fun s v h1 h2 h3 h4 => ?_
  clear h2 h4
  unfold pBin
  split
  · rename_i k m k' n
    simp only [SV.den] at h1 h3
    cases hk : sameK k k' with
    | false => exact trivial
    | true => obtain rfl := kNum_inj hk; exact eff_pInt hR h1 h3 ho
  · simp only [SV.den] at h1 h3
    exact eff_pStr hR h1 h3 ho
  · simp only [SV.den] at h1 h3
    split
    · rename_i sz z hi
      exact fun _ => ⟨bin_eql ho (fun w => by rw [h1, h3]; rfl) (by rw [h1, h3]; rfl) (fun w => by rw [h1, h3]; exact run_equal_bool (hT.bool hi rfl) _ _ w), by simp only [SV.nm]⟩
    · rename_i sz z hi
      exact fun _ => ⟨bin_neq ho (fun w => by rw [h1, h3]; rfl) (by rw [h1, h3]; rfl) (fun w => by rw [h1, h3]; exact run_equal_bool (hT.bool hi rfl) _ _ w), by simp only [SV.nm]⟩
    · exact trivial
  · simp only [SV.den] at h1 h3
    split
    · rename_i sz z hi
      obtain ⟨a1, b1, c1, hu⟩ := hT.func hi rfl
      exact fun _ => ⟨bin_eql ho (fun w => by rw [h1, h3]; rfl) (by rw [h1, h3]; rfl) (fun w => by rw [h1, h3]; exact run_equal_fn hu _ _ _ w), by simp only [SV.nm]⟩
    · rename_i sz z hi
      obtain ⟨a1, b1, c1, hu⟩ := hT.func hi rfl
      exact fun _ => ⟨bin_neq ho (fun w => by rw [h1, h3]; rfl) (by rw [h1, h3]; rfl) (fun w => by rw [h1, h3]; exact run_equal_fn hu _ _ _ w), by simp only [SV.nm]⟩
    · exact trivial
  · simp only [SV.den] at h1 h3
    split
    · rename_i sz z hi
      obtain ⟨a1, b1, c1, hu⟩ := hT.func hi rfl
      exact fun _ => ⟨bin_eql ho (fun w => by rw [h1, h3]; rfl) (by rw [h1, h3]; rfl) (fun w => by rw [h1, h3]; exact run_equal_fn hu _ _ _ w), by simp only [SV.nm]⟩
    · rename_i sz z hi
      obtain ⟨a1, b1, c1, hu⟩ := hT.func hi rfl
      exact fun _ => ⟨bin_neq ho (fun w => by rw [h1, h3]; rfl) (by rw [h1, h3]; rfl) (fun w => by rw [h1, h3]; exact run_equal_fn hu _ _ _ w), by simp only [SV.nm]⟩
    · exact trivial
  · simp only [SV.den] at h1 h3
    split
    · rename_i sz z hi
      obtain ⟨a1, b1, c1, hu⟩ := hT.func hi rfl
      exact fun _ => ⟨bin_eql ho (fun w => by rw [h1, h3]; rfl) (by rw [h1, h3]; rfl) (fun w => by rw [h1, h3]; exact run_equal_nn hu w), by simp only [SV.nm]⟩
    · rename_i sz z hi
      obtain ⟨a1, b1, c1, hu⟩ := hT.func hi rfl
      exact fun _ => ⟨bin_neq ho (fun w => by rw [h1, h3]; rfl) (by rw [h1, h3]; rfl) (fun w => by rw [h1, h3]; exact run_equal_nn hu w), by simp only [SV.nm]⟩
    · exact trivial
  · split
    · rename_i sz z fs c hi
      exact eff_pEq hT hi ho (.inl ⟨rfl, rfl⟩) h1 h3
    · rename_i sz z fs c hi
      exact eff_pEq hT hi ho (.inr ⟨rfl, rfl⟩) h1 h3
    · exact trivial
theorem eff_makeInterface (hT : TabOK P tab) (hR : Rel w0 r S a w) {t : TypeId} {x : Operand} (ho : o.op = .makeInterface t x) : EffOK P w0 r S a w o (effOf tab (memOf tab w0) o.op S) := by
  rw [ho]
  simp only [effOf]
  refine opt1_ok hR fun y h1 h2 => ?_
  unfold pMakeIface
  split
  · rename_i sz z kk hi
    split
    · exact trivial
    · rename_i hk
      intro _
      obtain ⟨d, hd, hn⟩ := hT.notIface hi hk
      refine ⟨?_, by simpa only [SV.nm] using h2⟩
      cases d <;> first | exact absurd rfl (hn _) | simp [execOp, ho, h1, SV.den, Instr.makeInterface, run_underlying hd]
  · exact trivial
theorem eff_makeFunc (hR : Rel w0 r S a w) {f : Fn} {x y : Array Operand} (ho : o.op = .makeFunc f x y) : EffOK P w0 r S a w o (effOf tab (memOf tab w0) o.op S) := by
  rw [ho]
  simp only [effOf]
  split
  · rename_i s t hs ht
    obtain ⟨h1, h2⟩ := evs_ok hR _ _ hs
    obtain ⟨h3, h4⟩ := evs_ok hR _ _ ht
    intro _
    refine ⟨?_, by simp only [SV.nm, h2, h4, Bool.and_self]⟩
    have e1 : x.map a.eval = (dens r s).toArray := Array.ext' (by simpa using h1)
    have e2 : y.map a.eval = (dens r t).toArray := Array.ext' (by simpa using h3)
    simp [execOp, ho, SV.den, Instr.makeFunc, e1, e2]
  · exact trivial
theorem eff_extract (hR : Rel w0 r S a w) {x : Operand} {n : Nat} (ho : o.op = .extract x n) : EffOK P w0 r S a w o (effOf tab (memOf tab w0) o.op S) := by
  rw [ho]
  simp only [effOf]
  refine opt1_ok hR fun y h1 h2 => ?_
  unfold pExtract
  split
  · rename_i l
    split
    · rename_i y hy
      intro _
      simp only [SV.nm] at h2
      refine ⟨?_, nms_get _ _ _ _ h2 hy⟩
      have := dens_get r l n
      rw [hy] at this
      simp only [Option.map_some] at this
      simp only [SV.den] at h1
      simp [execOp, ho, h1, Instr.extract, this]
    · exact trivial
  · rename_i vs
    split
    · rename_i y hy
      intro _
      refine ⟨?_, by simp only [SV.nm]⟩
      simp only [SV.den] at h1
      have hy' : vs[n]? = some y := by simpa using hy
      simp [execOp, ho, h1, SV.den, Instr.extract, hy']
    · exact trivial
  · exact trivial
theorem eff_fieldAddr (hT : TabOK P tab) (hR : Rel w0 r S a w) {t : TypeId} {x : Operand} {f : Nat} (ho : o.op = .fieldAddr t x f) : EffOK P w0 r S a w o (effOf tab (memOf tab w0) o.op S) := by
  rw [ho]
  simp only [effOf]
  refine opt1_ok hR fun y h1 h2 => ?_
  unfold pFieldAddr
  split
  · rename_i sz z fs hi
    split
    · rename_i d hd
      obtain ⟨F, hF, hg⟩ := hT.str hi rfl
      obtain ⟨G, hG, g1, g2, g3, g4, g5⟩ := hg f d hd
      cases hz : (d.size == 0) with
      | true => exact trivial
      | false =>
        simp only [cond_false]
        have hz' : ¬ d.size = 0 := by intro e; rw [e] at hz; cases hz
        have hs : ∀ w : World, (sizeOf G.type).run P w = .ok d.size w := fun w => by rw [g2, ← g4]; exact run_sizeOf' g3 w
        split
        · rename_i k of
          intro _
          simp only [SV.den] at h1
          refine ⟨?_, by simpa only [SV.nm] using h2⟩
          simp [execOp, ho, h1, SV.den, Instr.fieldAt, run_underlying hF, hG, Instr.sureAddr, fieldPlace, hs, hz', g1, Addr.add]
        · rename_i A
          intro _
          simp only [SV.den] at h1
          refine ⟨?_, by simp only [SV.nm]⟩
          simp [execOp, ho, h1, SV.den, Instr.fieldAt, run_underlying hF, hG, Instr.sureAddr, fieldPlace, hs, hz', g1]
        · exact trivial
    · exact trivial
  · exact trivial
theorem extract_dens (r : Va) (l : List SV) (o n : Nat) : (dens r l).toArray.extract o (o + n) = (dens r ((l.drop o).take n)).toArray := by
  rw [dens_take, dens_drop]
  simp [List.extract_toArray]
theorem eff_field (hT : TabOK P tab) (hR : Rel w0 r S a w) {t : TypeId} {x : Operand} {f : Nat} (ho : o.op = .field t x f) : EffOK P w0 r S a w o (effOf tab (memOf tab w0) o.op S) := by
  rw [ho]
  simp only [effOf]
  refine opt1_ok hR fun y h1 h2 => ?_
  unfold pField
  split
  · rename_i sz z fs hi
    obtain ⟨F, hF, hg⟩ := hT.str hi rfl
    split
    · rename_i d l hd
      obtain ⟨G, hG, g1, g2, g3, g4, g5⟩ := hg f d hd
      simp only [SV.nm] at h2
      simp only [SV.den] at h1
      cases hag : d.agg with
      | true =>
        simp only [cond_true]
        intro _
        refine ⟨?_, by simp only [SV.nm]; exact nms_take _ _ _ (nms_drop _ _ _ h2)⟩
        have hp := run_part (P := P) g3 (dens r l).toArray d.off w
        rw [g5, hag, g4, extract_dens] at hp
        simp only [if_true] at hp
        simp [execOp, ho, h1, SV.den, Instr.field, run_underlying hF, hG, asAgg, g1, g2, hp]
      | false =>
        simp only [cond_false]
        split
        · rename_i y hy
          intro _
          refine ⟨?_, nms_get _ _ _ _ h2 hy⟩
          have hp := run_part (P := P) g3 (dens r l).toArray d.off w
          have hq := dens_get r l d.off
          rw [hy, Option.map_some] at hq
          rw [g5, hag] at hp
          simp only [Bool.false_eq_true, if_false, List.getElem?_toArray, hq] at hp
          simp [execOp, ho, h1, Instr.field, run_underlying hF, hG, asAgg, g1, g2, hp]
        · exact trivial
    · rename_i d c hd
      obtain ⟨G, hG, g1, g2, g3, g4, g5⟩ := hg f d hd
      simp only [SV.den] at h1
      cases hag : d.agg with
      | true =>
        simp only [cond_true]
        intro _
        refine ⟨?_, by simp only [SV.nm]⟩
        have hp := run_part (P := P) g3 c d.off w
        rw [g5, hag, g4] at hp
        simp only [if_true] at hp
        simp [execOp, ho, h1, SV.den, Instr.field, run_underlying hF, hG, asAgg, g1, g2, hp]
      | false =>
        simp only [cond_false]
        split
        · rename_i y hy
          intro _
          refine ⟨?_, by simp only [SV.nm]⟩
          have hp := run_part (P := P) g3 c d.off w
          have hy' : c[d.off]? = some y := by simpa using hy
          rw [g5, hag] at hp
          simp only [Bool.false_eq_true, if_false, hy'] at hp
          simp [execOp, ho, h1, SV.den, Instr.field, run_underlying hF, hG, asAgg, g1, g2, hp]
        · exact trivial
    · exact trivial
  · exact trivial
theorem eff_indexAddr (hT : TabOK P tab) (hR : Rel w0 r S a w) {t : TypeId} {x y : Operand} (ho : o.op = .indexAddr t x y) : EffOK P w0 r S a w o (effOf tab (memOf tab w0) o.op S) := by
  rw [ho]
  simp only [effOf]
  refine opt2_ok hR fun s v h1 h2 h3 h4 => ?_
  clear h4
  unfold pIndexAddr
  split
  · rename_i sz z e es kd n hi
    obtain ⟨u1, u2, u3⟩ := hT.sl hi rfl
    have hs : ∀ w : World, (sizeOf e).run P w = .ok es w := fun w => by rw [← u3]; exact run_sizeOf' u2 w
    simp only [SV.den] at h3
    split
    · rename_i k of len cap
      rintro ⟨c1, c2⟩
      simp only [SV.den] at h1
      refine ⟨?_, by simpa only [SV.nm] using h2⟩
      simp [execOp, ho, h1, h3, SV.den, Instr.indexAt, asIntOf, run_underlying u1, hs, c1, c2, Addr.add]
    · rename_i k of len
      rintro ⟨c1, c2⟩
      simp only [SV.den] at h1
      refine ⟨?_, by simpa only [SV.nm] using h2⟩
      simp [execOp, ho, h1, h3, SV.den, Instr.indexAt, asIntOf, run_underlying u1, hs, c1, c2, Addr.add]
    · rename_i A len cap
      rintro ⟨c1, c2⟩
      simp only [SV.den] at h1
      refine ⟨?_, by simp only [SV.nm]⟩
      simp [execOp, ho, h1, h3, SV.den, Instr.indexAt, asIntOf, run_underlying u1, hs, c1, c2]
    · exact trivial
  · rename_i sz z m e es ag kd n hi
    obtain ⟨u1, u2, u3, _⟩ := hT.arr hi rfl
    have hs : ∀ w : World, (sizeOf e).run P w = .ok es w := fun w => by rw [← u3]; exact run_sizeOf' u2 w
    simp only [SV.den] at h3
    split
    · rename_i k of
      rintro ⟨c1, c2⟩
      simp only [SV.den] at h1
      refine ⟨?_, by simpa only [SV.nm] using h2⟩
      simp [execOp, ho, h1, h3, SV.den, Instr.indexAt, asIntOf, run_underlying u1, hs, c1, c2, Addr.add, Instr.sureAddr]
    · exact trivial
  · exact trivial
theorem eff_index (hT : TabOK P tab) (hR : Rel w0 r S a w) {t : TypeId} {x y : Operand} (ho : o.op = .index t x y) : EffOK P w0 r S a w o (effOf tab (memOf tab w0) o.op S) := by
  rw [ho]
  simp only [effOf]
  refine opt2_ok hR fun s v h1 h2 h3 h4 => ?_
  clear h4
  unfold pIndex
  split
  · rename_i sz z s kd n hi
    have u1 := hT.string hi rfl
    simp only [SV.den] at h1 h3
    rintro ⟨c1, c2⟩
    refine ⟨?_, by simp only [SV.nm]⟩
    have hb : s[n.toNat]? = some (s[n.toNat]'(by omega)) := getElem?_pos s n.toNat (by omega)
    simp [execOp, ho, h1, h3, SV.den, Instr.index, asIntOf, run_underlying u1, c1, hb]
  · rename_i sz z m e es ag l kd n hi
    obtain ⟨u1, u2, u3, u4⟩ := hT.arr hi rfl
    have hs : ∀ w : World, (sizeOf e).run P w = .ok es w := fun w => by rw [← u3]; exact run_sizeOf' u2 w
    simp only [SV.den] at h1 h3
    simp only [SV.nm] at h2
    cases ag with
    | true =>
      simp only [cond_true]
      rintro ⟨c1, c2⟩
      refine ⟨?_, by simp only [SV.nm]; exact nms_take _ _ _ (nms_drop _ _ _ h2)⟩
      have hp := run_part (P := P) u2 (dens r l).toArray (n.toNat * es) w
      rw [u4, u3, extract_dens] at hp
      simp only [if_true] at hp
      simp [execOp, ho, h1, h3, SV.den, Instr.index, asIntOf, run_underlying u1, c1, c2, hs, hp]
    | false =>
      simp only [cond_false]
      split
      · rename_i y hy
        rintro ⟨c1, c2⟩
        refine ⟨?_, nms_get _ _ _ _ h2 hy⟩
        have hp := run_part (P := P) u2 (dens r l).toArray (n.toNat * es) w
        have hq := dens_get r l (n.toNat * es)
        rw [hy, Option.map_some] at hq
        rw [u4] at hp
        simp only [Bool.false_eq_true, if_false, List.getElem?_toArray, hq] at hp
        simp [execOp, ho, h1, h3, Instr.index, asIntOf, run_underlying u1, c1, c2, hs, hp]
      · exact trivial
  · exact trivial
theorem run_assert {t at_ : TypeId} {x : Value} {z : Value} {ok : Bool} {u : TypeDesc} (hu : P.underlying at_ = some u) (hn : ∀ m, u ≠ .interface m) (hz : ∀ w, (zeroValue at_).run P w = .ok z w) (xt : TypeId) (w : World) :
    ((Instr.typeAssert (.iface t x) xt at_ true).run P w = if t = at_ then .ok (.tuple #[x, .bool true]) w else .ok (.tuple #[z, .bool false]) w) ∧
    (t = at_ → (Instr.typeAssert (.iface t x) xt at_ ok).run P w = .ok (if ok then .tuple #[x, .bool true] else x) w) ∧
    ((Instr.typeAssert .nilIface xt at_ true).run P w = .ok (.tuple #[z, .bool false]) w) := by
  refine ⟨?_, ?_, ?_⟩
  · by_cases h : t = at_
    · rw [if_pos h]
      cases u <;> first | exact absurd rfl (hn _) | simp [Instr.typeAssert, run_underlying hu, h]
    · rw [if_neg h]
      cases u <;> first | exact absurd rfl (hn _) | simp [Instr.typeAssert, run_underlying hu, h, hz]
  · intro h
    cases u <;> first | exact absurd rfl (hn _) | simp [Instr.typeAssert, run_underlying hu, h]
  · cases u <;> first | exact absurd rfl (hn _) | simp [Instr.typeAssert, run_underlying hu, hz]
theorem eff_typeAssert (hT : TabOK P tab) (hR : Rel w0 r S a w) {xt t : TypeId} {x : Operand} {ok : Bool} (ho : o.op = .typeAssert x xt t ok) : EffOK P w0 r S a w o (effOf tab (memOf tab w0) o.op S) := by
  rw [ho]
  simp only [effOf]
  refine opt1_ok hR fun y h1 h2 => ?_
  unfold pAssert
  split
  · rename_i sz z kk hi
    split
    · exact trivial
    · rename_i hk
      obtain ⟨d, hd, hn⟩ := hT.notIface hi hk
      have hz := hT.zero hi
      split
      · rename_i t' y'
        simp only [SV.den] at h1
        simp only [SV.nm] at h2
        have := (run_assert (P := P) (t := t') (x := y'.den r) (ok := true) hd hn hz xt w).1
        cases ht : (t' == t) with
        | true =>
          have e := eq_of_beq ht
          rw [if_pos e] at this
          intro _
          exact ⟨by simp [execOp, ho, h1, this, SV.den, dens], by simp only [SV.nm, nms, h2, Bool.and_self]⟩
        | false =>
          have e : ¬ t' = t := by intro e; rw [e, beq_self_eq_true] at ht; cases ht
          rw [if_neg e] at this
          intro _
          exact ⟨by simp [execOp, ho, h1, this, SV.den, dens], by simp only [SV.nm, nms, Bool.and_self]⟩
      · rename_i t' y'
        simp only [SV.den] at h1
        simp only [SV.nm] at h2
        cases ht : (t' == t) with
        | true =>
          have e := eq_of_beq ht
          have := (run_assert (P := P) (t := t') (x := y'.den r) (ok := false) hd hn hz xt w).2.1 e
          intro _
          exact ⟨by simp [execOp, ho, h1, this], h2⟩
        | false => exact trivial
      · rename_i t' y'
        simp only [SV.den] at h1
        have := (run_assert (P := P) (t := t') (x := y') (ok := true) hd hn hz xt w).1
        cases ht : (t' == t) with
        | true =>
          have e := eq_of_beq ht
          rw [if_pos e] at this
          intro _
          exact ⟨by simp [execOp, ho, h1, this, SV.den, dens], by simp only [SV.nm, nms, Bool.and_self]⟩
        | false =>
          have e : ¬ t' = t := by intro e; rw [e, beq_self_eq_true] at ht; cases ht
          rw [if_neg e] at this
          intro _
          exact ⟨by simp [execOp, ho, h1, this, SV.den, dens], by simp only [SV.nm, nms, Bool.and_self]⟩
      · simp only [SV.den] at h1
        have := (run_assert (P := P) (t := t) (x := z) (ok := true) hd hn hz xt w).2.2
        intro _
        exact ⟨by simp [execOp, ho, h1, this, SV.den, dens], by simp only [SV.nm, nms, Bool.and_self]⟩
      · exact trivial
  · exact trivial
theorem eff_len (hT : TabOK P tab) {c : Go.Call} {t : TypeId} {ts : List TypeId} {x : SV} (hc : c.callee = .builtin .len) (ha : c.args.map a.eval = #[x.den r]) (ht : c.argTypes.toList = t :: ts) (ho : o.op = .call c) : EffOK P w0 r S a w o (pLen (tab t) x) := by
  have h0 : c.argTypes[0]? = some t := by rw [← Array.getElem?_toList, ht]; rfl
  unfold pLen
  split
  · rename_i sz z s hi
    intro _
    refine ⟨?_, by simp only [SV.nm]⟩
    simp only [SV.den] at ha
    simp [execOp, ho, resolve, hc, ha, invoke, builtin, Builtin.len_, h0, run_underlying (hT.string hi rfl), goInt, SV.den]
  · rename_i sz z e es k of n cap hi
    intro _
    refine ⟨?_, by simp only [SV.nm]⟩
    simp only [SV.den] at ha
    simp [execOp, ho, resolve, hc, ha, invoke, builtin, Builtin.len_, h0, run_underlying (hT.sl hi rfl).1, goInt, SV.den]
  · rename_i sz z e es k n hi
    intro _
    refine ⟨?_, by simp only [SV.nm]⟩
    simp only [SV.den] at ha
    simp [execOp, ho, resolve, hc, ha, invoke, builtin, Builtin.len_, h0, run_underlying (hT.sl hi rfl).1, goInt, SV.den]
  · rename_i sz z e es k of n hi
    intro _
    refine ⟨?_, by simp only [SV.nm]⟩
    simp only [SV.den] at ha
    simp [execOp, ho, resolve, hc, ha, invoke, builtin, Builtin.len_, h0, run_underlying (hT.sl hi rfl).1, goInt, SV.den]
  · rename_i sz z e es k n cap hi
    intro _
    refine ⟨?_, by simp only [SV.nm]⟩
    simp only [SV.den] at ha
    simp [execOp, ho, resolve, hc, ha, invoke, builtin, Builtin.len_, h0, run_underlying (hT.sl hi rfl).1, goInt, SV.den]
  · exact trivial
theorem eff_call (hT : TabOK P tab) (hR : Rel w0 r S a w) {c : Go.Call} (ho : o.op = .call c) : EffOK P w0 r S a w o (effOf tab (memOf tab w0) o.op S) := by
  rw [ho]
  simp only [effOf]
  unfold pCall
  split
  · rename_i x hc hx
    obtain ⟨h1, h2⟩ := evs_ok hR _ _ hx
    have ha : c.args.map a.eval = #[x.den r] := Array.ext' (by simpa [dens] using h1)
    split
    · rename_i t ts ht
      exact eff_len hT hc ha ht ho
    · exact trivial
  · rename_i fo l hc hx
    obtain ⟨h1, h2⟩ := evs_ok hR _ _ hx
    have ha : c.args.map a.eval = (dens r l).toArray := Array.ext' (by simpa using h1)
    rw [hc]
    simp only [calleeOp, Option.bind_some]
    split
    · rename_i g p q hf
      obtain ⟨h3, h4⟩ := hR.ev hf
      intro hcall
      simp only [SV.nm, Bool.and_eq_true] at h4
      simp only [SV.den] at h3
      refine ⟨?_, by simp only [nms_append, h2, h4.1, h4.2, Bool.and_self]⟩
      simp [execOp, ho, resolve, hc, ha, h3, Deferred.ofValue, invoke, run_callFunc hcall, dens_append]
    · rename_i g p q hf
      obtain ⟨h3, h4⟩ := hR.ev hf
      intro hcall
      simp only [SV.den] at h3
      refine ⟨?_, by simp only [nms_append, h2, nms_mapv, Bool.and_self]⟩
      have e1 : dens r (p.toList.map SV.v) = p.toList := dens_mapv r _
      have e2 : dens r (q.toList.map SV.v) = q.toList := dens_mapv r _
      simp [execOp, ho, resolve, hc, ha, h3, Deferred.ofValue, invoke, run_callFunc hcall, dens_append, e1, e2]
    · exact trivial
  · exact trivial
theorem evp_ok (hR : Rel w0 r S a w) : ∀ l : List (Nat × Operand), partsOK r (lt S.next) (evp S l) (l.map fun x => (x.1, a.eval x.2))
  | [] => by simp only [evp, List.map_nil, partsOK]
  | (i, x) :: l => by
    simp only [evp, List.map_cons, partsOK]
    exact ⟨trivial, fun y hy => hR.ev hy, evp_ok hR l⟩
theorem places_ok : ∀ l : List Field, (∀ f ∈ l, hasT P f.type = true) → l.mapM (fun f => (P.info? f.type).map fun i => (f.offset, i.size)) = some (l.map fun f => (f.offset, szOf P f.type))
  | [], _ => by simp
  | f :: l, h => by
    have ih := places_ok l fun g hg => h g (List.mem_cons_of_mem _ hg)
    have hf := h f (List.mem_cons_self ..)
    unfold hasT at hf
    simp only [Bool.and_eq_true, Option.isSome_iff_exists] at hf
    obtain ⟨⟨i, hi⟩, _⟩ := hf
    simp only [List.mapM_cons, Option.bind_eq_bind, Option.pure_def, ih]
    simp [hi, szOf]
theorem eff_build (hT : TabOK P tab) (hR : Rel w0 r S a w) {t : TypeId} {ps : Array (Nat × Operand)} (ho : o.op = .build t ps) : EffOK P w0 r S a w o (effOf tab (memOf tab w0) o.op S) := by
  rw [ho]
  simp only [effOf]
  split
  · rename_i sz z fs _ hi
    split
    · rename_i l hl
      intro _
      obtain ⟨F, hF, hfs, hall⟩ := hT.strF hi rfl
      obtain ⟨f, d, hf, hd, hs, hz, _⟩ := hT.at hi
      simp only at hz
      have hpl : ∀ i, fdPlace fs i = ((F.toList.map fun f => (f.offset, szOf P f.type)).toArray)[i]? := by
        intro i
        simp only [fdPlace, hfs, List.getElem?_map, List.getElem?_toArray]
        cases F.toList[i]? <;> rfl
      have := fill_ok r (lt S.next) (fdPlace fs) (fun i => ((F.toList.map fun f => (f.offset, szOf P f.type)).toArray)[i]?) hpl _ _ _ _ hl (evp_ok hR ps.toList) (nms_mapv _ _)
      rw [dens_mapv] at this
      refine ⟨?_, by simp only [SV.nm]; exact this.2⟩
      have hb : P.built t (ps.map fun (i, x) => (i, a.eval x)).toList = some (dens r l).toArray := by
        unfold Program.built
        rw [hf, hF]
        simp only [hz, places_ok F.toList (fun f hf => hall f (by simpa using hf)), Value.cells]
        simpa using this.1
      simp [execOp, ho, run_build w t _ _ hb, SV.den]
    · exact trivial
  · exact trivial
theorem initGo_eq (z : Value) : ∀ n i, initGo z i n = ((List.range' i n).map fun i => z.cells[i % z.cells.size]!).map .v
  | 0, i => by simp only [initGo, List.range'_zero, List.map_nil]
  | n + 1, i => by simp only [initGo, List.range'_succ, List.map_cons, initGo_eq z n (i + 1)]
theorem eff_buildSlice (hT : TabOK P tab) (hR : Rel w0 r S a w) {t : TypeId} {n : Nat} {ps : Array (Nat × Operand)} (ho : o.op = .buildSlice t n ps) : EffOK P w0 r S a w o (effOf tab (memOf tab w0) o.op S) := by
  rw [ho]
  simp only [effOf]
  split
  · rename_i sz z e es hi
    split
    · rename_i ie he
      cases hb : (((n * es) == 0) || decide (1000 < (n * es))) with
      | true => exact trivial
      | false =>
        simp only [cond_false]
        simp only [Bool.or_eq_false_iff] at hb
        have b1 : ¬ n * es = 0 := by intro h; rw [h] at hb; exact absurd hb.1 (by decide)
        have b2 : ¬ n * es > 2 ^ 24 := by
          have : ¬ (1000 < n * es) := by
            intro h
            have : decide (1000 < (n * es)) = true := by simpa using h
            rw [this] at hb; exact absurd hb.2 (by decide)
          omega
        rw [initGo_eq, ← List.range_eq_range']
        split
        · rename_i l hl
          obtain ⟨u1, u2, u3⟩ := hT.sl hi rfl
          have hs : ∀ w : World, (sizeOf e).run P w = .ok es w := fun w => by rw [← u3]; exact run_sizeOf' u2 w
          have := fill_ok r (lt S.next) (slPlace es) (fun i => some (i * es, es)) (fun _ => rfl) _ _ _ _ hl (evp_ok hR ps.toList) (nms_mapv _ _)
          rw [dens_mapv] at this
          refine ⟨?_, this.2⟩
          have hf : Instr.fill (fun i => some (i * es, es)) ((Array.range (n * es)).map (ie.zero.cells[· % ie.zero.cells.size]!)) (ps.map fun (i, x) => (i, a.eval x)).toList = some (dens r l).toArray := by
            rw [← this.1]
            congr 1
            · apply Array.ext'; simp
            · simp
          simp only [execOp, ho, Instr.buildSlice, Sem.run_bind, run_underlying u1, Result.andThen_ok, hs, if_neg b2, if_neg b1, hT.zero he, Sem.run_pure, hf]
          simp [newRow, newObj, Sem.run]
        · exact trivial
    · exact trivial
  · exact trivial

theorem eff_pick (hR : Rel w0 r S a w) {c x y : Operand} (ho : o.op = .pick c x y) : EffOK P w0 r S a w o (effOf tab (memOf tab w0) o.op S) := by
  rw [ho]
  simp only [effOf]
  split
  · rename_i b hb
    have hc := (hR.ev hb).1
    simp only [SV.den] at hc
    refine opt2_ok hR fun s t h1 h2 h3 h4 => ?_
    unfold pPick
    split
    · rename_i p q
      simp only [SV.den] at h1 h3
      exact fun _ => ⟨by cases b <;> simp [execOp, ho, hc, h1, h3, asBool, SV.den], by simp only [SV.nm]⟩
    · split
      · exact fun _ => ⟨by simp [execOp, ho, hc, h1, h3, asBool], h2⟩
      · exact fun _ => ⟨by simp [execOp, ho, hc, h1, h3, asBool], h4⟩
  · exact trivial

/-- What part B says is so. -/
theorem eff_sound (hT : TabOK P tab) (hR : Rel w0 r S a w) : EffOK P w0 r S a w o (effOf tab (memOf tab w0) o.op S) := by
  cases ho : o.op with
  | move x => rw [← ho]; exact eff_move hR (.inl ho)
  | assign x => rw [← ho]; exact eff_move hR (.inr ho)
  | alloc t => rw [← ho]; exact eff_alloc hT ho
  | pick c x y => rw [← ho]; exact eff_pick hR ho
  | box t x => rw [← ho]; exact eff_box hR ho
  | load t x => rw [← ho]; exact eff_load hT hR ho
  | store t x y => rw [← ho]; exact eff_store hT hR ho
  | nilCheck x => rw [← ho]; exact eff_nilCheck hR ho
  | binOp op t x y u => rw [← ho]; exact eff_binOp hT hR ho
  | unOp op t x => rw [← ho]; exact eff_unOp hR ho
  | convert s t x => rw [← ho]; exact eff_convert hT hR ho
  | makeInterface t x => rw [← ho]; exact eff_makeInterface hT hR ho
  | makeFunc f x y => rw [← ho]; exact eff_makeFunc hR ho
  | fieldAddr t x f => rw [← ho]; exact eff_fieldAddr hT hR ho
  | field t x f => rw [← ho]; exact eff_field hT hR ho
  | indexAddr t x y => rw [← ho]; exact eff_indexAddr hT hR ho
  | index t x y => rw [← ho]; exact eff_index hT hR ho
  | typeAssert x u t ok => rw [← ho]; exact eff_typeAssert hT hR ho
  | extract x n => rw [← ho]; exact eff_extract hR ho
  | call c => rw [← ho]; exact eff_call hT hR ho
  | build t ps => rw [← ho]; exact eff_build hT hR ho
  | buildSlice t n ps => rw [← ho]; exact eff_buildSlice hT hR ho
  | _ => exact trivial
end
end Go.Proofs.Ytpoiebkcjehheaa
