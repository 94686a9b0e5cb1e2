/- Maps of numbers: what the operations on them do, in a walk. -/
import Derived.Test.YtpoiebkcjehheaaBase
import Derived.Test.YtpoiebkcjehheaaSyT
import Derived.Test.YtpoiebkcjehheaaSyJ
import Derived.MapKept
namespace Go.Proofs.Ytpoiebkcjehheaa
open Go.RowKit
set_option linter.unusedSimpArgs false
set_option linter.unusedVariables false

theorem toList_inj {a b : ByteArray} (h : a.toList = b.toList) : a = b := by
  rw [ByteArray.toList_eq, ByteArray.toList_eq] at h
  have : a.data = b.data := Array.toList_inj.1 h
  cases a; cases b; simp_all

section
variable {K : Type} (kv : K → Value)
/-- The entries of a map of numbers. -/
def mkE : Nat → List (K × Int) → List MapEntry
  | _, [] => []
  | i, x :: l => ⟨kv x.1, .int .i64 x.2, i⟩ :: mkE (i + 1) l
theorem mkE_len : ∀ (l : List (K × Int)) (i : Nat), (mkE kv i l).length = l.length
  | [], i => rfl
  | x :: l, i => by simp [mkE, mkE_len l]
theorem mkE_get : ∀ (l : List (K × Int)) (i j : Nat) (x : K × Int), l[j]? = some x → (mkE kv i l)[j]? = some ⟨kv x.1, .int .i64 x.2, i + j⟩
  | [], i, j, x, h => by simp at h
  | y :: l, i, 0, x, h => by simp only [List.getElem?_cons_zero, Option.some.injEq] at h; subst h; simp [mkE]
  | y :: l, i, j + 1, x, h => by
    simp only [List.getElem?_cons_succ] at h
    simp only [mkE, List.getElem?_cons_succ, mkE_get l (i + 1) j x h]
    congr 2; omega
theorem mkE_append : ∀ (l : List (K × Int)) (i : Nat) (x : K × Int), mkE kv i (l ++ [x]) = mkE kv i l ++ [⟨kv x.1, .int .i64 x.2, i + l.length⟩]
  | [], i, x => by simp [mkE]
  | y :: l, i, x => by
    simp only [List.cons_append, mkE, mkE_append l (i + 1) x, List.length_cons]
    congr 4; omega
theorem mkE_set : ∀ (l : List (K × Int)) (i j : Nat) (v : K) (c d : Int), l[j]? = some (v, c) → (mkE kv i l).modify j (fun e => { e with val := .int .i64 d }) = mkE kv i (l.set j (v, d))
  | [], i, j, v, c, d, h => by simp at h
  | y :: l, i, 0, v, c, d, h => by
    simp only [List.getElem?_cons_zero, Option.some.injEq] at h; subst h
    simp [mkE, List.modify]
  | y :: l, i, j + 1, v, c, d, h => by
    simp only [List.getElem?_cons_succ] at h
    have := mkE_set l (i + 1) j v c d h
    simp only [mkE, List.modify_succ_cons, this, List.set_cons_succ]
theorem mkE_idx : ∀ (l : List (K × Int)) (i j : Nat), j < l.length → (mkE kv i l).findIdx? (fun e => (e.born : Int) == ((i + j : Nat) : Int)) = some j
  | [], i, j, h => by simp at h
  | x :: l, i, 0, h => by simp [mkE, List.findIdx?_cons]
  | x :: l, i, j + 1, h => by
    have ih := mkE_idx l (i + 1) j (by simpa using h)
    have e : i + 1 + j = i + (j + 1) := by omega
    rw [e] at ih
    have hne : ((i : Int) == ((i + (j + 1) : Nat) : Int)) = false := by rw [beq_eq_false_iff_ne]; omega
    simp only [mkE, List.findIdx?_cons, hne, ih]
    rfl
def kMap (l : List (K × Int)) : Obj := .map (mkE kv 0 l).toArray l.length
end

section
variable {K : Type} [DecidableEq K]
/-- Where a key is. -/
def kFind (v : K) : List (K × Int) → Nat → Option (Nat × Int)
  | [], _ => none
  | x :: l, i => if v = x.1 then some (i, x.2) else kFind v l (i + 1)
theorem kFind_some (v : K) : ∀ (l : List (K × Int)) (i j : Nat) (c : Int), kFind v l i = some (j, c) → i ≤ j ∧ l[j - i]? = some (v, c)
  | [], i, j, c, h => by simp [kFind] at h
  | x :: l, i, j, c, h => by
    simp only [kFind] at h
    split at h
    · rename_i hv
      simp only [Option.some.injEq, Prod.mk.injEq] at h
      obtain ⟨rfl, rfl⟩ := h
      subst hv
      exact ⟨Nat.le_refl _, by simp⟩
    · obtain ⟨h1, h2⟩ := kFind_some v l (i + 1) j c h
      refine ⟨by omega, ?_⟩
      rw [show j - i = (j - (i + 1)) + 1 by omega, List.getElem?_cons_succ]
      exact h2
theorem kFind_none (v : K) : ∀ (l : List (K × Int)) (i : Nat), kFind v l i = none ↔ ∀ x ∈ l, x.1 ≠ v
  | [], i => by simp [kFind]
  | x :: l, i => by
    simp only [kFind, List.mem_cons, forall_eq_or_imp]
    by_cases h : v = x.1
    · rw [if_pos h]; simp [h]
    · rw [if_neg h, kFind_none v l (i + 1)]
      exact ⟨fun g => ⟨fun e => h e.symm, g⟩, fun g => g.2⟩
/-- The value under a key; 0: it is not there. -/
def kGet (v : K) (l : List (K × Int)) : Int := ((kFind v l 0).map (·.2)).getD 0
/-- A value is put under a key. -/
def kPut (v : K) (d : Int) (l : List (K × Int)) : List (K × Int) := match kFind v l 0 with | none => l ++ [(v, d)] | some (j, _) => l.set j (v, d)

/-- What is asked of a kind of keys. -/
structure MK (kv : K → Value) (mt : TypeId) where
  kt : TypeId
  und : Try.prog.underlying mt = some (.map kt 3)
  chk : ∀ (e : Bool) (k : K) (w : World), (Instr.checkKey e 10000 kt (kv k)).run Try.prog w = .ok () w
  fnd : ∀ (k : K) (l : List (K × Int)) (w : World), (Instr.findKey kt (kv k) (mkE kv 0 l)).run Try.prog w = .ok ((kFind k l 0).map fun p => (p.1, .int .i64 p.2)) w
  sty : ∀ (k : K) (w : World), (Instr.keyThatStays (kv k) (kv k)).run Try.prog w = .ok (kv k) w

variable {kv : K → Value} {mt : TypeId} (M : MK kv mt)
theorem zint (w : World) : (zeroValue 3).run Try.prog w = .ok (.int .i64 0) w := by kernel_rfl
include M in
theorem MK.lookup (v : K) (l : List (K × Int)) (b : Nat) (w : World) (h : w.heap[b]? = some (kMap kv l)) :
    (Instr.lookup mt (.map (some b)) (kv v) false).run Try.prog w = .ok (.int .i64 (kGet v l)) w := by
  simp only [Instr.lookup, Sem.run_bind, run_underlying M.und, Result.andThen_ok, MapKept.run_getObj_map h, Sem.run_pure, M.chk, M.fnd, kGet]
  cases kFind v l 0 with
  | none => simp [zint]
  | some p => simp
include M in
theorem MK.entry_new (v : K) (l : List (K × Int)) (b : Nat) (w : World) (h : w.heap[b]? = some (kMap kv l)) (hv : kFind v l 0 = none) :
    (Instr.mapEntry mt (.map (some b)) (kv v)).run Try.prog w = .ok (.tuple #[.int .i64 0, .int .i64 l.length]) { w with heap := w.heap.setIfInBounds b (kMap kv (l ++ [(v, 0)])) } := by
  simp only [Instr.mapEntry, Sem.run_bind, run_underlying M.und, Result.andThen_ok, MapKept.run_getObj_map h, Sem.run_pure, M.chk, M.fnd, hv, Option.map_none, zint, MapKept.run_setObj_map _ h, goInt]
  simp [kMap, mkE_append]
include M in
theorem MK.entry_old (v : K) (l : List (K × Int)) (b : Nat) (w : World) (h : w.heap[b]? = some (kMap kv l)) (j : Nat) (c : Int) (hv : kFind v l 0 = some (j, c)) :
    (Instr.mapEntry mt (.map (some b)) (kv v)).run Try.prog w = .ok (.tuple #[.int .i64 c, .int .i64 j]) { w with heap := w.heap.setIfInBounds b (kMap kv l) } := by
  obtain ⟨_, hj⟩ := kFind_some v l 0 j c hv
  rw [Nat.sub_zero] at hj
  have hg := mkE_get kv l 0 j _ hj
  have hst := M.sty v w
  have hm : (mkE kv 0 l).modify j (fun e => { e with key := kv v }) = mkE kv 0 l := by
    apply List.ext_getElem?
    intro i
    rw [List.getElem?_modify]
    split
    · rename_i e; subst e
      rw [hg]; rfl
    · cases (mkE kv 0 l)[i]? <;> rfl
  simp only [Instr.mapEntry, Sem.run_bind, run_underlying M.und, Result.andThen_ok, MapKept.run_getObj_map h, Sem.run_pure, M.chk, M.fnd, hv, Option.map_some]
  simp [hg, hst, MapKept.run_setObj_map _ h, goInt, kMap, hm]
omit [DecidableEq K] in
theorem kStore (v : K) (l : List (K × Int)) (b : Nat) (w : World) (h : w.heap[b]? = some (kMap kv l)) (j : Nat) (c d : Int) (hj : l[j]? = some (v, c)) :
    (Instr.entryStore mt (.map (some b)) (.int .i64 j) (.int .i64 d)).run Try.prog w = .ok () { w with heap := w.heap.setIfInBounds b (kMap kv (l.set j (v, d))) } := by
  have hf : (mkE kv 0 l).toArray.findIdx? (fun e => (e.born : Int) == (j : Int)) = some j := by
    have := mkE_idx kv l 0 j (List.getElem?_eq_some_iff.1 hj).1
    simpa using this
  simp only [Instr.entryStore, Sem.run_bind, Result.andThen_ok, MapKept.run_getObj_map h, Sem.run_pure, asInt, asIntOf]
  simp [hf, MapKept.run_setObj_map _ h, kMap, mkE_set kv l 0 j v c d hj]
end

theorem below_set {w0 w : World} {b : Nat} {o o' : Obj} (hb : w.heap[b]? = some o) (h0 : w0.heap.size ≤ b) : Below w0.heap.size w { w with heap := w.heap.setIfInBounds b o' } :=
  ⟨rfl, rfl, rfl, by simp, fun i hi => (MapKept.heap_set hb).2 i (by omega)⟩

/-- A key is made sure of. -/
def kIns {K : Type} [DecidableEq K] (v : K) (l : List (K × Int)) : List (K × Int) := match kFind v l 0 with | none => l ++ [(v, 0)] | some _ => l
def kIdx {K : Type} [DecidableEq K] (v : K) (l : List (K × Int)) : Nat := match kFind v l 0 with | none => l.length | some p => p.1
theorem kFind_app {K : Type} [DecidableEq K] (v : K) (c : Int) : ∀ (l : List (K × Int)) (i : Nat), kFind v l i = none → kFind v (l ++ [(v, c)]) i = some (i + l.length, c)
  | [], i, _ => by simp [kFind]
  | x :: l, i, h => by
    simp only [kFind] at h
    split at h
    · cases h
    · rename_i hv
      simp only [List.cons_append, kFind, if_neg hv, kFind_app v c l (i + 1) h, List.length_cons]
      congr 2; omega
theorem kFind_ins {K : Type} [DecidableEq K] (v : K) (l : List (K × Int)) : kFind v (kIns v l) 0 = some (kIdx v l, kGet v l) := by
  unfold kIns kIdx kGet
  cases h : kFind v l 0 with
  | none => simp [kFind_app v 0 l 0 h]
  | some p => simp [h]
theorem kGet_ins {K : Type} [DecidableEq K] (v : K) (l : List (K × Int)) : kGet v (kIns v l) = kGet v l := by
  rw [kGet, kFind_ins]; rfl
theorem kIns_ins {K : Type} [DecidableEq K] (v : K) (l : List (K × Int)) : kIns v (kIns v l) = kIns v l := by
  rw [kIns, kFind_ins]
theorem kIdx_ins {K : Type} [DecidableEq K] (v : K) (l : List (K × Int)) : kIdx v (kIns v l) = kIdx v l := by
  rw [kIdx, kFind_ins]
theorem kIns_get {K : Type} [DecidableEq K] (v : K) (l : List (K × Int)) : (kIns v l)[kIdx v l]? = some (v, kGet v l) := by
  have := kFind_some v _ _ _ _ (kFind_ins v l)
  simpa using this.2
theorem MK.entry {K : Type} [DecidableEq K] {kv : K → Value} {mt : TypeId} (M : MK kv mt) (v : K) (l : List (K × Int)) (b : Nat) (w : World) (h : w.heap[b]? = some (kMap kv l)) :
    (Instr.mapEntry mt (.map (some b)) (kv v)).run Try.prog w = .ok (.tuple #[.int .i64 (kGet v l), .int .i64 (kIdx v l)]) { w with heap := w.heap.setIfInBounds b (kMap kv (kIns v l)) } := by
  cases hv : kFind v l 0 with
  | none => rw [M.entry_new v l b w h hv]; simp [kGet, kIdx, kIns, hv]
  | some p => rw [M.entry_old v l b w h p.1 p.2 hv]; simp [kGet, kIdx, kIns, hv]

/-! ### In a walk -/
section
variable {C : Cx} {k : List Item} {S : St} {full rest : List Oper} {base sz i : Nat} {o : Oper} {ms : List Ms} {K : Type} [DecidableEq K] {kv : K → Value} {mt : TypeId}
theorem view_tmp {w : World} {r : Va} {a : Act} {rd : List Nat} {t : Nat} {y : SV} (hR : Rel C.w0 r (S.view (looks full o) rd) a w) (ho : .tmp t ∈ o.op.operands) (h : lk S.tmps t = some y) : a.eval (.tmp t) = y.den r :=
  (hR.ev (x := .tmp t) (y := y) (by rw [view_ev (looks_op ho)]; exact h)).1
theorem view_blk {w : World} {r : Va} {a : Act} {rd ts : List Nat} {q : Nat} {b : Blk} (hR : Rel C.w0 r (S.view ts rd) a w) (hq : q ∈ rd) (h : lk S.heap q = some b) : C.w0.heap.size ≤ r.lo q ∧ r.hi q ≤ w.heap.size ∧ b.ok C.w0.heap.size r q w :=
  hR.inv.blk q b (by simp only [St.view]; rw [pick_mem _ _ _ hq]; exact h)
theorem dmap_lookup (hC : CxOK C) (hP : C.P = Try.prog) (M : MK kv mt) {m x q : Nat} {X : SV} (v : K) (l : List (K × Int)) (ho : o.op = .lookup mt (.tmp m) (.tmp x) false) (hm : lk S.tmps m = some (.mp q)) (hx : lk S.tmps x = some X) (hX : X.pv = some (kv v))
    (hq : lk S.heap q = some (.obj (kMap kv l))) (hk : symD C full base sz k rest (i + 1) (ms ++ [⟨[q], [], none, false, []⟩]) (S.put o.dst (.v (.int .i64 (kGet v l))))) : DAskG C full base sz k rest i o ms S := by
  refine dask_go hC (.v (.int .i64 (kGet v l))) [q] (fun r a w hR => ⟨w, ?_, Below.refl _ _⟩) hk
  have h1 := view_tmp hR (t := m) (by simp [ho, Op.operands]) hm
  have h2 := view_tmp hR (t := x) (by simp [ho, Op.operands]) hx
  have h3 := view_blk hR (List.mem_singleton.2 rfl) hq
  rw [SV.pv_den r X _ hX] at h2
  rw [hP]
  simp only [execOp, ho, h1, h2, SV.den]
  simp [M.lookup v l _ w h3.2.2.2]
theorem dmap_store (hC : CxOK C) (hP : C.P = Try.prog) (M : MK kv mt) {m x y q : Nat} (v : K) (l : List (K × Int)) (j : Nat) (c d : Int) (hj : l[j]? = some (v, c)) (ho : o.op = .entryStore mt (.tmp m) (.tmp x) (.tmp y)) (hm : lk S.tmps m = some (.mp q)) (hx : lk S.tmps x = some (.v (.int .i64 j))) (hy : lk S.tmps y = some (.v (.int .i64 d)))
    (hq : lk S.heap q = some (.obj (kMap kv l))) (hk : symD C full base sz k rest (i + 1) (ms ++ [⟨[q], [], some q, true, []⟩]) ({ S with heap := (q, .obj (kMap kv (l.set j (v, d)))) :: S.heap }.put o.dst (.v (.tuple #[])))) : DAskG C full base sz k rest i o ms S := by
  refine dskip_go hC q (.obj (kMap kv (l.set j (v, d)))) [q] (by rw [hq]; simp [isS, memB]) (fun r a w hR => ?_) hk
  have h1 := view_tmp hR (t := m) (by simp [ho, Op.operands]) hm
  have h2 := view_tmp hR (t := x) (by simp [ho, Op.operands]) hx
  have h3 := view_tmp hR (t := y) (by simp [ho, Op.operands]) hy
  obtain ⟨g1, g2, g3, g4⟩ := view_blk hR (List.mem_singleton.2 rfl) hq
  rw [hP]
  refine ⟨_, ?_, below_set (o' := kMap kv (l.set j (v, d))) g4 g1, fun i hi => (MapKept.heap_set g4).2 i (by omega), g3, (MapKept.heap_set g4).1⟩
  simp only [execOp, ho, h1, h2, h3, SV.den]
  simp [kStore (mt := mt) v l _ w g4 j c d hj]
/-- 'm[k] + 1' is reckoned and the entry is made sure of, in whatever order. -/
theorem dmap_inc (hC : CxOK C) (hP : C.P = Try.prog) (M : MK kv mt) {o1 o2 o3 o4 : Oper} {ti : TypeId} {m x d1 d3 q : Nat} {X : SV} (v : K) (l : List (K × Int)) {S1 S2 S3 S4 : St}
    (e1 : S1 = S.put o1.dst (.v (.int .i64 (kGet v l)))) (e2 : S2 = S1.put o2.dst (.v (.int .i64 (IntKind.i64.wrap (kGet v l + 1)))))
    (e3 : S3 = { S2 with heap := (q, .obj (kMap kv (kIns v l))) :: S2.heap }.put o3.dst (.v (.tuple #[.int .i64 (kGet v l), .int .i64 (kIdx v l)]))) (e4 : S4 = S3.put o4.dst (.v (.int .i64 (kIdx v l))))
    (gg : o1.guard = none ∧ o2.guard = none ∧ o3.guard = none ∧ o4.guard = none)
    (ho1 : o1.op = .lookup mt (.tmp m) (.tmp x) false) (ho2 : o2.op = .binOp .add ti (.tmp d1) (.const (.int .i64 1)) ti) (ho3 : o3.op = .mapEntry mt (.tmp m) (.tmp x)) (ho4 : o4.op = .extract (.tmp d3) 1)
    (hm : lk S.tmps m = some (.mp q)) (hx : lk S.tmps x = some X) (hX : X.pv = some (kv v)) (hq : lk S.heap q = some (.obj (kMap kv l))) (h1 : lk S1.tmps d1 = some (.v (.int .i64 (kGet v l)))) (hm3 : lk S2.tmps m = some (.mp q)) (hx3 : lk S2.tmps x = some X)
    (hq3 : lk S2.heap q = some (.obj (kMap kv l))) (h4 : lk S3.tmps d3 = some (.v (.tuple #[.int .i64 (kGet v l), .int .i64 (kIdx v l)])))
    (hms : ms.all (fun y => y.wr != some q) = true) (hdep : (List.range rest.length).all (fun t => dep (masks full) (i + 4 + t) i) = true)
    (hk : symD C full base sz k rest (i + 4) (ms ++ [⟨[], [], none, false, []⟩, ⟨[], [], none, false, []⟩, ⟨[q], [], some q, true, []⟩, ⟨[], [], none, false, []⟩]) S4) :
    DAskG C full base sz k (o2 :: o3 :: o4 :: rest) i o1 ms S := by
  obtain ⟨tr, ms', S', g1, g2, gw, g3⟩ := symD_sound hC.tab _ _ _ _ hk
  let p : Obj → Prop := fun o => o = kMap kv l ∨ o = kMap kv (kIns v l)
  have L1 : LocV C full (base + i) ⟨o1, true, .val (.v (.int .i64 (kGet v l))), S.view (looks full o1) [], [(q, .objP p)]⟩ := by
    refine ⟨by simp only [gg.1], fun e => (by cases e), fun _ r a w hR Kk Q hK => ?_⟩
    have hb := hR.inv.blk q (.objP p) (by simp [Tr.VW, lk_cons])
    obtain ⟨_, _, _, ob, hb1, hb2⟩ := hb
    have v1 : a.eval (.tmp m) = .map (some (r.lo q)) := (hR.ev (x := .tmp m) (y := .mp q) (by rw [← hm]; exact pick_mem _ _ _ (looks_op (o := o1) (x := .tmp m) (by simp [ho1, Op.operands]) m rfl))).1
    have v2 : a.eval (.tmp x) = X.den r := (hR.ev (x := .tmp x) (y := X) (by rw [← hx]; exact pick_mem _ _ _ (looks_op (o := o1) (x := .tmp x) (by simp [ho1, Op.operands]) x rfl))).1
    rw [SV.pv_den r X _ hX] at v2
    have hrun : (execOp a.eval o1).run C.P w = .ok (.value (.int .i64 (kGet v l))) w := by
      rw [hP]
      simp only [execOp, ho1, v1, v2]
      rcases hb2 with hb2 | hb2
      · rw [hb2] at hb1
        simp [M.lookup v l _ w hb1]
      · rw [hb2] at hb1
        simp [M.lookup v _ _ w hb1, kGet_ins]
    unfold Oper.wp
    rw [hrun]
    exact hK r w ⟨rfl, Below.refl _ _⟩
  have L2 : LocV C full (base + (i + 1)) ⟨o2, true, .val (.v (.int .i64 (IntKind.i64.wrap (kGet v l + 1)))), S1.view (looks full o2) [], []⟩ := by
    refine ⟨by simp only [gg.2.1], fun e => (by cases e), fun _ r a w hR Kk Q hK => ?_⟩
    have hR' : Rel C.w0 r (S1.view (looks full o2) []) a w := hR
    have v1 := (hR'.ev (x := .tmp d1) (y := .v (.int .i64 (kGet v l))) (by rw [← h1]; exact pick_mem _ _ _ (looks_op (o := o2) (x := .tmp d1) (by simp [ho2, Op.operands]) d1 rfl))).1
    have hE := eff_sound (o := o2) hC.tab hR'
    rw [ho2] at hE
    have ev1 : (S1.view (looks full o2) []).ev (.tmp d1) = some (.v (.int .i64 (kGet v l))) := by rw [← h1]; exact pick_mem _ _ _ (looks_op (o := o2) (x := .tmp d1) (by simp [ho2, Op.operands]) d1 rfl)
    have ev2 : (S1.view (looks full o2) []).ev (.const (.int .i64 1)) = some (.v (.int .i64 1)) := rfl
    simp only [effOf, ev1, ev2, opt2, pBin, sameK, cond_true, pInt] at hE
    have := (hE trivial).1
    unfold Oper.wp
    rw [this]
    exact hK r w ⟨rfl, Below.refl _ _⟩
  have L3 : LocV C full (base + (i + 1 + 1)) ⟨o3, true, .upd q (.obj (kMap kv (kIns v l))) (.tuple #[.int .i64 (kGet v l), .int .i64 (kIdx v l)]), S2.view (looks full o3) [q], []⟩ := by
    refine ⟨by simp only [gg.2.2.1], fun e => (by cases e), fun _ r a w hR Kk Q hK => ?_⟩
    have hR' : Rel C.w0 r (S2.view (looks full o3) [q]) a w := hR
    have v1 := view_tmp hR' (t := m) (by simp [ho3, Op.operands]) hm3
    have v2 := view_tmp hR' (t := x) (by simp [ho3, Op.operands]) hx3
    obtain ⟨b1, b2, b3, b4⟩ := view_blk hR' (List.mem_singleton.2 rfl) hq3
    rw [SV.pv_den r X _ hX] at v2
    have hrun : (execOp a.eval o3).run C.P w = .ok (.value (.tuple #[.int .i64 (kGet v l), .int .i64 (kIdx v l)])) { w with heap := w.heap.setIfInBounds (r.lo q) (kMap kv (kIns v l)) } := by
      rw [hP]
      simp only [execOp, ho3, v1, v2, SV.den]
      simp [M.entry v l _ w b4]
    unfold Oper.wp
    rw [hrun]
    exact hK r _ ⟨rfl, below_set (o' := kMap kv (kIns v l)) b4 b1, fun j hj => (MapKept.heap_set b4).2 j (by omega), b3, (MapKept.heap_set b4).1⟩
  have L4 : LocV C full (base + (i + 1 + 1 + 1)) ⟨o4, true, .val (.v (.int .i64 (kIdx v l))), S3.view (looks full o4) [], []⟩ := by
    refine ⟨by simp only [gg.2.2.2], fun e => (by cases e), fun _ r a w hR Kk Q hK => ?_⟩
    have hR' : Rel C.w0 r (S3.view (looks full o4) []) a w := hR
    have hE := eff_sound (o := o4) hC.tab hR'
    rw [ho4] at hE
    have ev1 : (S3.view (looks full o4) []).ev (.tmp d3) = some (.v (.tuple #[.int .i64 (kGet v l), .int .i64 (kIdx v l)])) := by rw [← h4]; exact pick_mem _ _ _ (looks_op (o := o4) (x := .tmp d3) (by simp [ho4, Op.operands]) d3 rfl)
    simp only [effOf, ev1, opt1, pExtract, List.getElem?_cons_succ, List.getElem?_cons_zero] at hE
    have := (hE trivial).1
    unfold Oper.wp
    rw [this]
    exact hK r w ⟨rfl, Below.refl _ _⟩
  subst e4
  have T4 := trok_one (i := i + 1 + 1 + 1) (S := S3) (te := .val (.v (.int .i64 (kIdx v l)))) (rd := []) (pre := []) (up := false) (ment := []) (W := []) (fun _ _ _ e => by cases e) (fun _ _ _ e => by cases e) (fun _ _ e => by cases e) (fun _ h => by rcases h with h | h <;> simp [TE.out, SV.names, TE.blk, blkNames] at h) (fun kb hkb => by cases hkb) L4 g1
  have T3 := trok_one (i := i + 1 + 1) (S := S2) (te := .upd q (.obj (kMap kv (kIns v l))) (.tuple #[.int .i64 (kGet v l), .int .i64 (kIdx v l)])) (rd := [q]) (pre := []) (up := true) (ment := []) (W := [])
    (fun _ _ _ e => by cases e; exact ⟨rfl, _, (pick_mem _ _ _ (List.mem_singleton.2 rfl)).trans hq3⟩) (fun _ _ _ e => by cases e) (fun _ _ e => by cases e) (fun _ h => by rcases h with h | h <;> simp [TE.out, SV.names, TE.blk, blkNames, Blk.names] at h) (fun kb hkb => by cases hkb) L3 (e3 ▸ T4)
  have T2 := trok_one (i := i + 1) (S := S1) (te := .val (.v (.int .i64 (IntKind.i64.wrap (kGet v l + 1))))) (rd := []) (pre := []) (up := false) (ment := []) (W := []) (fun _ _ _ e => by cases e) (fun _ _ _ e => by cases e) (fun _ _ e => by cases e) (fun _ h => by rcases h with h | h <;> simp [TE.out, SV.names, TE.blk, blkNames] at h) (fun kb hkb => by cases hkb) L2 (e2 ▸ T3)
  have T1 := trok_one (i := i) (S := S) (te := .val (.v (.int .i64 (kGet v l)))) (rd := []) (pre := []) (up := false) (ment := []) (W := [(q, .objP p)]) (fun _ _ _ e => by cases e) (fun _ _ _ e => by cases e) (fun _ _ e => by cases e) (fun _ h => by rcases h with h | h <;> simp [TE.out, SV.names, TE.blk, blkNames] at h)
    (fun kb hkb => by
      simp only [List.mem_singleton] at hkb
      subst hkb
      exact ⟨rfl, _, hq, fun n0 r k w h => ⟨h.1, _, h.2, .inl rfl⟩⟩) L1 (e1 ▸ T2)
  refine .inl ⟨gg.1, _, _, S', T1, ?_, ?_, g3⟩
  · rwa [List.append_assoc] at g2
  · have W4 := wok_cons (ms := ms ++ [⟨[], [], none, false, []⟩, ⟨[], [], none, false, []⟩, ⟨[q], [], some q, true, []⟩]) (i := i + 1 + 1 + 1) (x := ⟨o4, true, .val (.v (.int .i64 (kIdx v l))), S3.view (looks full o4) [], []⟩) (y := ⟨[], [], none, false, []⟩) rfl rfl (by simpa using gw)
    have W3 := wok_cons (ms := ms ++ [⟨[], [], none, false, []⟩, ⟨[], [], none, false, []⟩]) (i := i + 1 + 1) (x := ⟨o3, true, .upd q (.obj (kMap kv (kIns v l))) (.tuple #[.int .i64 (kGet v l), .int .i64 (kIdx v l)]), S2.view (looks full o3) [q], []⟩) (y := ⟨[q], [], some q, true, []⟩) rfl rfl (by simpa using W4)
    have W2 := wok_cons (ms := ms ++ [⟨[], [], none, false, []⟩]) (i := i + 1) (x := ⟨o2, true, .val (.v (.int .i64 (IntKind.i64.wrap (kGet v l + 1)))), S1.view (looks full o2) [], []⟩) (y := ⟨[], [], none, false, []⟩) rfl rfl (by simpa using W3)
    subst e3
    subst e2
    subst e1
    intro n z hz kb hkb
    cases n with
    | zero =>
      simp only [List.getElem?_cons_zero, Option.some.injEq] at hz
      subst hz
      simp only [List.mem_singleton] at hkb
      subst hkb
      refine ⟨fun y hy e => ?_, fun n' z' c hz' hc => ?_⟩
      · have := List.all_eq_true.1 hms y hy
        simp [e] at this
      · match n', hz', hc with
        | 0, hz', hc => simp only [List.getElem?_cons_zero, Option.some.injEq] at hz'; subst hz'; simp [TE.blk] at hc
        | 1, hz', hc => simp only [List.getElem?_cons_succ, List.getElem?_cons_zero, Option.some.injEq] at hz'; subst hz'; simp [TE.blk] at hc
        | 2, hz', hc =>
          simp only [List.getElem?_cons_succ, List.getElem?_cons_zero, Option.some.injEq] at hz'; subst hz'
          simp only [TE.blk, Option.some.injEq, Prod.mk.injEq, true_and] at hc
          subst hc
          exact ⟨by omega, .inr fun n0 r k w h => ⟨h.1, _, h.2, .inr rfl⟩⟩
        | 3, hz', hc => simp only [List.getElem?_cons_succ, List.getElem?_cons_zero, Option.some.injEq] at hz'; subst hz'; simp [TE.blk] at hc
        | n' + 4, hz', hc =>
          simp only [List.getElem?_cons_succ] at hz'
          have hlt : n' < tr.length := (List.getElem?_eq_some_iff.1 hz').1
          rw [(g1.len).1] at hlt
          have := List.all_eq_true.1 hdep n' (List.mem_range.2 hlt)
          refine ⟨by omega, .inl ?_⟩
          rw [show i + (n' + 4) = i + 4 + n' by omega]
          exact this
    | succ n =>
      simp only [List.getElem?_cons_succ] at hz
      obtain ⟨h1, h2⟩ := W2 n z hz kb hkb
      refine ⟨fun y' hy' => h1 y' (List.mem_append_left _ hy'), fun l' z' c hz' hc => ?_⟩
      cases l' with
      | zero =>
        simp only [List.getElem?_cons_zero, Option.some.injEq] at hz'
        subst hz'
        simp [TE.blk] at hc
      | succ l' =>
        simp only [List.getElem?_cons_succ] at hz'
        obtain ⟨q1, q2⟩ := h2 l' z' c hz' (by rw [← hc]; congr 1; omega)
        refine ⟨by omega, ?_⟩
        rw [show i + (l' + 1) = i + 1 + l' by omega, show i + (n + 1) = i + 1 + n by omega]
        exact q2

omit [DecidableEq K] in
theorem map_made (hC : CxOK C) (n : Nat) {arr : Array Oper} (ho : o.op = .makeMap mt none) (hk : sym C n (.ops arr rest :: k) ({ S with heap := (S.next, .obj (kMap kv [])) :: S.heap, next := S.next + 1 }.put o.dst (.mp S.next))) : AskG C o arr rest k S := by
  refine asknew_go hC n (.obj (kMap kv [])) (.mp S.next) (by simp [SV.nm, lt]) rfl (fun r a w hR => ?_) hk
  refine ⟨r.set S.next w.heap.size (w.heap.size + 1) undef none 0, w.alloc (.map #[] 0), Va.set_same r S.next _ _ _ _ _, ?_, (Below.refl _ _).alloc (Nat.le_refl _) _, by simp [Va.set], by simp [Va.set], by simp [Va.set], ?_⟩
  · simp [execOp, ho, run_makeMap, SV.den, Va.set]
  · simp only [Va.set, if_pos]
    exact heap_alloc_new w _
theorem map_len (hC : CxOK C) (n : Nat) (hP : C.P = Try.prog) (M : MK kv mt) {arr : Array Oper} {m q : Nat} (l : List (K × Int)) (ho : o.op = .call { callee := .builtin .len, args := #[.tmp m], argTypes := #[mt] }) (hm : lk S.tmps m = some (.mp q)) (hq : lk S.heap q = some (.obj (kMap kv l)))
    (hk : sym C n (.ops arr rest :: k) (S.put o.dst (.v (.int .i64 l.length)))) : AskG C o arr rest k S := by
  refine ask_go hC n (.v (.int .i64 l.length)) (by simp only [SV.nm]) (fun r a w hR => ⟨w, ?_, Below.refl _ _⟩) hk
  have h1 := (hR.ev (x := .tmp m) hm).1
  obtain ⟨g1, g2, g3, g4⟩ := hR.inv.blk q _ hq
  rw [hP]
  have h2 : a.tmps.getD m undef = .map (some (r.lo q)) := h1
  have hg := MapKept.run_getObj_map (P := Try.prog) g4
  simp [execOp, ho, resolve, invoke, builtin, Act.eval, h2, Builtin.len_, run_underlying M.und, hg, goInt, SV.den, mkE_len]
end
end Go.Proofs.Ytpoiebkcjehheaa
