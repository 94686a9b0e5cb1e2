/- A symbolic walk, part H: the machine for regions that draw their order, second half. -/
import Derived.Test.YtpoiebkcjehheaaSyG
namespace Go.Proofs.Ytpoiebkcjehheaa
open Go.RowKit

def memB (k : Nat) : List Nat → Bool
  | [] => false
  | x :: l => bif x == k then true else memB k l
theorem memB_mem (k : Nat) : ∀ l, memB k l = true → k ∈ l
  | [], h => by simp only [memB] at h; cases h
  | x :: l, h => by
    simp only [memB] at h
    cases hx : (x == k) with
    | true => rw [beq_iff_eq] at hx; subst hx; exact List.mem_cons_self ..
    | false => rw [hx] at h; exact List.mem_cons_of_mem _ (memB_mem k l h)
def isS {α : Type} : Option α → Bool
  | some _ => true
  | none => false

def TE.wr (nm : Nat) : TE → Option Nat
  | .val _ => none
  | .new _ _ => some nm
  | .upd k _ _ => some k
  | .tch _ _ _ => none
def TE.up : TE → Bool
  | .upd _ _ _ => true
  | .tch _ _ _ => true
  | _ => false
def TE.ment : TE → List Nat
  | .val x => x.names
  | .new b x => x.names ++ b.names
  | .upd _ b _ => b.names
  | .tch _ _ _ => []
def TE.pre : TE → List Nat
  | .new b _ => b.names
  | _ => []
def St.next' (S : St) (nm : Nat) (te : TE) (d : Option Tmp) : St := (S.wr (te.blk nm)).put d te.out

/-- A call inside such a region. -/
def DCallG (C : Cx) (g : FuncId) (args : List SV) (full : List Oper) (base sz : Nat) (k : List Item) (rest : List Oper) (i : Nat) (o : Oper) (ms : List Ms) (S : St) : Prop :=
  callable C.P g = true ∧ ∃ (te : TE) (rd : List Nat), te.up = false ∧
    (∀ r w, Inv C.w0 r (pick S.heap rd) w → Calls C.P g (dens r args).toArray w fun e w' => ∃ r', e = .returned (te.out.den r') ∧ Chg C.w0 (base + i) te r r' w w') ∧
    DTodo C full base sz k rest (i + 1) (ms ++ [⟨rd, [], te.wr (base + i), false, te.ment⟩]) (S.next' (base + i) te o.dst)

/-- An operation of such a region that the machine does not take. -/
def DAskG (C : Cx) (full : List Oper) (base sz : Nat) (k : List Item) (rest : List Oper) (i : Nat) (o : Oper) (ms : List Ms) (S : St) : Prop :=
  (o.guard = none ∧ DTodo C full base sz k (o :: rest) i ms S) ∨ ∃ (te : TE) (rd : List Nat), (∀ q b z, te = .upd q b z → (isS (lk S.heap q) && memB q rd) = true) ∧ (∀ q b z, te = .tch q b z → lk S.heap q = some b ∧ memB q rd = true) ∧
    (∀ r a w, Rel C.w0 r (S.view (looks full o) rd) a w → ∀ (K : Act → World → Prop) (Q : Exit → Act → World → Prop), (∀ r' w', Chg C.w0 (base + i) te r r' w w' → K (a.put o.dst (te.out.den r')) w') → o.wp C.P a w K Q) ∧
    DTodo C full base sz k rest (i + 1) (ms ++ [⟨rd, [], te.wr (base + i), te.up, te.ment⟩]) (S.next' (base + i) te o.dst)

def dstepK (C : Cx) (f : List Ms → St → Prop) (full : List Oper) (base sz : Nat) (k : List Item) (rest : List Oper) (i : Nat) (o : Oper) (acc : List Nat) (ms : List Ms) (S : St) (e : Eff) : Prop :=
  match e with
  | .ask => DAskG C full base sz k rest i o ms S
  | .ok c x => c ∧ f (ms ++ [⟨acc, [], none, false, x.names⟩]) (S.put o.dst x)
  | .box l T => f (ms ++ [⟨acc, namesL l, some (base + i), false, [base + i] ++ namesL l⟩]) ({ S with heap := (base + i, .cells l T) :: S.heap }.put o.dst (.ptr (base + i) 0))
  | .row l T n => f (ms ++ [⟨acc, namesL l, some (base + i), false, [base + i] ++ namesL l⟩]) ({ S with heap := (base + i, .cells l T) :: S.heap }.put o.dst (.slc (base + i) 0 n n))
  | .upd b l T => (isS (lk S.heap b) && memB b acc) = true ∧ f (ms ++ [⟨acc, [], some b, true, namesL l⟩]) ({ S with heap := (b, .cells l T) :: S.heap }.put o.dst (.v (.tuple #[])))
  | .call g args => DCallG C g args full base sz k rest i o ms S

def dguardK (f : List Ms → St → Prop) (d : Option Tmp) (g : Option SV) (want : Bool) (o : Oper) (ms : List Ms) (S : St) (p : St → Prop) (q : Prop) (_ : Tp p q) : Prop :=
  match g with
  | some (.v (.bool b)) => Br (sameB want b) (p (S.put d (.v (.bool want)))) (f (ms ++ [⟨[], [], none, false, []⟩]) ((S.put d (.v (.bool (!want)))).put o.dst (.v (.tuple #[])))) .mk
  | _ => q

def symD (C : Cx) (full : List Oper) (base sz : Nat) (k : List Item) : List Oper → Nat → List Ms → St → Prop
  | [], _, ms, S => chk (masks full) sz base full ms = true ∧ Todo C k S
  | o :: rest, i, ms, S =>
    match o.guard with
    | none => dstepK C (symD C full base sz k rest (i + 1)) full base sz k rest i o (accOf o.op S) ms S (effOf C.tab (memOf C.tab C.w0) o.op S)
    | some (j, want) => dguardK (symD C full base sz k rest (i + 1)) (dstOf full j) (lkD S (dstOf full j)) want o ms S (fun S => dstepK C (symD C full base sz k rest (i + 1)) full base sz k rest i o (accOf o.op S) ms S (effOf C.tab (memOf C.tab C.w0) o.op S)) (DTodo C full base sz k (o :: rest) i ms S) .mk

section
variable {C : Cx} {f : List Ms → St → Prop} {full rest : List Oper} {base sz i : Nat} {k : List Item} {o : Oper} {acc : List Nat} {ms : List Ms} {S : St}
theorem dstepK_ask : dstepK C f full base sz k rest i o acc ms S .ask = DAskG C full base sz k rest i o ms S := rfl
theorem dstepK_ok (c : Prop) (x : SV) : dstepK C f full base sz k rest i o acc ms S (.ok c x) = (c ∧ f (ms ++ [⟨acc, [], none, false, x.names⟩]) (S.put o.dst x)) := rfl
theorem dstepK_box (l : List SV) (T : TypeId) : dstepK C f full base sz k rest i o acc ms S (.box l T) = f (ms ++ [⟨acc, namesL l, some (base + i), false, [base + i] ++ namesL l⟩]) ({ S with heap := (base + i, .cells l T) :: S.heap }.put o.dst (.ptr (base + i) 0)) := rfl
theorem dstepK_row (l : List SV) (T : TypeId) (n : Nat) : dstepK C f full base sz k rest i o acc ms S (.row l T n) = f (ms ++ [⟨acc, namesL l, some (base + i), false, [base + i] ++ namesL l⟩]) ({ S with heap := (base + i, .cells l T) :: S.heap }.put o.dst (.slc (base + i) 0 n n)) := rfl
theorem dstepK_upd (b : Nat) (l : List SV) (T : TypeId) : dstepK C f full base sz k rest i o acc ms S (.upd b l T) = ((isS (lk S.heap b) && memB b acc) = true ∧ f (ms ++ [⟨acc, [], some b, true, namesL l⟩]) ({ S with heap := (b, .cells l T) :: S.heap }.put o.dst (.v (.tuple #[])))) := rfl
theorem dstepK_call (g : FuncId) (args : List SV) : dstepK C f full base sz k rest i o acc ms S (.call g args) = DCallG C g args full base sz k rest i o ms S := rfl
theorem dguardK_some (d : Option Tmp) (b want : Bool) (p : St → Prop) (q : Prop) (t : Tp p q) : dguardK f d (some (.v (.bool b))) want o ms S p q t =
    Br (sameB want b) (p (S.put d (.v (.bool want)))) (f (ms ++ [⟨[], [], none, false, []⟩]) ((S.put d (.v (.bool (!want)))).put o.dst (.v (.tuple #[])))) .mk := rfl

theorem St.same.refl (S : St) : S.same S := ⟨rfl, rfl, fun _ => rfl, fun _ => rfl⟩
theorem St.same.put {S T : St} (h : S.same T) (d : Option Tmp) (x : SV) : (S.put d x).same (T.put d x) := by
  cases d with
  | none => exact h
  | some d =>
    have e : decide ((d : Nat) < S.sz) = decide ((d : Nat) < T.sz) := by rw [h.sz]
    simp only [St.put, e]
    cases decide ((d : Nat) < T.sz) with
    | false => exact h
    | true => exact ⟨h.sz, h.next, fun t => by simp only [cond_true, lk_cons, h.tmps t], h.heap⟩
theorem St.same.wr {S T : St} (h : S.same T) (q : Option (Nat × Blk)) : (S.wr q).same (T.wr q) := by
  cases q with
  | none => exact h
  | some q => exact ⟨h.sz, h.next, h.tmps, fun t => by simp only [St.wr, lk_cons, h.heap t]⟩
theorem put_respell {S : St} {d : Option Tmp} {x : SV} (h : lkD S d = some x) : (S.put d x).same S := by
  cases d with
  | none => exact St.same.refl S
  | some d =>
    simp only [St.put]
    cases decide ((d : Nat) < S.sz) with
    | false => exact St.same.refl S
    | true =>
      refine ⟨rfl, rfl, fun t => ?_, fun _ => rfl⟩
      simp only [cond_true, lk_cons]
      split
      · rename_i e; subst e; exact h.symm
      · rfl

theorem view_ev {S : St} {ts ks : List Nat} {x : Operand} (h : ∀ t, x = .tmp t → t ∈ ts) : (S.view ts ks).ev x = S.ev x := by
  cases x with
  | tmp t => exact pick_mem _ _ _ (h t rfl)
  | _ => rfl
theorem looks_op {x : Operand} (hx : x ∈ o.op.operands) : ∀ t, x = .tmp t → t ∈ looks full o := fun t e => by
  subst e
  unfold looks
  refine List.mem_append_left _ (List.mem_filterMap.2 ⟨.tmp t, by simpa using hx, rfl⟩)
theorem looks_guard {j : Nat} {want : Bool} (hg : o.guard = some (j, want)) {ks : List Nat} : lkD (S.view (looks full o) ks) (dstOf full j) = lkD S (dstOf full j) := by
  cases hd : dstOf full j with
  | none => rfl
  | some d =>
    simp only [lkD, St.view]
    refine pick_mem _ _ _ ?_
    unfold looks
    rw [hg]
    refine List.mem_append_right _ ?_
    simp only [hd, Option.toList, List.mem_singleton]

theorem te_wr (te : TE) (nm : Nat) : te.wr nm = (te.blk nm).map (·.1) := by cases te <;> rfl
theorem wok_cons {D : List Nat} {tr : List Tr} {x : Tr} {y : Ms} (hw : y.wr = (x.te.blk (base + i)).map (·.1)) (hx : x.W = [] := by rfl) (h : WOK D base (i + 1) (ms ++ [y]) tr) : WOK D base i ms (x :: tr) := by
  intro l z hz kb hkb
  cases l with
  | zero =>
    simp only [List.getElem?_cons_zero, Option.some.injEq] at hz
    subst hz
    rw [hx] at hkb
    cases hkb
  | succ l =>
    simp only [List.getElem?_cons_succ] at hz
    obtain ⟨h1, h2⟩ := h l z hz kb hkb
    refine ⟨fun y' hy' => h1 y' (List.mem_append_left _ hy'), fun l' z' c hz' hc => ?_⟩
    cases l' with
    | zero =>
      simp only [List.getElem?_cons_zero, Option.some.injEq] at hz'
      subst hz'
      exfalso
      refine h1 y (by simp) ?_
      rw [hw, show base + i = base + (i + 0) by omega, hc]
      rfl
    | succ l' =>
      simp only [List.getElem?_cons_succ] at hz'
      obtain ⟨q1, q2⟩ := h2 l' z' c hz' (by rw [← hc]; congr 1; omega)
      refine ⟨by omega, ?_⟩
      rw [show i + (l' + 1) = i + 1 + l' by omega, show i + (l + 1) = i + 1 + l by omega]
      exact q2
/-- The same state, spelt otherwise. -/
theorem St.same.trans {S T U : St} (h : S.same T) (g : T.same U) : S.same U := ⟨h.sz.trans g.sz, h.next.trans g.next, fun t => (h.tmps t).trans (g.tmps t), fun t => (h.heap t).trans (g.heap t)⟩
theorem dtodo_same {Sv : St} (hs : Sv.same S) (h : DTodo C full base sz k (o :: rest) i ms Sv) : DTodo C full base sz k (o :: rest) i ms S := by
  obtain ⟨tr, ms', S', g1, g2, gw, g3⟩ := h
  refine ⟨tr, ms', S', ?_, g2, gw, g3⟩
  match tr, ms', g1 with
  | x :: tr, y :: ms', g1 =>
    obtain ⟨⟨h1, ⟨Su, hu, h2⟩, h3, h4, h5, h6, h7, h8, h9⟩, S1, q1, q2⟩ := g1
    exact ⟨⟨h1, ⟨Su, hu.trans hs, h2⟩, h3, h4, h5, h6, h7, h8, fun kb hkb => by rw [← hs.heap]; exact h9 kb hkb⟩, S1, q1.trans ((hs.wr _).put _ _), q2⟩
/-- One operation, in words of the trace, with what is told weakly of a block. -/
theorem trok_one {te : TE} {rd pre : List Nat} {up : Bool} {ment : List Nat} {W : List (Nat × Blk)} {tr : List Tr} {ms' : List Ms} {S' : St}
    (hup : ∀ q b z, te = .upd q b z → up = true ∧ ∃ c, lk (S.view (looks full o) rd).heap q = some c) (htch : ∀ q b z, te = .tch q b z → lk (S.view (looks full o) rd).heap q = some b) (hnew : ∀ b z, te = .new b z → up = false)
    (hm : ∀ q, q ∈ te.out.names ∨ q ∈ blkNames (te.blk (base + i)) → q ∈ ment) (hWt : ∀ kb ∈ W, kb.2.nm (fun _ => false) = true ∧ ∃ b0, lk S.heap kb.1 = some b0 ∧ Imp b0 kb.2)
    (hL : LocV C full (base + i) ⟨o, true, te, S.view (looks full o) rd, W⟩)
    (h : TrOK C full base rest (i + 1) ((S.wr (te.blk (base + i))).put o.dst te.out) tr ms' S') :
    TrOK C full base (o :: rest) i S (⟨o, true, te, S.view (looks full o) rd, W⟩ :: tr) (⟨rd, pre, te.wr (base + i), up, ment⟩ :: ms') S' :=
  ⟨⟨rfl, ⟨S, St.same.refl S, rfl⟩, fun _ _ => hL, te_wr _ _, hup, htch, hnew, hm, hWt⟩, _, St.same.refl _, h⟩
/-- One operation, in words of the trace. -/
theorem dtodo_cons {te : TE} {rd pre : List Nat} {up : Bool} {ment : List Nat} {Sv : St} (hs : Sv.same S) (on : Bool)
    (hw : te.wr (base + i) = (te.blk (base + i)).map (·.1)) (hup : ∀ q b z, te = .upd q b z → up = true ∧ ∃ c, lk (Sv.view (looks full o) rd).heap q = some c) (htch : ∀ q b z, te = .tch q b z → lk (Sv.view (looks full o) rd).heap q = some b) (hnew : ∀ b z, te = .new b z → up = false)
    (hm : ∀ q, q ∈ te.out.names ∨ q ∈ blkNames (te.blk (base + i)) → q ∈ ment)
    (hL : (Sv.view (looks full o) rd).ok → (∀ q ∈ pre, q ≠ base + i) → LocV C full (base + i) ⟨o, on, te, Sv.view (looks full o) rd, []⟩)
    {S1 : St} (h1 : S1.same ((S.wr (te.blk (base + i))).put o.dst te.out)) (h : DTodo C full base sz k rest (i + 1) (ms ++ [⟨rd, pre, te.wr (base + i), up, ment⟩]) S1) : DTodo C full base sz k (o :: rest) i ms S := by
  obtain ⟨tr, ms', S', g1, g2, gw, g3⟩ := h
  refine ⟨⟨o, on, te, Sv.view (looks full o) rd, []⟩ :: tr, ⟨rd, pre, te.wr (base + i), up, ment⟩ :: ms', S', ⟨⟨rfl, ⟨Sv, hs, rfl⟩, hL, hw, hup, htch, hnew, hm, fun kb hkb => by cases hkb⟩, S1, h1, g1⟩, ?_, wok_cons (x := ⟨o, on, te, Sv.view (looks full o) rd, []⟩) (y := ⟨rd, pre, te.wr (base + i), up, ment⟩) hw rfl gw, g3⟩
  rwa [List.append_assoc, List.singleton_append] at g2
theorem te_ment (te : TE) (nm q : Nat) (h : q ∈ te.out.names ∨ q ∈ blkNames (te.blk nm)) : q ∈ te.ment := by
  cases te <;> simp only [TE.out, TE.blk, blkNames, TE.ment, List.mem_append, List.not_mem_nil, or_false] at h ⊢
  · exact h
  · exact h
  · rcases h with h | h
    · simp only [SV.names] at h; cases h
    · exact h
  · simp only [SV.names] at h; cases h

theorem acc_call {tab : TypeId → Option TI} {mem : TypeId → Addr → Option Value} {q : Op} {g : FuncId} {args : List SV} (h : effOf tab mem q S = .call g args) : accOf q S = [] := by
  cases q <;> try rfl
  · rename_i t x
    exfalso
    simp only [effOf] at h
    unfold opt1 at h
    split at h
    · unfold pLoad at h
      split at h
      · split at h <;> cases h
      · split at h
        · rename_i ii l T _ _
          cases hag : ii.k.agg <;> rw [hag] at h
          · simp only [cond_false] at h; split at h <;> cases h
          · simp only [cond_true] at h; rw [Bool.cond_eq_ite] at h; split at h <;> cases h
        · rename_i ii l T _ _
          cases hag : ii.k.agg <;> rw [hag] at h
          · simp only [cond_false] at h; split at h <;> cases h
          · simp only [cond_true] at h; rw [Bool.cond_eq_ite] at h; split at h <;> cases h
        · cases h
      · cases h
    · cases h
  · rename_i t x y
    exfalso
    simp only [effOf] at h
    unfold opt2 at h
    split at h
    · unfold pStore at h
      split at h
      · split at h
        · rw [Bool.cond_eq_ite] at h; split at h <;> cases h
        · cases h
      · cases h
    · cases h
theorem isS_view {Sv : St} {ts rd : List Nat} {q : Nat} (h : (isS (lk Sv.heap q) && memB q rd) = true) : ∃ c, lk (Sv.view ts rd).heap q = some c := by
  simp only [Bool.and_eq_true] at h
  simp only [St.view]
  rw [pick_mem _ _ _ (memB_mem _ _ h.2)]
  cases hb : lk Sv.heap q with
  | none => rw [hb] at h; exact absurd h.1 (by simp [isS])
  | some c => exact ⟨c, rfl⟩
theorem dstepK_sound (hT : TabOK C.P C.tab) (hf : ∀ ms S, f ms S → DTodo C full base sz k rest (i + 1) ms S) {Sv : St} (hs : Sv.same S)
    (hg : ∀ rd, match o.guard with | none => true = true | some (j, want) => ∃ b, lkD (Sv.view (looks full o) rd) (dstOf full j) = some (.v (.bool b)) ∧ true = sameB want b)
    (h : dstepK C f full base sz k rest i o (accOf o.op Sv) ms Sv (effOf C.tab (memOf C.tab C.w0) o.op Sv)) : DTodo C full base sz k (o :: rest) i ms S := by
  have hcong : effOf C.tab (memOf C.tab C.w0) o.op (Sv.view (looks full o) (accOf o.op Sv)) = effOf C.tab (memOf C.tab C.w0) o.op Sv :=
    effOf_congr _ _ _ (fun x hx => view_ev (looks_op hx)) fun q hq => pick_mem _ _ _ hq
  have hE := fun r a w (hR : Rel C.w0 r (Sv.view (looks full o) (accOf o.op Sv)) a w) => eff_sound (o := o) hT hR
  rw [hcong] at hE
  revert h hE
  cases heff : effOf C.tab (memOf C.tab C.w0) o.op Sv with
  | ask =>
    intro h _
    rcases h with ⟨_, h⟩ | ⟨te, rd, h1, h1', h2, h3⟩
    · exact dtodo_same hs h
    refine dtodo_cons (Sv := Sv) (te := te) hs true (te_wr _ _) (fun q b z e => ⟨by rw [e]; rfl, isS_view (h1 q b z e)⟩) (fun q b z e => (pick_mem _ _ _ (memB_mem _ _ (h1' q b z e).2)).trans (h1' q b z e).1) (fun b z e => by rw [e]; rfl) (fun q hq => te_ment _ _ _ hq) (fun hok _ => ⟨?_, fun e => (by cases e), fun _ => h2⟩) ((hs.wr _).put _ _) h3
    have := hg rd
    split at this <;> simp_all
  | ok c x =>
    intro h hE
    obtain ⟨hc, h⟩ := h
    refine dtodo_cons (Sv := Sv) (te := .val x) hs true (te_wr _ _) (fun q b z e => by cases e) (fun q b z e => by cases e) (fun b z e => by cases e) (fun q hq => te_ment (.val x) (base + i) q hq) (fun hok _ => ⟨?_, fun e => (by cases e), fun _ r a w hR K Q hK => ?_⟩) ((hs.wr _).put _ _) (hf _ _ h)
    · have := hg (accOf o.op Sv)
      split at this <;> simp_all
    · have := (hE r a w hR hc).1
      unfold Oper.wp
      rw [this]
      exact hK r w ⟨rfl, Below.refl _ _⟩
  | box l T =>
    intro h hE
    refine dtodo_cons (Sv := Sv) (te := .new (.cells l T) (.ptr (base + i) 0)) (pre := namesL l) hs true (te_wr _ _) (fun q b z e => by cases e) (fun q b z e => by cases e) (fun b z e => rfl) (fun q hq => te_ment (.new (.cells l T) (.ptr (base + i) 0)) (base + i) q hq) (fun hok hpre => ⟨?_, fun e => (by cases e), fun _ r a w hR K Q hK => ?_⟩) ((hs.wr _).put _ _) (hf _ _ h)
    · have := hg (accOf o.op Sv)
      split at this <;> simp_all
    · have := (hE r a w hR).1
      unfold Oper.wp
      rw [this]
      have hsm : Va.same (fun q => q != base + i) r (r.set (base + i) w.heap.size (w.heap.size + 1) undef none 0) := fun q hq => by
        have : ¬ q = base + i := by simpa using hq
        simp only [Va.set, if_neg this, and_self]
      have := hK (r.set (base + i) w.heap.size (w.heap.size + 1) undef none 0) (w.alloc (.cells (dens r l).toArray T)) ⟨hsm, (Below.refl _ _).alloc (Nat.le_refl _) _, by simp [Va.set], by simp [Va.set], by
        refine ⟨by simp [Va.set], ?_⟩
        rw [← dens_congr hsm l (namesL_nm _ _ fun q hq => by simpa using hpre q hq)]
        simp only [Va.set, if_pos]
        exact heap_alloc_new w _⟩
      simpa [TE.out, SV.den, Va.set, Oper.upon] using this
  | row l T n =>
    intro h hE
    refine dtodo_cons (Sv := Sv) (te := .new (.cells l T) (.slc (base + i) 0 n n)) (pre := namesL l) hs true (te_wr _ _) (fun q b z e => by cases e) (fun q b z e => by cases e) (fun b z e => rfl) (fun q hq => te_ment (.new (.cells l T) (.slc (base + i) 0 n n)) (base + i) q hq) (fun hok hpre => ⟨?_, fun e => (by cases e), fun _ r a w hR K Q hK => ?_⟩) ((hs.wr _).put _ _) (hf _ _ h)
    · have := hg (accOf o.op Sv)
      split at this <;> simp_all
    · have := (hE r a w hR).1
      unfold Oper.wp
      rw [this]
      have hsm : Va.same (fun q => q != base + i) r (r.set (base + i) w.heap.size (w.heap.size + 1) undef none 0) := fun q hq => by
        have : ¬ q = base + i := by simpa using hq
        simp only [Va.set, if_neg this, and_self]
      have := hK (r.set (base + i) w.heap.size (w.heap.size + 1) undef none 0) (w.alloc (.cells (dens r l).toArray T)) ⟨hsm, (Below.refl _ _).alloc (Nat.le_refl _) _, by simp [Va.set], by simp [Va.set], by
        refine ⟨by simp [Va.set], ?_⟩
        rw [← dens_congr hsm l (namesL_nm _ _ fun q hq => by simpa using hpre q hq)]
        simp only [Va.set, if_pos]
        exact heap_alloc_new w _⟩
      simpa [TE.out, SV.den, Va.set, Oper.upon] using this
  | upd b l T =>
    intro h hE
    obtain ⟨hc, h⟩ := h
    simp only [Bool.and_eq_true] at hc
    have hmem := memB_mem _ _ hc.2
    have hlk : ∃ c, lk (Sv.view (looks full o) (accOf o.op Sv)).heap b = some c := by
      simp only [St.view]
      rw [pick_mem _ _ _ hmem]
      cases hb : lk Sv.heap b with
      | none => rw [hb] at hc; exact absurd hc.1 (by simp [isS])
      | some c => exact ⟨c, rfl⟩
    refine dtodo_cons (Sv := Sv) (te := .upd b (.cells l T) (.tuple #[])) hs true (te_wr _ _) (fun q c z e => by cases e; exact ⟨rfl, hlk⟩) (fun q b z e => by cases e) (fun b z e => by cases e) (fun q hq => te_ment (.upd b (.cells l T) (.tuple #[])) (base + i) q hq) (fun hok _ => ⟨?_, fun e => (by cases e), fun _ r a w hR K Q hK => ?_⟩) ((hs.wr _).put _ _) (hf _ _ h)
    · have := hg (accOf o.op Sv)
      split at this <;> simp_all
    · obtain ⟨l0, w', e1, e2, e3, e4, e5, e6⟩ := hE r a w hR
      unfold Oper.wp
      rw [e3]
      obtain ⟨_, _, q3⟩ := hR.inv.blk b _ e1
      simp only [Blk.ok] at q3
      exact hK r w' ⟨rfl, e4, fun i hi => e5 i (by omega), ⟨q3.1, e6⟩⟩
  | call g args =>
    intro h hE
    obtain ⟨hc, te, rd, h1, h2, h3⟩ := h
    have hcong2 : effOf C.tab (memOf C.tab C.w0) o.op (Sv.view (looks full o) rd) = .call g args := by
      rw [effOf_congr (S := Sv) _ _ _ (fun x hx => view_ev (looks_op hx)) (fun q hq => by rw [acc_call heff] at hq; cases hq), heff]
    refine dtodo_cons (Sv := Sv) (te := te) (rd := rd) (pre := []) (up := false) (ment := te.ment) hs true (te_wr _ _) (fun q b z e => by subst e; cases h1) (fun q b z e => by subst e; cases h1) (fun _ _ _ => rfl) (fun q hq => te_ment _ _ _ hq) (fun hok _ => ⟨?_, fun e => (by cases e), fun _ r a w hR K Q hK => ?_⟩) ((hs.wr _).put _ _) h3
    · have := hg rd
      split at this <;> simp_all
    · have hR' : Rel C.w0 r (Sv.view (looks full o) rd) a w := hR
      have hE2 := eff_sound (o := o) hT hR'
      rw [hcong2] at hE2
      have := (hE2 hc).1
      unfold Oper.wp
      rw [this]
      refine Calls.mono (h2 r w hR.inv) fun e w' he => ?_
      obtain ⟨r', rfl, hch⟩ := he
      exact hK r' w' hch

theorem symD_sound (hT : TabOK C.P C.tab) : ∀ (rest : List Oper) (i : Nat) (ms : List Ms) (S : St), symD C full base sz k rest i ms S → DTodo C full base sz k rest i ms S
  | [], i, ms, S, h => by
    obtain ⟨h1, h2⟩ := h
    exact ⟨[], [], S, rfl, by rwa [List.append_nil], fun l x hx => by simp at hx, h2⟩
  | o :: rest, i, ms, S, h => by
    have ih := symD_sound hT rest (i + 1)
    simp only [symD] at h
    split at h
    · rename_i hgd
      exact dstepK_sound hT ih (St.same.refl S) (fun rd => by rw [hgd]) h
    · rename_i j want hgd
      unfold dguardK at h
      split at h
      · rename_i b hb
        cases hbw : sameB want b with
        | true =>
          have e : b = want := by cases b <;> cases want <;> first | rfl | (simp [sameB] at hbw)
          have hs : (S.put (dstOf full j) (.v (.bool want))).same S := put_respell (by rw [hb, e])
          refine dstepK_sound hT ih hs (fun rd => ?_) (h.1 hbw)
          rw [hgd]
          refine ⟨want, ?_, by cases want <;> rfl⟩
          have hb2 : lkD (S.put (dstOf full j) (.v (.bool want))) (dstOf full j) = some (.v (.bool want)) := by
            cases hd : dstOf full j with
            | none => rw [hd] at hb; cases hb
            | some d =>
              rw [hd] at hb hs
              simp only [lkD]
              rw [hs.tmps]
              simp only [lkD] at hb
              rw [hb, e]
          rw [looks_guard hgd, hb2]
        | false =>
          have e : b = !want := by cases b <;> cases want <;> first | rfl | (simp [sameB] at hbw)
          have hs : (S.put (dstOf full j) (.v (.bool (!want)))).same S := put_respell (by rw [hb, e])
          refine dtodo_cons (Sv := S) (te := .val (.v (.tuple #[]))) (rd := []) (pre := []) (up := false) (ment := []) (St.same.refl S) false (te_wr _ _) (fun q b z e => by cases e) (fun q b z e => by cases e) (fun b z e => by cases e) (fun q hq => by
              rcases hq with hq | hq
              · simp only [TE.out, SV.names] at hq; exact hq
              · simp only [TE.blk, blkNames] at hq; exact hq) (fun hok _ => ⟨?_, fun _ => rfl, fun e => by cases e⟩) (hs.put o.dst _) (ih _ _ (h.2 hbw))
          simp only [hgd]
          exact ⟨b, by rw [looks_guard hgd, hb], by rw [hbw]⟩
      · exact h

/-- A call whose result is known. -/
theorem dcall_v {g : FuncId} {args : List SV} (v : Value) (rd : List Nat) (hc : callable C.P g = true)
    (h : ∀ r w, Inv C.w0 r (pick S.heap rd) w → Calls C.P g (dens r args).toArray w (Ret w v)) (hk : DTodo C full base sz k rest (i + 1) (ms ++ [⟨rd, [], none, false, []⟩]) (S.put o.dst (.v v))) :
    DCallG C g args full base sz k rest i o ms S :=
  ⟨hc, .val (.v v), rd, rfl, fun r w hI => Calls.mono (h r w hI) fun _ _ he => ⟨r, he.1, rfl, he.2⟩, hk⟩
/-- A call whose result lies in memory of its own. -/
theorem dcall_f {g : FuncId} {args : List SV} (x : SV) (p : Value → World → Prop) (rd : List Nat) (hc : callable C.P g = true)
    (h : ∀ r w, Inv C.w0 r (pick S.heap rd) w → Calls C.P g (dens r args).toArray w fun e w' => ∃ u sa sc, e = .returned (x.den (r.set (base + i) w.heap.size w'.heap.size u sa sc)) ∧ Below w.heap.size w w' ∧
      ∀ w2 : World, w'.heap.size ≤ w2.heap.size → (∀ b, b < C.w0.heap.size ∨ (w.heap.size ≤ b ∧ b < w'.heap.size) → w2.heap[b]? = w'.heap[b]?) → p u w2)
    (hk : DTodo C full base sz k rest (i + 1) (ms ++ [⟨rd, [], some (base + i), false, x.names ++ []⟩]) ({ S with heap := (base + i, .fact p) :: S.heap }.put o.dst x)) :
    DCallG C g args full base sz k rest i o ms S := by
  refine ⟨hc, .new (.fact p) x, rd, rfl, fun r w hI => Calls.mono (h r w hI) fun e w' he => ?_, hk⟩
  obtain ⟨u, sa, sc, rfl, hb, hp⟩ := he
  refine ⟨_, rfl, fun q hq => ?_, hb, by simp [Va.set], by simp [Va.set], fun w2 h1 h2 => ?_⟩
  · have : ¬ q = base + i := by simpa using hq
    simp only [Va.set, if_neg this, and_self]
  · simp only [Va.set, if_pos] at h2 ⊢
    exact hp w2 h1 h2
/-- A call whose result lies in a block of its own, of which the head is told. -/
theorem dcall_b {g : FuncId} {args : List SV} (x : SV) (l : List SV) (T : TypeId) (rd : List Nat) (hc : callable C.P g = true) (hl : namesL l = [])
    (h : ∀ r w, Inv C.w0 r (pick S.heap rd) w → Calls C.P g (dens r args).toArray w fun e w' => ∃ (q : Nat) (sc : Nat) (c : Array Value), e = .returned (x.den (r.set (base + i) q (q + 1) undef none sc)) ∧ Below w.heap.size w w' ∧ w.heap.size ≤ q ∧
      w'.heap[q]? = some (.cells c T (0, 0)) ∧ c.toList.take l.length = dens r l)
    (hk : DTodo C full base sz k rest (i + 1) (ms ++ [⟨rd, [], some (base + i), false, x.names ++ namesL l⟩]) ({ S with heap := (base + i, .pre l T) :: S.heap }.put o.dst x)) :
    DCallG C g args full base sz k rest i o ms S := by
  refine ⟨hc, .new (.pre l T) x, rd, rfl, fun r w hI => Calls.mono (h r w hI) fun e w' he => ?_, hk⟩
  obtain ⟨q, sc, c, rfl, hb, hg, h1, h2⟩ := he
  have hlt : q < w'.heap.size := (Array.getElem?_eq_some_iff.1 h1).1
  have hsm : Va.same (fun z => z != base + i) r (r.set (base + i) q (q + 1) undef none sc) := fun z hz => by
    have : ¬ z = base + i := by simpa using hz
    simp only [Va.set, if_neg this, and_self]
  refine ⟨_, rfl, hsm, hb, by simp [Va.set]; exact hg, by simp [Va.set]; omega, by simp [Va.set], c, by simpa [Va.set] using h1, ?_⟩
  rw [h2, dens_congr hsm l (namesL_nm _ _ fun z hz => by rw [hl] at hz; cases hz)]
/-- An operation that only looks, by hand. -/
theorem dask_v (x : SV) (rd : List Nat) (h : ∀ r a w, Rel C.w0 r (S.view (looks full o) rd) a w → ∃ w', (execOp a.eval o).run C.P w = .ok (.value (x.den r)) w' ∧ Below w.heap.size w w')
    (hk : DTodo C full base sz k rest (i + 1) (ms ++ [⟨rd, [], none, false, x.names⟩]) (S.put o.dst x)) : DAskG C full base sz k rest i o ms S := by
  refine .inr ⟨.val x, rd, fun q b z e => (by cases e), fun q b z e => (by cases e), fun r a w hR K Q hK => ?_, hk⟩
  obtain ⟨w', h1, h2⟩ := h r a w hR
  unfold Oper.wp
  rw [h1]
  exact hK r w' ⟨rfl, h2⟩
theorem draw_sym (hT : TabOK C.P C.tab) (hm : C.P.follows .mixedOrders = true) {id : Nat} {arr : Array Oper} (h : symD C arr.toList S.next S.sz k arr.toList 0 [] { S with next := S.next + arr.size }) : DrawG C id arr k S :=
  draw_todo hm (symD_sound hT _ _ _ _ h)
end
end Go.Proofs.Ytpoiebkcjehheaa
