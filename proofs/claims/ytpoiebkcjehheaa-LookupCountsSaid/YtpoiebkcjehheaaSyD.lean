/- A symbolic walk, part D: the machine that walks, and that what it shows is so of the model. -/
import Derived.Test.YtpoiebkcjehheaaSyC
namespace Go.Proofs.Ytpoiebkcjehheaa
open Go.RowKit

/-- What a walk is about: a program, its types, the world at the call, the function, what is to be shown of it. -/
structure Cx where
  P : Program
  tab : TypeId → Option TI
  w0 : World
  fn : Func
  rs : List ResultVar
  R : Ending → World → Prop
  V : SV → St → Prop

/-- What is left to be done. -/
inductive Item where
  | code (c : Code)
  | blk (id : Nat)
  | ops (arr : Array Oper) (rest : List Oper)
  | back (R : St → Prop)

def popTo (id : Nat) : List Item → Option (List Item)
  | [] => none
  | .blk i :: k => bif i == id then some k else popTo id k
  | .code _ :: k => popTo id k
  | .ops _ _ :: k => popTo id k
  | .back _ :: k => popTo id k

mutual
def norm (C : Cx) : List Item → Act → World → Prop
  | [], a, w => bodyPost C.P C.fn C.R .ret a w
  | .code c :: k, a, w => c.wp C.P (exits C k) a w
  | .blk _ :: k, a, w => norm C k a w
  | .ops arr rest :: k, a, w => wpList C.P arr (exits C k) rest a w
  | .back R :: _, a, w => ∃ r S, R S ∧ Rel C.w0 r S a w
termination_by k => (k.length, 0)
def exits (C : Cx) (k : List Item) : Exit → Act → World → Prop
  | .normal, a, w => norm C k a w
  | .exit id, a, w => exitN C id k a w
  | .ret, a, w => bodyPost C.P C.fn C.R .ret a w
  | _, _, _ => False
termination_by (k.length, 2)
def exitN (C : Cx) (id : Nat) (k : List Item) (a : Act) (w : World) : Prop :=
  match k with
  | [] => False
  | .blk i :: k => if i = id then norm C k a w else exitN C id k a w
  | .code _ :: k => exitN C id k a w
  | .ops _ _ :: k => exitN C id k a w
  | .back _ :: k => exitN C id k a w
termination_by (k.length, 1)
end

/-- What is left to be done is done well from every world that fits the state. -/
def Todo (C : Cx) (k : List Item) (S : St) : Prop := ∀ r a w, Rel C.w0 r S a w → norm C k a w

/-- The end of a walk. -/
def FinG (C : Cx) (S : St) : Prop := ∀ r a w, Rel C.w0 r S a w → bodyPost C.P C.fn C.R .ret a w

/-- One operation, by the model's own words. -/
def AskG (C : Cx) (o : Oper) (arr : Array Oper) (rest : List Oper) (k : List Item) (S : St) : Prop :=
  ∀ r a w, Rel C.w0 r S a w → o.wp C.P a w (norm C (.ops arr rest :: k)) (exits C k)

/-- A call. -/
def CallG (C : Cx) (f : FuncId) (args : List SV) (dst : Option Tmp) (arr : Array Oper) (rest : List Oper) (k : List Item) (S : St) : Prop :=
  callable C.P f = true ∧ ∀ r a w, Rel C.w0 r S a w → Calls C.P f (dens r args).toArray w fun e w' => ∃ v, e = .returned v ∧ norm C (.ops arr rest :: k) (a.put dst v) w'

/-- A region that draws its order. -/
def DrawG (C : Cx) (id : Nat) (ops : Array Oper) (k : List Item) (S : St) : Prop := ∀ r a w, Rel C.w0 r S a w → (Code.region id ops true).wp C.P (exits C k) a w

/-- A loop, or another form of code. -/
def CodeG (C : Cx) (c : Code) (k : List Item) (S : St) : Prop := ∀ r a w, Rel C.w0 r S a w → c.wp C.P (exits C k) a w

/-- Two ways. -/
inductive Tg (p q : Prop) : Type where
  | mk
inductive Tp (p : St → Prop) (q : Prop) : Type where
  | mk
/-- (The tag keeps the simplifier out of both ways until the test is decided.) -/
def Br (b : Bool) (p q : Prop) (_ : Tg p q) : Prop := (b = true → p) ∧ (b = false → q)
theorem Br_true (p q : Prop) (t : Tg p q) : Br true p q t = p := by simp [Br]
theorem Br_false (p q : Prop) (t : Tg p q) : Br false p q t = q := by simp [Br]

/-- The results. -/
def resOf (tab : TypeId → Option TI) (S : St) : List ResultVar → Option (List SV)
  | [] => some []
  | .tmp t :: l => match lk S.tmps t, resOf tab S l with | some x, some r => some (x :: r) | _, _ => none
  | .cell a t :: l =>
    match lk S.tmps a with
    | some (.ptr k o) => match pLoad (fun _ => none) (tab t) S.heap (.ptr k o), resOf tab S l with | .ok _ x, some r => some (x :: r) | _, _ => none
    | _ => none

/-- What the context asks at the end is enough. -/
def Cx.VOK (C : Cx) : Prop := ∀ x S, C.V x S → ∀ r w, Inv C.w0 r S.heap w → C.R (.returned (x.den r)) w

def finK (C : Cx) (S : St) (l : Option (List SV)) : Prop :=
  match l with
  | some [x] => C.V x S
  | some l => C.V (.tup l) S
  | none => FinG C S

def stepK (C : Cx) (f : List Item → St → Prop) (e : Eff) (o : Oper) (arr : Array Oper) (rest : List Oper) (k : List Item) (S : St) : Prop :=
  match e with
  | .ask => AskG C o arr rest k S
  | .ok c x => c ∧ f (.ops arr rest :: k) (S.put o.dst x)
  | .box l T => f (.ops arr rest :: k) ({ S with heap := (S.next, .cells l T) :: S.heap, next := S.next + 1 }.put o.dst (.ptr S.next 0))
  | .row l T n => f (.ops arr rest :: k) ({ S with heap := (S.next, .cells l T) :: S.heap, next := S.next + 1 }.put o.dst (.slc S.next 0 n n))
  | .upd b l T => f (.ops arr rest :: k) ({ S with heap := (b, .cells l T) :: S.heap }.put o.dst (.v (.tuple #[])))
  | .call g args => CallG C g args o.dst arr rest k S

def dstOf : List Oper → Nat → Option Tmp
  | [], _ => none
  | o :: _, 0 => o.dst
  | _ :: l, j + 1 => dstOf l j
def lkD (S : St) (d : Option Tmp) : Option SV := match d with | some d => lk S.tmps d | none => none

def sameB : Bool → Bool → Bool
  | true, b => b
  | false, b => !b

def guardK (f : List Item → St → Prop) (d : Option Tmp) (g : Option SV) (want : Bool) (o : Oper) (arr : Array Oper) (rest : List Oper) (k : List Item) (S : St) (p : St → Prop) (q : Prop) (_ : Tp p q) : Prop :=
  match g with
  | some (.v (.bool b)) => Br (sameB want b) (p (S.put d (.v (.bool want)))) (f (.ops arr rest :: k) ((S.put d (.v (.bool (!want)))).put o.dst (.v (.tuple #[])))) .mk
  | _ => q

def condK (f : List Item → St → Prop) (c : Option SV) (x y : Code) (k : List Item) (S : St) (q : Prop) : Prop :=
  match c with
  | some (.v (.bool b)) => Br b (f (.code x :: k) S) (f (.code y :: k) S) .mk
  | _ => q

def popK (f : List Item → St → Prop) (k : Option (List Item)) (S : St) : Prop :=
  match k with
  | some k => f k S
  | none => False

section
variable {C : Cx} {f : List Item → St → Prop} {o : Oper} {arr : Array Oper} {rest : List Oper} {k : List Item} {S : St}
theorem stepK_ask : stepK C f .ask o arr rest k S = AskG C o arr rest k S := rfl
theorem stepK_ok (c : Prop) (x : SV) : stepK C f (.ok c x) o arr rest k S = (c ∧ f (.ops arr rest :: k) (S.put o.dst x)) := rfl
theorem stepK_box (l : List SV) (T : TypeId) : stepK C f (.box l T) o arr rest k S = f (.ops arr rest :: k) ({ S with heap := (S.next, .cells l T) :: S.heap, next := S.next + 1 }.put o.dst (.ptr S.next 0)) := rfl
theorem stepK_row (l : List SV) (T : TypeId) (n : Nat) : stepK C f (.row l T n) o arr rest k S = f (.ops arr rest :: k) ({ S with heap := (S.next, .cells l T) :: S.heap, next := S.next + 1 }.put o.dst (.slc S.next 0 n n)) := rfl
theorem stepK_upd (b : Nat) (l : List SV) (T : TypeId) : stepK C f (.upd b l T) o arr rest k S = f (.ops arr rest :: k) ({ S with heap := (b, .cells l T) :: S.heap }.put o.dst (.v (.tuple #[]))) := rfl
theorem stepK_call (g : FuncId) (args : List SV) : stepK C f (.call g args) o arr rest k S = CallG C g args o.dst arr rest k S := rfl
theorem guardK_some (d : Option Tmp) (b want : Bool) (p : St → Prop) (q : Prop) (t : Tp p q) : guardK f d (some (.v (.bool b))) want o arr rest k S p q t =
    Br (sameB want b) (p (S.put d (.v (.bool want)))) (f (.ops arr rest :: k) ((S.put d (.v (.bool (!want)))).put o.dst (.v (.tuple #[])))) .mk := rfl
theorem condK_some (b : Bool) (x y : Code) (q : Prop) : condK f (some (.v (.bool b))) x y k S q = Br b (f (.code x :: k) S) (f (.code y :: k) S) .mk := rfl
theorem popK_some : popK f (some k) S = f k S := rfl
theorem finK_one (x : SV) : finK C S (some [x]) = C.V x S := rfl
theorem finK_nil : finK C S (some []) = C.V (.tup []) S := rfl
theorem finK_more (x y : SV) (l : List SV) : finK C S (some (x :: y :: l)) = C.V (.tup (x :: y :: l)) S := rfl
end

def sym (C : Cx) : Nat → List Item → St → Prop
  | 0, k, S => Todo C k S
  | _ + 1, [], S => finK C S (resOf C.tab S C.rs)
  | n + 1, .code c :: k, S =>
    match c with
    | .skip => sym C n k S
    | .region id ops d => bif d then DrawG C id ops k S else sym C n (.ops ops ops.toList :: k) S
    | .seq x y => sym C n (.code x :: .code y :: k) S
    | .cond x t e => condK (sym C n) (S.ev x) t e k S (CodeG C c k S)
    | .block id x => sym C n (.code x :: .blk id :: k) S
    | .exit id => popK (sym C n) (popTo id k) S
    | .ret => finK C S (resOf C.tab S C.rs)
    | _ => CodeG C c k S
  | n + 1, .blk _ :: k, S => sym C n k S
  | n + 1, .ops _ [] :: k, S => sym C n k S
  | n + 1, .ops arr (o :: rest) :: k, S =>
    match o.guard with
    | none => stepK C (sym C n) (effOf C.tab (memOf C.tab C.w0) o.op S) o arr rest k S
    | some (j, want) => guardK (sym C n) (dstOf arr.toList j) (lkD S (dstOf arr.toList j)) want o arr rest k S (fun S => stepK C (sym C n) (effOf C.tab (memOf C.tab C.w0) o.op S) o arr rest k S) (Todo C (.ops arr (o :: rest) :: k) S) .mk
  | _ + 1, .back R :: _, S => R S

theorem exits_pop (C : Cx) (id : Nat) (a : Act) (w : World) : ∀ (k k' : List Item), popTo id k = some k' → norm C k' a w → exitN C id k a w
  | [], _, h, _ => by simp only [popTo] at h; cases h
  | .blk i :: k, k', h, hn => by
    simp only [popTo] at h
    unfold exitN
    by_cases e : i = id
    · subst e
      simp only [beq_self_eq_true, cond_true, Option.some.injEq] at h
      rw [if_pos rfl, h]
      exact hn
    · have : (i == id) = false := by simpa using e
      rw [this] at h
      rw [if_neg e]
      exact exits_pop C id a w k k' h hn
  | .code _ :: k, k', h, hn => by simp only [popTo] at h; unfold exitN; exact exits_pop C id a w k k' h hn
  | .ops _ _ :: k, k', h, hn => by simp only [popTo] at h; unfold exitN; exact exits_pop C id a w k k' h hn
  | .back _ :: k, k', h, hn => by simp only [popTo] at h; unfold exitN; exact exits_pop C id a w k k' h hn

section
variable {C : Cx}
theorem exits_then (x : Code) (k : List Item) (e : Exit) (a : Act) (w : World) (h : exits C (.code x :: k) e a w) : Exit.then (x.wp C.P (exits C k)) (exits C k) e a w := by
  cases e with
  | normal => simp only [exits, norm] at h; exact h
  | exit id => unfold exits at h; unfold exitN at h; show exits C k (.exit id) a w; unfold exits; exact h
  | ret => unfold exits at h; show exits C k .ret a w; unfold exits; exact h
  | _ => unfold exits at h; exact h.elim
theorem exits_block (id : Nat) (k : List Item) (e : Exit) (a : Act) (w : World) (h : exits C (.blk id :: k) e a w) : Exit.inBlock id (exits C k) e a w := by
  cases e with
  | normal => simp only [exits, norm] at h; show exits C k .normal a w; unfold exits; exact h
  | exit i =>
    unfold exits at h; unfold exitN at h
    simp only [Exit.inBlock]
    by_cases hi : id = i
    · subst hi; rw [if_pos rfl] at h ⊢; unfold exits; exact h
    · rw [if_neg hi] at h; rw [if_neg (fun e => hi e.symm)]; unfold exits; exact h
  | ret => unfold exits at h; show exits C k .ret a w; unfold exits; exact h
  | _ => unfold exits at h; exact h.elim

theorem stepK_sound (hT : TabOK C.P C.tab) {f : List Item → St → Prop} (hf : ∀ k S, f k S → Todo C k S) {o : Oper} {arr : Array Oper} {rest : List Oper} {k : List Item} {S : St}
    (h : stepK C f (effOf C.tab (memOf C.tab C.w0) o.op S) o arr rest k S) : AskG C o arr rest k S := by
  intro r a w hR
  have he := eff_sound (o := o) hT hR
  revert h he
  cases effOf C.tab (memOf C.tab C.w0) o.op S with
  | ask => intro h _; exact h r a w hR
  | ok c x =>
    intro h he
    obtain ⟨hc, h⟩ := h
    obtain ⟨h1, h2⟩ := he hc
    unfold Oper.wp
    rw [h1]
    exact hf _ _ h r _ w (hR.put o.dst h2)
  | box l T =>
    intro h he
    obtain ⟨h1, h2⟩ := he
    unfold Oper.wp
    rw [h1]
    have hr := hR.add (r' := r.set S.next w.heap.size (w.heap.size + 1) undef none 0) (b := .cells l T) ((Below.refl _ _).alloc (Nat.le_refl _) _) (Va.set_same r S.next w.heap.size (w.heap.size + 1) undef none 0)
      (nms_mono (lt_mono (Nat.le_succ _)) _ h2) (by simp [Va.set]) (by simp [Va.set]) (by
        refine ⟨by simp [Va.set], ?_⟩
        rw [← dens_congr (Va.set_same r S.next w.heap.size (w.heap.size + 1) undef none 0) l h2]
        simp only [Va.set, if_pos]
        exact heap_alloc_new w _)
    have := hf _ _ h _ _ _ (hr.put o.dst (x := .ptr S.next 0) (by simp [SV.nm, lt]))
    simpa [SV.den, Va.set, Oper.upon] using this
  | row l T n =>
    intro h he
    obtain ⟨h1, h2⟩ := he
    unfold Oper.wp
    rw [h1]
    have hr := hR.add (r' := r.set S.next w.heap.size (w.heap.size + 1) undef none 0) (b := .cells l T) ((Below.refl _ _).alloc (Nat.le_refl _) _) (Va.set_same r S.next w.heap.size (w.heap.size + 1) undef none 0)
      (nms_mono (lt_mono (Nat.le_succ _)) _ h2) (by simp [Va.set]) (by simp [Va.set]) (by
        refine ⟨by simp [Va.set], ?_⟩
        rw [← dens_congr (Va.set_same r S.next w.heap.size (w.heap.size + 1) undef none 0) l h2]
        simp only [Va.set, if_pos]
        exact heap_alloc_new w _)
    have := hf _ _ h _ _ _ (hr.put o.dst (x := .slc S.next 0 n n) (by simp [SV.nm, lt]))
    simpa [SV.den, Va.set, Oper.upon] using this
  | upd b l T =>
    intro h he
    obtain ⟨l0, w', e1, e2, e3, e4, e5, e6⟩ := he
    unfold Oper.wp
    rw [e3]
    obtain ⟨_, _, q3⟩ := hR.inv.blk b _ e1
    simp only [Blk.ok] at q3
    have hr := hR.upd (b' := .cells l T) e1 e4 (fun i hi => e5 i (by omega)) e2 ⟨q3.1, e6⟩
    have := hf _ _ h _ _ _ (hr.put o.dst (x := .v (.tuple #[])) (by simp [SV.nm]))
    simpa [SV.den, Oper.upon, undef] using this
  | call g args =>
    intro h he
    obtain ⟨hc, h⟩ := h
    obtain ⟨h1, _⟩ := he hc
    unfold Oper.wp
    rw [h1]
    refine Calls.mono (h r a w hR) fun e w' he => ?_
    obtain ⟨v, rfl, hv⟩ := he
    exact hv

theorem dstOf_eq : ∀ (l : List Oper) (j : Nat), dstOf l j = (l[j]?).bind (·.dst)
  | [], j => by simp only [dstOf, List.getElem?_nil, Option.bind_none]
  | o :: l, 0 => by simp only [dstOf, List.getElem?_cons_zero, Option.bind_some]
  | o :: l, j + 1 => by simp only [dstOf, List.getElem?_cons_succ, dstOf_eq l j]
/-- A temporary's value spelt otherwise. -/
theorem Rel.respell {w0 : World} {r : Va} {S : St} {a : Act} {w : World} (h : Rel w0 r S a w) {d : Option Tmp} {x y : SV} (hx : lkD S d = some x) (e : x.den r = y.den r) (hy : y.nm (lt S.next) = true) :
    Rel w0 r (S.put d y) a w := by
  cases d with
  | none => exact h
  | some d =>
    have h1 := h.put (some d) hy
    have h2 : a.put (some d) (y.den r) = a := by
      obtain ⟨t, ds⟩ := a
      have := h.tmps d x hx
      simp only at this
      simp only [Act.put]
      congr 1
      by_cases hd : d < t.size
      · apply Array.ext_getElem?
        intro i
        rw [Array.getElem?_setIfInBounds]
        split
        · rename_i e2; subst e2
          rw [← e, ← this]
          simp [hd]
        · rfl
      · exact Array.setIfInBounds_eq_of_size_le (Nat.le_of_not_lt hd)
    rw [h2] at h1
    exact h1
def resAct (tmps : Array Value) : ResultVar → Sem Value
  | .tmp t => pure (tmps.getD t undef)
  | .cell a t => do loadVar t (← asAddr (tmps.getD a undef))
theorem results_eq (fn : Func) (tmps : Array Value) : results fn tmps = (do
    let vs ← fn.results.mapM (resAct tmps)
    pure (if h : vs.size = 1 then vs[0] else .tuple vs)) := by
  unfold results
  congr 1
theorem run_resOf (hT : TabOK C.P C.tab) {r : Va} {S : St} {a : Act} {w : World} (hR : Rel C.w0 r S a w) : ∀ (l : List ResultVar) (x : List SV), resOf C.tab S l = some x →
    (l.mapM (resAct a.tmps)).run C.P w = .ok (dens r x) w
  | [], x, h => by simp only [resOf, Option.some.injEq] at h; subst h; simp [dens]
  | .tmp t :: l, x, h => by
    simp only [resOf] at h
    split at h
    · rename_i y z hy hz
      simp only [Option.some.injEq] at h; subst h
      have ih := run_resOf hT hR l z hz
      have := hR.tmps t y hy
      have e : ∀ w, (resAct a.tmps (.tmp t)).run C.P w = .ok (y.den r) w := fun w => by simp only [resAct, this, Sem.run_pure]
      simp only [List.mapM_cons, Sem.run_bind, Sem.run_pure, Result.andThen_ok, e, ih, dens]
    · cases h
  | .cell b t :: l, x, h => by
    simp only [resOf] at h
    split at h
    · rename_i k of hp
      split at h
      · rename_i c y z hy hz
        simp only [Option.some.injEq] at h; subst h
        have ih := run_resOf hT hR l z hz
        have hb := hR.tmps b _ hp
        have hE := eff_load (o := ⟨none, .load t (.tmp b), 0, "", #[], none⟩) hT hR (t := t) (x := .tmp b) rfl
        have hy2 : pLoad (memOf C.tab C.w0 t) (C.tab t) S.heap (.ptr k of) = .ok c y := hy
        simp only [effOf, St.ev, hp, opt1, hy2] at hE
        have hcT : c := by
          simp only [pLoad] at hy
          split at hy
          · rename_i i l' T' _ _
            cases hag : i.k.agg <;> rw [hag] at hy
            · simp only [cond_false] at hy
              split at hy
              · simp only [Eff.ok.injEq] at hy; exact hy.1 ▸ trivial
              · cases hy
            · simp only [cond_true] at hy
              rw [Bool.cond_eq_ite] at hy
              split at hy
              · simp only [Eff.ok.injEq] at hy; exact hy.1 ▸ trivial
              · cases hy
          · rename_i i l' T' _ _
            cases hag : i.k.agg <;> rw [hag] at hy
            · simp only [cond_false] at hy
              split at hy
              · simp only [Eff.ok.injEq] at hy; exact hy.1 ▸ trivial
              · cases hy
            · simp only [cond_true] at hy
              rw [Bool.cond_eq_ite] at hy
              split at hy
              · simp only [Eff.ok.injEq] at hy; exact hy.1 ▸ trivial
              · cases hy
          · cases hy
        have hrun := (hE hcT).1
        simp only [execOp, Act.eval, hb, SV.den, Instr.loadAt, Instr.sureAddr, Sem.run_bind, Sem.run_pure, Result.andThen_ok] at hrun
        have e : (resAct a.tmps (.cell b t)).run C.P w = (loadVar t ⟨r.lo k, of, none⟩).run C.P w := by simp only [resAct, hb, SV.den, asAddr, Sem.run_bind, Sem.run_pure, Result.andThen_ok]
        cases hl : (loadVar t ⟨r.lo k, of, none⟩).run C.P w with
        | halt q w' => rw [hl] at hrun; simp at hrun
        | ok q w' =>
          rw [hl] at hrun
          simp only [Result.andThen_ok, Result.ok.injEq, Next.value.injEq] at hrun
          obtain ⟨rfl, rfl⟩ := hrun
          simp only [List.mapM_cons, Sem.run_bind, e, hl, Sem.run_pure, Result.andThen_ok, ih, dens]
      · cases h
    · cases h
theorem fin_sound (hT : TabOK C.P C.tab) (hrs : C.fn.results.toList = C.rs) (hV : C.VOK) {S : St} (h : finK C S (resOf C.tab S C.rs)) : FinG C S := by
  unfold finK at h
  split at h
  · rename_i x hx
    intro r a w hR
    have := run_resOf hT hR _ _ hx
    refine bodyPost_ret (v := x.den r) ?_ hR.defers (hV _ _ h r w hR.inv)
    rw [← hrs] at this
    simp only [results_eq, Array.mapM_eq_mapM_toList, Sem.run_bind, Sem.run_map, this, Result.andThen_ok, dens]
    simp
  · rename_i l hl hx
    intro r a w hR
    have := run_resOf hT hR _ _ hx
    refine bodyPost_ret (v := (SV.tup l).den r) ?_ hR.defers (hV _ _ h r w hR.inv)
    rw [← hrs] at this
    simp only [results_eq, Array.mapM_eq_mapM_toList, Sem.run_bind, Sem.run_map, this, Result.andThen_ok]
    have hne : ¬ (dens r l).length = 1 := by
      rw [dens_length]
      intro e
      obtain ⟨x, rfl⟩ := List.length_eq_one_iff.1 e
      exact hl x rfl
    simp [hne, SV.den]
  · exact h

theorem sym_sound (hT : TabOK C.P C.tab) (hrs : C.fn.results.toList = C.rs) (hV : C.VOK) : ∀ (n : Nat) (k : List Item) (S : St), sym C n k S → Todo C k S
  | 0, k, S, h => h
  | n + 1, [], S, h => fun r a w hR => by unfold norm; exact fin_sound hT hrs hV h r a w hR
  | n + 1, .blk i :: k, S, h => fun r a w hR => by
    unfold norm
    simp only [sym] at h
    exact sym_sound hT hrs hV n k S h r a w hR
  | n + 1, .back R :: k, S, h => fun r a w hR => by
    unfold norm
    exact ⟨r, S, h, hR⟩
  | n + 1, .ops arr [] :: k, S, h => fun r a w hR => by
    unfold norm
    simp only [sym] at h
    apply wpList_nil
    unfold exits
    exact sym_sound hT hrs hV n k S h r a w hR
  | n + 1, .ops arr (o :: rest) :: k, S, h => fun r a w hR => by
    simp only [sym] at h
    have ih := sym_sound hT hrs hV n
    have take : ∀ S, Rel C.w0 r S a w → Region.wanted o (yielded arr a.tmps) = true → stepK C (sym C n) (effOf C.tab (memOf C.tab C.w0) o.op S) o arr rest k S → norm C (.ops arr (o :: rest) :: k) a w := by
      intro S hR hw h
      have := stepK_sound hT ih h r a w hR
      have e : norm C (.ops arr rest :: k) = wpList C.P arr (exits C k) rest := by funext a w; unfold norm; rfl
      rw [e] at this
      unfold norm
      unfold wpList
      rw [if_pos hw]
      exact .inl this
    split at h
    · rename_i hg
      exact take S hR (by simp [Region.wanted, hg]) h
    · rename_i j want hg
      unfold guardK at h
      split at h
      · rename_i b hb
        have hd : dstOf arr.toList j = (arr[j]?).bind (·.dst) := by rw [dstOf_eq, Array.getElem?_toList]
        have hy : yielded arr a.tmps j = some b := by
          rw [hd] at hb
          unfold yielded
          cases hd : (arr[j]?).bind (·.dst) with
          | none => rw [hd] at hb; simp [lkD] at hb
          | some d =>
            rw [hd] at hb
            simp only [lkD] at hb
            simp only [Option.bind_some]
            have h1 := hR.tmps d _ hb
            simp only [SV.den] at h1
            rw [Array.getD_eq_getD_getElem?] at h1
            cases hx : a.tmps[d]? with
            | none => rw [hx] at h1; simp [undef] at h1
            | some v => rw [hx] at h1; simp only [Option.getD_some] at h1; subst h1; rfl
        cases hbw : sameB want b with
        | true =>
          have e : b = want := by cases b <;> cases want <;> first | rfl | (simp [sameB] at hbw)
          exact take _ (hR.respell hb (by simp only [SV.den, e]) (by simp only [SV.nm])) (by simp [Region.wanted, hg, hy, e]) (h.1 hbw)
        | false =>
          have e : b = !want := by cases b <;> cases want <;> first | rfl | (simp [sameB] at hbw)
          have hr := hR.respell (y := .v (.bool (!want))) hb (by simp only [SV.den, e]) (by simp only [SV.nm])
          have h2 := ih _ _ (h.2 hbw) _ _ _ (hr.put o.dst (x := .v (.tuple #[])) (by simp only [SV.nm]))
          unfold norm at h2 ⊢
          unfold wpList
          rw [if_neg (by simp [Region.wanted, hg, hy, e])]
          exact h2
      · exact h r a w hR
  | n + 1, .code c :: k, S, h => fun r a w hR => by
    have ih := sym_sound hT hrs hV n
    unfold norm
    cases c with
    | skip =>
      simp only [sym] at h
      apply wp_skip
      unfold exits
      exact ih _ _ h r a w hR
    | region id ops d =>
      simp only [sym] at h
      cases d with
      | true => exact h r a w hR
      | false =>
        simp only [cond_false] at h
        apply wp_region_list
        have := ih _ _ h r a w hR
        unfold norm at this
        exact this
    | seq x y =>
      simp only [sym] at h
      apply wp_seq
      have := ih _ _ h r a w hR
      unfold norm at this
      exact wp_mono this fun e a w h => exits_then y k e a w h
    | cond x t e =>
      simp only [sym] at h
      unfold condK at h
      split at h
      · rename_i b hb
        have hx := (hR.ev hb).1
        simp only [SV.den] at hx
        refine wp_cond hx ?_
        cases b with
        | true =>
          have := ih _ _ (h.1 rfl) r a w hR
          unfold norm at this
          exact this
        | false =>
          have := ih _ _ (h.2 rfl) r a w hR
          unfold norm at this
          exact this
      · exact h r a w hR
    | block id x =>
      simp only [sym] at h
      apply wp_block
      have := ih _ _ h r a w hR
      unfold norm at this
      exact wp_mono this fun e a w h => exits_block id k e a w h
    | exit id =>
      simp only [sym] at h
      unfold popK at h
      split at h
      · rename_i k' hk
        apply wp_exit
        unfold exits
        exact exits_pop C id a w k k' hk (ih _ _ h r a w hR)
      · exact h.elim
    | ret =>
      simp only [sym] at h
      apply wp_ret
      unfold exits
      exact fin_sound hT hrs hV h r a w hR
    | _ => exact h r a w hR
end
end Go.Proofs.Ytpoiebkcjehheaa
