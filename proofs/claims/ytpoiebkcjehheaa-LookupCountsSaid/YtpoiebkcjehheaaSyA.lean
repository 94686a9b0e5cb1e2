/- A symbolic walk, part A: symbolic values, what they denote, symbolic memory, and when a world fits it. No program in sight. -/
import Derived.Below
import Derived.Orders
import Derived.KernelRfl
import Derived.Laws.AppendOwn
import Derived.Laws.Entries
import Derived.Laws.Cells
namespace Go.Proofs.Ytpoiebkcjehheaa
open Go.RowKit

/-- A symbolic value: a value as it is, or one that names blocks of the call's own. -/
inductive SV where
  | v (x : Value)
  | ptr (k o : Nat)
  | slc (k o len cap : Nat)
  | usl (k len : Nat)
  | slu (k o len : Nat)
  | mp (k : Nat)
  | unk (k : Nat)
  | ifc (t : TypeId) (x : SV)
  | agg (l : List SV)
  | tup (l : List SV)
  | fn (f : Fn) (first cap : List SV)

/-- What the names stand for. -/
structure Va where
  lo : Nat → Nat
  hi : Nat → Nat
  u : Nat → Value
  sa : Nat → Option Addr
  sc : Nat → Nat

mutual
def SV.den (r : Va) : SV → Value
  | .v x => x
  | .ptr k o => .pointer (some ⟨r.lo k, o, none⟩)
  | .slc k o len cap => .slice (some ⟨r.lo k, o, none⟩) len cap
  | .usl k len => .slice (r.sa k) len (r.sc k)
  | .slu k o len => .slice (some ⟨r.lo k, o, none⟩) len (r.sc k)
  | .mp k => .map (some (r.lo k))
  | .unk k => r.u k
  | .ifc t x => .iface t (x.den r)
  | .agg l => .agg (dens r l).toArray
  | .tup l => .tuple (dens r l).toArray
  | .fn f a b => .func f (dens r a).toArray (dens r b).toArray
def dens (r : Va) : List SV → List Value
  | [] => []
  | x :: l => x.den r :: dens r l
end

mutual
def SV.nm (p : Nat → Bool) : SV → Bool
  | .v _ => true
  | .ptr k _ => p k
  | .slc k _ _ _ => p k
  | .usl k _ => p k
  | .slu k _ _ => p k
  | .mp k => p k
  | .unk k => p k
  | .ifc _ x => x.nm p
  | .agg l => nms p l
  | .tup l => nms p l
  | .fn _ a b => nms p a && nms p b
def nms (p : Nat → Bool) : List SV → Bool
  | [] => true
  | x :: l => x.nm p && nms p l
end

/-- Two readings of the names agree on those that p takes. -/
def Va.same (p : Nat → Bool) (r s : Va) : Prop :=
  ∀ k, p k = true → r.lo k = s.lo k ∧ r.hi k = s.hi k ∧ r.u k = s.u k ∧ r.sa k = s.sa k ∧ r.sc k = s.sc k

mutual
theorem SV.den_congr {p : Nat → Bool} {r s : Va} (h : Va.same p r s) : ∀ x : SV, x.nm p = true → x.den r = x.den s
  | .v _, _ => by simp only [SV.den]
  | .ptr k _, hx => by simp only [SV.den, (h k (by simpa only [SV.nm] using hx)).1]
  | .slc k _ _ _, hx => by simp only [SV.den, (h k (by simpa only [SV.nm] using hx)).1]
  | .usl k _, hx => by
    have := h k (by simpa only [SV.nm] using hx)
    simp only [SV.den, this.2.2.2.1, this.2.2.2.2]
  | .slu k _ _, hx => by
    have := h k (by simpa only [SV.nm] using hx)
    simp only [SV.den, this.1, this.2.2.2.2]
  | .mp k, hx => by simp only [SV.den, (h k (by simpa only [SV.nm] using hx)).1]
  | .unk k, hx => by simp only [SV.den, (h k (by simpa only [SV.nm] using hx)).2.2.1]
  | .ifc _ x, hx => by simp only [SV.den, SV.den_congr h x (by simpa only [SV.nm] using hx)]
  | .agg l, hx => by simp only [SV.den, dens_congr h l (by simpa only [SV.nm] using hx)]
  | .tup l, hx => by simp only [SV.den, dens_congr h l (by simpa only [SV.nm] using hx)]
  | .fn _ a b, hx => by
    have : nms p a = true ∧ nms p b = true := by simpa only [SV.nm, Bool.and_eq_true] using hx
    simp only [SV.den, dens_congr h a this.1, dens_congr h b this.2]
theorem dens_congr {p : Nat → Bool} {r s : Va} (h : Va.same p r s) : ∀ l : List SV, nms p l = true → dens r l = dens s l
  | [], _ => by simp only [dens]
  | x :: l, hx => by
    have : x.nm p = true ∧ nms p l = true := by simpa only [nms, Bool.and_eq_true] using hx
    simp only [dens, SV.den_congr h x this.1, dens_congr h l this.2]
end

mutual
theorem SV.nm_mono {p q : Nat → Bool} (h : ∀ k, p k = true → q k = true) : ∀ x : SV, x.nm p = true → x.nm q = true
  | .v _, _ => by simp only [SV.nm]
  | .ptr k _, hx => by simp only [SV.nm] at hx ⊢; exact h k hx
  | .slc k _ _ _, hx => by simp only [SV.nm] at hx ⊢; exact h k hx
  | .usl k _, hx => by simp only [SV.nm] at hx ⊢; exact h k hx
  | .slu k _ _, hx => by simp only [SV.nm] at hx ⊢; exact h k hx
  | .mp k, hx => by simp only [SV.nm] at hx ⊢; exact h k hx
  | .unk k, hx => by simp only [SV.nm] at hx ⊢; exact h k hx
  | .ifc _ x, hx => by simp only [SV.nm] at hx ⊢; exact SV.nm_mono h x hx
  | .agg l, hx => by simp only [SV.nm] at hx ⊢; exact nms_mono h l hx
  | .tup l, hx => by simp only [SV.nm] at hx ⊢; exact nms_mono h l hx
  | .fn _ a b, hx => by
    simp only [SV.nm, Bool.and_eq_true] at hx ⊢
    exact ⟨nms_mono h a hx.1, nms_mono h b hx.2⟩
theorem nms_mono {p q : Nat → Bool} (h : ∀ k, p k = true → q k = true) : ∀ l : List SV, nms p l = true → nms q l = true
  | [], _ => by simp only [nms]
  | x :: l, hx => by
    simp only [nms, Bool.and_eq_true] at hx ⊢
    exact ⟨SV.nm_mono h x hx.1, nms_mono h l hx.2⟩
end

theorem dens_length (r : Va) : ∀ l : List SV, (dens r l).length = l.length
  | [] => by simp only [dens, List.length_nil]
  | x :: l => by simp only [dens, List.length_cons, dens_length r l]
theorem dens_get (r : Va) : ∀ (l : List SV) (i : Nat), (dens r l)[i]? = (l[i]?).map (SV.den r)
  | [], i => by simp only [dens, List.getElem?_nil, Option.map_none]
  | x :: l, 0 => by simp only [dens, List.getElem?_cons_zero, Option.map_some]
  | x :: l, i + 1 => by simp only [dens, List.getElem?_cons_succ, dens_get r l i]
theorem dens_append (r : Va) : ∀ l m : List SV, dens r (l ++ m) = dens r l ++ dens r m
  | [], m => by simp only [dens, List.nil_append]
  | x :: l, m => by simp only [dens, List.cons_append, dens_append r l m]
theorem dens_take (r : Va) : ∀ (l : List SV) (n : Nat), dens r (l.take n) = (dens r l).take n
  | [], n => by simp only [dens, List.take_nil]
  | x :: l, 0 => by simp only [dens, List.take_zero]
  | x :: l, n + 1 => by simp only [dens, List.take_succ_cons, dens_take r l n]
theorem dens_drop (r : Va) : ∀ (l : List SV) (n : Nat), dens r (l.drop n) = (dens r l).drop n
  | [], n => by simp only [dens, List.drop_nil]
  | x :: l, 0 => by simp only [dens, List.drop_zero]
  | x :: l, n + 1 => by simp only [dens, List.drop_succ_cons, dens_drop r l n]
theorem dens_set (r : Va) : ∀ (l : List SV) (n : Nat) (x : SV), dens r (l.set n x) = (dens r l).set n (x.den r)
  | [], n, x => by simp only [dens, List.set_nil]
  | y :: l, 0, x => by simp only [dens, List.set_cons_zero]
  | y :: l, n + 1, x => by simp only [dens, List.set_cons_succ, dens_set r l n x]
theorem dens_mapv (r : Va) : ∀ l : List Value, dens r (l.map .v) = l
  | [] => by simp only [dens, List.map_nil]
  | x :: l => by simp only [dens, List.map_cons, SV.den, dens_mapv r l]
theorem nms_append (p : Nat → Bool) : ∀ l m : List SV, nms p (l ++ m) = (nms p l && nms p m)
  | [], m => by simp only [nms, List.nil_append, Bool.true_and]
  | x :: l, m => by simp only [nms, List.cons_append, nms_append p l m, Bool.and_assoc]
theorem nms_take (p : Nat → Bool) : ∀ (l : List SV) (n : Nat), nms p l = true → nms p (l.take n) = true
  | [], n, _ => by simp only [nms, List.take_nil]
  | x :: l, 0, _ => by simp only [nms, List.take_zero]
  | x :: l, n + 1, h => by
    simp only [nms, List.take_succ_cons, Bool.and_eq_true] at h ⊢
    exact ⟨h.1, nms_take p l n h.2⟩
theorem nms_drop (p : Nat → Bool) : ∀ (l : List SV) (n : Nat), nms p l = true → nms p (l.drop n) = true
  | [], n, _ => by simp only [nms, List.drop_nil]
  | x :: l, 0, h => by simpa only [List.drop_zero] using h
  | x :: l, n + 1, h => by
    simp only [nms, List.drop_succ_cons, Bool.and_eq_true] at h ⊢
    exact nms_drop p l n h.2
theorem nms_set (p : Nat → Bool) : ∀ (l : List SV) (n : Nat) (x : SV), nms p l = true → x.nm p = true → nms p (l.set n x) = true
  | [], n, _, _, _ => by simp only [nms, List.set_nil]
  | y :: l, 0, x, h, hx => by
    simp only [nms, List.set_cons_zero, Bool.and_eq_true] at h ⊢
    exact ⟨hx, h.2⟩
  | y :: l, n + 1, x, h, hx => by
    simp only [nms, List.set_cons_succ, Bool.and_eq_true] at h ⊢
    exact ⟨h.1, nms_set p l n x h.2 hx⟩
theorem nms_mapv (p : Nat → Bool) : ∀ l : List Value, nms p (l.map .v) = true
  | [] => by simp only [nms, List.map_nil]
  | x :: l => by simp only [nms, List.map_cons, SV.nm, nms_mapv p l, Bool.and_self]
theorem nms_get (p : Nat → Bool) : ∀ (l : List SV) (i : Nat) (x : SV), nms p l = true → l[i]? = some x → x.nm p = true
  | [], i, x, _, h => by simp at h
  | y :: l, 0, x, hl, h => by
    simp only [nms, Bool.and_eq_true] at hl
    simp only [List.getElem?_cons_zero, Option.some.injEq] at h
    exact h ▸ hl.1
  | y :: l, i + 1, x, hl, h => by
    simp only [nms, Bool.and_eq_true] at hl
    simp only [List.getElem?_cons_succ] at h
    exact nms_get p l i x hl.2 h

/-- A block of symbolic memory. -/
inductive Blk where
  | cells (l : List SV) (T : TypeId)
  | pre (l : List SV) (T : TypeId)
  | row (n : Nat) (xs : List Value) (T size : Nat)
  | obj (o : Obj)
  | objP (p : Obj → Prop)
  | fact (p : Value → World → Prop)

def Blk.nm (p : Nat → Bool) : Blk → Bool
  | .cells l _ => nms p l
  | .pre l _ => nms p l
  | _ => true

/-- The block named k holds b in the world w. -/
def Blk.ok (n0 : Nat) (r : Va) (k : Nat) (w : World) : Blk → Prop
  | .cells l T => r.hi k = r.lo k + 1 ∧ w.heap[r.lo k]? = some (.cells (dens r l).toArray T (0, 0))
  | .pre l T => r.hi k = r.lo k + 1 ∧ ∃ c : Array Value, w.heap[r.lo k]? = some (.cells c T (0, 0)) ∧ c.toList.take l.length = dens r l
  | .obj o => r.hi k = r.lo k + 1 ∧ w.heap[r.lo k]? = some o
  | .objP p => r.hi k = r.lo k + 1 ∧ ∃ o, w.heap[r.lo k]? = some o ∧ p o
  | .row n xs T size => w.ownsRow (r.lo k) T size (.slice (r.sa k) n (r.sc k)) n xs ∧ ∀ g, (Value.slice (r.sa k) n (r.sc k)).ownBlock = some g → g < r.hi k
  | .fact p => ∀ w' : World, w.heap.size ≤ w'.heap.size → (∀ b, b < n0 ∨ (r.lo k ≤ b ∧ b < r.hi k) → w'.heap[b]? = w.heap[b]?) → p (r.u k) w'

theorem Blk.ok_same {n0 : Nat} {r s : Va} {k : Nat} {w w' : World} {b : Blk} {p : Nat → Bool} (h : b.ok n0 r k w) (hp : Va.same p r s) (hk : p k = true) (hb : b.nm p = true)
    (hs : w.heap.size ≤ w'.heap.size) (hw : ∀ i, i < n0 ∨ (r.lo k ≤ i ∧ i < r.hi k) → w'.heap[i]? = w.heap[i]?) : b.ok n0 s k w' := by
  obtain ⟨e1, e2, e3, e4, e5⟩ := hp k hk
  cases b with
  | cells l T =>
    simp only [Blk.ok, Blk.nm] at *
    refine ⟨by omega, ?_⟩
    rw [← e1, hw _ (.inr ⟨Nat.le_refl _, by omega⟩), h.2, dens_congr hp l hb]
  | pre l T =>
    simp only [Blk.ok, Blk.nm] at *
    obtain ⟨h1, c, h2, h3⟩ := h
    refine ⟨by omega, c, ?_, ?_⟩
    · rw [← e1, hw _ (.inr ⟨Nat.le_refl _, by omega⟩), h2]
    · rw [h3, dens_congr hp l hb]
  | obj o =>
    simp only [Blk.ok] at *
    refine ⟨by omega, ?_⟩
    rw [← e1, hw _ (.inr ⟨Nat.le_refl _, by omega⟩), h.2]
  | objP p =>
    simp only [Blk.ok] at *
    obtain ⟨h1, o, h2, h3⟩ := h
    refine ⟨by omega, o, ?_, h3⟩
    rw [← e1, hw _ (.inr ⟨Nat.le_refl _, by omega⟩), h2]
  | row n xs T size =>
    simp only [Blk.ok] at *
    obtain ⟨⟨h1, h2⟩, h3⟩ := h
    rw [← e4, ← e5, ← e1, ← e2]
    refine ⟨⟨h1, ?_⟩, h3⟩
    rcases h2 with h2 | ⟨g, cap, cur, a1, a2, a3, a4⟩
    · exact .inl h2
    · refine .inr ⟨g, cap, cur, a1, a2, ?_, a4⟩
      rw [hw _ (.inr ⟨a2, h3 g (by rw [a1]; rfl)⟩), a3]
  | fact q =>
    simp only [Blk.ok] at *
    intro w2 h1 h2
    rw [← e3]
    refine h w2 (Nat.le_trans hs h1) fun i hi => ?_
    rw [h2 i (by rw [← e1, ← e2]; exact hi), hw i hi]

/-- The first entry under a name. -/
def lk {α : Type} : List (Nat × α) → Nat → Option α
  | [], _ => none
  | (d, x) :: l, t => bif d == t then some x else lk l t

/-- A symbolic state: the temporaries that are known, the blocks that are known. -/
structure St where
  sz : Nat
  tmps : List (Nat × SV)
  heap : List (Nat × Blk)
  next : Nat

def St.put (S : St) (d : Option Tmp) (x : SV) : St :=
  match d with
  | none => S
  | some d => bif decide ((d : Nat) < S.sz) then { S with tmps := (d, x) :: S.tmps } else S

def St.ev (S : St) : Operand → Option SV
  | .tmp t => lk S.tmps t
  | .const x => some (.v x)
  | .global g => some (.v (.pointer (some ⟨g, 0, none⟩)))
  | .func f => some (.v (.func (.func f) #[] #[]))

def lt (n : Nat) : Nat → Bool := fun k => Nat.blt k n

structure St.ok (S : St) : Prop where
  tmps : ∀ t x, lk S.tmps t = some x → x.nm (lt S.next) = true
  heap : ∀ k b, lk S.heap k = some b → lt S.next k = true ∧ b.nm (lt S.next) = true

/-- A world fits a symbolic memory. -/
structure InvF (w0 : World) (r : Va) (H : Nat → Option Blk) (w : World) : Prop where
  below : Below w0.heap.size w0 w
  blk : ∀ k b, H k = some b → w0.heap.size ≤ r.lo k ∧ r.hi k ≤ w.heap.size ∧ b.ok w0.heap.size r k w
  apart : ∀ k k' b b', H k = some b → H k' = some b' → k ≠ k' → r.hi k ≤ r.lo k' ∨ r.hi k' ≤ r.lo k

abbrev Inv (w0 : World) (r : Va) (H : List (Nat × Blk)) (w : World) : Prop := InvF w0 r (lk H) w

structure Rel (w0 : World) (r : Va) (S : St) (a : Act) (w : World) : Prop where
  defers : a.defers = []
  size : a.tmps.size = S.sz
  tmps : ∀ t x, lk S.tmps t = some x → a.tmps.getD t undef = x.den r
  inv : Inv w0 r S.heap w
  ok : S.ok

theorem lk_cons {α : Type} (d : Nat) (x : α) (l : List (Nat × α)) (t : Nat) : lk ((d, x) :: l) t = if d = t then some x else lk l t := by
  simp only [lk]
  by_cases h : d = t
  · subst h; simp
  · have : (d == t) = false := by simpa using h
    rw [this, if_neg h]; rfl

theorem lt_mono {n m : Nat} (h : n ≤ m) : ∀ k, lt n k = true → lt m k = true := fun k hk => by
  simp only [lt, Nat.blt_eq] at *
  omega

theorem Rel.ev {w0 : World} {r : Va} {S : St} {a : Act} {w : World} (h : Rel w0 r S a w) {x : Operand} {y : SV} (hx : S.ev x = some y) : a.eval x = y.den r ∧ y.nm (lt S.next) = true := by
  cases x with
  | tmp t => exact ⟨h.tmps t y hx, h.ok.tmps t y hx⟩
  | const v => simp only [St.ev, Option.some.injEq] at hx; subst hx; exact ⟨by simp only [Act.eval, SV.den], by simp only [SV.nm]⟩
  | global g => simp only [St.ev, Option.some.injEq] at hx; subst hx; exact ⟨by simp only [Act.eval, SV.den], by simp only [SV.nm]⟩
  | func f => simp only [St.ev, Option.some.injEq] at hx; subst hx; exact ⟨by simp only [Act.eval, SV.den], by simp only [SV.nm]⟩

/-- A temporary takes a value. -/
theorem Rel.put {w0 : World} {r : Va} {S : St} {a : Act} {w : World} (h : Rel w0 r S a w) (d : Option Tmp) {x : SV} (hx : x.nm (lt S.next) = true) : Rel w0 r (S.put d x) (a.put d (x.den r)) w := by
  cases d with
  | none => exact h
  | some d =>
    simp only [St.put, Act.put]
    by_cases hd : d < S.sz
    · have hd' : decide ((d : Nat) < S.sz) = true := decide_eq_true hd
      rw [hd']
      refine ⟨h.defers, by simpa using h.size, ?_, h.inv, ⟨?_, h.ok.heap⟩⟩
      · intro t y hy
        simp only [cond_true, lk_cons] at hy
        split at hy
        · rename_i e; subst e
          simp only [Option.some.injEq] at hy; subst hy
          rw [← h.size] at hd
          simp [hd]
        · rename_i e
          have := h.tmps t y hy
          rw [← this]
          simp [e]
      · intro t y hy
        simp only [cond_true, lk_cons] at hy ⊢
        split at hy
        · simp only [Option.some.injEq] at hy; subst hy; exact hx
        · exact h.ok.tmps t y hy
    · have hd' : decide ((d : Nat) < S.sz) = false := decide_eq_false hd
      rw [hd']
      have : a.tmps.setIfInBounds d (x.den r) = a.tmps := by
        have hs := h.size
        exact Array.setIfInBounds_eq_of_size_le (by rw [hs]; exact Nat.le_of_not_lt hd)
      simp only [cond_false, this]
      exact h

mutual
theorem SV.nm_true : ∀ x : SV, x.nm (fun _ => true) = true
  | .v _ => by simp only [SV.nm]
  | .ptr _ _ => by simp only [SV.nm]
  | .slc _ _ _ _ => by simp only [SV.nm]
  | .usl _ _ => by simp only [SV.nm]
  | .slu _ _ _ => by simp only [SV.nm]
  | .mp _ => by simp only [SV.nm]
  | .unk _ => by simp only [SV.nm]
  | .ifc _ x => by simp only [SV.nm, SV.nm_true x]
  | .agg l => by simp only [SV.nm, nms_true l]
  | .tup l => by simp only [SV.nm, nms_true l]
  | .fn _ a b => by simp only [SV.nm, nms_true a, nms_true b, Bool.and_self]
theorem nms_true : ∀ l : List SV, nms (fun _ => true) l = true
  | [] => by simp only [nms]
  | x :: l => by simp only [nms, SV.nm_true x, nms_true l, Bool.and_self]
end
theorem Blk.nm_true (b : Blk) : b.nm (fun _ => true) = true := by cases b <;> simp only [Blk.nm, nms_true]
theorem Blk.nm_mono {p q : Nat → Bool} (h : ∀ k, p k = true → q k = true) (b : Blk) (hb : b.nm p = true) : b.nm q = true := by
  cases b <;> simp only [Blk.nm] at * <;> exact nms_mono h _ hb
theorem Va.same_refl (p : Nat → Bool) (r : Va) : Va.same p r r := fun _ _ => ⟨rfl, rfl, rfl, rfl, rfl⟩

theorem InvF.step {w0 : World} {r : Va} {H : Nat → Option Blk} {w w' : World} (h : InvF w0 r H w) (hb : Below w.heap.size w w') : InvF w0 r H w' := by
  refine ⟨h.below.trans (hb.mono h.below.size), fun k b hk => ?_, h.apart⟩
  obtain ⟨h1, h2, h3⟩ := h.blk k b hk
  refine ⟨h1, Nat.le_trans h2 hb.size, Blk.ok_same h3 (Va.same_refl (fun _ => true) r) rfl b.nm_true hb.size fun i hi => hb.block i ?_⟩
  have := h.below.size; omega
theorem InvF.sub {w0 : World} {r : Va} {H H' : Nat → Option Blk} {w : World} (h : InvF w0 r H w) (hs : ∀ k b, H' k = some b → H k = some b) : InvF w0 r H' w :=
  ⟨h.below, fun k b hk => h.blk k b (hs k b hk), fun k k' b b' hk hk' => h.apart k k' b b' (hs _ _ hk) (hs _ _ hk')⟩

def upF {α : Type} (H : Nat → Option α) (k : Nat) (b : α) : Nat → Option α := fun j => if k = j then some b else H j
theorem lk_upF {α : Type} (k : Nat) (b : α) (H : List (Nat × α)) : lk ((k, b) :: H) = upF (lk H) k b := funext fun j => lk_cons k b H j

/-- A new block under a new name. -/
theorem InvF.add {w0 : World} {r r' : Va} {H : Nat → Option Blk} {w w' : World} {p : Nat → Bool} {k : Nat} {b : Blk} (h : InvF w0 r H w) (hb : Below w.heap.size w w')
    (hH : ∀ k' b', H k' = some b' → p k' = true ∧ b'.nm p = true) (hp : Va.same p r r') (hk : p k = false) (hlo : w.heap.size ≤ r'.lo k) (hhi : r'.hi k ≤ w'.heap.size)
    (hok : b.ok w0.heap.size r' k w') : InvF w0 r' (upF H k b) w' := by
  have hs := h.below.size
  have old : ∀ k' b', H k' = some b' → k ≠ k' ∧ w0.heap.size ≤ r'.lo k' ∧ r'.hi k' ≤ w.heap.size ∧ b'.ok w0.heap.size r' k' w' := by
    intro k' b' hk'
    obtain ⟨h1, h2, h3⟩ := h.blk k' b' hk'
    obtain ⟨q1, q2⟩ := hH k' b' hk'
    obtain ⟨e1, e2, _⟩ := hp k' q1
    refine ⟨(fun e => by subst e; rw [hk] at q1; cases q1), (by omega), (by omega), Blk.ok_same h3 hp q1 q2 hb.size fun i hi => hb.block i (by omega)⟩
  refine ⟨h.below.trans (hb.mono hs), fun k' b' hk' => ?_, fun k1 k2 b1 b2 h1 h2 hne => ?_⟩
  · simp only [upF] at hk'
    split at hk'
    · rename_i e; subst e
      simp only [Option.some.injEq] at hk'; subst hk'
      exact ⟨by omega, hhi, hok⟩
    · obtain ⟨o1, o2, o3, o4⟩ := old k' b' hk'
      exact ⟨o2, by have := hb.size; omega, o4⟩
  · simp only [upF] at h1 h2
    split at h1 <;> split at h2
    · omega
    · rename_i e _; subst e
      obtain ⟨_, _, o3, _⟩ := old k2 b2 h2
      omega
    · rename_i e; subst e
      obtain ⟨_, _, o3, _⟩ := old k1 b1 h1
      omega
    · obtain ⟨_, _, a1⟩ := h.blk k1 b1 h1
      have := h.apart k1 k2 b1 b2 h1 h2 hne
      obtain ⟨e1, e2, _⟩ := hp k1 (hH k1 b1 h1).1
      obtain ⟨f1, f2, _⟩ := hp k2 (hH k2 b2 h2).1
      omega

/-- A block of the call's own changes. -/
theorem InvF.upd {w0 : World} {r : Va} {H : Nat → Option Blk} {w w' : World} {k : Nat} {b b' : Blk} (h : InvF w0 r H w) (hk : H k = some b)
    (hb : Below w0.heap.size w w') (hw : ∀ i, i < r.lo k ∨ r.hi k ≤ i → w'.heap[i]? = w.heap[i]?) (hok : b'.ok w0.heap.size r k w') : InvF w0 r (upF H k b') w' := by
  obtain ⟨m1, m2, m3⟩ := h.blk k b hk
  refine ⟨h.below.trans hb, fun k' c hk' => ?_, fun k1 k2 b1 b2 h1 h2 hne => ?_⟩
  · simp only [upF] at hk'
    split at hk'
    · rename_i e; subst e
      simp only [Option.some.injEq] at hk'; subst hk'
      exact ⟨m1, by have := hb.size; omega, hok⟩
    · rename_i e
      obtain ⟨h1, h2, h3⟩ := h.blk k' c hk'
      have ap := h.apart k k' b c hk hk' e
      refine ⟨h1, by have := hb.size; omega, Blk.ok_same h3 (Va.same_refl (fun _ => true) r) rfl c.nm_true hb.size fun i hi => ?_⟩
      rcases hi with hi | hi
      · exact hb.block i hi
      · exact hw i (by omega)
  · simp only [upF] at h1 h2
    have g1 : ∃ c, H k1 = some c := by
      split at h1
      · rename_i e; subst e; exact ⟨_, hk⟩
      · exact ⟨_, h1⟩
    have g2 : ∃ c, H k2 = some c := by
      split at h2
      · rename_i e; subst e; exact ⟨_, hk⟩
      · exact ⟨_, h2⟩
    obtain ⟨c1, g1⟩ := g1
    obtain ⟨c2, g2⟩ := g2
    exact h.apart k1 k2 c1 c2 g1 g2 hne

def Va.set (r : Va) (k lo hi : Nat) (u : Value) (sa : Option Addr) (sc : Nat) : Va :=
  { lo := fun i => if i = k then lo else r.lo i, hi := fun i => if i = k then hi else r.hi i, u := fun i => if i = k then u else r.u i,
    sa := fun i => if i = k then sa else r.sa i, sc := fun i => if i = k then sc else r.sc i }
theorem Va.set_same (r : Va) (k lo hi : Nat) (u : Value) (sa : Option Addr) (sc : Nat) : Va.same (lt k) r (r.set k lo hi u sa sc) := by
  intro i hi
  have : ¬ i = k := by simp only [lt, Nat.blt_eq] at hi; omega
  simp only [Va.set, if_neg this, and_self]
theorem lt_self (n : Nat) : lt n n = false := by
  rw [← Bool.not_eq_true]; simp only [lt, Nat.blt_eq]; omega

/-- A new block under the next name. -/
theorem Rel.add {w0 : World} {r r' : Va} {S : St} {a : Act} {w w' : World} {b : Blk} (h : Rel w0 r S a w) (hb : Below w.heap.size w w') (hp : Va.same (lt S.next) r r')
    (hn : b.nm (lt (S.next + 1)) = true) (hlo : w.heap.size ≤ r'.lo S.next) (hhi : r'.hi S.next ≤ w'.heap.size) (hok : b.ok w0.heap.size r' S.next w') :
    Rel w0 r' { S with heap := (S.next, b) :: S.heap, next := S.next + 1 } a w' := by
  refine ⟨h.defers, h.size, fun t x hx => ?_, (by rw [Inv, lk_upF]; exact h.inv.add hb h.ok.heap hp (lt_self _) hlo hhi hok), ⟨fun t x hx => ?_, fun k c hk => ?_⟩⟩
  · rw [h.tmps t x hx, SV.den_congr hp x (h.ok.tmps t x hx)]
  · exact SV.nm_mono (lt_mono (Nat.le_succ _)) x (h.ok.tmps t x hx)
  · rw [lk_cons] at hk
    split at hk
    · rename_i e; subst e
      simp only [Option.some.injEq] at hk; subst hk
      exact ⟨by simp only [lt, Nat.blt_eq]; omega, hn⟩
    · obtain ⟨h1, h2⟩ := h.ok.heap k c hk
      exact ⟨lt_mono (Nat.le_succ _) _ h1, c.nm_mono (lt_mono (Nat.le_succ _)) h2⟩
/-- A block of the call's own changes. -/
theorem Rel.upd {w0 : World} {r : Va} {S : St} {a : Act} {w w' : World} {k : Nat} {b b' : Blk} (h : Rel w0 r S a w) (hk : lk S.heap k = some b)
    (hb : Below w0.heap.size w w') (hw : ∀ i, i < r.lo k ∨ r.hi k ≤ i → w'.heap[i]? = w.heap[i]?) (hn : b'.nm (lt S.next) = true) (hok : b'.ok w0.heap.size r k w') :
    Rel w0 r { S with heap := (k, b') :: S.heap } a w' := by
  refine ⟨h.defers, h.size, h.tmps, (by rw [Inv, lk_upF]; exact h.inv.upd hk hb hw hok), ⟨h.ok.tmps, fun j c hj => ?_⟩⟩
  rw [lk_cons] at hj
  split at hj
  · rename_i e; subst e
    simp only [Option.some.injEq] at hj; subst hj
    exact ⟨(h.ok.heap _ _ hk).1, hn⟩
  · exact h.ok.heap j c hj
/-- The world goes on. -/
theorem Rel.step {w0 : World} {r : Va} {S : St} {a : Act} {w w' : World} (h : Rel w0 r S a w) (hb : Below w.heap.size w w') : Rel w0 r S a w' :=
  ⟨h.defers, h.size, h.tmps, h.inv.step hb, h.ok⟩
end Go.Proofs.Ytpoiebkcjehheaa
