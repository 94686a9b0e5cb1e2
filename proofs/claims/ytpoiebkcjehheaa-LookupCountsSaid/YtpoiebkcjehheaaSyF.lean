/- A symbolic walk, part F: regions that draw their order. The operations are walked in the order of the text; that any order comes to the same is read off which of them wait for which (edges), which temporaries they look at and write, which blocks they read and write. -/
import Derived.Test.YtpoiebkcjehheaaSyE
namespace Go.Proofs.Ytpoiebkcjehheaa
open Go.RowKit

/-! ### Who waits for whom -/
def maskOf (prev : List Nat) (j : Nat) : List Edge → Nat
  | [] => 0
  | e :: es => bif Region.binds .any e && decide (e.on < j) then maskOf prev j es ||| (1 <<< e.on) ||| prev.getD e.on 0 else maskOf prev j es
def masksGo : List Nat → List Oper → List Nat
  | prev, [] => prev
  | prev, o :: l => masksGo (prev ++ [maskOf prev prev.length o.after.toList]) l
def masks (ops : List Oper) : List Nat := masksGo [] ops
def dep (D : List Nat) (j i : Nat) : Bool := (D.getD j 0).testBit i

theorem maskOf_spec (prev : List Nat) (j i : Nat) : ∀ es : List Edge, (maskOf prev j es).testBit i = true → ∃ e ∈ es, Region.binds .any e = true ∧ e.on < j ∧ (i = e.on ∨ (prev.getD e.on 0).testBit i = true)
  | [], h => by simp [maskOf] at h
  | e :: es, h => by
    simp only [maskOf] at h
    cases hc : (Region.binds .any e && decide (e.on < j)) with
    | false =>
      rw [hc] at h
      obtain ⟨x, hx, h⟩ := maskOf_spec prev j i es h
      exact ⟨x, List.mem_cons_of_mem _ hx, h⟩
    | true =>
      rw [hc] at h
      simp only [cond_true, Nat.testBit_or, Bool.or_eq_true] at h
      simp only [Bool.and_eq_true, decide_eq_true_eq] at hc
      rcases h with (h | h) | h
      · obtain ⟨x, hx, h⟩ := maskOf_spec prev j i es h
        exact ⟨x, List.mem_cons_of_mem _ hx, h⟩
      · refine ⟨e, List.mem_cons_self .., hc.1, hc.2, .inl ?_⟩
        rw [Nat.one_shiftLeft, Nat.testBit_two_pow] at h
        simpa using (of_decide_eq_true h).symm
      · exact ⟨e, List.mem_cons_self .., hc.1, hc.2, .inr h⟩

/-- What a list of masks says: each is made of the direct edges and what these wait for. -/
def MasksOK (ops : List Oper) (D : List Nat) : Prop :=
  ∀ j i, (D.getD j 0).testBit i = true → ∃ o, ops[j]? = some o ∧ ∃ e ∈ o.after.toList, Region.binds .any e = true ∧ e.on < j ∧ (i = e.on ∨ (D.getD e.on 0).testBit i = true)
theorem masksGo_ok : ∀ (l pre : List Oper) (prev : List Nat), prev.length = pre.length → MasksOK pre prev → MasksOK (pre ++ l) (masksGo prev l)
  | [], pre, prev, _, h => by simpa only [masksGo, List.append_nil] using h
  | o :: l, pre, prev, hl, h => by
    have := masksGo_ok l (pre ++ [o]) (prev ++ [maskOf prev prev.length o.after.toList]) (by simp [hl]) (by
      intro j i hb
      rcases Nat.lt_or_ge j prev.length with hj | hj
      · have e1 : (prev ++ [maskOf prev prev.length o.after.toList]).getD j 0 = prev.getD j 0 := by simp [List.getD, List.getElem?_append_left hj]
        rw [e1] at hb
        obtain ⟨o', h1, e, h2, h3, h4, h5⟩ := h j i hb
        refine ⟨o', by rw [List.getElem?_append_left (by omega)]; exact h1, e, h2, h3, h4, ?_⟩
        rwa [show (prev ++ [maskOf prev prev.length o.after.toList]).getD e.on 0 = prev.getD e.on 0 by simp [List.getD, List.getElem?_append_left (show e.on < prev.length by omega)]]
      · rcases Nat.eq_or_lt_of_le hj with hj | hj
        · subst hj
          have e1 : (prev ++ [maskOf prev prev.length o.after.toList]).getD prev.length 0 = maskOf prev prev.length o.after.toList := by simp [List.getD]
          rw [e1] at hb
          obtain ⟨e, h2, h3, h4, h5⟩ := maskOf_spec _ _ _ _ hb
          refine ⟨o, by rw [hl]; simp, e, h2, h3, h4, ?_⟩
          rwa [show (prev ++ [maskOf prev prev.length o.after.toList]).getD e.on 0 = prev.getD e.on 0 by simp [List.getD, List.getElem?_append_left h4]]
        · have e1 : (prev ++ [maskOf prev prev.length o.after.toList]).getD j 0 = 0 := by
            simp only [List.getD]
            rw [List.getElem?_eq_none (by simp; omega)]
            rfl
          rw [e1] at hb
          simp at hb)
    simpa only [masksGo, List.append_assoc, List.singleton_append] using this
theorem masks_ok (ops : List Oper) : MasksOK ops (masks ops) := by
  have := masksGo_ok ops [] [] rfl (by intro j i h; simp at h)
  simpa [masks] using this

/-- A set of operations that holds whatever one of them waits for. -/
def Closed (ops : List Oper) (m : Nat → Bool) : Prop := ∀ j o, m j = true → ops[j]? = some o → ∀ e ∈ o.after.toList, Region.binds .any e = true → m e.on = true
theorem MasksOK.lt {ops : List Oper} {D : List Nat} (h : MasksOK ops D) : ∀ j i, dep D j i = true → i < j := by
  intro j
  induction j using Nat.strongRecOn with
  | _ j ih =>
    intro i hd
    obtain ⟨o, _, e, _, _, h4, h5⟩ := h j i hd
    rcases h5 with rfl | h5
    · exact h4
    · exact Nat.lt_trans (ih e.on h4 i h5) h4
theorem MasksOK.mem {ops : List Oper} {D : List Nat} (h : MasksOK ops D) {m : Nat → Bool} (hm : Closed ops m) : ∀ j i, m j = true → dep D j i = true → m i = true := by
  intro j
  induction j using Nat.strongRecOn with
  | _ j ih =>
    intro i hj hd
    obtain ⟨o, h1, e, h2, h3, h4, h5⟩ := h j i hd
    have he := hm j o hj h1 e h2 h3
    rcases h5 with rfl | h5
    · exact he
    · exact ih e.on h4 i he h5
theorem MasksOK.ready {ops : List Oper} {D : List Nat} (h : MasksOK ops D) {m : Nat → Bool} (hm : Closed ops m) {j : Nat} {o : Oper} (ho : ops[j]? = some o) (hr : ∀ e ∈ o.after.toList, Region.binds .any e = true → m e.on = true) :
    ∀ i, dep D j i = true → m i = true := by
  intro i hd
  obtain ⟨o', h1, e, h2, h3, h4, h5⟩ := h j i hd
  rw [ho] at h1
  simp only [Option.some.injEq] at h1
  subst h1
  have he := hr e h2 h3
  rcases h5 with rfl | h5
  · exact he
  · exact h.mem hm e.on i he h5

/-! ### What an operation comes to -/
inductive TE where
  | val (x : SV)
  | new (b : Blk) (x : SV)
  | upd (k : Nat) (b : Blk) (x : Value)
  | tch (k : Nat) (b : Blk) (x : Value)
def TE.out : TE → SV
  | .val x => x
  | .new _ x => x
  | .upd _ _ x => .v x
  | .tch _ _ x => .v x
def TE.blk (nm : Nat) : TE → Option (Nat × Blk)
  | .val _ => none
  | .new b _ => some (nm, b)
  | .upd k b _ => some (k, b)
  | .tch _ _ _ => none

mutual
def SV.names : SV → List Nat
  | .v _ => []
  | .ptr k _ => [k]
  | .slc k _ _ _ => [k]
  | .usl k _ => [k]
  | .slu k _ _ => [k]
  | .mp k => [k]
  | .unk k => [k]
  | .ifc _ x => x.names
  | .agg l => namesL l
  | .tup l => namesL l
  | .fn _ a b => namesL a ++ namesL b
def namesL : List SV → List Nat
  | [] => []
  | x :: l => x.names ++ namesL l
end
def Blk.names : Blk → List Nat
  | .cells l _ => namesL l
  | .pre l _ => namesL l
  | _ => []
mutual
theorem SV.names_nm (p : Nat → Bool) : ∀ x : SV, (∀ k ∈ x.names, p k = true) → x.nm p = true
  | .v _, _ => by simp only [SV.nm]
  | .ptr k _, h => by simp only [SV.nm]; exact h k (by simp [SV.names])
  | .slc k _ _ _, h => by simp only [SV.nm]; exact h k (by simp [SV.names])
  | .usl k _, h => by simp only [SV.nm]; exact h k (by simp [SV.names])
  | .slu k _ _, h => by simp only [SV.nm]; exact h k (by simp [SV.names])
  | .mp k, h => by simp only [SV.nm]; exact h k (by simp [SV.names])
  | .unk k, h => by simp only [SV.nm]; exact h k (by simp [SV.names])
  | .ifc _ x, h => by simp only [SV.nm]; exact SV.names_nm p x (fun k hk => h k (by simpa only [SV.names] using hk))
  | .agg l, h => by simp only [SV.nm]; exact namesL_nm p l (fun k hk => h k (by simpa only [SV.names] using hk))
  | .tup l, h => by simp only [SV.nm]; exact namesL_nm p l (fun k hk => h k (by simpa only [SV.names] using hk))
  | .fn _ a b, h => by
    simp only [SV.nm, Bool.and_eq_true]
    exact ⟨namesL_nm p a (fun k hk => h k (by simp only [SV.names, List.mem_append]; exact .inl hk)), namesL_nm p b (fun k hk => h k (by simp only [SV.names, List.mem_append]; exact .inr hk))⟩
theorem namesL_nm (p : Nat → Bool) : ∀ l : List SV, (∀ k ∈ namesL l, p k = true) → nms p l = true
  | [], _ => by simp only [nms]
  | x :: l, h => by
    simp only [nms, Bool.and_eq_true]
    exact ⟨SV.names_nm p x (fun k hk => h k (by simp only [namesL, List.mem_append]; exact .inl hk)), namesL_nm p l (fun k hk => h k (by simp only [namesL, List.mem_append]; exact .inr hk))⟩
end
theorem Blk.names_nm (p : Nat → Bool) (b : Blk) (h : ∀ k ∈ b.names, p k = true) : b.nm p = true := by
  cases b <;> simp only [Blk.nm] <;> exact namesL_nm p _ h

/-- What has become of the names and the world behind an operation. -/
def Chg (w0 : World) (nm : Nat) (te : TE) (r r' : Va) (w w' : World) : Prop :=
  match te with
  | .val _ => r' = r ∧ Below w.heap.size w w'
  | .new b _ => Va.same (fun k => k != nm) r r' ∧ Below w.heap.size w w' ∧ w.heap.size ≤ r'.lo nm ∧ r'.hi nm ≤ w'.heap.size ∧ b.ok w0.heap.size r' nm w'
  | .upd k b _ => r' = r ∧ Below w0.heap.size w w' ∧ (∀ i, i < r.lo k ∨ r.hi k ≤ i → w'.heap[i]? = w.heap[i]?) ∧ b.ok w0.heap.size r k w'
  | .tch k b _ => r' = r ∧ Below w0.heap.size w w' ∧ (∀ i, i < r.lo k ∨ r.hi k ≤ i → w'.heap[i]? = w.heap[i]?) ∧ b.ok w0.heap.size r k w'

/-- An operation of a region, what it comes to, and what of the state it looks at. -/
structure Tr where
  o : Oper
  on : Bool
  te : TE
  V : St
  W : List (Nat × Blk)
def Tr.VW (x : Tr) : St := { x.V with heap := x.W ++ x.V.heap }
/-- What is told of a block by b is told by c. -/
def Imp (b c : Blk) : Prop := ∀ n0 r k w, b.ok n0 r k w → c.ok n0 r k w
theorem InvF.weak {w0 : World} {r : Va} {H H' : Nat → Option Blk} {w : World} (h : InvF w0 r H w) (hs : ∀ k b, H' k = some b → ∃ b', H k = some b' ∧ Imp b' b) : InvF w0 r H' w := by
  refine ⟨h.below, fun k b hk => ?_, fun k k' b b' hk hk' => ?_⟩
  · obtain ⟨c, h1, h2⟩ := hs k b hk
    obtain ⟨g1, g2, g3⟩ := h.blk k c h1
    exact ⟨g1, g2, h2 _ _ _ _ g3⟩
  · obtain ⟨c, h1, _⟩ := hs k b hk
    obtain ⟨c', h2, _⟩ := hs k' b' hk'
    exact h.apart k k' c c' h1 h2
theorem lk_app {α : Type} : ∀ (l m : List (Nat × α)) (k : Nat) (b : α), lk (l ++ m) k = some b → (k, b) ∈ l ∨ lk m k = some b
  | [], m, k, b, h => .inr h
  | (d, x) :: l, m, k, b, h => by
    rw [List.cons_append, lk_cons] at h
    split at h
    · rename_i e; subst e
      simp only [Option.some.injEq] at h; subst h
      exact .inl (List.mem_cons_self ..)
    · rcases lk_app l m k b h with h | h
      · exact .inl (List.mem_cons_of_mem _ h)
      · exact .inr h

def LocV (C : Cx) (ops : List Oper) (nm : Nat) (x : Tr) : Prop :=
  (match x.o.guard with
    | none => x.on = true
    | some (j, want) => ∃ b, lkD x.V (dstOf ops j) = some (.v (.bool b)) ∧ x.on = sameB want b) ∧
  (x.on = false → x.te = .val (.v (.tuple #[]))) ∧
  (x.on = true → ∀ r a w, Rel C.w0 r x.VW a w → ∀ (K : Act → World → Prop) (Q : Exit → Act → World → Prop), (∀ r' w', Chg C.w0 nm x.te r r' w w' → K (a.put x.o.dst (x.te.out.den r')) w') → x.o.wp C.P a w K Q)

/-! ### The state behind a set of the operations -/
def findW : Nat → List Tr → Tmp → Option (Nat × SV)
  | _, [], _ => none
  | i, x :: l, t => if x.o.dst = some t then some (i, x.te.out) else findW (i + 1) l t
/-- The last write of the block k, in the order of the text, among the operations of m. -/
def lastB (base : Nat) (m : Nat → Bool) (k : Nat) : Nat → List Tr → Option Blk
  | _, [] => none
  | i, x :: l => match lastB base m k (i + 1) l with
    | some b => some b
    | none => match x.te.blk (base + i) with
      | some (k', b) => if k' = k ∧ m i = true then some b else none
      | none => none
def TM (S : St) (tr : List Tr) (m : Nat → Bool) (t : Nat) : Option SV :=
  match findW 0 tr t with
  | some (i, x) => if m i then some x else lk S.tmps t
  | none => lk S.tmps t
def HM (S : St) (base : Nat) (tr : List Tr) (m : Nat → Bool) (k : Nat) : Option Blk :=
  match lastB base m k 0 tr with
  | some b => some b
  | none => lk S.heap k

theorem lastB_spec {base : Nat} {m : Nat → Bool} {k : Nat} {b : Blk} : ∀ (l : List Tr) (n : Nat), lastB base m k n l = some b → ∃ j y, l[j]? = some y ∧ y.te.blk (base + (n + j)) = some (k, b) ∧ m (n + j) = true
  | [], n, h => by simp only [lastB] at h; cases h
  | x :: l, n, h => by
    simp only [lastB] at h
    split at h
    · rename_i c hc
      simp only [Option.some.injEq] at h; subst h
      obtain ⟨j, y, h1, h2, h3⟩ := lastB_spec l (n + 1) hc
      exact ⟨j + 1, y, by simpa using h1, by rwa [show n + (j + 1) = n + 1 + j by omega], by rwa [show n + (j + 1) = n + 1 + j by omega]⟩
    · split at h
      · rename_i k' c hb
        split at h
        · rename_i e
          simp only [Option.some.injEq] at h; subst h
          exact ⟨0, x, by simp, by rw [← e.1]; exact hb, e.2⟩
        · cases h
      · cases h
theorem lastB_congr {base : Nat} {m m' : Nat → Bool} {k : Nat} : ∀ (l : List Tr) (n : Nat), (∀ j y c, l[j]? = some y → y.te.blk (base + (n + j)) = some (k, c) → m (n + j) = m' (n + j)) → lastB base m k n l = lastB base m' k n l
  | [], n, h => rfl
  | x :: l, n, h => by
    simp only [lastB]
    have ih := lastB_congr (m := m) (m' := m') l (n + 1) fun j y c h1 h2 => by
      have e : n + (j + 1) = n + 1 + j := by omega
      have := h (j + 1) y c (by simpa using h1) (by rw [e]; exact h2)
      rw [e] at this
      exact this
    rw [ih]
    split
    · rfl
    · split
      · rename_i k' c hb
        by_cases e : k' = k
        · subst e
          have := h 0 x c (by simp) hb
          simp only [Nat.add_zero] at this
          rw [this]
        · rw [if_neg (fun h => e h.1), if_neg (fun h => e h.1)]
      · rfl
theorem lastB_put {base : Nat} {m : Nat → Bool} {k : Nat} {b : Blk} {x : Tr} : ∀ (l : List Tr) (n i : Nat), l[i]? = some x → x.te.blk (base + (n + i)) = some (k, b) → m (n + i) = true → (∀ j y c, i < j → l[j]? = some y → y.te.blk (base + (n + j)) = some (k, c) → m (n + j) = false) → lastB base m k n l = some b
  | [], n, i, h, _, _, _ => by simp at h
  | y :: l, n, 0, h, hb, hm, hl => by
    simp only [List.getElem?_cons_zero, Option.some.injEq] at h
    subst h
    have : lastB base m k (n + 1) l = none := by
      cases hc : lastB base m k (n + 1) l with
      | none => rfl
      | some c =>
        obtain ⟨j, z, h1, h2, h3⟩ := lastB_spec l (n + 1) hc
        have := hl (j + 1) z c (by omega) (by simpa using h1) (by rwa [show n + (j + 1) = n + 1 + j by omega])
        rw [show n + (j + 1) = n + 1 + j by omega, h3] at this
        cases this
    simp only [Nat.add_zero] at hb hm
    simp only [lastB, this, hb, hm, and_self, if_true]
  | y :: l, n, i + 1, h, hb, hm, hl => by
    simp only [List.getElem?_cons_succ] at h
    have ih := lastB_put l (n + 1) i h (by rwa [show n + 1 + i = n + (i + 1) by omega]) (by rwa [show n + 1 + i = n + (i + 1) by omega]) fun j z c hj hz hc => by
      have := hl (j + 1) z c (by omega) (by simpa using hz) (by rwa [show n + (j + 1) = n + 1 + j by omega])
      rwa [show n + (j + 1) = n + 1 + j by omega] at this
    simp only [lastB, ih]
theorem HM_spec {S : St} {base : Nat} {tr : List Tr} {m : Nat → Bool} {k : Nat} {b : Blk} (h : HM S base tr m k = some b) : lk S.heap k = some b ∨ ∃ j y, tr[j]? = some y ∧ y.te.blk (base + j) = some (k, b) ∧ m j = true := by
  unfold HM at h
  split at h
  · rename_i c hc
    simp only [Option.some.injEq] at h; subst h
    obtain ⟨j, y, h1, h2, h3⟩ := lastB_spec _ _ hc
    simp only [Nat.zero_add] at h2 h3
    exact .inr ⟨j, y, h1, h2, h3⟩
  · exact .inl h
theorem HM_congr {S : St} {base : Nat} {tr : List Tr} {m m' : Nat → Bool} {k : Nat} (h : ∀ j y c, tr[j]? = some y → y.te.blk (base + j) = some (k, c) → m j = m' j) : HM S base tr m k = HM S base tr m' k := by
  unfold HM
  rw [lastB_congr tr 0 fun j y c h1 h2 => by simp only [Nat.zero_add] at h2 ⊢; exact h j y c h1 h2]
theorem HM_put {S : St} {base : Nat} {tr : List Tr} {m : Nat → Bool} {k i : Nat} {b : Blk} {x : Tr} (hx : tr[i]? = some x) (hb : x.te.blk (base + i) = some (k, b)) (hm : m i = true) (hl : ∀ j y c, i < j → tr[j]? = some y → y.te.blk (base + j) = some (k, c) → m j = false) : HM S base tr m k = some b := by
  unfold HM
  rw [lastB_put tr 0 i hx (by simpa using hb) (by simpa using hm) fun j y c h1 h2 h3 => by simp only [Nat.zero_add] at h3 ⊢; exact hl j y c h1 h2 h3]
theorem HM_none {S : St} {base : Nat} {tr : List Tr} (k : Nat) : HM S base tr (fun _ => false) k = lk S.heap k := by
  unfold HM
  split
  · rename_i c hc
    obtain ⟨j, y, h1, h2, h3⟩ := lastB_spec _ _ hc
    cases h3
  · rfl

structure RelF (w0 : World) (r : Va) (sz : Nat) (T : Nat → Option SV) (H : Nat → Option Blk) (a : Act) (w : World) : Prop where
  defers : a.defers = []
  size : a.tmps.size = sz
  tmps : ∀ t x, T t = some x → a.tmps.getD t undef = x.den r
  inv : InvF w0 r H w

/-- What is to be so of the whole region (all of it is reckoned by the kernel). -/
structure RegOK (S : St) (base : Nat) (D : List Nat) (tr : List Tr) : Prop where
  dst : ∀ (i : Nat) (x : Tr) (t : Nat), tr[i]? = some x → x.o.dst = some t → t < S.sz ∧ findW 0 tr t = some (i, x.te.out)
  wr : ∀ (i j : Nat) (x y : Tr) (k : Nat) (b c : Blk), tr[i]? = some x → tr[j]? = some y → x.te.blk (base + i) = some (k, b) → y.te.blk (base + j) = some (k, c) → i < j → dep D j i = true
  vt : ∀ (i : Nat) (x : Tr) (t : Nat) (y : SV), tr[i]? = some x → lk x.V.tmps t = some y → match findW 0 tr t with
    | some (j, z) => (dep D i j = true ∧ y = z) ∨ ((dep D j i = true ∨ i = j) ∧ lk S.tmps t = some y)
    | none => lk S.tmps t = some y
  vh : ∀ (i : Nat) (x : Tr) (k : Nat) (b : Blk), tr[i]? = some x → lk x.V.heap k = some b → HM S base tr (fun j => decide (j < i)) k = some b ∧
    ∀ j y c, tr[j]? = some y → y.te.blk (base + j) = some (k, c) → (dep D i j = true ∧ j < i) ∨ ((dep D j i = true ∨ i = j) ∧ ¬ j < i)
  vw : ∀ (i : Nat) (x : Tr) (k : Nat) (b : Blk), tr[i]? = some x → (k, b) ∈ x.W → (∃ b0, HM S base tr (fun j => decide (j < i)) k = some b0 ∧ Imp b0 b) ∧
    ∀ j y c, tr[j]? = some y → y.te.blk (base + j) = some (k, c) → ¬ j < i ∧ (dep D j i = true ∨ i = j ∨ Imp c b)
  vok : ∀ (i : Nat) (x : Tr), tr[i]? = some x → x.VW.ok ∧ x.V.sz = S.sz
  ment : ∀ (i : Nat) (x : Tr), tr[i]? = some x → ∀ k, (k ∈ x.te.out.names ∨ ∃ k' b, x.te.blk (base + i) = some (k', b) ∧ k ∈ b.names) → k < base ∨ ∃ j, k = base + j ∧ (dep D i j = true ∨ j = i)
  upd : ∀ (i : Nat) (x : Tr) (k : Nat) (b : Blk) (z : Value), tr[i]? = some x → x.te = .upd k b z → ∃ c, lk x.V.heap k = some c
  tch : ∀ (i : Nat) (x : Tr) (k : Nat) (b : Blk) (z : Value), tr[i]? = some x → x.te = .tch k b z → lk x.V.heap k = some b
  updn : ∀ (i : Nat) (x : Tr) (k : Nat) (b : Blk) (z : Value), tr[i]? = some x → x.te = .upd k b z → k < base ∨ ∃ j, k = base + j ∧ dep D i j = true

theorem HM_weak {S : St} {base i : Nat} {tr : List Tr} {m : Nat → Bool} {k : Nat} {b b0 : Blk} (h0 : HM S base tr (fun j => decide (j < i)) k = some b0) (hb : Imp b0 b)
    (hw : ∀ j y c, tr[j]? = some y → y.te.blk (base + j) = some (k, c) → ¬ j < i ∧ (m j = false ∨ Imp c b)) : ∃ b', HM S base tr m k = some b' ∧ Imp b' b := by
  by_cases hx : ∃ j y c, tr[j]? = some y ∧ y.te.blk (base + j) = some (k, c) ∧ m j = true
  · have key : ∀ n j, n = tr.length - j → (∃ y c, tr[j]? = some y ∧ y.te.blk (base + j) = some (k, c) ∧ m j = true) → ∃ j y c, tr[j]? = some y ∧ y.te.blk (base + j) = some (k, c) ∧ m j = true ∧ ∀ j' y' c', j < j' → tr[j']? = some y' → y'.te.blk (base + j') = some (k, c') → m j' = false := by
      intro n
      induction n using Nat.strongRecOn with
      | _ n ih =>
        rintro j rfl ⟨y, c, h1, h2, h3⟩
        by_cases hl : ∃ j' y' c', j < j' ∧ tr[j']? = some y' ∧ y'.te.blk (base + j') = some (k, c') ∧ m j' = true
        · obtain ⟨j', y', c', g1, g2, g3, g4⟩ := hl
          have : j' < tr.length := (List.getElem?_eq_some_iff.1 g2).1
          exact ih (tr.length - j') (by omega) j' rfl ⟨y', c', g2, g3, g4⟩
        · refine ⟨j, y, c, h1, h2, h3, fun j' y' c' g1 g2 g3 => ?_⟩
          cases hm : m j' with
          | false => rfl
          | true => exact absurd ⟨j', y', c', g1, g2, g3, hm⟩ hl
    obtain ⟨j, y, c, h⟩ := hx
    obtain ⟨j, y, c, h1, h2, h3, h4⟩ := key _ j rfl ⟨y, c, h⟩
    refine ⟨c, HM_put h1 h2 h3 h4, ?_⟩
    rcases (hw j y c h1 h2).2 with g | g
    · rw [h3] at g; cases g
    · exact g
  · refine ⟨b0, ?_, hb⟩
    rw [← h0]
    refine HM_congr fun j y c h1 h2 => ?_
    have := (hw j y c h1 h2).1
    simp only [this, decide_false]
    cases hm : m j with
    | false => rfl
    | true => exact absurd ⟨j, y, c, h1, h2, hm⟩ hx
theorem findW_spec : ∀ (l : List Tr) (n t i : Nat) (x : SV), findW n l t = some (i, x) → ∃ j y, i = n + j ∧ l[j]? = some y ∧ y.o.dst = some t ∧ x = y.te.out
  | [], n, t, i, x, h => by simp only [findW] at h; cases h
  | y :: l, n, t, i, x, h => by
    simp only [findW] at h
    split at h
    · rename_i hd
      simp only [Option.some.injEq, Prod.mk.injEq] at h
      exact ⟨0, y, by omega, by simp, hd, h.2.symm⟩
    · obtain ⟨j, z, h1, h2, h3⟩ := findW_spec l (n + 1) t i x h
      exact ⟨j + 1, z, by omega, by simpa using h2, h3⟩
section
variable {C : Cx} {S : St} {base : Nat} {ops : Array Oper} {D : List Nat} {tr : List Tr}

theorem dst_of_ops (l : List Oper) (j : Nat) (a : Act) (arr : Array Oper) (h : arr.toList = l) {w0 : World} {r : Va} {V : St} {w : World} {b : Bool} (hR : Rel w0 r V a w) (hb : lkD V (dstOf l j) = some (.v (.bool b))) : yielded arr a.tmps j = some b := by
  have hd : dstOf l j = (arr[j]?).bind (·.dst) := by rw [dstOf_eq, ← h, Array.getElem?_toList]
  rw [hd] at hb
  unfold yielded
  cases hd : (arr[j]?).bind (·.dst) with
  | none => rw [hd] at hb; simp [lkD] at hb
  | some d =>
    rw [hd] at hb
    simp only [lkD] at hb
    simp only [Option.bind_some]
    have h1 := hR.tmps d _ hb
    simp only [SV.den] at h1
    rw [Array.getD_eq_getD_getElem?] at h1
    cases hx : a.tmps[d]? with
    | none => rw [hx] at h1; simp [undef] at h1
    | some v => rw [hx] at h1; simp only [Option.getD_some] at h1; subst h1; rfl

/-- What the state behind m says, the state behind m and one more says, but for what that one writes. -/
theorem chg_next (hO : S.ok) (hbase : S.next ≤ base) (hG : RegOK S base D tr) {m m' : Nat → Bool} {i : Nat} {x : Tr} (hx : tr[i]? = some x) (hmi : m i = false) (hm' : ∀ j, m' j = if j = i then true else m j)
    (hno : ∀ j, dep D j i = true → m j = false) (hdep : ∀ j, dep D i j = true → m j = true) {w0 : World} {r r' : Va} {a : Act} {w w' : World}
    (hR : RelF w0 r S.sz (TM S tr m) (HM S base tr m) a w) (hc : Chg w0 (base + i) x.te r r' w w') : RelF w0 r' S.sz (TM S tr m') (HM S base tr m') (a.put x.o.dst (x.te.out.den r')) w' := by
  -- names
  have hname : ∀ j y, tr[j]? = some y → m j = true → ∀ k, (k ∈ y.te.out.names ∨ ∃ k' b, y.te.blk (base + j) = some (k', b) ∧ k ∈ b.names) → (k != base + i) = true := by
    intro j y hy hmj k hk
    have hji : j ≠ i := fun e => by subst e; rw [hmi] at hmj; cases hmj
    rcases hG.ment j y hy k hk with h | ⟨l, h1, h2⟩
    · simp; omega
    · have : l ≠ i := by
        intro e; subst e
        rcases h2 with h2 | h2
        · rw [hno j h2] at hmj; cases hmj
        · exact hji h2.symm
      simp; omega
  have hT : ∀ t y, TM S tr m t = some y → y.nm (fun k => k != base + i) = true := by
    intro t y hy
    have hb : lk S.tmps t = some y → y.nm (fun k => k != base + i) = true := fun h => SV.nm_mono (fun k hk => by simp only [lt, Nat.blt_eq] at hk; simp; omega) y (hO.tmps t y h)
    unfold TM at hy
    split at hy
    · rename_i j z hf
      split at hy
      · rename_i hmj
        simp only [Option.some.injEq] at hy; subst hy
        obtain ⟨j', y', h1, h2, h3, h4⟩ := findW_spec _ _ _ _ _ hf
        have : j' = j := by omega
        subst this
        rw [h4]
        exact SV.names_nm _ _ fun k hk => hname _ _ h2 hmj k (.inl hk)
      · exact hb hy
    · exact hb hy
  have hH : ∀ k b, HM S base tr m k = some b → (k != base + i) = true ∧ b.nm (fun k => k != base + i) = true := by
    intro k b hb
    have hb0 : lk S.heap k = some b → (k != base + i) = true ∧ b.nm (fun k => k != base + i) = true := fun h => by
      obtain ⟨h1, h2⟩ := hO.heap k b h
      refine ⟨by simp only [lt, Nat.blt_eq] at h1; simp; omega, b.nm_mono (fun k hk => by simp only [lt, Nat.blt_eq] at hk; simp; omega) h2⟩
    rcases HM_spec hb with hb | ⟨j', y', h2, h3, hmj⟩
    · exact hb0 hb
    have hji : j' ≠ i := fun e => by subst e; rw [hmi] at hmj; cases hmj
    refine ⟨?_, Blk.names_nm _ _ fun q hq => hname _ _ h2 hmj q (.inr ⟨_, _, h3, hq⟩)⟩
    cases hte : y'.te with
    | val z => rw [hte] at h3; simp [TE.blk] at h3
    | tch q c z => rw [hte] at h3; simp [TE.blk] at h3
    | new c z =>
      rw [hte] at h3
      simp only [TE.blk, Option.some.injEq, Prod.mk.injEq] at h3
      simp; omega
    | upd q c =>
      rw [hte] at h3
      simp only [TE.blk, Option.some.injEq, Prod.mk.injEq] at h3
      obtain ⟨rfl, rfl⟩ := h3
      rcases hG.updn _ _ _ _ _ h2 hte with h | ⟨l, g1, g2⟩
      · simp; omega
      · have : l ≠ i := fun e => by subst e; rw [hno _ g2] at hmj; cases hmj
        simp; omega
  have hsame : Va.same (fun k => k != base + i) r r' := by
    unfold Chg at hc
    cases hte : x.te with
    | val z => rw [hte] at hc; rw [hc.1]; exact Va.same_refl _ _
    | new b z => rw [hte] at hc; exact hc.1
    | upd k b => rw [hte] at hc; rw [hc.1]; exact Va.same_refl _ _
    | tch k b z => rw [hte] at hc; rw [hc.1]; exact Va.same_refl _ _
  -- temporaries
  have tme : ∀ t, x.o.dst ≠ some t → TM S tr m' t = TM S tr m t := by
    intro t ht
    unfold TM
    cases hf : findW 0 tr t with
    | none => rfl
    | some q =>
      obtain ⟨j, z⟩ := q
      obtain ⟨j', y', h1, h2, h3, h4⟩ := findW_spec _ _ _ _ _ hf
      have : j' = j := by omega
      subst this
      have hji : j' ≠ i := fun e => by subst e; rw [hx] at h2; simp only [Option.some.injEq] at h2; subst h2; exact ht h3
      simp only [hm', if_neg hji]
  have hput : ∀ t y, TM S tr m' t = some y → (a.put x.o.dst (x.te.out.den r')).tmps.getD t undef = y.den r' := by
    intro t y hy
    by_cases ht : x.o.dst = some t
    · obtain ⟨g1, g2⟩ := hG.dst i x t hx ht
      unfold TM at hy
      rw [g2] at hy
      simp only [hm', if_true, Option.some.injEq] at hy
      subst hy
      rw [ht]
      have hsz := hR.size
      simp only [Act.put]
      simp [show t < a.tmps.size by omega]
    · rw [tme t ht] at hy
      have h1 := hR.tmps t y hy
      rw [← SV.den_congr hsame y (hT t y hy), ← h1]
      cases hd : x.o.dst with
      | none => rfl
      | some d =>
        have : d ≠ t := fun e => ht (by rw [hd, e])
        simp only [Act.put]
        simp [this]
  have hdf : (a.put x.o.dst (x.te.out.den r')).defers = [] := by
    cases x.o.dst <;> exact hR.defers
  have hsz : (a.put x.o.dst (x.te.out.den r')).tmps.size = S.sz := by
    cases x.o.dst
    · exact hR.size
    · simp only [Act.put, Array.size_setIfInBounds]; exact hR.size
  refine ⟨hdf, hsz, hput, ?_⟩
  -- memory
  have hme : ∀ k, (∀ b, x.te.blk (base + i) ≠ some (k, b)) → HM S base tr m' k = HM S base tr m k := by
    intro k hk
    refine HM_congr fun j' y' c h2 h3 => ?_
    have hji : j' ≠ i := fun e => by subst e; rw [hx] at h2; simp only [Option.some.injEq] at h2; subst h2; exact hk _ h3
    simp only [hm', if_neg hji]
  have hup : ∀ k b, x.te.blk (base + i) = some (k, b) → HM S base tr m' = upF (HM S base tr m) k b := by
    intro k b hb
    funext k'
    simp only [upF]
    split
    · rename_i e; subst e
      refine HM_put hx hb (by simp only [hm', if_true]) fun j y c hj hy hc => ?_
      have hji : j ≠ i := by omega
      simp only [hm', if_neg hji]
      exact hno j (hG.wr i j x y _ b c hx hy hb hc hj)
    · rename_i e
      exact hme k' fun c hc => by
        rw [hb] at hc
        simp only [Option.some.injEq, Prod.mk.injEq] at hc
        exact e hc.1
  unfold Chg at hc
  cases hte : x.te with
  | val z =>
    rw [hte] at hc
    obtain ⟨rfl, hb⟩ := hc
    have : HM S base tr m' = HM S base tr m := funext fun k => hme k fun b => by simp [hte, TE.blk]
    rw [this]
    exact hR.inv.step hb
  | new b z =>
    rw [hte] at hc
    obtain ⟨h1, h2, h3, h4, h5⟩ := hc
    rw [hup (base + i) b (by simp [hte, TE.blk])]
    exact hR.inv.add h2 hH h1 (by simp) h3 h4 h5
  | upd k b z =>
    rw [hte] at hc
    obtain ⟨rfl, h2, h3, h4⟩ := hc
    rw [hup k b (by simp [hte, TE.blk])]
    obtain ⟨c, hc⟩ := hG.upd i x k b z hx hte
    have hmk : HM S base tr m k = some c := by
      obtain ⟨g0, g⟩ := hG.vh i x k c hx hc
      rw [← g0]
      refine HM_congr fun j y d hj hd => ?_
      rcases g j y d hj hd with ⟨g1, g2⟩ | ⟨g1, g2⟩
      · simp only [hdep j g1, g2, decide_true]
      · have : m j = false := by
          rcases g1 with g1 | g1
          · exact hno j g1
          · exact g1 ▸ hmi
        simp only [this, g2, decide_false]
    exact hR.inv.upd hmk h2 h3 h4
  | tch k b z =>
    rw [hte] at hc
    obtain ⟨rfl, h2, h3, h4⟩ := hc
    have hc := hG.tch i x k b z hx hte
    have hmk : HM S base tr m k = some b := by
      obtain ⟨g0, g⟩ := hG.vh i x k b hx hc
      rw [← g0]
      refine HM_congr fun j y d hj hd => ?_
      rcases g j y d hj hd with ⟨g1, g2⟩ | ⟨g1, g2⟩
      · simp only [hdep j g1, g2, decide_true]
      · have : m j = false := by
          rcases g1 with g1 | g1
          · exact hno j g1
          · exact g1 ▸ hmi
        simp only [this, g2, decide_false]
    have this : HM S base tr m' = HM S base tr m := funext fun k => hme k fun b => by simp [hte, TE.blk]
    rw [this]
    have hu := hR.inv.upd hmk h2 h3 h4
    have he : upF (HM S base tr m) k b = HM S base tr m := funext fun j => by
      simp only [upF]
      split
      · rename_i e; subst e; exact hmk.symm
      · rfl
    rwa [he] at hu

def cnt : List Bool → Nat
  | [] => 0
  | true :: l => cnt l
  | false :: l => cnt l + 1
theorem cnt_set : ∀ (l : List Bool) (i : Nat), l[i]? = some false → cnt (l.set i true) + 1 = cnt l
  | [], i, h => by simp at h
  | b :: l, 0, h => by
    simp only [List.getElem?_cons_zero, Option.some.injEq] at h
    subst h
    simp only [List.set_cons_zero, cnt]
  | b :: l, i + 1, h => by
    simp only [List.getElem?_cons_succ] at h
    have := cnt_set l i h
    cases b <;> simp only [List.set_cons_succ, cnt] <;> omega
theorem cnt_zero : ∀ (l : List Bool), cnt l = 0 → ∀ i : Nat, l.getD i true = true
  | [], _, i => by simp
  | true :: l, h, 0 => by simp
  | true :: l, h, i + 1 => by simpa using cnt_zero l (by simpa only [cnt] using h) i
  | false :: l, h, i => by simp only [cnt] at h; omega
theorem cnt_rep : ∀ n, cnt (List.replicate n false) = n
  | 0 => by simp [cnt]
  | n + 1 => by simp only [List.replicate_succ, cnt, cnt_rep n]

/-- A region that draws its order: whatever the order, it comes to the state behind all. -/
theorem draw_any (hO : S.ok) (hbase : S.next ≤ base) (hD : MasksOK ops.toList D) (hlen : tr.length = ops.size) (hop : ∀ (i : Nat) (x : Tr), tr[i]? = some x → ops[i]? = some x.o) (hG : RegOK S base D tr)
    (hL : ∀ (i : Nat) (x : Tr), tr[i]? = some x → LocV C ops.toList (base + i) x) (hE : ∀ (i : Nat) (o : Oper), ops[i]? = some o → ∀ e ∈ o.after.toList, Region.binds .any e = true → e.on < i)
    {Q : Exit → Act → World → Prop} (hQ : ∀ r a w, RelF C.w0 r S.sz (TM S tr fun j => decide (j < ops.size)) (HM S base tr fun j => decide (j < ops.size)) a w → Q .normal a w) :
    ∀ (fuel : Nat) (listed : Array Bool) (a : Act) (w : World) (r : Va), listed.size = ops.size → cnt listed.toList = fuel → Closed ops.toList (fun j => listed.getD j false) →
      RelF C.w0 r S.sz (TM S tr fun j => listed.getD j false) (HM S base tr fun j => listed.getD j false) a w → wpAny C.P .any ops Q fuel listed a w := by
  have all : ∀ (listed : Array Bool), listed.size = ops.size → (∀ i, i < ops.size → listed.getD i false = true) → (fun j => listed.getD j false) = fun j => decide (j < ops.size) := by
    intro listed hs h
    funext j
    by_cases hj : j < ops.size
    · rw [h j hj]; simp [hj]
    · simp [hj, hs]
  have fin : ∀ (listed : Array Bool) (a : Act) (w : World) (r : Va), listed.size = ops.size → (∀ i, i < ops.size → listed.getD i false = true) →
      RelF C.w0 r S.sz (TM S tr fun j => listed.getD j false) (HM S base tr fun j => listed.getD j false) a w → Q .normal a w := by
    intro listed a w r hs h hR
    have e := all listed hs h
    rw [e] at hR
    exact hQ r a w hR
  intro fuel
  induction fuel with
  | zero =>
    intro listed a w r hs hc hcl hR
    have h1 : ∀ i, i < ops.size → listed.getD i false = true := fun i hi => by
      have := cnt_zero _ hc i
      simp [hs, hi] at this ⊢
      exact this
    refine ⟨?_, fin listed a w r hs h1 hR⟩
    cases hr : Region.ready .any ops listed with
    | nil => rfl
    | cons i l =>
      have : i ∈ Region.ready .any ops listed := by rw [hr]; exact List.mem_cons_self ..
      obtain ⟨g1, o, g2, _⟩ := mem_ready.1 this
      have hi : i < ops.size := (Array.getElem?_eq_some_iff.1 g2).1
      have := h1 i hi
      simp [hs, hi] at this g1
      rw [this] at g1; cases g1
  | succ fuel ih =>
    intro listed a w r hs hc hcl hR
    refine ⟨fun h0 => fin listed a w r hs ?_ hR, fun i hi => ?_⟩
    · intro i
      induction i using Nat.strongRecOn with
      | _ i ihi =>
        intro hi
        cases hv : listed.getD i false with
        | true => rfl
        | false =>
          exfalso
          have : i ∈ Region.ready .any ops listed := by
            rw [mem_ready]
            refine ⟨by simp [hs, hi] at hv ⊢; exact hv, ops[i], by simp [hi], fun e he hb => ?_⟩
            have hlt := hE i ops[i] (by simp [hi]) e (by simpa using he) hb
            exact ihi e.on hlt (by omega)
          rw [h0] at this
          cases this
    · obtain ⟨g1, o, g2, g3⟩ := mem_ready.1 hi
      have hi' : i < ops.size := (Array.getElem?_eq_some_iff.1 g2).1
      have hmi : listed.getD i false = false := by simp [hs, hi'] at g1 ⊢; exact g1
      obtain ⟨x, hx⟩ : ∃ x, tr[i]? = some x := ⟨tr[i]'(by omega), by simp⟩
      have hxo := hop i x hx
      rw [g2] at hxo
      simp only [Option.some.injEq] at hxo
      subst hxo
      have gl : ops.toList[i]? = some x.o := by rw [Array.getElem?_toList]; exact g2
      have hdep : ∀ j, dep D i j = true → listed.getD j false = true := hD.ready hcl gl fun e he hb => g3 e (by simpa using he) hb
      have hno : ∀ j, dep D j i = true → listed.getD j false = false := by
        intro j hj
        cases hv : listed.getD j false with
        | false => rfl
        | true => have := hD.mem hcl j i hv hj; simp only [hmi] at this; cases this
      have hset : ∀ j, (listed.setIfInBounds i true).getD j false = if j = i then true else listed.getD j false := by
        intro j
        by_cases hji : j = i
        · subst hji; simp [hs, hi']
        · rw [if_neg hji]
          exact getD_set_ne false (fun e => hji e.symm)
      -- the view fits
      have hV : Rel C.w0 r x.VW a w := by
        obtain ⟨v1, v2⟩ := hG.vok i x hx
        have hmj : ∀ j, (dep D j i = true ∨ i = j) → listed.getD j false = false := fun j hj => by
          rcases hj with hj | hj
          · exact hno j hj
          · exact hj ▸ hmi
        refine ⟨hR.defers, hR.size.trans v2.symm, fun t y hy => hR.tmps t y ?_, hR.inv.weak fun k b hk => ?_, v1⟩
        · have := hG.vt i x t y hx hy
          unfold TM
          split at this
          · rename_i j z hf
            rcases this with ⟨q1, q2⟩ | ⟨q1, q2⟩
            · simp only [hdep j q1, if_true, q2]
            · simp only [hmj j q1, Bool.false_eq_true, if_false, q2]
          · exact this
        · rcases lk_app _ _ _ _ hk with hk | hk
          · obtain ⟨⟨b0, g0, g1⟩, g⟩ := hG.vw i x k b hx hk
            refine HM_weak g0 g1 fun j y c hj hd => ?_
            obtain ⟨q1, q2⟩ := g j y c hj hd
            refine ⟨q1, ?_⟩
            rcases q2 with q2 | q2 | q2
            · exact .inl (hmj j (.inl q2))
            · exact .inl (hmj j (.inr q2))
            · exact .inr q2
          · refine ⟨b, ?_, fun _ _ _ _ h => h⟩
            obtain ⟨g0, g⟩ := hG.vh i x k b hx hk
            rw [← g0]
            refine HM_congr fun j y d hj hd => ?_
            rcases g j y d hj hd with ⟨q1, q2⟩ | ⟨q1, q2⟩
            · simp only [hdep j q1, q2, decide_true]
            · simp only [hmj j q1, q2, decide_false]
      have hnext : ∀ r' w', Chg C.w0 (base + i) x.te r r' w w' → wpAny C.P .any ops Q fuel (listed.setIfInBounds i true) (a.put x.o.dst (x.te.out.den r')) w' := by
        intro r' w' hc'
        refine ih _ _ _ r' (by simpa using hs) ?_ ?_ (chg_next hO hbase hG hx hmi hset hno hdep hR hc')
        · have : (listed.setIfInBounds i true).toList = listed.toList.set i true := by simp
          rw [this]
          have hg : listed.toList[i]? = some false := by
            rw [Array.getElem?_toList]
            simp [hs, hi'] at hmi ⊢
            exact hmi
          have := cnt_set _ _ hg
          omega
        · intro j o' hj ho' e he hb
          simp only [hset] at hj ⊢
          split
          · rfl
          · by_cases hji : j = i
            · subst hji
              rw [gl] at ho'
              simp only [Option.some.injEq] at ho'
              subst ho'
              exact g3 e (by simpa using he) hb
            · rw [if_neg hji] at hj
              exact hcl j o' hj ho' e he hb
      obtain ⟨l1, l2, l3⟩ := hL i x hx
      unfold wpOp
      simp only [g2]
      have hwant : Region.wanted x.o (yielded ops a.tmps) = x.on := by
        unfold Region.wanted
        split at l1
        · rename_i hg; rw [hg]; simp [l1]
        · rename_i j want hg
          obtain ⟨b, hb, he⟩ := l1
          rw [hg]
          simp only [dst_of_ops ops.toList j a ops rfl hV hb]
          rw [he]
          cases b <;> cases want <;> rfl
      rw [hwant]
      cases hon : x.on with
      | true => simp only [if_true]; exact .inl (l3 hon r a w hV _ _ hnext)
      | false =>
        simp only [Bool.false_eq_true, if_false]
        have hte := l2 hon
        have := hnext r w (by rw [hte]; exact ⟨rfl, Below.refl _ _⟩)
        rw [hte] at this
        exact this
end
end Go.Proofs.Ytpoiebkcjehheaa
