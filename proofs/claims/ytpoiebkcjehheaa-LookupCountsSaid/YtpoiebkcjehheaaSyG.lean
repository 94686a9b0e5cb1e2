/- A symbolic walk, part G: the machine for regions that draw their order. -/
import Derived.Test.YtpoiebkcjehheaaSyF
namespace Go.Proofs.Ytpoiebkcjehheaa
open Go.RowKit

def pick {α : Type} (L : List (Nat × α)) : List Nat → List (Nat × α)
  | [] => []
  | t :: ts => match lk L t with | some x => (t, x) :: pick L ts | none => pick L ts
theorem pick_some {α : Type} (L : List (Nat × α)) : ∀ (ts : List Nat) (t : Nat) (x : α), lk (pick L ts) t = some x → lk L t = some x ∧ t ∈ ts
  | [], t, x, h => by simp only [pick, lk] at h; cases h
  | u :: ts, t, x, h => by
    simp only [pick] at h
    split at h
    · rename_i y hy
      rw [lk_cons] at h
      split at h
      · rename_i e; subst e
        simp only [Option.some.injEq] at h; subst h
        exact ⟨hy, List.mem_cons_self ..⟩
      · have := pick_some L ts t x h
        exact ⟨this.1, List.mem_cons_of_mem _ this.2⟩
    · have := pick_some L ts t x h
      exact ⟨this.1, List.mem_cons_of_mem _ this.2⟩
theorem pick_mem {α : Type} (L : List (Nat × α)) : ∀ (ts : List Nat) (t : Nat), t ∈ ts → lk (pick L ts) t = lk L t
  | [], t, h => by cases h
  | u :: ts, t, h => by
    simp only [pick]
    cases hu : lk L u with
    | some y =>
      simp only
      rw [lk_cons]
      split
      · rename_i e; subst e; exact hu.symm
      · rename_i e
        rcases List.mem_cons.1 h with rfl | h
        · exact absurd rfl e
        · exact pick_mem L ts t h
    | none =>
      simp only
      by_cases e : u = t
      · subst e
        by_cases hm : u ∈ ts
        · exact pick_mem L ts u hm
        · rw [hu]
          cases hp : lk (pick L ts) u with
          | none => rfl
          | some x => exact absurd (pick_some L ts u x hp).2 hm
      · rcases List.mem_cons.1 h with rfl | h
        · exact absurd rfl e
        · exact pick_mem L ts t h

def St.view (S : St) (ts ks : List Nat) : St := { S with tmps := pick S.tmps ts, heap := pick S.heap ks }

def looks (full : List Oper) (o : Oper) : List Nat :=
  (o.op.operands.toList.filterMap fun | .tmp t => some t | _ => none) ++ (match o.guard with | some (g, _) => (dstOf full g).toList | none => [])

/-- The blocks whose cells an operation reads or writes. -/
def accOf (o : Op) (S : St) : List Nat :=
  match o with
  | .load _ x => (match S.ev x with | some (.ptr k _) => [k] | _ => [])
  | .store _ a _ => (match S.ev a with | some (.ptr k _) => [k] | _ => [])
  | _ => []

theorem evs_congr {S V : St} : ∀ (l : List Operand), (∀ x ∈ l, V.ev x = S.ev x) → evs V l = evs S l
  | [], _ => rfl
  | x :: l, h => by
    simp only [evs]
    rw [h x (List.mem_cons_self ..), evs_congr l fun y hy => h y (List.mem_cons_of_mem _ hy)]
theorem evp_congr {S V : St} : ∀ (l : List (Nat × Operand)), (∀ x ∈ l, V.ev x.2 = S.ev x.2) → evp V l = evp S l
  | [], _ => rfl
  | (i, x) :: l, h => by
    simp only [evp]
    rw [h (i, x) (List.mem_cons_self ..), evp_congr l fun y hy => h y (List.mem_cons_of_mem _ hy)]

theorem pLoad_congr {m : Addr → Option Value} {i : Option TI} {H H' : List (Nat × Blk)} {x : SV} (h : ∀ k o, x = .ptr k o → lk H' k = lk H k) : pLoad m i H' x = pLoad m i H x := by
  cases x with
  | ptr k o => simp only [pLoad]; rw [h k o rfl]
  | v x => cases x with
    | pointer a => cases a <;> rfl
    | _ => rfl
  | _ => rfl
theorem pStore_congr {i : Option TI} {H H' : List (Nat × Blk)} {x y : SV} (h : ∀ k o, x = .ptr k o → lk H' k = lk H k) : pStore i H' x y = pStore i H x y := by
  cases x <;> simp only [pStore]
  rename_i k o
  rw [h k o rfl]

theorem effOf_congr (tab : TypeId → Option TI) (mem : TypeId → Addr → Option Value) (o : Op) {S V : St} (hv : ∀ x ∈ o.operands, V.ev x = S.ev x) (hh : ∀ k ∈ accOf o S, lk V.heap k = lk S.heap k) : effOf tab mem o V = effOf tab mem o S := by
  cases o <;> simp only [effOf] <;> simp only [Op.operands] at hv
  case move x => rw [hv x (by simp)]
  case assign x => rw [hv x (by simp)]
  case pick c x y => rw [hv c (by simp), hv x (by simp), hv y (by simp)]
  case box t x => rw [hv x (by simp)]
  case build t ps => rw [evp_congr ps.toList fun x hx => hv x.2 (by simp only [List.mem_toArray, List.mem_map]; exact ⟨x, hx, rfl⟩)]
  case buildSlice t n ps => rw [evp_congr ps.toList fun x hx => hv x.2 (by simp only [List.mem_toArray, List.mem_map]; exact ⟨x, hx, rfl⟩)]
  case load t x =>
    rw [hv x (by simp)]
    cases hx : S.ev x with
    | none => rfl
    | some y => exact pLoad_congr fun k o e => hh k (by simp only [accOf, hx, e, List.mem_singleton])
  case store t x y =>
    rw [hv x (by simp), hv y (by simp)]
    cases hx : S.ev x with
    | none => rfl
    | some u =>
      cases hy : S.ev y with
      | none => rfl
      | some v => exact pStore_congr fun k o e => hh k (by simp only [accOf, hx, e, List.mem_singleton])
  case nilCheck x => rw [hv x (by simp)]
  case binOp op t x y u => rw [hv x (by simp), hv y (by simp)]
  case unOp op t x => rw [hv x (by simp)]
  case convert s t x => rw [hv x (by simp)]
  case makeInterface t x => rw [hv x (by simp)]
  case makeFunc f a b => rw [evs_congr a.toList fun x hx => hv x (by simp; exact .inl (by simpa using hx)), evs_congr b.toList fun x hx => hv x (by simp; exact .inr (by simpa using hx))]
  case fieldAddr t x f => rw [hv x (by simp)]
  case field t x f => rw [hv x (by simp)]
  case indexAddr t x i => rw [hv x (by simp), hv i (by simp)]
  case index t x i => rw [hv x (by simp), hv i (by simp)]
  case typeAssert x u t ok => rw [hv x (by simp)]
  case extract x n => rw [hv x (by simp)]
  case call c =>
    rw [evs_congr c.args.toList fun x hx => hv x (by simp only [Call.operands, Array.mem_append]; exact .inr (by simpa using hx))]
    congr 1
    cases hc : c.callee with
    | value f => simp only [calleeOp, Option.bind_some]; exact hv f (by simp [Call.operands, hc])
    | _ => rfl

/-- What is noted of an operation of such a region. -/
structure Ms where
  reads : List Nat
  pre : List Nat
  wr : Option Nat
  up : Bool
  ment : List Nat

def ordOK (D : List Nat) (i j : Nat) : Bool := dep D j i || dep D i j
def allIx {α : Type} (f : Nat → α → Bool) : Nat → List α → Bool
  | _, [] => true
  | n, x :: l => f n x && allIx f (n + 1) l
theorem allIx_get {α : Type} (f : Nat → α → Bool) : ∀ (l : List α) (n : Nat), allIx f n l = true → ∀ (i : Nat) (x : α), l[i]? = some x → f (n + i) x = true
  | [], n, _, i, x, h => by simp at h
  | y :: l, n, hl, i, x, h => by
    simp only [allIx, Bool.and_eq_true] at hl
    cases i with
    | zero => simp only [List.getElem?_cons_zero, Option.some.injEq] at h; subst h; exact hl.1
    | succ i =>
      simp only [List.getElem?_cons_succ] at h
      have := allIx_get f l (n + 1) hl.2 i x h
      rwa [show n + 1 + i = n + (i + 1) by omega] at this
def oneOK (D : List Nat) (sz base i : Nat) (o : Oper) (y : Ms) : Bool :=
  (match o.dst with | some t => decide ((t : Nat) < sz) | none => true) &&
  y.ment.all (fun k => decide (k < base) || (k == base + i) || (decide (base ≤ k) && dep D i (k - base))) &&
  (match y.wr with | some k => bif y.up then decide (k < base) || (decide (base ≤ k) && dep D i (k - base)) else (k == base + i) | none => true) &&
  o.after.toList.all (fun e => !Region.binds .any e || decide (e.on < i)) && y.pre.all (fun k => k != base + i)
def pairOK (D : List Nat) (ls : List Nat) (i : Nat) (oi : Oper) (yi : Ms) (j : Nat) (oj : Oper) (yj : Ms) : Bool :=
  (i == j) ||
  ((match oi.dst with | some t => (!(ls.contains t) || ordOK D i j) && !(oj.dst == some t) | none => true) &&
   (match yi.wr with | some k => (!(yj.reads.contains k) || ordOK D i j) && (!(yj.wr == some k) || ordOK D i j) | none => true))
def chk (D : List Nat) (sz base : Nat) (full : List Oper) (ms : List Ms) : Bool :=
  (ms.length == full.length) &&
  allIx (fun i p => oneOK D sz base i p.1 p.2 && allIx (fun j q => pairOK D (looks full q.1) i p.1 p.2 j q.1 q.2) 0 (full.zip ms)) 0 (full.zip ms)

theorem chk_one {D : List Nat} {sz base : Nat} {full : List Oper} {ms : List Ms} (h : chk D sz base full ms = true) {i : Nat} {o : Oper} {y : Ms} (ho : full[i]? = some o) (hy : ms[i]? = some y) : oneOK D sz base i o y = true := by
  simp only [chk, Bool.and_eq_true] at h
  have := allIx_get _ _ _ h.2 i (o, y) (by rw [List.getElem?_zip_eq_some]; exact ⟨ho, hy⟩)
  simp only [Nat.zero_add, Bool.and_eq_true] at this
  exact this.1
theorem chk_pair {D : List Nat} {sz base : Nat} {full : List Oper} {ms : List Ms} (h : chk D sz base full ms = true) {i j : Nat} {o o' : Oper} {y y' : Ms} (ho : full[i]? = some o) (hy : ms[i]? = some y)
    (ho' : full[j]? = some o') (hy' : ms[j]? = some y') : pairOK D (looks full o') i o y j o' y' = true := by
  simp only [chk, Bool.and_eq_true] at h
  have := allIx_get _ _ _ h.2 i (o, y) (by rw [List.getElem?_zip_eq_some]; exact ⟨ho, hy⟩)
  simp only [Nat.zero_add, Bool.and_eq_true] at this
  have := allIx_get _ _ _ this.2 j (o', y') (by rw [List.getElem?_zip_eq_some]; exact ⟨ho', hy'⟩)
  simpa only [Nat.zero_add] using this

def St.wr (S : St) (q : Option (Nat × Blk)) : St := match q with | some (k, b) => { S with heap := (k, b) :: S.heap } | none => S
def blkNames : Option (Nat × Blk) → List Nat
  | some (_, b) => b.names
  | none => []
/-- Two states that say the same. -/
structure St.same (S T : St) : Prop where
  sz : S.sz = T.sz
  next : S.next = T.next
  tmps : ∀ t, lk S.tmps t = lk T.tmps t
  heap : ∀ k, lk S.heap k = lk T.heap k

def TrOK (C : Cx) (full : List Oper) (base : Nat) : List Oper → Nat → St → List Tr → List Ms → St → Prop
  | [], _, S, [], [], S' => S' = S
  | o :: rest, i, S, x :: tr, y :: ms, S' =>
    (x.o = o ∧ (∃ Sv : St, Sv.same S ∧ x.V = Sv.view (looks full o) y.reads) ∧ (x.VW.ok → (∀ k ∈ y.pre, k ≠ base + i) → LocV C full (base + i) x) ∧ y.wr = (x.te.blk (base + i)).map (·.1) ∧ (∀ k b z, x.te = .upd k b z → y.up = true ∧ ∃ c, lk x.V.heap k = some c) ∧ (∀ k b z, x.te = .tch k b z → lk x.V.heap k = some b) ∧
      (∀ b z, x.te = .new b z → y.up = false) ∧ (∀ k, k ∈ x.te.out.names ∨ k ∈ blkNames (x.te.blk (base + i)) → k ∈ y.ment) ∧
      (∀ kb ∈ x.W, kb.2.nm (fun _ => false) = true ∧ ∃ b0, lk S.heap kb.1 = some b0 ∧ Imp b0 kb.2)) ∧
    ∃ S1 : St, S1.same ((S.wr (x.te.blk (base + i))).put o.dst x.te.out) ∧ TrOK C full base rest (i + 1) S1 tr ms S'
  | _, _, _, _, _, _ => False

/-- What is told weakly of a block at one operation is so whatever of the others came ahead. -/
def WOK (D : List Nat) (base i : Nat) (pre : List Ms) (tr : List Tr) : Prop :=
  ∀ l x, tr[l]? = some x → ∀ kb ∈ x.W, (∀ y ∈ pre, y.wr ≠ some kb.1) ∧ ∀ l' y c, tr[l']? = some y → y.te.blk (base + (i + l')) = some (kb.1, c) → l < l' ∧ (dep D (i + l') (i + l) = true ∨ Imp c kb.2)
/-- What is left of such a region, and what comes behind it, is done well. -/
def DTodo (C : Cx) (full : List Oper) (base sz : Nat) (k : List Item) (rest : List Oper) (i : Nat) (ms : List Ms) (S : St) : Prop :=
  ∃ tr ms' S', TrOK C full base rest i S tr ms' S' ∧ chk (masks full) sz base full (ms ++ ms') = true ∧ WOK (masks full) base i ms tr ∧ Todo C k S'

theorem TrOK.len {C : Cx} {full : List Oper} {base : Nat} : ∀ (rest : List Oper) (i : Nat) (S : St) (tr : List Tr) (ms : List Ms) (S' : St), TrOK C full base rest i S tr ms S' → tr.length = rest.length ∧ ms.length = rest.length
  | [], _, _, [], [], _, _ => ⟨rfl, rfl⟩
  | [], _, _, _ :: _, _, _, h => by simp only [TrOK] at h
  | [], _, _, [], _ :: _, _, h => by simp only [TrOK] at h
  | _ :: _, _, _, [], _, _, h => by simp only [TrOK] at h
  | _ :: _, _, _, _ :: _, [], _, h => by simp only [TrOK] at h
  | o :: rest, i, S, x :: tr, y :: ms, S', h => by
    obtain ⟨_, S1, _, h⟩ := h
    have := TrOK.len rest (i + 1) S1 tr ms S' h
    simp only [List.length_cons, this.1, this.2, and_self]

/-- What is so of each operation. -/
theorem TrOK.at {C : Cx} {full : List Oper} {base : Nat} : ∀ (rest : List Oper) (i : Nat) (S : St) (tr : List Tr) (ms : List Ms) (S' : St), TrOK C full base rest i S tr ms S' → ∀ (l : Nat) (x : Tr), tr[l]? = some x →
    ∃ o y, rest[l]? = some o ∧ ms[l]? = some y ∧ x.o = o ∧ (x.VW.ok → (∀ k ∈ y.pre, k ≠ base + (i + l)) → LocV C full (base + (i + l)) x) ∧ y.wr = (x.te.blk (base + (i + l))).map (·.1) ∧ (∀ k b z, x.te = .upd k b z → y.up = true ∧ ∃ c, lk x.V.heap k = some c) ∧ (∀ k b z, x.te = .tch k b z → lk x.V.heap k = some b) ∧
      (∀ b z, x.te = .new b z → y.up = false) ∧ (∀ k, k ∈ x.te.out.names ∨ k ∈ blkNames (x.te.blk (base + (i + l))) → k ∈ y.ment)
  | [], _, _, [], _, _, _, l, x, hx => by simp at hx
  | [], _, _, _ :: _, _, _, h, _, _, _ => by simp only [TrOK] at h
  | _ :: _, _, _, [], _, _, h, _, _, _ => by simp only [TrOK] at h
  | _ :: _, _, _, _ :: _, [], _, h, _, _, _ => by simp only [TrOK] at h
  | o :: rest, i, S, x :: tr, y :: ms, S', h, l, z, hz => by
    obtain ⟨⟨h1, h2, h3, h4, h5, h6, h7, h8, _⟩, S1, _, h⟩ := h
    cases l with
    | zero =>
      simp only [List.getElem?_cons_zero, Option.some.injEq] at hz
      subst hz
      exact ⟨o, y, by simp, by simp, h1, h3, h4, h5, h6, h7, h8⟩
    | succ l =>
      simp only [List.getElem?_cons_succ] at hz
      obtain ⟨o', y', g1, g2, g3, g4, g5, g6, g7⟩ := TrOK.at rest (i + 1) S1 tr ms S' h l z hz
      rw [show i + 1 + l = i + (l + 1) by omega] at g4 g5 g7
      exact ⟨o', y', by simpa using g1, by simpa using g2, g3, g4, g5, g6, g7⟩

theorem findW_uniq : ∀ (l : List Tr) (n i : Nat) (x : Tr) (t : Nat), l[i]? = some x → x.o.dst = some t → (∀ j y, l[j]? = some y → y.o.dst = some t → j = i) → findW n l t = some (n + i, x.te.out)
  | [], n, i, x, t, h, _, _ => by simp at h
  | y :: l, n, 0, x, t, h, hd, _ => by
    simp only [List.getElem?_cons_zero, Option.some.injEq] at h
    subst h
    simp only [findW, hd, if_true, Nat.add_zero]
  | y :: l, n, i + 1, x, t, h, hd, hu => by
    simp only [List.getElem?_cons_succ] at h
    have hy : ¬ y.o.dst = some t := fun e => by have := hu 0 y (by simp) e; omega
    simp only [findW, if_neg hy]
    rw [findW_uniq l (n + 1) i x t h hd fun j z hj hz => by have := hu (j + 1) z (by simpa using hj) hz; omega]
    rw [show n + 1 + i = n + (i + 1) by omega]
/-- Where the states of the walk in the order of the text stand. -/
theorem TrOK.states {C : Cx} {full : List Oper} {base : Nat} {S0 : St} {T : List Tr} (hsz : ∀ (i : Nat) (x : Tr) (t : Nat), T[i]? = some x → x.o.dst = some t → t < S0.sz ∧ findW 0 T t = some (i, x.te.out)) : ∀ (rest : List Oper) (i : Nat) (S : St) (tr : List Tr) (ms : List Ms) (S' : St), TrOK C full base rest i S tr ms S' →
    (∀ (l : Nat) (x : Tr), tr[l]? = some x → T[i + l]? = some x) → S.sz = S0.sz → (∀ t, lk S.tmps t = TM S0 T (fun j => decide (j < i)) t) → (∀ k, lk S.heap k = HM S0 base T (fun j => decide (j < i)) k) →
    (∀ (l : Nat) (x : Tr), tr[l]? = some x → ∃ (Sl : St) (o : Oper) (y : Ms), rest[l]? = some o ∧ ms[l]? = some y ∧ x.V = Sl.view (looks full o) y.reads ∧ Sl.sz = S0.sz ∧ Sl.next = S.next ∧ (∀ t, lk Sl.tmps t = TM S0 T (fun j => decide (j < i + l)) t) ∧ (∀ k, lk Sl.heap k = HM S0 base T (fun j => decide (j < i + l)) k) ∧ ∀ kb ∈ x.W, kb.2.nm (fun _ => false) = true ∧ ∃ b0, lk Sl.heap kb.1 = some b0 ∧ Imp b0 kb.2) ∧
    S'.sz = S0.sz ∧ S'.next = S.next ∧ (∀ t, lk S'.tmps t = TM S0 T (fun j => decide (j < i + rest.length)) t) ∧ ∀ k, lk S'.heap k = HM S0 base T (fun j => decide (j < i + rest.length)) k
  | [], i, S, [], [], S', h, _, hs, ht, hh => by
    simp only [TrOK] at h
    subst h
    exact ⟨fun l x hx => by simp at hx, hs, rfl, ht, hh⟩
  | [], _, _, _ :: _, _, _, h, _, _, _, _ => by simp only [TrOK] at h
  | [], _, _, [], _ :: _, _, h, _, _, _, _ => by simp only [TrOK] at h
  | _ :: _, _, _, [], _, _, h, _, _, _, _ => by simp only [TrOK] at h
  | _ :: _, _, _, _ :: _, [], _, h, _, _, _, _ => by simp only [TrOK] at h
  | o :: rest, i, S, x :: tr, y :: ms, S', h, hT, hs, ht, hh => by
    obtain ⟨⟨h1, h2, h3, h4, h5, h6, h7, _, h8⟩, S1, hS1, h⟩ := h
    have hx : T[i]? = some x := by simpa using hT 0 x (by simp)
    subst h1
    have wsz : ∀ q, (S.wr q).sz = S.sz := fun q => by cases q <;> rfl
    have wnx : ∀ q, (S.wr q).next = S.next := fun q => by cases q <;> rfl
    have wtm : ∀ q, (S.wr q).tmps = S.tmps := fun q => by cases q <;> rfl
    have s1 : S1.sz = S0.sz := by
      rw [hS1.sz]
      cases hd : x.o.dst with
      | none => simp only [St.put]; rw [wsz]; exact hs
      | some d => simp only [St.put]; cases decide ((d : Nat) < (S.wr (x.te.blk (base + i))).sz) <;> simp only [cond_true, cond_false] <;> rw [wsz] <;> exact hs
    have n1 : S1.next = S.next := by
      rw [hS1.next]
      cases hd : x.o.dst with
      | none => simp only [St.put]; rw [wnx]
      | some d => simp only [St.put]; cases decide ((d : Nat) < (S.wr (x.te.blk (base + i))).sz) <;> simp only [cond_true, cond_false] <;> rw [wnx]
    have t1 : ∀ t, lk S1.tmps t = TM S0 T (fun j => decide (j < i + 1)) t := by
      intro t
      rw [hS1.tmps]
      have other : x.o.dst ≠ some t → TM S0 T (fun j => decide (j < i + 1)) t = lk S.tmps t := by
        intro hne
        rw [ht]
        unfold TM
        cases hf : findW 0 T t with
        | none => rfl
        | some q =>
          obtain ⟨j, z⟩ := q
          obtain ⟨j', y', g1, g2, g3, g4⟩ := findW_spec _ _ _ _ _ hf
          have : j' = j := by omega
          subst this
          have hji : j' ≠ i := fun e => by subst e; rw [hx] at g2; simp only [Option.some.injEq] at g2; subst g2; exact hne g3
          have : decide (j' < i + 1) = decide (j' < i) := by
            by_cases hlt : j' < i
            · simp [hlt]; omega
            · simp [hlt]; omega
          simp only [this]
      cases hd : x.o.dst with
      | none => simp only [St.put, wtm]; rw [other (by simp [hd])]
      | some d =>
        obtain ⟨q1, q2⟩ := hsz i x d hx hd
        have : decide ((d : Nat) < (S.wr (x.te.blk (base + i))).sz) = true := by rw [wsz, hs]; simpa using q1
        simp only [St.put, this, cond_true, wtm, lk_cons]
        split
        · rename_i e; subst e
          unfold TM
          rw [q2]
          simp
        · rename_i e
          rw [other (by simp [hd]; exact e)]
    have k1 : ∀ k, lk S1.heap k = HM S0 base T (fun j => decide (j < i + 1)) k := by
      intro k
      rw [hS1.heap]
      have ph : ((S.wr (x.te.blk (base + i))).put x.o.dst x.te.out).heap = (S.wr (x.te.blk (base + i))).heap := by
        cases hd : x.o.dst with
        | none => rfl
        | some d => simp only [St.put]; cases decide ((d : Nat) < (S.wr (x.te.blk (base + i))).sz) <;> rfl
      rw [ph]
      have other : (∀ b, x.te.blk (base + i) ≠ some (k, b)) → HM S0 base T (fun j => decide (j < i + 1)) k = lk S.heap k := by
        intro hne
        rw [hh]
        refine HM_congr fun j' y' c g2 g3 => ?_
        have hji : j' ≠ i := fun e => by subst e; rw [hx] at g2; simp only [Option.some.injEq] at g2; subst g2; exact hne _ g3
        by_cases hlt : j' < i
        · simp [hlt]; omega
        · simp [hlt]; omega
      cases hb : x.te.blk (base + i) with
      | none => simp only [St.wr]; rw [other (by simp [hb])]
      | some q =>
        obtain ⟨k', b⟩ := q
        simp only [St.wr, lk_cons]
        split
        · rename_i e; subst e
          exact (HM_put hx hb (by simp) fun j y c hj _ _ => by simp; omega).symm
        · rename_i e
          rw [other (by intro c hc; rw [hb] at hc; simp only [Option.some.injEq, Prod.mk.injEq] at hc; exact e hc.1)]
    obtain ⟨r1, r2, r3, r4, r5⟩ := TrOK.states hsz rest (i + 1) S1 tr ms S' h (fun l z hz => by have := hT (l + 1) z (by simpa using hz); rwa [show i + 1 + l = i + (l + 1) by omega]) s1 t1 k1
    refine ⟨fun l z hz => ?_, r2, r3.trans n1, ?_, ?_⟩
    · cases l with
      | zero =>
        simp only [List.getElem?_cons_zero, Option.some.injEq] at hz
        subst hz
        obtain ⟨Sv, hv, hV⟩ := h2
        exact ⟨Sv, x.o, y, by simp, by simp, hV, hv.sz.trans hs, hv.next, fun t => (hv.tmps t).trans (ht t), fun k => (hv.heap k).trans (hh k), fun kb hkb => by rw [hv.heap]; exact h8 kb hkb⟩
      | succ l =>
        simp only [List.getElem?_cons_succ] at hz
        obtain ⟨Sl, o', y', g1, g2, g3, g4, g5, g6, g7, g8⟩ := r1 l z hz
        rw [show i + 1 + l = i + (l + 1) by omega] at g6 g7
        exact ⟨Sl, o', y', by simpa using g1, by simpa using g2, g3, g4, g5.trans n1, g6, g7, g8⟩
    · rw [show i + (x.o :: rest).length = i + 1 + rest.length by simp only [List.length_cons]; omega]; exact r4
    · rw [show i + (x.o :: rest).length = i + 1 + rest.length by simp only [List.length_cons]; omega]; exact r5

theorem nameOK_spec {D : List Nat} {base i k : Nat} (h : (decide (k < base) || (k == base + i) || (decide (base ≤ k) && dep D i (k - base))) = true) : k < base ∨ ∃ j, k = base + j ∧ (dep D i j = true ∨ j = i) := by
  simp only [Bool.or_eq_true, decide_eq_true_eq, beq_iff_eq, Bool.and_eq_true] at h
  rcases h with (h | h) | ⟨h1, h2⟩
  · exact .inl h
  · exact .inr ⟨i, h, .inr rfl⟩
  · exact .inr ⟨k - base, by omega, .inl h2⟩

theorem draw_todo {C : Cx} (hm : C.P.follows .mixedOrders = true) {id : Nat} {arr : Array Oper} {k : List Item} {S : St}
    (h : DTodo C arr.toList S.next S.sz k arr.toList 0 [] { S with next := S.next + arr.size }) : DrawG C id arr k S := by
  intro r a w hR
  obtain ⟨tr, ms, S', hT, hc, hW, hk⟩ := h
  simp only [List.nil_append] at hc
  obtain ⟨l1, l2⟩ := hT.len
  have hD := masks_ok arr.toList
  have hO := hR.ok
  obtain ⟨base, hbase⟩ : ∃ b, b = S.next := ⟨_, rfl⟩
  rw [← hbase] at hT hc hW
  have hat := fun (l : Nat) (x : Tr) (hx : tr[l]? = some x) => TrOK.at _ _ _ _ _ _ hT l x hx
  simp only [Nat.zero_add] at hat
  have hilt : ∀ (i : Nat) (x : Tr), tr[i]? = some x → i < arr.size := fun i x hx => by
    have := (List.getElem?_eq_some_iff.1 hx).1
    simp at l1; omega
  have hone : ∀ (i : Nat) (x : Tr) (o : Oper) (y : Ms), tr[i]? = some x → arr.toList[i]? = some o → ms[i]? = some y → oneOK (masks arr.toList) S.sz base i o y = true := fun i x o y _ ho hy => chk_one hc ho hy
  have hdst : ∀ (i : Nat) (x : Tr) (t : Nat), tr[i]? = some x → x.o.dst = some t → t < S.sz ∧ findW 0 tr t = some (i, x.te.out) := by
    intro i x t hx hd
    obtain ⟨o, y, g1, g2, g3, _⟩ := hat i x hx
    subst g3
    have h1 := hone i x _ y hx g1 g2
    simp only [oneOK, hd, Bool.and_eq_true, decide_eq_true_eq] at h1
    refine ⟨h1.1.1.1.1, ?_⟩
    have := findW_uniq tr 0 i x t hx hd fun j z hz hdz => by
      obtain ⟨o', y', e1, e2, e3, _⟩ := hat j z hz
      subst e3
      have h2 := chk_pair hc g1 g2 e1 e2
      simp only [pairOK, hd, hdz, Bool.or_eq_true, beq_iff_eq, Bool.and_eq_true] at h2
      rcases h2 with h2 | h2
      · exact h2.symm
      · simp at h2
    simpa using this
  have hwr : ∀ (i j : Nat) (x z : Tr) (k : Nat) (b c : Blk), tr[i]? = some x → tr[j]? = some z → x.te.blk (base + i) = some (k, b) → z.te.blk (base + j) = some (k, c) → i < j → dep (masks arr.toList) j i = true := by
    intro i j x z k b c hx hz hb hcz hij
    obtain ⟨o, y, g1, g2, g3, _, g5, _⟩ := hat i x hx
    obtain ⟨o', y', e1, e2, e3, _, e5, _⟩ := hat j z hz
    have h2 := chk_pair hc g1 g2 e1 e2
    have w1 : y.wr = some k := by rw [g5, hb]; rfl
    have w2 : y'.wr = some k := by rw [e5, hcz]; rfl
    simp only [pairOK, w1, w2, Bool.or_eq_true, beq_iff_eq, Bool.and_eq_true, ordOK] at h2
    rcases h2 with h2 | h2
    · omega
    · rcases h2.2.2 with h2 | h2
      · simp at h2
      · rcases h2 with h2 | h2
        · exact h2
        · have := hD.lt _ _ h2; omega
  have hment : ∀ (i : Nat) (x : Tr), tr[i]? = some x → ∀ k, (k ∈ x.te.out.names ∨ ∃ k' b, x.te.blk (base + i) = some (k', b) ∧ k ∈ b.names) → k < base ∨ ∃ j, k = base + j ∧ (dep (masks arr.toList) i j = true ∨ j = i) := by
    intro i x hx k hkk
    obtain ⟨o, y, g1, g2, g3, _, _, _, _, _, g8⟩ := hat i x hx
    have h1 := hone i x _ y hx g1 g2
    simp only [oneOK, Bool.and_eq_true, List.all_eq_true] at h1
    refine nameOK_spec (h1.1.1.1.2 k (g8 k ?_))
    rcases hkk with hkk | ⟨k', b, hb, hkb⟩
    · exact .inl hkk
    · exact .inr (by rw [hb]; exact hkb)
  have hupdn : ∀ (i : Nat) (x : Tr) (k : Nat) (b : Blk) (z : Value), tr[i]? = some x → x.te = .upd k b z → k < base ∨ ∃ j, k = base + j ∧ dep (masks arr.toList) i j = true := by
    intro i x k b z hx hte
    obtain ⟨o, y, g1, g2, g3, _, g5, g6, _⟩ := hat i x hx
    have h1 := hone i x _ y hx g1 g2
    have w1 : y.wr = some k := by rw [g5, hte]; rfl
    have w2 := (g6 k b z hte).1
    simp only [oneOK, w1, w2, cond_true, Bool.and_eq_true, Bool.or_eq_true, decide_eq_true_eq] at h1
    rcases h1.1.1.2 with h1 | h1
    · exact .inl h1
    · exact .inr ⟨k - base, by omega, h1.2⟩
  have hnmT : ∀ m t z, TM S tr m t = some z → z.nm (lt (base + arr.size)) = true := by
    intro m t z hz
    have hb : lk S.tmps t = some z → z.nm (lt (base + arr.size)) = true := fun h => SV.nm_mono (lt_mono (by omega)) z (hO.tmps t z h)
    unfold TM at hz
    split at hz
    · rename_i j q hf
      split at hz
      · simp only [Option.some.injEq] at hz; subst hz
        obtain ⟨j', y', h1, h2, h3, h4⟩ := findW_spec _ _ _ _ _ hf
        rw [h4]
        refine SV.names_nm _ _ fun k hk => ?_
        have := hilt _ _ h2
        simp only [lt, Nat.blt_eq]
        rcases hment _ _ h2 k (.inl hk) with h | ⟨l, g1, g2⟩
        · omega
        · rcases g2 with g2 | g2
          · have := hD.lt _ _ g2; omega
          · omega
      · exact hb hz
    · exact hb hz
  have hnmH : ∀ m k b, HM S base tr m k = some b → lt (base + arr.size) k = true ∧ b.nm (lt (base + arr.size)) = true := by
    intro m k b hz
    have hb : lk S.heap k = some b → lt (base + arr.size) k = true ∧ b.nm (lt (base + arr.size)) = true := fun h =>
      ⟨lt_mono (by omega) _ (hO.heap k b h).1, b.nm_mono (lt_mono (by omega)) (hO.heap k b h).2⟩
    rcases HM_spec hz with hz | ⟨j', y', h2, h3, _⟩
    · exact hb hz
    have hlt := hilt _ _ h2
    refine ⟨?_, Blk.names_nm _ _ fun q hq => ?_⟩
    · simp only [lt, Nat.blt_eq]
      cases hte : y'.te with
      | val z => rw [hte] at h3; simp [TE.blk] at h3
      | tch q c z => rw [hte] at h3; simp [TE.blk] at h3
      | new c z =>
        rw [hte] at h3
        simp only [TE.blk, Option.some.injEq, Prod.mk.injEq] at h3
        omega
      | upd q c z =>
        rw [hte] at h3
        simp only [TE.blk, Option.some.injEq, Prod.mk.injEq] at h3
        obtain ⟨rfl, rfl⟩ := h3
        rcases hupdn _ _ _ _ _ h2 hte with h | ⟨l, g1, g2⟩
        · omega
        · have := hD.lt _ _ g2; omega
    · simp only [lt, Nat.blt_eq]
      rcases hment _ _ h2 q (.inr ⟨_, _, h3, hq⟩) with h | ⟨l, g1, g2⟩
      · omega
      · rcases g2 with g2 | g2
        · have := hD.lt _ _ g2; omega
        · omega
  have e0 : (fun j : Nat => decide (j < 0)) = fun _ => false := by funext j; simp
  obtain ⟨st1, st2, st3, st4, st5⟩ := TrOK.states (S0 := S) (T := tr) hdst _ _ _ _ _ _ hT (fun l x hx => by simpa using hx) rfl
    (fun t => by
      rw [e0]; unfold TM
      cases findW 0 tr t <;> simp)
    (fun q => by
      rw [e0, HM_none])
  simp only [Nat.zero_add] at st1 st4 st5
  have hG : RegOK S base (masks arr.toList) tr := by
    refine ⟨hdst, hwr, ?_, ?_, ?_, ?_, hment, ?_, ?_, hupdn⟩
    · intro i x t y hx hy
      obtain ⟨Sl, o, ym, g1, g2, g3, g4, g5, g6, g7, g8⟩ := st1 i x hx
      rw [g3] at hy
      obtain ⟨p1, p2⟩ := pick_some _ _ _ _ hy
      rw [g6] at p1
      unfold TM at p1
      cases hf : findW 0 tr t with
      | none => rw [hf] at p1; exact p1
      | some q =>
        obtain ⟨j, z⟩ := q
        rw [hf] at p1
        simp only at p1 ⊢
        obtain ⟨j', y', h1, h2, h3, h4⟩ := findW_spec _ _ _ _ _ hf
        have hj : j' = j := by omega
        subst hj
        by_cases hji : j' = i
        · subst hji
          simp only [Nat.lt_irrefl, decide_false, Bool.false_eq_true, if_false] at p1
          exact .inr ⟨.inr rfl, p1⟩
        · obtain ⟨o2, y2, e1, e2, e3, _⟩ := hat j' y' h2
          subst e3
          obtain ⟨o3, y3, f1, f2, f3, _⟩ := hat i x hx
          subst f3
          rw [g1] at f1
          simp only [Option.some.injEq] at f1
          subst f1
          have hp := chk_pair hc e1 e2 g1 g2
          simp only [pairOK, h3, Bool.or_eq_true, beq_iff_eq, Bool.and_eq_true, Bool.not_eq_true', ordOK] at hp
          rcases hp with hp | hp
          · exact absurd hp hji
          · have hp := hp.1.1
            rcases hp with hp | hp
            · have : (looks arr.toList x.o).contains t = true := by simpa using p2
              rw [this] at hp; cases hp
            · rcases hp with hp | hp
              · have := hD.lt _ _ hp
                simp only [this, decide_true, if_true, Option.some.injEq] at p1
                exact .inl ⟨hp, p1.symm⟩
              · have := hD.lt _ _ hp
                have hn : ¬ j' < i := by omega
                simp only [hn, decide_false, Bool.false_eq_true, if_false] at p1
                exact .inr ⟨.inl hp, p1⟩
    · intro i x q b hx hb
      obtain ⟨Sl, o, ym, g1, g2, g3, g4, g5, g6, g7, g8⟩ := st1 i x hx
      rw [g3] at hb
      obtain ⟨p1, p2⟩ := pick_some _ _ _ _ hb
      rw [g7] at p1
      refine ⟨p1, fun j' y' c h2 h3 => ?_⟩
      by_cases hji : j' = i
      · subst hji; exact .inr ⟨.inr rfl, Nat.lt_irrefl _⟩
      · obtain ⟨o2, y2, e1, e2, e3, _, e5, _⟩ := hat j' y' h2
        have hp := chk_pair hc e1 e2 g1 g2
        have w1 : y2.wr = some q := by rw [e5, h3]; rfl
        simp only [pairOK, w1, Bool.or_eq_true, beq_iff_eq, Bool.and_eq_true, Bool.not_eq_true', ordOK] at hp
        rcases hp with hp | hp
        · exact absurd hp hji
        · have hp := hp.2.1
          rcases hp with hp | hp
          · have : ym.reads.contains q = true := by simpa using p2
            rw [this] at hp; cases hp
          · rcases hp with hp | hp
            · exact .inl ⟨hp, hD.lt _ _ hp⟩
            · have := hD.lt _ _ hp
              exact .inr ⟨.inl hp, by omega⟩
    · intro i x q b hx hb
      obtain ⟨Sl, o, ym, g1, g2, g3, g4, g5, g6, g7, g8⟩ := st1 i x hx
      obtain ⟨_, b0, p1, p2⟩ := g8 (q, b) hb
      rw [g7] at p1
      refine ⟨⟨b0, p1, p2⟩, fun j y c hy hw => ?_⟩
      obtain ⟨q1, q2⟩ := (hW i x hx (q, b) hb).2 j y c hy (by simpa using hw)
      simp only [Nat.zero_add] at q2
      exact ⟨by omega, q2.elim .inl fun h => .inr (.inr h)⟩
    · intro i x hx
      obtain ⟨Sl, o, ym, g1, g2, g3, g4, g5, g6, g7, g8⟩ := st1 i x hx
      refine ⟨⟨fun t z hz => ?_, fun q b hb => ?_⟩, by rw [g3]; exact g4⟩
      · simp only [Tr.VW] at hz ⊢
        rw [g3] at hz ⊢
        have := (pick_some _ _ _ _ hz).1
        rw [g6] at this
        have h1 := hnmT _ _ _ this
        simp only [St.view]
        rw [g5]
        exact h1
      · simp only [Tr.VW] at hb ⊢
        rcases lk_app _ _ _ _ hb with hb | hb
        · obtain ⟨p0, b0, p1, _⟩ := g8 (q, b) hb
          rw [g7] at p1
          have h1 := hnmH _ _ _ p1
          rw [g3]
          simp only [St.view]
          rw [g5]
          exact ⟨h1.1, b.nm_mono (fun _ h => by cases h) p0⟩
        · rw [g3] at hb ⊢
          have := (pick_some _ _ _ _ hb).1
          rw [g7] at this
          have h1 := hnmH _ _ _ this
          simp only [St.view]
          rw [g5]
          exact h1
    · intro i x q b z hx hte
      obtain ⟨o, y, g1, g2, g3, _, _, g6, _⟩ := hat i x hx
      exact (g6 q b z hte).2
    · intro i x q b z hx hte
      obtain ⟨o, y, g1, g2, g3, _, _, _, g6, _⟩ := hat i x hx
      exact g6 q b z hte
  have hLoc : ∀ (i : Nat) (x : Tr), tr[i]? = some x → LocV C arr.toList (base + i) x := fun i x hx => by
    obtain ⟨o, y, g1, g2, g3, g4, _⟩ := hat i x hx
    have h1 := hone i x _ y hx g1 g2
    simp only [oneOK, Bool.and_eq_true, List.all_eq_true] at h1
    exact g4 (hG.vok i x hx).1 fun q hq => by simpa using h1.2 q hq
  have hE : ∀ (i : Nat) (o : Oper), arr[i]? = some o → ∀ e ∈ o.after.toList, Region.binds .any e = true → e.on < i := by
    intro i o ho e he hb
    have hi : i < arr.size := (Array.getElem?_eq_some_iff.1 ho).1
    have hx : ∃ x, tr[i]? = some x := ⟨tr[i]'(by simp at l1; omega), by simp⟩
    obtain ⟨x, hx⟩ := hx
    obtain ⟨o', y, g1, g2, _⟩ := hat i x hx
    rw [Array.getElem?_toList, ho] at g1
    simp only [Option.some.injEq] at g1
    subst g1
    have h1 := hone i x o y hx (by rw [Array.getElem?_toList]; exact ho) g2
    simp only [oneOK, Bool.and_eq_true, List.all_eq_true] at h1
    have := h1.1.2 e he
    simp only [hb, Bool.not_true, Bool.false_or, decide_eq_true_eq] at this
    exact this
  apply wp_region_any hm
  refine draw_any hO (by omega) hD (by simpa using l1) (fun i x hx => by obtain ⟨o, y, g1, g2, g3, _⟩ := hat i x hx; rw [← Array.getElem?_toList, g1, g3]) hG hLoc hE (fun r a w hF => ?_) arr.size (Array.replicate arr.size false) a _ r (by simp)
    (by simp [cnt_rep]) (fun j o hj => by simp [Array.getD] at hj) ?_
  · unfold exits
    refine hk r a w ⟨hF.defers, by rw [st2]; exact hF.size, fun t x hx => hF.tmps t x ?_, hF.inv.sub fun q b hq => ?_, ⟨fun t x hx => ?_, fun q b hq => ?_⟩⟩
    · rw [st4] at hx; simpa using hx
    · rw [st5] at hq; simpa using hq
    · rw [st4] at hx
      rw [st3]
      exact hnmT _ _ _ hx
    · rw [st5] at hq
      rw [st3]
      exact hnmH _ _ _ hq
  · have hb : Below w.heap.size w { w with drawn := w.drawn + 1 } := ⟨rfl, rfl, rfl, Nat.le_refl _, fun _ _ => rfl⟩
    have hR2 := hR.step hb
    have em : (fun j => (Array.replicate arr.size false).getD j false) = fun _ => false := by
      funext j; simp [Array.getD]
    rw [em]
    refine ⟨hR2.defers, hR2.size, fun t x hx => hR2.tmps t x ?_, hR2.inv.sub fun q b hq => ?_⟩
    · unfold TM at hx
      cases hf : findW 0 tr t <;> rw [hf] at hx <;> simpa using hx
    · rw [HM_none] at hq; exact hq
end Go.Proofs.Ytpoiebkcjehheaa
