/- A symbolic walk, part E: the beginning of a walk, calls, loops, the end. -/
import Derived.Test.YtpoiebkcjehheaaSyD
namespace Go.Proofs.Ytpoiebkcjehheaa
open Go.RowKit

/-! ### The beginning -/
def enum : Nat → List SV → List (Nat × SV)
  | _, [] => []
  | n, x :: l => (n, x) :: enum (n + 1) l
theorem lk_enum : ∀ (l : List SV) (n t : Nat) (x : SV), lk (enum n l) t = some x → ∃ i, t = n + i ∧ l[i]? = some x
  | [], n, t, x, h => by simp only [enum, lk] at h; cases h
  | y :: l, n, t, x, h => by
    simp only [enum] at h
    rw [lk_cons] at h
    split at h
    · exact ⟨0, by omega, by simpa using h⟩
    · obtain ⟨i, h1, h2⟩ := lk_enum l (n + 1) t x h
      exact ⟨i + 1, by omega, by simpa using h2⟩
def r0 : Va := ⟨fun _ => 0, fun _ => 0, fun _ => undef, fun _ => none, fun _ => 0⟩
def St.init (n : Nat) (args : List SV) : St := ⟨n, enum 0 args, [], 0⟩

theorem calls_sym {P : Program} {tab : TypeId → Option TI} (hT : TabOK P tab) {f : FuncId} {fn : Func} {c : Code} {m : Nat} {rs : List ResultVar} {R : Ending → World → Prop} {V : SV → St → Prop} {w : World} (n : Nat) (args : List SV) (hV : ∀ x S, V x S → ∀ r w', Inv w r S.heap w' → R (.returned (x.den r)) w')
    (hf : P.funcs[f]? = some fn) (hb : fn.body = some c) (hm : fn.ntmps = m) (hrs : fn.results.toList = rs) (hn : nms (lt 0) args = true) (hl : Nat.ble args.length m = true)
    (h : sym ⟨P, tab, w, fn, rs, R, V⟩ n [.code c] (St.init m args)) : Calls P f (dens r0 args).toArray w R := by
  subst hm
  apply calls_of_wp hf hb
  have hlen : args.length ≤ fn.ntmps := by simpa using hl
  have hd := dens_length r0 args
  have := sym_sound (C := ⟨P, tab, w, fn, rs, R, V⟩) hT hrs hV n _ _ h r0 { tmps := (dens r0 args).toArray ++ Array.replicate (fn.ntmps - (dens r0 args).toArray.size) undef, defers := [] } w
    ⟨rfl, by simp [St.init, hd]; omega, fun t x hx => ?_, ⟨Below.refl _ _, fun k b hk => by simp [St.init, lk] at hk, fun k k' b b' hk => by simp [St.init, lk] at hk⟩, ⟨fun t x hx => ?_, fun k b hk => by simp [St.init, lk] at hk⟩⟩
  · unfold norm at this
    refine wp_mono this fun e a w h => ?_
    cases e with
    | normal => unfold exits norm at h; exact h
    | ret => unfold exits at h; exact h
    | exit id => unfold exits exitN at h; exact h.elim
    | _ => unfold exits at h; exact h.elim
  · obtain ⟨i, rfl, hi⟩ := lk_enum _ _ _ _ hx
    have h2 := dens_get r0 args i
    rw [hi, Option.map_some] at h2
    have h3 : i < args.length := (List.getElem?_eq_some_iff.1 hi).1
    simp only [Nat.zero_add]
    rw [Array.getD_eq_getD_getElem?, Array.getElem?_append]
    simp only [List.size_toArray, hd, h3, if_true, List.getElem?_toArray, h2, Option.getD_some]
  · obtain ⟨i, rfl, hi⟩ := lk_enum _ _ _ _ hx
    exact nms_get _ _ _ _ hn hi

/-! ### The end -/
mutual
def SV.pv : SV → Option Value
  | .v x => some x
  | .agg l => match pvs l with | some r => some (.agg r.toArray) | none => none
  | .tup l => match pvs l with | some r => some (.tuple r.toArray) | none => none
  | .ifc t x => match x.pv with | some r => some (.iface t r) | none => none
  | .fn f a b => match pvs a, pvs b with | some p, some q => some (.func f p.toArray q.toArray) | _, _ => none
  | _ => none
def pvs : List SV → Option (List Value)
  | [] => some []
  | x :: l => match x.pv, pvs l with | some y, some r => some (y :: r) | _, _ => none
end
mutual
theorem SV.pv_den (r : Va) : ∀ (x : SV) (v : Value), x.pv = some v → x.den r = v
  | .v x, v, h => by simp only [SV.pv, Option.some.injEq] at h; simp only [SV.den, h]
  | .agg l, v, h => by
    simp only [SV.pv] at h
    split at h
    · rename_i q hq; simp only [Option.some.injEq] at h; simp only [SV.den, pvs_den r l q hq, h]
    · cases h
  | .tup l, v, h => by
    simp only [SV.pv] at h
    split at h
    · rename_i q hq; simp only [Option.some.injEq] at h; simp only [SV.den, pvs_den r l q hq, h]
    · cases h
  | .ifc t x, v, h => by
    simp only [SV.pv] at h
    split at h
    · rename_i q hq; simp only [Option.some.injEq] at h; simp only [SV.den, SV.pv_den r x q hq, h]
    · cases h
  | .fn f a b, v, h => by
    simp only [SV.pv] at h
    split at h
    · rename_i p q hp hq; simp only [Option.some.injEq] at h; simp only [SV.den, pvs_den r a p hp, pvs_den r b q hq, h]
    · cases h
  | .ptr _ _, v, h => by simp only [SV.pv] at h; cases h
  | .slc _ _ _ _, v, h => by simp only [SV.pv] at h; cases h
  | .usl _ _, v, h => by simp only [SV.pv] at h; cases h
  | .slu _ _ _, v, h => by simp only [SV.pv] at h; cases h
  | .mp _, v, h => by simp only [SV.pv] at h; cases h
  | .unk _, v, h => by simp only [SV.pv] at h; cases h
theorem pvs_den (r : Va) : ∀ (l : List SV) (v : List Value), pvs l = some v → dens r l = v
  | [], v, h => by simp only [pvs, Option.some.injEq] at h; simp only [dens, h]
  | x :: l, v, h => by
    simp only [pvs] at h
    split at h
    · rename_i y q hy hq; simp only [Option.some.injEq] at h; simp only [dens, SV.pv_den r x y hy, pvs_den r l q hq, h]
    · cases h
end
/-- What a call comes to: a value, and nothing old changes. -/
def Ret (w : World) (v : Value) : Ending → World → Prop := fun e w' => e = .returned v ∧ Below w.heap.size w w'
theorem vok_ret {w : World} {v : Value} : ∀ (x : SV) (S : St), x.pv = some v → ∀ r w', Inv w r S.heap w' → Ret w v (.returned (x.den r)) w' :=
  fun x _ h r _ hI => ⟨by rw [SV.pv_den r x v h], hI.below⟩

/-! ### On the way -/
section
variable {C : Cx}
theorem todo_sym (hT : TabOK C.P C.tab) (hrs : C.fn.results.toList = C.rs) (hV : C.VOK) (n : Nat) {k : List Item} {S : St} (h : sym C n k S) : Todo C k S := sym_sound hT hrs hV n k S h

/-- A call whose result is known. -/
theorem call_v {f : FuncId} {args : List SV} {dst : Option Tmp} {arr : Array Oper} {rest : List Oper} {k : List Item} {S : St} (v : Value) (hc : callable C.P f = true)
    (h : ∀ r w, Inv C.w0 r S.heap w → Calls C.P f (dens r args).toArray w (Ret w v)) (hk : Todo C (.ops arr rest :: k) (S.put dst (.v v))) : CallG C f args dst arr rest k S := by
  refine ⟨hc, fun r a w hR => Calls.mono (h r w hR.inv) fun e w' he => ?_⟩
  obtain ⟨rfl, hb⟩ := he
  exact ⟨v, rfl, hk _ _ _ ((hR.step hb).put dst (x := .v v) (by simp only [SV.nm]))⟩
/-- A call whose result lies in memory of its own, of which p is told. -/
theorem call_f {f : FuncId} {args : List SV} {dst : Option Tmp} {arr : Array Oper} {rest : List Oper} {k : List Item} {S : St} (x : SV) (p : Value → World → Prop) (hc : callable C.P f = true)
    (hx : x.nm (lt (S.next + 1)) = true)
    (h : ∀ r w, Inv C.w0 r S.heap w → Calls C.P f (dens r args).toArray w fun e w' => ∃ u sa sc, e = .returned (x.den (r.set S.next w.heap.size w'.heap.size u sa sc)) ∧ Below w.heap.size w w' ∧
      ∀ w2 : World, w'.heap.size ≤ w2.heap.size → (∀ b, b < C.w0.heap.size ∨ (w.heap.size ≤ b ∧ b < w'.heap.size) → w2.heap[b]? = w'.heap[b]?) → p u w2)
    (hk : Todo C (.ops arr rest :: k) ({ S with heap := (S.next, .fact p) :: S.heap, next := S.next + 1 }.put dst x)) : CallG C f args dst arr rest k S := by
  refine ⟨hc, fun r a w hR => Calls.mono (h r w hR.inv) fun e w' he => ?_⟩
  obtain ⟨u, sa, sc, rfl, hb, hp⟩ := he
  refine ⟨_, rfl, ?_⟩
  have hr := hR.add (r' := r.set S.next w.heap.size w'.heap.size u sa sc) (b := .fact p) hb (Va.set_same r S.next w.heap.size w'.heap.size u sa sc) (by simp only [Blk.nm]) (by simp [Va.set]) (by simp [Va.set]) (by
    intro w2 h1 h2
    simp only [Va.set, if_pos] at h2 ⊢
    exact hp w2 h1 h2)
  exact hk _ _ _ (hr.put dst hx)

/-- A call whose result lies in a block of its own, of which the head is told. -/
theorem call_b {f : FuncId} {args : List SV} {dst : Option Tmp} {arr : Array Oper} {rest : List Oper} {k : List Item} {S : St} (x : SV) (l : List SV) (T : TypeId) (hc : callable C.P f = true)
    (hx : x.nm (lt (S.next + 1)) = true) (hl : nms (lt S.next) l = true)
    (h : ∀ r w, Inv C.w0 r S.heap w → Calls C.P f (dens r args).toArray w fun e w' => ∃ (g : Nat) (sc : Nat) (c : Array Value), e = .returned (x.den (r.set S.next g (g + 1) undef none sc)) ∧ Below w.heap.size w w' ∧ w.heap.size ≤ g ∧
      w'.heap[g]? = some (.cells c T (0, 0)) ∧ c.toList.take l.length = dens r l)
    (hk : Todo C (.ops arr rest :: k) ({ S with heap := (S.next, .pre l T) :: S.heap, next := S.next + 1 }.put dst x)) : CallG C f args dst arr rest k S := by
  refine ⟨hc, fun r a w hR => Calls.mono (h r w hR.inv) fun e w' he => ?_⟩
  obtain ⟨g, sc, c, rfl, hb, hg, h1, h2⟩ := he
  refine ⟨_, rfl, ?_⟩
  have hlt : g < w'.heap.size := (Array.getElem?_eq_some_iff.1 h1).1
  have hr := hR.add (r' := r.set S.next g (g + 1) undef none sc) (b := .pre l T) hb (Va.set_same r S.next g (g + 1) undef none sc) (by simp only [Blk.nm]; exact nms_mono (lt_mono (Nat.le_succ _)) _ hl) (by simp [Va.set]; exact hg) (by simp [Va.set]; omega) (by
    refine ⟨by simp [Va.set], c, by simpa [Va.set] using h1, ?_⟩
    rw [h2, dens_congr (Va.set_same r S.next g (g + 1) undef none sc) l hl])
  exact hk _ _ _ (hr.put dst hx)

/-- An operation that the machine does not take: its value by hand. -/
theorem ask_v {o : Oper} {arr : Array Oper} {rest : List Oper} {k : List Item} {S : St} (x : SV) (hx : x.nm (lt S.next) = true)
    (h : ∀ r a w, Rel C.w0 r S a w → ∃ w', (execOp a.eval o).run C.P w = .ok (.value (x.den r)) w' ∧ Below w.heap.size w w') (hk : Todo C (.ops arr rest :: k) (S.put o.dst x)) : AskG C o arr rest k S := by
  intro r a w hR
  obtain ⟨w', h1, hb⟩ := h r a w hR
  unfold Oper.wp
  rw [h1]
  exact hk _ _ _ ((hR.step hb).put o.dst hx)

/-- A state that says less. -/
def subL {α : Type} (L : List (Nat × α)) : List (Nat × α) → Prop
  | [] => True
  | (t, x) :: l => lk L t = some x ∧ subL L l
theorem subL_lk {α : Type} (L : List (Nat × α)) : ∀ (l : List (Nat × α)), subL L l → ∀ t x, lk l t = some x → lk L t = some x
  | [], _, t, x, h => by simp only [lk] at h; cases h
  | (d, y) :: l, hs, t, x, h => by
    rw [lk_cons] at h
    split at h
    · rename_i e; subst e
      simp only [Option.some.injEq] at h; subst h
      exact hs.1
    · exact subL_lk L l hs.2 t x h
def okT (n : Nat) : List (Nat × SV) → Bool
  | [] => true
  | (_, x) :: l => x.nm (lt n) && okT n l
def okH (n : Nat) : List (Nat × Blk) → Bool
  | [] => true
  | (k, b) :: l => lt n k && b.nm (lt n) && okH n l
theorem okT_lk (n : Nat) : ∀ l, okT n l = true → ∀ t x, lk l t = some x → x.nm (lt n) = true
  | [], _, t, x, h => by simp only [lk] at h; cases h
  | (d, y) :: l, hs, t, x, h => by
    simp only [okT, Bool.and_eq_true] at hs
    rw [lk_cons] at h
    split at h
    · simp only [Option.some.injEq] at h; subst h; exact hs.1
    · exact okT_lk n l hs.2 t x h
theorem okH_lk (n : Nat) : ∀ l, okH n l = true → ∀ k b, lk l k = some b → lt n k = true ∧ b.nm (lt n) = true
  | [], _, t, x, h => by simp only [lk] at h; cases h
  | (d, y) :: l, hs, t, x, h => by
    simp only [okH, Bool.and_eq_true] at hs
    rw [lk_cons] at h
    split at h
    · rename_i e; subst e; simp only [Option.some.injEq] at h; subst h; exact hs.1
    · exact okH_lk n l hs.2 t x h
def St.le (S T : St) : Prop := T.sz = S.sz ∧ (okT T.next T.tmps && okH T.next T.heap) = true ∧ subL S.tmps T.tmps ∧ subL S.heap T.heap
theorem Rel.le {w0 : World} {r : Va} {S T : St} {a : Act} {w : World} (h : Rel w0 r S a w) (hl : S.le T) : Rel w0 r T a w := by
  obtain ⟨h1, h2, h3, h4⟩ := hl
  simp only [Bool.and_eq_true] at h2
  have hh := subL_lk _ _ h4
  exact ⟨h.defers, by rw [h1]; exact h.size, fun t x hx => h.tmps t x (subL_lk _ _ h3 t x hx), ⟨h.inv.below, fun k b hk => h.inv.blk k b (hh k b hk), fun k k' b b' hk hk' => h.inv.apart k k' b b' (hh _ _ hk) (hh _ _ hk')⟩,
    ⟨okT_lk _ _ h2.1, okH_lk _ _ h2.2⟩⟩
theorem todo_le {k : List Item} {S T : St} (hl : S.le T) (h : Todo C k T) : Todo C k S := fun r a w hR => h r a w (hR.le hl)

theorem ex_least (p : Nat → Prop) : ∀ n, p n → ∃ m, p m ∧ ∀ j, p j → m ≤ j := by
  intro n
  induction n using Nat.strongRecOn with
  | _ n ih =>
    intro h
    by_cases hx : ∃ j, p j ∧ j < n
    · obtain ⟨j, hj, hlt⟩ := hx
      exact ih j hlt hj
    · exact ⟨n, h, fun j hj => by
        rcases Nat.lt_or_ge j n with h1 | h1
        · exact absurd ⟨j, hj, h1⟩ hx
        · exact h1⟩

/-- A loop. -/
theorem loop_sym {c : Code} {k : List Item} {S : St} (α : Type) (J : α → St) (I : α → Prop) (μ : α → Nat) (i0 : α) (hi : I i0) (hS : S.le (J i0))
    (round : ∀ i, I i → Todo C (.code c :: .back (fun T => ∃ j, I j ∧ μ j < μ i ∧ T.le (J j)) :: k) (J i)) : CodeG C (.loop c) k S := by
  intro r a w hR
  let p : Act → World → Nat → Prop := fun a w n => ∃ i r, I i ∧ μ i = n ∧ Rel C.w0 r (J i) a w
  have hl : ∀ a w, ∃ m, (∃ n, p a w n) → p a w m ∧ ∀ j, p a w j → m ≤ j := by
    intro a w
    by_cases h : ∃ n, p a w n
    · obtain ⟨n, hn⟩ := h
      obtain ⟨m, hm⟩ := ex_least _ n hn
      exact ⟨m, fun _ => hm⟩
    · exact ⟨0, fun h' => absurd h' h⟩
  refine wp_loop (fun a w => ∃ n, p a w n) (fun a w => Classical.choose (hl a w)) ⟨_, i0, r, hi, rfl, hR.le hS⟩ fun a w hI => ?_
  obtain ⟨⟨i, r, h1, h2, h3⟩, h4⟩ := Classical.choose_spec (hl a w) hI
  have hw := round i h1 r a w h3
  unfold norm at hw
  refine wp_mono hw fun e a' w' h => ?_
  cases e with
  | normal =>
    unfold exits norm at h
    obtain ⟨r', T, ⟨j, g1, g2, g3⟩, g4⟩ := h
    have hp : p a' w' (μ j) := ⟨j, r', g1, rfl, g4.le g3⟩
    refine ⟨⟨_, hp⟩, ?_⟩
    have := (Classical.choose_spec (hl a' w') ⟨_, hp⟩).2 _ hp
    rw [← h2]
    exact Nat.lt_of_le_of_lt this g2
  | exit id => unfold exits exitN at h; show exits C k (.exit id) a' w'; unfold exits; exact h
  | ret => unfold exits at h; show exits C k .ret a' w'; unfold exits; exact h
  | _ => unfold exits at h; exact h.elim
end
end Go.Proofs.Ytpoiebkcjehheaa
