/- A symbolic walk, part I: the moves of a walk, as they are used. -/
import Derived.Test.YtpoiebkcjehheaaSyH
import Derived.IntWalk
namespace Go.Proofs.Ytpoiebkcjehheaa
open Go.RowKit

/-- What a walk leans on. -/
structure CxOK (C : Cx) : Prop where
  tab : TabOK C.P C.tab
  rs : C.fn.results.toList = C.rs
  v : C.VOK
  mixed : C.P.follows .mixedOrders = true

theorem br {b : Bool} {p q : Prop} {t : Tg p q} (h1 : b = true → p) (h2 : b = false → q) : Br b p q t := ⟨h1, h2⟩
theorem br_t {b : Bool} {p q : Prop} {t : Tg p q} (h : b = true) (h1 : p) : Br b p q t := by rw [h, Br_true]; exact h1
theorem br_f {b : Bool} {p q : Prop} {t : Tg p q} (h : b = false) (h1 : q) : Br b p q t := by rw [h, Br_false]; exact h1

theorem walk {P : Program} {tab : TypeId → Option TI} (hT : TabOK P tab) (hm : P.follows .mixedOrders = true) {f : FuncId} {fn : Func} {c : Code} {m : Nat} {rs : List ResultVar} {R : Ending → World → Prop} {V : SV → St → Prop} {w : World} (n : Nat) (args : List SV)
    (hV : ∀ x S, V x S → ∀ r w', Inv w r S.heap w' → R (.returned (x.den r)) w')
    (hf : P.funcs[f]? = some fn) (hb : fn.body = some c) (hn : fn.ntmps = m) (hrs : fn.results.toList = rs) (ha : nms (lt 0) args = true) (hl : decide (args.length ≤ m) = true)
    (h : CxOK ⟨P, tab, w, fn, rs, R, V⟩ → sym ⟨P, tab, w, fn, rs, R, V⟩ n [.code c] (St.init m args)) : Calls P f (dens r0 args).toArray w R :=
  calls_sym hT n args hV hf hb hn hrs ha (by simpa using hl) (h ⟨hT, hrs, hV, hm⟩)

section
variable {C : Cx} {k : List Item} {S : St}
theorem go (hC : CxOK C) (n : Nat) (h : sym C n k S) : Todo C k S := sym_sound hC.tab hC.rs hC.v n k S h

section
variable {f : FuncId} {args : List SV} {dst : Option Tmp} {arr : Array Oper} {rest : List Oper}
/-- A call whose result is known. -/
theorem call_go (hC : CxOK C) (n : Nat) (v : Value) (hc : callable C.P f = true) (h : ∀ r w, Inv C.w0 r S.heap w → Calls C.P f (dens r args).toArray w (Ret w v)) (hk : sym C n (.ops arr rest :: k) (S.put dst (.v v))) :
    CallG C f args dst arr rest k S := call_v v hc h (go hC n hk)
theorem callf_go (hC : CxOK C) (n : Nat) (x : SV) (p : Value → World → Prop) (hc : callable C.P f = true) (hx : x.nm (lt (S.next + 1)) = true)
    (h : ∀ r w, Inv C.w0 r S.heap w → Calls C.P f (dens r args).toArray w fun e w' => ∃ u sa sc, e = .returned (x.den (r.set S.next w.heap.size w'.heap.size u sa sc)) ∧ Below w.heap.size w w' ∧
      ∀ w2 : World, w'.heap.size ≤ w2.heap.size → (∀ b, b < C.w0.heap.size ∨ (w.heap.size ≤ b ∧ b < w'.heap.size) → w2.heap[b]? = w'.heap[b]?) → p u w2)
    (hk : sym C n (.ops arr rest :: k) ({ S with heap := (S.next, .fact p) :: S.heap, next := S.next + 1 }.put dst x)) : CallG C f args dst arr rest k S := call_f x p hc hx h (go hC n hk)
theorem callb_go (hC : CxOK C) (n : Nat) (x : SV) (l : List SV) (T : TypeId) (hc : callable C.P f = true) (hx : x.nm (lt (S.next + 1)) = true) (hl : nms (lt S.next) l = true)
    (h : ∀ r w, Inv C.w0 r S.heap w → Calls C.P f (dens r args).toArray w fun e w' => ∃ (g : Nat) (sc : Nat) (c : Array Value), e = .returned (x.den (r.set S.next g (g + 1) undef none sc)) ∧ Below w.heap.size w w' ∧ w.heap.size ≤ g ∧
      w'.heap[g]? = some (.cells c T (0, 0)) ∧ c.toList.take l.length = dens r l)
    (hk : sym C n (.ops arr rest :: k) ({ S with heap := (S.next, .pre l T) :: S.heap, next := S.next + 1 }.put dst x)) : CallG C f args dst arr rest k S := call_b x l T hc hx hl h (go hC n hk)
/-- A call of a function value of which is told what it comes to. -/
theorem asku_go (hC : CxOK C) (n : Nat) {o : Oper} (v : Value) (h : ∀ r a w, Rel C.w0 r S a w → ∃ g as, (execOp a.eval o).run C.P w = .ok (.enter g as) w ∧ Calls C.P g as w (Ret w v))
    (hk : sym C n (.ops arr rest :: k) (S.put o.dst (.v v))) : AskG C o arr rest k S := by
  intro r a w hR
  obtain ⟨g, as, h1, h2⟩ := h r a w hR
  unfold Oper.wp
  rw [h1]
  refine Calls.mono h2 fun e w' he => ?_
  obtain ⟨rfl, hb⟩ := he
  exact go hC n hk _ _ _ ((hR.step hb).put o.dst (x := .v v) (by simp only [SV.nm]))
theorem ask_go (hC : CxOK C) (n : Nat) {o : Oper} (x : SV) (hx : x.nm (lt S.next) = true) (h : ∀ r a w, Rel C.w0 r S a w → ∃ w', (execOp a.eval o).run C.P w = .ok (.value (x.den r)) w' ∧ Below w.heap.size w w')
    (hk : sym C n (.ops arr rest :: k) (S.put o.dst x)) : AskG C o arr rest k S := ask_v x hx h (go hC n hk)
end
theorem draw_go (hC : CxOK C) {id : Nat} {arr : Array Oper} (h : symD C arr.toList S.next S.sz k arr.toList 0 [] { S with next := S.next + arr.size }) : DrawG C id arr k S := draw_sym hC.tab hC.mixed h
section
variable {full rest : List Oper} {base sz i : Nat} {o : Oper} {ms : List Ms} {g : FuncId} {args : List SV}
theorem dcall_go (hC : CxOK C) (v : Value) (rd : List Nat) (hc : callable C.P g = true) (h : ∀ r w, Inv C.w0 r (pick S.heap rd) w → Calls C.P g (dens r args).toArray w (Ret w v))
    (hk : symD C full base sz k rest (i + 1) (ms ++ [⟨rd, [], none, false, []⟩]) (S.put o.dst (.v v))) : DCallG C g args full base sz k rest i o ms S := dcall_v v rd hc h (symD_sound hC.tab _ _ _ _ hk)
theorem dcallf_go (hC : CxOK C) (x : SV) (p : Value → World → Prop) (rd : List Nat) (hc : callable C.P g = true)
    (h : ∀ r w, Inv C.w0 r (pick S.heap rd) w → Calls C.P g (dens r args).toArray w fun e w' => ∃ u sa sc, e = .returned (x.den (r.set (base + i) w.heap.size w'.heap.size u sa sc)) ∧ Below w.heap.size w w' ∧
      ∀ w2 : World, w'.heap.size ≤ w2.heap.size → (∀ b, b < C.w0.heap.size ∨ (w.heap.size ≤ b ∧ b < w'.heap.size) → w2.heap[b]? = w'.heap[b]?) → p u w2)
    (hk : symD C full base sz k rest (i + 1) (ms ++ [⟨rd, [], some (base + i), false, x.names ++ []⟩]) ({ S with heap := (base + i, .fact p) :: S.heap }.put o.dst x)) :
    DCallG C g args full base sz k rest i o ms S := dcall_f x p rd hc h (symD_sound hC.tab _ _ _ _ hk)
theorem dcallb_go (hC : CxOK C) (x : SV) (l : List SV) (T : TypeId) (rd : List Nat) (hc : callable C.P g = true) (hl : namesL l = [])
    (h : ∀ r w, Inv C.w0 r (pick S.heap rd) w → Calls C.P g (dens r args).toArray w fun e w' => ∃ (q : Nat) (sc : Nat) (c : Array Value), e = .returned (x.den (r.set (base + i) q (q + 1) undef none sc)) ∧ Below w.heap.size w w' ∧ w.heap.size ≤ q ∧
      w'.heap[q]? = some (.cells c T (0, 0)) ∧ c.toList.take l.length = dens r l)
    (hk : symD C full base sz k rest (i + 1) (ms ++ [⟨rd, [], some (base + i), false, x.names ++ namesL l⟩]) ({ S with heap := (base + i, .pre l T) :: S.heap }.put o.dst x)) :
    DCallG C g args full base sz k rest i o ms S := dcall_b x l T rd hc hl h (symD_sound hC.tab _ _ _ _ hk)
theorem daskg_go (hC : CxOK C) (v : Value) (rd : List Nat) (h : ∀ r a w, Rel C.w0 r (S.view (looks full o) rd) a w → ∃ g as, (execOp a.eval o).run C.P w = .ok (.enter g as) w ∧ Calls C.P g as w (Ret w v))
    (hk : symD C full base sz k rest (i + 1) (ms ++ [⟨rd, [], none, false, []⟩]) (S.put o.dst (.v v))) : DAskG C full base sz k rest i o ms S := by
  refine .inr ⟨.val (.v v), rd, fun q b z e => (by cases e), fun q b z e => (by cases e), fun r a w hR K Q hK => ?_, symD_sound hC.tab _ _ _ _ hk⟩
  obtain ⟨g, as, h1, h2⟩ := h r a w hR
  unfold Oper.wp
  rw [h1]
  refine Calls.mono h2 fun e w' he => ?_
  obtain ⟨rfl, hb⟩ := he
  exact hK r w' ⟨rfl, hb⟩
theorem dask_go (hC : CxOK C) (x : SV) (rd : List Nat) (h : ∀ r a w, Rel C.w0 r (S.view (looks full o) rd) a w → ∃ w', (execOp a.eval o).run C.P w = .ok (.value (x.den r)) w' ∧ Below w.heap.size w w')
    (hk : symD C full base sz k rest (i + 1) (ms ++ [⟨rd, [], none, false, x.names⟩]) (S.put o.dst x)) : DAskG C full base sz k rest i o ms S := dask_v x rd h (symD_sound hC.tab _ _ _ _ hk)
/-- An operation of such a region that changes a block of the call's own, by hand. -/
theorem dupd_go (hC : CxOK C) (q : Nat) (b : Blk) (v : Value) (rd : List Nat) (hq : (isS (lk S.heap q) && memB q rd) = true)
    (h : ∀ r a w, Rel C.w0 r (S.view (looks full o) rd) a w → ∃ w', (execOp a.eval o).run C.P w = .ok (.value v) w' ∧ Below C.w0.heap.size w w' ∧ (∀ i, i < r.lo q ∨ r.hi q ≤ i → w'.heap[i]? = w.heap[i]?) ∧ b.ok C.w0.heap.size r q w')
    (hk : symD C full base sz k rest (i + 1) (ms ++ [⟨rd, [], some q, true, b.names⟩]) ({ S with heap := (q, b) :: S.heap }.put o.dst (.v v))) : DAskG C full base sz k rest i o ms S := by
  refine .inr ⟨.upd q b v, rd, fun q' b' z e => (by cases e; exact hq), fun q' b' z e => (by cases e), fun r a w hR K Q hK => ?_, symD_sound hC.tab _ _ _ _ hk⟩
  obtain ⟨w', h1, h2, h3, h4⟩ := h r a w hR
  unfold Oper.wp
  rw [h1]
  exact hK r w' ⟨rfl, h2, h3, h4⟩
end
end

theorem Ret.mono {w : World} {v u : Value} (h : v = u) {e : Ending} {w' : World} (hr : Ret w v e w') : Ret w u e w' := h ▸ hr
theorem wrap64_id {n : Int} (h1 : -9223372036854775808 ≤ n) (h2 : n ≤ 9223372036854775807) : IntKind.i64.wrap n = n := IntWalk.i64_in n (by omega)
theorem add_add (a : Addr) (m n : Nat) : (a.add m).add n = a.add (m + n) := by
  unfold Addr.add
  by_cases hm : m = 0
  · subst hm; simp
  · by_cases hn : n = 0
    · subst hn; simp
    · simp [hm, hn, Nat.add_assoc]
theorem add_zero' (a : Addr) : a.add 0 = a := by simp [Addr.add]
end Go.Proofs.Ytpoiebkcjehheaa
