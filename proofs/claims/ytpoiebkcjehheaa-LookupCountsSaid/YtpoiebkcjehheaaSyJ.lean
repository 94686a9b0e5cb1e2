/- A symbolic walk, part J: calls whose result is read off the contract. -/
import Derived.Test.YtpoiebkcjehheaaSyI
namespace Go.Proofs.Ytpoiebkcjehheaa
open Go.RowKit

section
variable {C : Cx} {k : List Item} {S : St}
/-- A call whose arguments name no block of the call's own; its result is read off the contract. -/
theorem call_p (hC : CxOK C) (n : Nat) {f : FuncId} {args : List SV} {dst : Option Tmp} {arr : Array Oper} {rest : List Oper} {l : List Value} {v : Value} (hp : pvs args = some l) (hc : callable C.P f = true)
    (h : ∀ w, Below C.w0.heap.size C.w0 w → Calls C.P f l.toArray w (Ret w v)) (hk : sym C n (.ops arr rest :: k) (S.put dst (.v v))) : CallG C f args dst arr rest k S :=
  call_go hC n v hc (fun r w hI => by rw [pvs_den r args l hp]; exact h w hI.below) hk
theorem dcall_p (hC : CxOK C) {full rest : List Oper} {base sz i : Nat} {o : Oper} {ms : List Ms} {g : FuncId} {args : List SV} (rd : List Nat) {l : List Value} {v : Value} (hp : pvs args = some l) (hc : callable C.P g = true)
    (h : ∀ w, Below C.w0.heap.size C.w0 w → Calls C.P g l.toArray w (Ret w v))
    (hk : symD C full base sz k rest (i + 1) (ms ++ [⟨rd, [], none, false, []⟩]) (S.put o.dst (.v v))) : DCallG C g args full base sz k rest i o ms S :=
  dcall_go hC v rd hc (fun r w hI => by rw [pvs_den r args l hp]; exact h w hI.below) hk
/-- An operation that makes a block of its own, by hand. -/
theorem asknew_go (hC : CxOK C) (n : Nat) {o : Oper} {arr : Array Oper} {rest : List Oper} (b : Blk) (x : SV) (hx : x.nm (lt (S.next + 1)) = true) (hb : b.nm (lt (S.next + 1)) = true)
    (h : ∀ r a w, Rel C.w0 r S a w → ∃ r' w', Va.same (lt S.next) r r' ∧ (execOp a.eval o).run C.P w = .ok (.value (x.den r')) w' ∧ Below w.heap.size w w' ∧ w.heap.size ≤ r'.lo S.next ∧ r'.hi S.next ≤ w'.heap.size ∧ b.ok C.w0.heap.size r' S.next w')
    (hk : sym C n (.ops arr rest :: k) ({ S with heap := (S.next, b) :: S.heap, next := S.next + 1 }.put o.dst x)) : AskG C o arr rest k S := by
  intro r a w hR
  obtain ⟨r', w', h1, h2, h3, h4, h5, h6⟩ := h r a w hR
  unfold Oper.wp
  rw [h2]
  exact go hC n hk _ _ _ ((hR.add h3 h1 hb h4 h5 h6).put o.dst hx)
/-- An operation that changes a block of the call's own, by hand. -/
theorem upd_go (hC : CxOK C) (n : Nat) {o : Oper} {arr : Array Oper} {rest : List Oper} (q : Nat) (b c : Blk) (v : Value) (hq : lk S.heap q = some c) (hb : b.nm (lt S.next) = true)
    (h : ∀ r a w, Rel C.w0 r S a w → ∃ w', (execOp a.eval o).run C.P w = .ok (.value v) w' ∧ Below C.w0.heap.size w w' ∧ (∀ i, i < r.lo q ∨ r.hi q ≤ i → w'.heap[i]? = w.heap[i]?) ∧ b.ok C.w0.heap.size r q w')
    (hk : sym C n (.ops arr rest :: k) ({ S with heap := (q, b) :: S.heap }.put o.dst (.v v))) : AskG C o arr rest k S := by
  intro r a w hR
  obtain ⟨w', h2, h3, h4, h5⟩ := h r a w hR
  unfold Oper.wp
  rw [h2]
  exact go hC n hk _ _ _ ((hR.upd hq h3 h4 hb h5).put o.dst (x := .v v) (by simp only [SV.nm]))
/-- An operation of a drawn region that leaves what is told of a block as it was, though it may write it, by hand. -/
theorem dtch_go (hC : CxOK C) {full rest : List Oper} {base sz i : Nat} {o : Oper} {ms : List Ms} (q : Nat) (b : Blk) (v : Value) (rd : List Nat) (hq : lk S.heap q = some b) (hr : memB q rd = true)
    (h : ∀ r a w, Rel C.w0 r (S.view (looks full o) rd) a w → ∃ w', (execOp a.eval o).run C.P w = .ok (.value v) w' ∧ Below C.w0.heap.size w w' ∧ (∀ i, i < r.lo q ∨ r.hi q ≤ i → w'.heap[i]? = w.heap[i]?) ∧ b.ok C.w0.heap.size r q w')
    (hk : symD C full base sz k rest (i + 1) (ms ++ [⟨rd, [], none, true, []⟩]) (S.put o.dst (.v v))) : DAskG C full base sz k rest i o ms S := by
  refine .inr ⟨.tch q b v, rd, fun q' b' z e => (by cases e), fun q' b' z e => (by cases e; exact ⟨hq, hr⟩), fun r a w hR K Q hK => ?_, symD_sound hC.tab _ _ _ _ hk⟩
  obtain ⟨w', h1, h2, h3, h4⟩ := h r a w hR
  unfold Oper.wp
  rw [h1]
  exact hK r w' ⟨rfl, h2, h3, h4⟩
/-- What is told of a block ahead of a drawn region, said weaker. -/
theorem draw_weak {id : Nat} {arr : Array Oper} (q : Nat) (b c : Blk) (hq : lk S.heap q = some b) (hn : c.nm (lt S.next) = true) (h : ∀ n0 r w, b.ok n0 r q w → c.ok n0 r q w)
    (hk : DrawG C id arr k { S with heap := (q, c) :: S.heap }) : DrawG C id arr k S := by
  intro r a w hR
  exact hk r a w (hR.upd hq (Below.refl _ _) (fun _ _ => rfl) hn (h _ _ _ (hR.inv.blk q b hq).2.2))
/-- An operation of a drawn region that changes a block of the call's own and answers nothing, by hand. -/
theorem dskip_go (hC : CxOK C) {full rest : List Oper} {base sz i : Nat} {o : Oper} {ms : List Ms} (q : Nat) (b : Blk) (rd : List Nat) (hq : (isS (lk S.heap q) && memB q rd) = true)
    (h : ∀ r a w, Rel C.w0 r (S.view (looks full o) rd) a w → ∃ w', (execOp a.eval o).run C.P w = .ok .skip w' ∧ Below C.w0.heap.size w w' ∧ (∀ i, i < r.lo q ∨ r.hi q ≤ i → w'.heap[i]? = w.heap[i]?) ∧ b.ok C.w0.heap.size r q w')
    (hk : symD C full base sz k rest (i + 1) (ms ++ [⟨rd, [], some q, true, b.names⟩]) ({ S with heap := (q, b) :: S.heap }.put o.dst (.v (.tuple #[])))) : DAskG C full base sz k rest i o ms S := by
  refine .inr ⟨.upd q b (.tuple #[]), rd, fun q' b' z e => (by cases e; exact hq), fun q' b' z e => (by cases e), fun r a w hR K Q hK => ?_, symD_sound hC.tab _ _ _ _ hk⟩
  obtain ⟨w', h1, h2, h3, h4⟩ := h r a w hR
  unfold Oper.wp
  rw [h1]
  exact hK r w' ⟨rfl, h2, h3, h4⟩
/-- A call of whose result something is told. -/
def RetP (w : World) (p : Value → Prop) : Ending → World → Prop := fun e w' => ∃ v, p v ∧ e = .returned v ∧ Below w.heap.size w w'
theorem call_q (hC : CxOK C) (n : Nat) {f : FuncId} {args : List SV} {dst : Option Tmp} {arr : Array Oper} {rest : List Oper} {l : List Value} {p : Value → Prop} (hp : pvs args = some l) (hc : callable C.P f = true)
    (h : ∀ w, Below C.w0.heap.size C.w0 w → Calls C.P f l.toArray w (RetP w p)) (hk : ∀ v, p v → sym C n (.ops arr rest :: k) (S.put dst (.v v))) : CallG C f args dst arr rest k S := by
  refine ⟨hc, fun r a w hR => ?_⟩
  rw [pvs_den r args l hp]
  refine Calls.mono (h w hR.inv.below) fun e w' he => ?_
  obtain ⟨v, hv, rfl, hb⟩ := he
  exact ⟨v, rfl, go hC n (hk v hv) _ _ _ ((hR.step hb).put dst (x := .v v) (by simp only [SV.nm]))⟩
def VP (p : Value → Prop) (x : SV) (_ : St) : Prop := ∃ v, p v ∧ x.pv = some v
theorem vok_p {w : World} {p : Value → Prop} : ∀ (x : SV) (S : St), VP p x S → ∀ r w', Inv w r S.heap w' → RetP w p (.returned (x.den r)) w' :=
  fun x _ ⟨v, hv, h⟩ r _ hI => ⟨v, hv, by rw [SV.pv_den r x v h], hI.below⟩
end
/-- An elder contract, said anew. -/
theorem ret_of {P : Program} {f : FuncId} {args : Array Value} {w : World} {v : Value} (h : Calls P f args w fun e w' => e = .returned v ∧ w = w') : Calls P f args w (Ret w v) :=
  h.mono fun _ _ ⟨he, hw⟩ => ⟨he, hw ▸ Below.refl _ _⟩
end Go.Proofs.Ytpoiebkcjehheaa
