/- Moves for calls that answer a block of their own, or some good value. -/
import Derived.Test.YtpoiebkcjehheaaTb
import Derived.Test.YtpoiebkcjehheaaUn
namespace Go.Proofs.Ytpoiebkcjehheaa
open Go.RowKit
set_option linter.unusedSimpArgs false
set_option linter.unusedVariables false

section
variable {C : Cx} {k : List Item} {S : St} {f : FuncId} {args : List SV} {dst : Option Tmp} {arr : Array Oper} {rest : List Oper}
/-- A call that answers one block of its own. -/
theorem callb_r (hC : CxOK C) (n : Nat) (x : SV) (l : List SV) (T : TypeId) {mk : Nat → Value} {lv l0 : List Value} (hp : pvs args = some l0) (hc : callable C.P f = true) (hx : x.nm (lt (S.next + 1)) = true) (hl : nms (lt S.next) l = true)
    (hmk : ∀ r : Va, x.den r = mk (r.lo S.next)) (hlv : ∀ r : Va, dens r l = lv)
    (h : ∀ w, Below C.w0.heap.size C.w0 w → Calls C.P f l0.toArray w (RetB w mk lv T)) (hk : sym C n (.ops arr rest :: k) ({ S with heap := (S.next, .pre l T) :: S.heap, next := S.next + 1 }.put dst x)) : CallG C f args dst arr rest k S := by
  refine callb_go hC n x l T hc hx hl (fun r w hI => ?_) hk
  rw [pvs_den r args l0 hp]
  refine (h w hI.below).mono fun e w2 ⟨g, h1, h2, h3, c, h4, h5⟩ => ⟨g, 0, c, ?_, h2, h3, h4, ?_⟩
  · rw [h1, hmk]; simp [Va.set]
  · have := dens_length r l
    rw [hlv] at this
    rw [hlv, ← this]; exact h5
/-- A call that answers some good value. -/
theorem call_g (hC : CxOK C) (n : Nat) (hc : callable C.P f = true) (h : ∀ r w, Inv C.w0 r S.heap w → Calls C.P f (dens r args).toArray w (RetG w)) (hk : ∀ v : V, v.good = true → sym C n (.ops arr rest :: k) (S.put dst (.v (.agg #[.int .i64 (v).k, .int .i64 (v).n, .string (v).s])))) : CallG C f args dst arr rest k S := by
  refine ⟨hc, fun r a w hR => Calls.mono (h r w hR.inv) fun e w' he => ?_⟩
  obtain ⟨v, hv, rfl, hb⟩ := he
  exact ⟨_, rfl, go hC n (hk v hv) _ _ _ ((hR.step hb).put dst (x := .v (.agg #[.int .i64 (v).k, .int .i64 (v).n, .string (v).s])) (by simp only [SV.nm]))⟩
end
theorem own_pre {w0 w : World} {r : Va} {H : List (Nat × Blk)} {k : Nat} {x : SV} {T : TypeId} (hI : Inv w0 r H w) (hk : lk H k = some (.pre [x] T)) : w.cell? ⟨r.lo k, 0, none⟩ = some (x.den r) := by
  obtain ⟨_, _, hb⟩ := hI.blk k _ hk
  obtain ⟨_, c, h1, h2⟩ := hb
  simp only [List.length_cons, List.length_nil, dens] at h2
  have : c.toList[0]? = some (x.den r) := by
    have h3 := congrArg (fun l => l[0]?) h2
    simpa using h3
  simp [World.cell?, h1]
  simpa using this
theorem own_prev {w0 w : World} {r : Va} {H : List (Nat × Blk)} {k : Nat} {v : Value} {T : TypeId} (hI : Inv w0 r H w) (hk : lk H k = some (.pre [.v v] T)) : w.cell? ⟨r.lo k, 0, none⟩ = some v := by
  have := own_pre hI hk
  simpa only [SV.den] using this
end Go.Proofs.Ytpoiebkcjehheaa
