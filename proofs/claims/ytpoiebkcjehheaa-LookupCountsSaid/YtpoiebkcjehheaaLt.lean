/- The law's light and ask. -/
import Derived.Test.YtpoiebkcjehheaaCa
namespace Go.Proofs.Ytpoiebkcjehheaa
open Go.RowKit
set_option linter.unusedSimpArgs false
set_option linter.unusedVariables false
attribute [local go_sem] St.init enum sym St.ev lk lkD dstOf St.put effOf opt1 opt2 evs evp SV.cs List.map stepK_ask stepK_ok stepK_box stepK_row stepK_upd stepK_call cond_true cond_false pLoad pStore pFieldAddr pField pIndexAddr pIndex pAssert pMakeIface pExtract pLen pBin pEq aggL eqLL pInt pStr pUn pConv pCall pPick calleeOp Option.bind_some Option.bind_none TK.agg sameK ones SV.one lay List.set_cons_zero List.set_cons_succ List.getElem?_cons_zero List.getElem?_cons_succ List.getElem?_nil List.length_cons List.length_nil List.take_succ_cons List.take_zero List.drop_succ_cons List.drop_zero List.take_nil List.drop_nil condK_some popTo popK_some guardK_some sameB finK_one finK_nil finK_more resOf true_and and_true decide_true decide_false Bool.and_true Bool.true_and Bool.and_self Bool.not_true Bool.not_false Br_true Br_false Nat.zero_mul Int.toNat_zero Int.toNat_one Nat.one_mul fillS initGo Bool.or_false Bool.or_self fdPlace slPlace List.append_nil List.nil_append List.cons_append SV.pv pvs Option.some.injEq dstepK_ask dstepK_ok dstepK_box dstepK_row dstepK_upd dstepK_call dguardK_some symD accOf memB isS SV.names namesL tabs0 tabs1 tabs2 tabs3 tabs4 tabs5 tabs6 tabs7

theorem law_ask (s : ByteArray) (sl : Value) (ao : Option Addr) (n c : Nat) (v : V) (b : Bool) (w : World) (hsl : sl = .slice ao n c) (h : ∀ w', Below w.heap.size w w' → Calls Try.prog 7 #[.string s, sl] w' (Ret w' (.tuple #[(.agg #[.int .i64 (v).k, .int .i64 (v).n, .string (v).s]), .bool b]))) :
    Calls Try.prog 9 #[.string s, sl] w (Ret w (.agg #[.int .i64 (v).k, .int .i64 (v).n, .string (v).s])) := by
  subst hsl
  refine walk tabOK mixedOK 1000 [.v (.string s), .v (.slice ao n c)] vok_ret Try.func9 rfl Try.ntmps9 (by rw [Try.results9]) rfl rfl fun hC => ?_
  (try simp (config := {maxSteps := 4000000}) only [go_sem, Nat.reduceBEq, Nat.reduceLT, Nat.reduceLeDiff, Nat.reduceAdd, Nat.reduceMul, Int.reduceToNat, Nat.reduceMod, Int.cast_ofNat_Int, Int.reduceBEq, Int.reduceBNe, Int.reduceLE, Int.reduceLT, Int.reduceGT, Int.reduceGE, Int.zero_lt_one, Int.le_refl, and_self, Int.toNat_natCast])
  refine call_p hC 1000 rfl (by kernel_rfl) (fun w' hB => h w' hB) ?_
  (try simp (config := {maxSteps := 4000000}) only [go_sem, Nat.reduceBEq, Nat.reduceLT, Nat.reduceLeDiff, Nat.reduceAdd, Nat.reduceMul, Int.reduceToNat, Nat.reduceMod, Int.cast_ofNat_Int, Int.reduceBEq, Int.reduceBNe, Int.reduceLE, Int.reduceLT, Int.reduceGT, Int.reduceGE, Int.zero_lt_one, Int.le_refl, and_self, Int.toNat_natCast])

theorem law_light (sl : Value) (xs : List A) (w : World) (h : IsAreas w sl xs) : Calls Try.prog 5 #[sl] w (RetP w (fun u => ∃ b, u = .bool b)) := by
  have h' := h
  obtain ⟨ao, cap, rfl, hc1, hc2, h3⟩ := h'
  refine walk tabOK mixedOK 1000 [.v (.slice ao xs.length cap)] vok_p Try.func5 rfl Try.ntmps5 (by rw [Try.results5]) rfl rfl fun hC => ?_
  (try simp (config := {maxSteps := 4000000}) only [go_sem, Nat.reduceBEq, Nat.reduceLT, Nat.reduceLeDiff, Nat.reduceAdd, Nat.reduceMul, Int.reduceToNat, Nat.reduceMod, Int.cast_ofNat_Int, Int.reduceBEq, Int.reduceBNe, Int.reduceLE, Int.reduceLT, Int.reduceGT, Int.reduceGE, Int.zero_lt_one, Int.le_refl, and_self, Int.toNat_natCast])
  rotate_left
  refine loop_sym (Nat × Int) (fun p => (⟨38, [(12, .v (.int .i64 (p.1 : Nat))), (11, .v (.int .i64 (xs.length : Nat))), (10, .v (.slice ao xs.length cap)), (3, .v (.int .i64 p.2))], [], 0⟩ : St))
    (fun p => p.1 ≤ xs.length) (fun p => xs.length - p.1) (0, _) (Nat.zero_le _) ⟨rfl, rfl, by simp [subL, lk]; rfl, by simp [subL, lk]⟩ ?_
  rintro ⟨i, n⟩ hi
  replace hi : i ≤ xs.length := hi
  refine go hC 1000 ?_
  by_cases hlt : i < xs.length
  · have hw1 : IntKind.i64.wrap ((i : Int) + 1) = ((i + 1 : Nat) : Int) := by rw [wrap64_id (by omega) (by omega)]; omega
    rcases h3 with h3 | ⟨b, off, rfl, hb, hx⟩
    · rw [h3] at hlt; simp at hlt
    obtain ⟨ao2, c2, hm, hA⟩ := areas_mem hx hb i hlt
    obtain ⟨a, ha⟩ : ∃ a, a = xs[i] := ⟨_, rfl⟩
    simp only [← ha] at hm hA
    have ea : (⟨b, off, none⟩ : Addr).add (i * 4) = ⟨b, off + i * 4, none⟩ := addr_add _ _ _
    rw [ea] at hm
    (try simp (config := {maxSteps := 4000000}) only [go_sem, Nat.reduceBEq, Nat.reduceLT, Nat.reduceLeDiff, Nat.reduceAdd, Nat.reduceMul, Int.reduceToNat, Nat.reduceMod, Int.cast_ofNat_Int, Int.reduceBEq, Int.reduceBNe, Int.reduceLE, Int.reduceLT, Int.reduceGT, Int.reduceGE, Int.zero_lt_one, Int.le_refl, and_self, Int.toNat_natCast, hm, hw1])
    refine br_t (by simp only [decide_eq_true_eq, beq_iff_eq, bne_iff_ne, ne_eq]; omega) ?_
    (try simp (config := {maxSteps := 4000000}) only [go_sem, Nat.reduceBEq, Nat.reduceLT, Nat.reduceLeDiff, Nat.reduceAdd, Nat.reduceMul, Int.reduceToNat, Nat.reduceMod, Int.cast_ofNat_Int, Int.reduceBEq, Int.reduceBNe, Int.reduceLE, Int.reduceLT, Int.reduceGT, Int.reduceGE, Int.zero_lt_one, Int.le_refl, and_self, Int.toNat_natCast, hm, hw1])
    refine ⟨by omega, ?_⟩
    (try simp (config := {maxSteps := 4000000}) only [go_sem, Nat.reduceBEq, Nat.reduceLT, Nat.reduceLeDiff, Nat.reduceAdd, Nat.reduceMul, Int.reduceToNat, Nat.reduceMod, Int.cast_ofNat_Int, Int.reduceBEq, Int.reduceBNe, Int.reduceLE, Int.reduceLT, Int.reduceGT, Int.reduceGE, Int.zero_lt_one, Int.le_refl, and_self, Int.toNat_natCast, hm, hw1])
    rotate_left
    have hcap2 : (a.l.length : Int) ≤ 9223372036854775807 := by
      obtain ⟨_, h2, ⟨ao3, cap3, e, h5, h6, _⟩, _⟩ := hA
      omega
    refine loop_sym (Nat × Int) (fun p => (⟨38, [(24, .v (.int .i64 (p.1 : Nat))), (23, .v (.int .i64 (a.l.length : Nat))), (22, .v (.slice ao2 a.l.length c2)), (3, .v (.int .i64 p.2)), (12, .v (.int .i64 (i : Nat))), (11, .v (.int .i64 (xs.length : Nat))), (10, .v (.slice (some ⟨b, off, none⟩) xs.length cap))], [], 0⟩ : St))
      (fun p => p.1 ≤ a.l.length) (fun p => a.l.length - p.1) (0, _) (Nat.zero_le _) ⟨rfl, rfl, by simp [subL, lk]; rfl, by simp [subL, lk]⟩ ?_
    rintro ⟨j, m⟩ hj
    replace hj : j ≤ a.l.length := hj
    refine go hC 1000 ?_
    by_cases hlt2 : j < a.l.length
    · have hw2 : IntKind.i64.wrap ((j : Int) + 1) = ((j + 1 : Nat) : Int) := by rw [wrap64_id (by omega) (by omega)]; omega
      obtain ⟨A, rfl, hm2⟩ := area_mem hA (n := j) (by omega) (by omega)
      obtain ⟨v, hv⟩ : ∃ v, v = a.l.getD j ⟨0, 0, ⟨#[]⟩⟩ := ⟨_, rfl⟩
      simp only [Int.toNat_natCast, ← hv] at hm2
      (try simp (config := {maxSteps := 4000000}) only [go_sem, Nat.reduceBEq, Nat.reduceLT, Nat.reduceLeDiff, Nat.reduceAdd, Nat.reduceMul, Int.reduceToNat, Nat.reduceMod, Int.cast_ofNat_Int, Int.reduceBEq, Int.reduceBNe, Int.reduceLE, Int.reduceLT, Int.reduceGT, Int.reduceGE, Int.zero_lt_one, Int.le_refl, and_self, Int.toNat_natCast, hm2, hw2])
      refine br_t (by simp only [decide_eq_true_eq, beq_iff_eq, bne_iff_ne, ne_eq]; omega) ?_
      (try simp (config := {maxSteps := 4000000}) only [go_sem, Nat.reduceBEq, Nat.reduceLT, Nat.reduceLeDiff, Nat.reduceAdd, Nat.reduceMul, Int.reduceToNat, Nat.reduceMod, Int.cast_ofNat_Int, Int.reduceBEq, Int.reduceBNe, Int.reduceLE, Int.reduceLT, Int.reduceGT, Int.reduceGE, Int.zero_lt_one, Int.le_refl, and_self, Int.toNat_natCast, hm2, hw2])
      refine ⟨by omega, ?_⟩
      (try simp (config := {maxSteps := 4000000}) only [go_sem, Nat.reduceBEq, Nat.reduceLT, Nat.reduceLeDiff, Nat.reduceAdd, Nat.reduceMul, Int.reduceToNat, Nat.reduceMod, Int.cast_ofNat_Int, Int.reduceBEq, Int.reduceBNe, Int.reduceLE, Int.reduceLT, Int.reduceGT, Int.reduceGE, Int.zero_lt_one, Int.le_refl, and_self, Int.toNat_natCast, hm2, hw2])
      refine ⟨by trivial, ?_⟩
      (try simp (config := {maxSteps := 4000000}) only [go_sem, Nat.reduceBEq, Nat.reduceLT, Nat.reduceLeDiff, Nat.reduceAdd, Nat.reduceMul, Int.reduceToNat, Nat.reduceMod, Int.cast_ofNat_Int, Int.reduceBEq, Int.reduceBNe, Int.reduceLE, Int.reduceLT, Int.reduceGT, Int.reduceGE, Int.zero_lt_one, Int.le_refl, and_self, Int.toNat_natCast, hm2, hw2])
      rotate_left
      exact ⟨(j + 1, IntKind.i64.wrap (m + IntKind.i64.wrap ((v.s.size : Int).tdiv 50))), (show j + 1 ≤ a.l.length by omega), (show a.l.length - (j + 1) < a.l.length - j by omega), rfl, rfl, by simp [subL, lk], by simp [subL, lk]⟩
    · (try simp (config := {maxSteps := 4000000}) only [go_sem, Nat.reduceBEq, Nat.reduceLT, Nat.reduceLeDiff, Nat.reduceAdd, Nat.reduceMul, Int.reduceToNat, Nat.reduceMod, Int.cast_ofNat_Int, Int.reduceBEq, Int.reduceBNe, Int.reduceLE, Int.reduceLT, Int.reduceGT, Int.reduceGE, Int.zero_lt_one, Int.le_refl, and_self, Int.toNat_natCast, hw1])
      refine br_f (by simp only [decide_eq_false_iff_not, beq_eq_false_iff_ne, bne_eq_false_iff_eq, ne_eq]; omega) ?_
      (try simp (config := {maxSteps := 4000000}) only [go_sem, Nat.reduceBEq, Nat.reduceLT, Nat.reduceLeDiff, Nat.reduceAdd, Nat.reduceMul, Int.reduceToNat, Nat.reduceMod, Int.cast_ofNat_Int, Int.reduceBEq, Int.reduceBNe, Int.reduceLE, Int.reduceLT, Int.reduceGT, Int.reduceGE, Int.zero_lt_one, Int.le_refl, and_self, Int.toNat_natCast, hw1])
      rotate_left
      exact ⟨(i + 1, m), (show i + 1 ≤ xs.length by omega), (show xs.length - (i + 1) < xs.length - i by omega), rfl, rfl, by simp [subL, lk], by simp [subL, lk]⟩
  · (try simp (config := {maxSteps := 4000000}) only [go_sem, Nat.reduceBEq, Nat.reduceLT, Nat.reduceLeDiff, Nat.reduceAdd, Nat.reduceMul, Int.reduceToNat, Nat.reduceMod, Int.cast_ofNat_Int, Int.reduceBEq, Int.reduceBNe, Int.reduceLE, Int.reduceLT, Int.reduceGT, Int.reduceGE, Int.zero_lt_one, Int.le_refl, and_self, Int.toNat_natCast])
    refine br_f (by simp only [decide_eq_false_iff_not, beq_eq_false_iff_ne, bne_eq_false_iff_eq, ne_eq]; omega) ?_
    (try simp (config := {maxSteps := 4000000}) only [go_sem, Nat.reduceBEq, Nat.reduceLT, Nat.reduceLeDiff, Nat.reduceAdd, Nat.reduceMul, Int.reduceToNat, Nat.reduceMod, Int.cast_ofNat_Int, Int.reduceBEq, Int.reduceBNe, Int.reduceLE, Int.reduceLT, Int.reduceGT, Int.reduceGE, Int.zero_lt_one, Int.le_refl, and_self, Int.toNat_natCast])
    exact ⟨_, ⟨_, rfl⟩, rfl⟩
end Go.Proofs.Ytpoiebkcjehheaa
