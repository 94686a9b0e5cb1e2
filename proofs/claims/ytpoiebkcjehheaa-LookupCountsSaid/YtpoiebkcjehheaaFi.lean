/- lookup.find at each name. -/
import Derived.Test.YtpoiebkcjehheaaCg
namespace Go.Proofs.Ytpoiebkcjehheaa
open Go.RowKit
set_option linter.unusedSimpArgs false
set_option linter.unusedVariables false
attribute [local go_sem] St.init enum sym St.ev lk lkD dstOf St.put effOf opt1 opt2 evs evp SV.cs List.map stepK_ask stepK_ok stepK_box stepK_row stepK_upd stepK_call cond_true cond_false pLoad pStore pFieldAddr pField pIndexAddr pIndex pAssert pMakeIface pExtract pLen pBin pEq aggL eqLL pInt pStr pUn pConv pCall pPick calleeOp Option.bind_some Option.bind_none TK.agg sameK ones SV.one lay List.set_cons_zero List.set_cons_succ List.getElem?_cons_zero List.getElem?_cons_succ List.getElem?_nil List.length_cons List.length_nil List.take_succ_cons List.take_zero List.drop_succ_cons List.drop_zero List.take_nil List.drop_nil condK_some popTo popK_some guardK_some sameB finK_one finK_nil finK_more resOf true_and and_true decide_true decide_false Bool.and_true Bool.true_and Bool.and_self Bool.not_true Bool.not_false Br_true Br_false Nat.zero_mul Int.toNat_zero Int.toNat_one Nat.one_mul fillS initGo Bool.or_false Bool.or_self fdPlace slPlace List.append_nil List.nil_append List.cons_append SV.pv pvs Option.some.injEq dstepK_ask dstepK_ok dstepK_box dstepK_row dstepK_upd dstepK_call dguardK_some symD accOf memB isS SV.names namesL tabs0 tabs1 tabs2 tabs3 tabs4 tabs5 tabs6 tabs7

theorem find_ROWS (w : World) : Calls Try.prog 11 #[.string ⟨#[82, 79, 87, 83]⟩] w (RetB w (fun g => .tuple #[.func (.func 24) #[] #[.pointer (some ⟨g, 0, none⟩)], .int .i64 1, .int .i64 1]) [.func (.func 16) #[] #[]] 47) := by
  refine walk tabOK mixedOK 1000 [.v (.string ⟨#[82, 79, 87, 83]⟩)] vok_b Try.func11 rfl Try.ntmps11 (by rw [Try.results11]) rfl rfl fun hC => ?_
  (try simp (config := {maxSteps := 4000000}) only [go_sem, Nat.reduceBEq, Nat.reduceLT, Nat.reduceLeDiff, Nat.reduceAdd, Nat.reduceMul, Int.reduceToNat, Nat.reduceMod, Int.cast_ofNat_Int, Int.reduceBEq, Int.reduceBNe, Int.reduceLE, Int.reduceLT, Int.reduceGT, Int.reduceGE, Int.zero_lt_one, Int.le_refl, and_self, Int.toNat_natCast])
  refine br_t (by simp only [ByteArray.toList_eq]; rfl) ?_
  (try simp (config := {maxSteps := 4000000}) only [go_sem, Nat.reduceBEq, Nat.reduceLT, Nat.reduceLeDiff, Nat.reduceAdd, Nat.reduceMul, Int.reduceToNat, Nat.reduceMod, Int.cast_ofNat_Int, Int.reduceBEq, Int.reduceBNe, Int.reduceLE, Int.reduceLT, Int.reduceGT, Int.reduceGE, Int.zero_lt_one, Int.le_refl, and_self, Int.toNat_natCast])
  rotate_left
  refine callb_r hC 1000 (.fn (.func 24) [] [.ptr 0 0]) [.v (.func (.func 16) #[] #[])] 47 rfl (by kernel_rfl) rfl rfl (fun r => by simp [SV.den, dens]) (fun r => by simp [SV.den, dens]) (fun w' hB => lookup_sized _ w') ?_
  (try simp (config := {maxSteps := 4000000}) only [go_sem, Nat.reduceBEq, Nat.reduceLT, Nat.reduceLeDiff, Nat.reduceAdd, Nat.reduceMul, Int.reduceToNat, Nat.reduceMod, Int.cast_ofNat_Int, Int.reduceBEq, Int.reduceBNe, Int.reduceLE, Int.reduceLT, Int.reduceGT, Int.reduceGE, Int.zero_lt_one, Int.le_refl, and_self, Int.toNat_natCast])
  (refine ⟨0, _, fun r => ?_, .inr rfl, fun r => ?_⟩ <;> simp [SV.den, dens])
theorem find_COLUMNS (w : World) : Calls Try.prog 11 #[.string ⟨#[67, 79, 76, 85, 77, 78, 83]⟩] w (RetB w (fun g => .tuple #[.func (.func 24) #[] #[.pointer (some ⟨g, 0, none⟩)], .int .i64 1, .int .i64 1]) [.func (.func 17) #[] #[]] 47) := by
  refine walk tabOK mixedOK 1000 [.v (.string ⟨#[67, 79, 76, 85, 77, 78, 83]⟩)] vok_b Try.func11 rfl Try.ntmps11 (by rw [Try.results11]) rfl rfl fun hC => ?_
  (try simp (config := {maxSteps := 4000000}) only [go_sem, Nat.reduceBEq, Nat.reduceLT, Nat.reduceLeDiff, Nat.reduceAdd, Nat.reduceMul, Int.reduceToNat, Nat.reduceMod, Int.cast_ofNat_Int, Int.reduceBEq, Int.reduceBNe, Int.reduceLE, Int.reduceLT, Int.reduceGT, Int.reduceGE, Int.zero_lt_one, Int.le_refl, and_self, Int.toNat_natCast])
  refine br_f (by simp only [ByteArray.toList_eq]; rfl) ?_
  (try simp (config := {maxSteps := 4000000}) only [go_sem, Nat.reduceBEq, Nat.reduceLT, Nat.reduceLeDiff, Nat.reduceAdd, Nat.reduceMul, Int.reduceToNat, Nat.reduceMod, Int.cast_ofNat_Int, Int.reduceBEq, Int.reduceBNe, Int.reduceLE, Int.reduceLT, Int.reduceGT, Int.reduceGE, Int.zero_lt_one, Int.le_refl, and_self, Int.toNat_natCast])
  refine br_t (by simp only [ByteArray.toList_eq]; rfl) ?_
  (try simp (config := {maxSteps := 4000000}) only [go_sem, Nat.reduceBEq, Nat.reduceLT, Nat.reduceLeDiff, Nat.reduceAdd, Nat.reduceMul, Int.reduceToNat, Nat.reduceMod, Int.cast_ofNat_Int, Int.reduceBEq, Int.reduceBNe, Int.reduceLE, Int.reduceLT, Int.reduceGT, Int.reduceGE, Int.zero_lt_one, Int.le_refl, and_self, Int.toNat_natCast])
  rotate_left
  refine callb_r hC 1000 (.fn (.func 24) [] [.ptr 0 0]) [.v (.func (.func 17) #[] #[])] 47 rfl (by kernel_rfl) rfl rfl (fun r => by simp [SV.den, dens]) (fun r => by simp [SV.den, dens]) (fun w' hB => lookup_sized _ w') ?_
  (try simp (config := {maxSteps := 4000000}) only [go_sem, Nat.reduceBEq, Nat.reduceLT, Nat.reduceLeDiff, Nat.reduceAdd, Nat.reduceMul, Int.reduceToNat, Nat.reduceMod, Int.cast_ofNat_Int, Int.reduceBEq, Int.reduceBNe, Int.reduceLE, Int.reduceLT, Int.reduceGT, Int.reduceGE, Int.zero_lt_one, Int.le_refl, and_self, Int.toNat_natCast])
  (refine ⟨0, _, fun r => ?_, .inr rfl, fun r => ?_⟩ <;> simp [SV.den, dens])
theorem find_COUNTUNIQUE (w : World) : Calls Try.prog 11 #[.string ⟨#[67, 79, 85, 78, 84, 85, 78, 73, 81, 85, 69]⟩] w (RetB w (fun g => .tuple #[.func (.func 24) #[] #[.pointer (some ⟨g, 0, none⟩)], .int .i64 1, .int .i64 1]) [.func (.func 18) #[] #[]] 47) := by
  refine walk tabOK mixedOK 1000 [.v (.string ⟨#[67, 79, 85, 78, 84, 85, 78, 73, 81, 85, 69]⟩)] vok_b Try.func11 rfl Try.ntmps11 (by rw [Try.results11]) rfl rfl fun hC => ?_
  (try simp (config := {maxSteps := 4000000}) only [go_sem, Nat.reduceBEq, Nat.reduceLT, Nat.reduceLeDiff, Nat.reduceAdd, Nat.reduceMul, Int.reduceToNat, Nat.reduceMod, Int.cast_ofNat_Int, Int.reduceBEq, Int.reduceBNe, Int.reduceLE, Int.reduceLT, Int.reduceGT, Int.reduceGE, Int.zero_lt_one, Int.le_refl, and_self, Int.toNat_natCast])
  refine br_f (by simp only [ByteArray.toList_eq]; rfl) ?_
  (try simp (config := {maxSteps := 4000000}) only [go_sem, Nat.reduceBEq, Nat.reduceLT, Nat.reduceLeDiff, Nat.reduceAdd, Nat.reduceMul, Int.reduceToNat, Nat.reduceMod, Int.cast_ofNat_Int, Int.reduceBEq, Int.reduceBNe, Int.reduceLE, Int.reduceLT, Int.reduceGT, Int.reduceGE, Int.zero_lt_one, Int.le_refl, and_self, Int.toNat_natCast])
  refine br_f (by simp only [ByteArray.toList_eq]; rfl) ?_
  (try simp (config := {maxSteps := 4000000}) only [go_sem, Nat.reduceBEq, Nat.reduceLT, Nat.reduceLeDiff, Nat.reduceAdd, Nat.reduceMul, Int.reduceToNat, Nat.reduceMod, Int.cast_ofNat_Int, Int.reduceBEq, Int.reduceBNe, Int.reduceLE, Int.reduceLT, Int.reduceGT, Int.reduceGE, Int.zero_lt_one, Int.le_refl, and_self, Int.toNat_natCast])
  refine br_t (by simp only [ByteArray.toList_eq]; rfl) ?_
  (try simp (config := {maxSteps := 4000000}) only [go_sem, Nat.reduceBEq, Nat.reduceLT, Nat.reduceLeDiff, Nat.reduceAdd, Nat.reduceMul, Int.reduceToNat, Nat.reduceMod, Int.cast_ofNat_Int, Int.reduceBEq, Int.reduceBNe, Int.reduceLE, Int.reduceLT, Int.reduceGT, Int.reduceGE, Int.zero_lt_one, Int.le_refl, and_self, Int.toNat_natCast])
  rotate_left
  refine callb_r hC 1000 (.fn (.func 24) [] [.ptr 0 0]) [.v (.func (.func 18) #[] #[])] 47 rfl (by kernel_rfl) rfl rfl (fun r => by simp [SV.den, dens]) (fun r => by simp [SV.den, dens]) (fun w' hB => lookup_sized _ w') ?_
  (try simp (config := {maxSteps := 4000000}) only [go_sem, Nat.reduceBEq, Nat.reduceLT, Nat.reduceLeDiff, Nat.reduceAdd, Nat.reduceMul, Int.reduceToNat, Nat.reduceMod, Int.cast_ofNat_Int, Int.reduceBEq, Int.reduceBNe, Int.reduceLE, Int.reduceLT, Int.reduceGT, Int.reduceGE, Int.zero_lt_one, Int.le_refl, and_self, Int.toNat_natCast])
  (refine ⟨0, _, fun r => ?_, .inr rfl, fun r => ?_⟩ <;> simp [SV.den, dens])
theorem find_INDEX (w : World) : Calls Try.prog 11 #[.string ⟨#[73, 78, 68, 69, 88]⟩] w (Ret w (.tuple #[.func (.func 19) #[] #[], .int .i64 2, .int .i64 3])) := by
  refine walk tabOK mixedOK 1000 [.v (.string ⟨#[73, 78, 68, 69, 88]⟩)] vok_ret Try.func11 rfl Try.ntmps11 (by rw [Try.results11]) rfl rfl fun hC => ?_
  (try simp (config := {maxSteps := 4000000}) only [go_sem, Nat.reduceBEq, Nat.reduceLT, Nat.reduceLeDiff, Nat.reduceAdd, Nat.reduceMul, Int.reduceToNat, Nat.reduceMod, Int.cast_ofNat_Int, Int.reduceBEq, Int.reduceBNe, Int.reduceLE, Int.reduceLT, Int.reduceGT, Int.reduceGE, Int.zero_lt_one, Int.le_refl, and_self, Int.toNat_natCast])
  refine br_f (by simp only [ByteArray.toList_eq]; rfl) ?_
  (try simp (config := {maxSteps := 4000000}) only [go_sem, Nat.reduceBEq, Nat.reduceLT, Nat.reduceLeDiff, Nat.reduceAdd, Nat.reduceMul, Int.reduceToNat, Nat.reduceMod, Int.cast_ofNat_Int, Int.reduceBEq, Int.reduceBNe, Int.reduceLE, Int.reduceLT, Int.reduceGT, Int.reduceGE, Int.zero_lt_one, Int.le_refl, and_self, Int.toNat_natCast])
  refine br_f (by simp only [ByteArray.toList_eq]; rfl) ?_
  (try simp (config := {maxSteps := 4000000}) only [go_sem, Nat.reduceBEq, Nat.reduceLT, Nat.reduceLeDiff, Nat.reduceAdd, Nat.reduceMul, Int.reduceToNat, Nat.reduceMod, Int.cast_ofNat_Int, Int.reduceBEq, Int.reduceBNe, Int.reduceLE, Int.reduceLT, Int.reduceGT, Int.reduceGE, Int.zero_lt_one, Int.le_refl, and_self, Int.toNat_natCast])
  refine br_f (by simp only [ByteArray.toList_eq]; rfl) ?_
  (try simp (config := {maxSteps := 4000000}) only [go_sem, Nat.reduceBEq, Nat.reduceLT, Nat.reduceLeDiff, Nat.reduceAdd, Nat.reduceMul, Int.reduceToNat, Nat.reduceMod, Int.cast_ofNat_Int, Int.reduceBEq, Int.reduceBNe, Int.reduceLE, Int.reduceLT, Int.reduceGT, Int.reduceGE, Int.zero_lt_one, Int.le_refl, and_self, Int.toNat_natCast])
  refine br_t (by simp only [ByteArray.toList_eq]; rfl) ?_
  (try simp (config := {maxSteps := 4000000}) only [go_sem, Nat.reduceBEq, Nat.reduceLT, Nat.reduceLeDiff, Nat.reduceAdd, Nat.reduceMul, Int.reduceToNat, Nat.reduceMod, Int.cast_ofNat_Int, Int.reduceBEq, Int.reduceBNe, Int.reduceLE, Int.reduceLT, Int.reduceGT, Int.reduceGE, Int.zero_lt_one, Int.le_refl, and_self, Int.toNat_natCast])
theorem find_CHOOSE (w : World) : Calls Try.prog 11 #[.string ⟨#[67, 72, 79, 79, 83, 69]⟩] w (Ret w (.tuple #[.func (.func 20) #[] #[], .int .i64 2, .int .i64 1073741824])) := by
  refine walk tabOK mixedOK 1000 [.v (.string ⟨#[67, 72, 79, 79, 83, 69]⟩)] vok_ret Try.func11 rfl Try.ntmps11 (by rw [Try.results11]) rfl rfl fun hC => ?_
  (try simp (config := {maxSteps := 4000000}) only [go_sem, Nat.reduceBEq, Nat.reduceLT, Nat.reduceLeDiff, Nat.reduceAdd, Nat.reduceMul, Int.reduceToNat, Nat.reduceMod, Int.cast_ofNat_Int, Int.reduceBEq, Int.reduceBNe, Int.reduceLE, Int.reduceLT, Int.reduceGT, Int.reduceGE, Int.zero_lt_one, Int.le_refl, and_self, Int.toNat_natCast])
  refine br_f (by simp only [ByteArray.toList_eq]; rfl) ?_
  (try simp (config := {maxSteps := 4000000}) only [go_sem, Nat.reduceBEq, Nat.reduceLT, Nat.reduceLeDiff, Nat.reduceAdd, Nat.reduceMul, Int.reduceToNat, Nat.reduceMod, Int.cast_ofNat_Int, Int.reduceBEq, Int.reduceBNe, Int.reduceLE, Int.reduceLT, Int.reduceGT, Int.reduceGE, Int.zero_lt_one, Int.le_refl, and_self, Int.toNat_natCast])
  refine br_f (by simp only [ByteArray.toList_eq]; rfl) ?_
  (try simp (config := {maxSteps := 4000000}) only [go_sem, Nat.reduceBEq, Nat.reduceLT, Nat.reduceLeDiff, Nat.reduceAdd, Nat.reduceMul, Int.reduceToNat, Nat.reduceMod, Int.cast_ofNat_Int, Int.reduceBEq, Int.reduceBNe, Int.reduceLE, Int.reduceLT, Int.reduceGT, Int.reduceGE, Int.zero_lt_one, Int.le_refl, and_self, Int.toNat_natCast])
  refine br_f (by simp only [ByteArray.toList_eq]; rfl) ?_
  (try simp (config := {maxSteps := 4000000}) only [go_sem, Nat.reduceBEq, Nat.reduceLT, Nat.reduceLeDiff, Nat.reduceAdd, Nat.reduceMul, Int.reduceToNat, Nat.reduceMod, Int.cast_ofNat_Int, Int.reduceBEq, Int.reduceBNe, Int.reduceLE, Int.reduceLT, Int.reduceGT, Int.reduceGE, Int.zero_lt_one, Int.le_refl, and_self, Int.toNat_natCast])
  refine br_f (by simp only [ByteArray.toList_eq]; rfl) ?_
  (try simp (config := {maxSteps := 4000000}) only [go_sem, Nat.reduceBEq, Nat.reduceLT, Nat.reduceLeDiff, Nat.reduceAdd, Nat.reduceMul, Int.reduceToNat, Nat.reduceMod, Int.cast_ofNat_Int, Int.reduceBEq, Int.reduceBNe, Int.reduceLE, Int.reduceLT, Int.reduceGT, Int.reduceGE, Int.zero_lt_one, Int.le_refl, and_self, Int.toNat_natCast])
  refine br_t (by simp only [ByteArray.toList_eq]; rfl) ?_
  (try simp (config := {maxSteps := 4000000}) only [go_sem, Nat.reduceBEq, Nat.reduceLT, Nat.reduceLeDiff, Nat.reduceAdd, Nat.reduceMul, Int.reduceToNat, Nat.reduceMod, Int.cast_ofNat_Int, Int.reduceBEq, Int.reduceBNe, Int.reduceLE, Int.reduceLT, Int.reduceGT, Int.reduceGE, Int.zero_lt_one, Int.le_refl, and_self, Int.toNat_natCast])
theorem find_MATCH (w : World) : Calls Try.prog 11 #[.string ⟨#[77, 65, 84, 67, 72]⟩] w (Ret w (.tuple #[.func (.func 21) #[] #[], .int .i64 2, .int .i64 3])) := by
  refine walk tabOK mixedOK 1000 [.v (.string ⟨#[77, 65, 84, 67, 72]⟩)] vok_ret Try.func11 rfl Try.ntmps11 (by rw [Try.results11]) rfl rfl fun hC => ?_
  (try simp (config := {maxSteps := 4000000}) only [go_sem, Nat.reduceBEq, Nat.reduceLT, Nat.reduceLeDiff, Nat.reduceAdd, Nat.reduceMul, Int.reduceToNat, Nat.reduceMod, Int.cast_ofNat_Int, Int.reduceBEq, Int.reduceBNe, Int.reduceLE, Int.reduceLT, Int.reduceGT, Int.reduceGE, Int.zero_lt_one, Int.le_refl, and_self, Int.toNat_natCast])
  refine br_f (by simp only [ByteArray.toList_eq]; rfl) ?_
  (try simp (config := {maxSteps := 4000000}) only [go_sem, Nat.reduceBEq, Nat.reduceLT, Nat.reduceLeDiff, Nat.reduceAdd, Nat.reduceMul, Int.reduceToNat, Nat.reduceMod, Int.cast_ofNat_Int, Int.reduceBEq, Int.reduceBNe, Int.reduceLE, Int.reduceLT, Int.reduceGT, Int.reduceGE, Int.zero_lt_one, Int.le_refl, and_self, Int.toNat_natCast])
  refine br_f (by simp only [ByteArray.toList_eq]; rfl) ?_
  (try simp (config := {maxSteps := 4000000}) only [go_sem, Nat.reduceBEq, Nat.reduceLT, Nat.reduceLeDiff, Nat.reduceAdd, Nat.reduceMul, Int.reduceToNat, Nat.reduceMod, Int.cast_ofNat_Int, Int.reduceBEq, Int.reduceBNe, Int.reduceLE, Int.reduceLT, Int.reduceGT, Int.reduceGE, Int.zero_lt_one, Int.le_refl, and_self, Int.toNat_natCast])
  refine br_f (by simp only [ByteArray.toList_eq]; rfl) ?_
  (try simp (config := {maxSteps := 4000000}) only [go_sem, Nat.reduceBEq, Nat.reduceLT, Nat.reduceLeDiff, Nat.reduceAdd, Nat.reduceMul, Int.reduceToNat, Nat.reduceMod, Int.cast_ofNat_Int, Int.reduceBEq, Int.reduceBNe, Int.reduceLE, Int.reduceLT, Int.reduceGT, Int.reduceGE, Int.zero_lt_one, Int.le_refl, and_self, Int.toNat_natCast])
  refine br_f (by simp only [ByteArray.toList_eq]; rfl) ?_
  (try simp (config := {maxSteps := 4000000}) only [go_sem, Nat.reduceBEq, Nat.reduceLT, Nat.reduceLeDiff, Nat.reduceAdd, Nat.reduceMul, Int.reduceToNat, Nat.reduceMod, Int.cast_ofNat_Int, Int.reduceBEq, Int.reduceBNe, Int.reduceLE, Int.reduceLT, Int.reduceGT, Int.reduceGE, Int.zero_lt_one, Int.le_refl, and_self, Int.toNat_natCast])
  refine br_f (by simp only [ByteArray.toList_eq]; rfl) ?_
  (try simp (config := {maxSteps := 4000000}) only [go_sem, Nat.reduceBEq, Nat.reduceLT, Nat.reduceLeDiff, Nat.reduceAdd, Nat.reduceMul, Int.reduceToNat, Nat.reduceMod, Int.cast_ofNat_Int, Int.reduceBEq, Int.reduceBNe, Int.reduceLE, Int.reduceLT, Int.reduceGT, Int.reduceGE, Int.zero_lt_one, Int.le_refl, and_self, Int.toNat_natCast])
  refine br_t (by simp only [ByteArray.toList_eq]; rfl) ?_
  (try simp (config := {maxSteps := 4000000}) only [go_sem, Nat.reduceBEq, Nat.reduceLT, Nat.reduceLeDiff, Nat.reduceAdd, Nat.reduceMul, Int.reduceToNat, Nat.reduceMod, Int.cast_ofNat_Int, Int.reduceBEq, Int.reduceBNe, Int.reduceLE, Int.reduceLT, Int.reduceGT, Int.reduceGE, Int.zero_lt_one, Int.le_refl, and_self, Int.toNat_natCast])
theorem find_LOOKUP (w : World) : Calls Try.prog 11 #[.string ⟨#[76, 79, 79, 75, 85, 80]⟩] w (RetB w (fun g => .tuple #[.func (.func 34) #[] #[.pointer (some ⟨g, 0, none⟩)], .int .i64 3, .int .i64 3]) [.int .i64 1] 3) := by
  refine walk tabOK mixedOK 1000 [.v (.string ⟨#[76, 79, 79, 75, 85, 80]⟩)] vok_b Try.func11 rfl Try.ntmps11 (by rw [Try.results11]) rfl rfl fun hC => ?_
  (try simp (config := {maxSteps := 4000000}) only [go_sem, Nat.reduceBEq, Nat.reduceLT, Nat.reduceLeDiff, Nat.reduceAdd, Nat.reduceMul, Int.reduceToNat, Nat.reduceMod, Int.cast_ofNat_Int, Int.reduceBEq, Int.reduceBNe, Int.reduceLE, Int.reduceLT, Int.reduceGT, Int.reduceGE, Int.zero_lt_one, Int.le_refl, and_self, Int.toNat_natCast])
  refine br_f (by simp only [ByteArray.toList_eq]; rfl) ?_
  (try simp (config := {maxSteps := 4000000}) only [go_sem, Nat.reduceBEq, Nat.reduceLT, Nat.reduceLeDiff, Nat.reduceAdd, Nat.reduceMul, Int.reduceToNat, Nat.reduceMod, Int.cast_ofNat_Int, Int.reduceBEq, Int.reduceBNe, Int.reduceLE, Int.reduceLT, Int.reduceGT, Int.reduceGE, Int.zero_lt_one, Int.le_refl, and_self, Int.toNat_natCast])
  refine br_f (by simp only [ByteArray.toList_eq]; rfl) ?_
  (try simp (config := {maxSteps := 4000000}) only [go_sem, Nat.reduceBEq, Nat.reduceLT, Nat.reduceLeDiff, Nat.reduceAdd, Nat.reduceMul, Int.reduceToNat, Nat.reduceMod, Int.cast_ofNat_Int, Int.reduceBEq, Int.reduceBNe, Int.reduceLE, Int.reduceLT, Int.reduceGT, Int.reduceGE, Int.zero_lt_one, Int.le_refl, and_self, Int.toNat_natCast])
  refine br_f (by simp only [ByteArray.toList_eq]; rfl) ?_
  (try simp (config := {maxSteps := 4000000}) only [go_sem, Nat.reduceBEq, Nat.reduceLT, Nat.reduceLeDiff, Nat.reduceAdd, Nat.reduceMul, Int.reduceToNat, Nat.reduceMod, Int.cast_ofNat_Int, Int.reduceBEq, Int.reduceBNe, Int.reduceLE, Int.reduceLT, Int.reduceGT, Int.reduceGE, Int.zero_lt_one, Int.le_refl, and_self, Int.toNat_natCast])
  refine br_f (by simp only [ByteArray.toList_eq]; rfl) ?_
  (try simp (config := {maxSteps := 4000000}) only [go_sem, Nat.reduceBEq, Nat.reduceLT, Nat.reduceLeDiff, Nat.reduceAdd, Nat.reduceMul, Int.reduceToNat, Nat.reduceMod, Int.cast_ofNat_Int, Int.reduceBEq, Int.reduceBNe, Int.reduceLE, Int.reduceLT, Int.reduceGT, Int.reduceGE, Int.zero_lt_one, Int.le_refl, and_self, Int.toNat_natCast])
  refine br_f (by simp only [ByteArray.toList_eq]; rfl) ?_
  (try simp (config := {maxSteps := 4000000}) only [go_sem, Nat.reduceBEq, Nat.reduceLT, Nat.reduceLeDiff, Nat.reduceAdd, Nat.reduceMul, Int.reduceToNat, Nat.reduceMod, Int.cast_ofNat_Int, Int.reduceBEq, Int.reduceBNe, Int.reduceLE, Int.reduceLT, Int.reduceGT, Int.reduceGE, Int.zero_lt_one, Int.le_refl, and_self, Int.toNat_natCast])
  refine br_f (by simp only [ByteArray.toList_eq]; rfl) ?_
  (try simp (config := {maxSteps := 4000000}) only [go_sem, Nat.reduceBEq, Nat.reduceLT, Nat.reduceLeDiff, Nat.reduceAdd, Nat.reduceMul, Int.reduceToNat, Nat.reduceMod, Int.cast_ofNat_Int, Int.reduceBEq, Int.reduceBNe, Int.reduceLE, Int.reduceLT, Int.reduceGT, Int.reduceGE, Int.zero_lt_one, Int.le_refl, and_self, Int.toNat_natCast])
  refine br_t (by simp only [ByteArray.toList_eq]; rfl) ?_
  (try simp (config := {maxSteps := 4000000}) only [go_sem, Nat.reduceBEq, Nat.reduceLT, Nat.reduceLeDiff, Nat.reduceAdd, Nat.reduceMul, Int.reduceToNat, Nat.reduceMod, Int.cast_ofNat_Int, Int.reduceBEq, Int.reduceBNe, Int.reduceLE, Int.reduceLT, Int.reduceGT, Int.reduceGE, Int.zero_lt_one, Int.le_refl, and_self, Int.toNat_natCast])
  rotate_left
  refine callb_r hC 1000 (.fn (.func 34) [] [.ptr 0 0]) [.v (.int .i64 1)] 3 rfl (by kernel_rfl) rfl rfl (fun r => by simp [SV.den, dens]) (fun r => by simp [SV.den, dens]) (fun w' hB => lookup_lines _ w') ?_
  (try simp (config := {maxSteps := 4000000}) only [go_sem, Nat.reduceBEq, Nat.reduceLT, Nat.reduceLeDiff, Nat.reduceAdd, Nat.reduceMul, Int.reduceToNat, Nat.reduceMod, Int.cast_ofNat_Int, Int.reduceBEq, Int.reduceBNe, Int.reduceLE, Int.reduceLT, Int.reduceGT, Int.reduceGE, Int.zero_lt_one, Int.le_refl, and_self, Int.toNat_natCast])
  (refine ⟨0, _, fun r => ?_, .inr rfl, fun r => ?_⟩ <;> simp [SV.den, dens])
theorem find_XLOOKUP (w : World) : Calls Try.prog 11 #[.string ⟨#[88, 76, 79, 79, 75, 85, 80]⟩] w (RetB w (fun g => .tuple #[.func (.func 34) #[] #[.pointer (some ⟨g, 0, none⟩)], .int .i64 3, .int .i64 4]) [.int .i64 0] 3) := by
  refine walk tabOK mixedOK 1000 [.v (.string ⟨#[88, 76, 79, 79, 75, 85, 80]⟩)] vok_b Try.func11 rfl Try.ntmps11 (by rw [Try.results11]) rfl rfl fun hC => ?_
  (try simp (config := {maxSteps := 4000000}) only [go_sem, Nat.reduceBEq, Nat.reduceLT, Nat.reduceLeDiff, Nat.reduceAdd, Nat.reduceMul, Int.reduceToNat, Nat.reduceMod, Int.cast_ofNat_Int, Int.reduceBEq, Int.reduceBNe, Int.reduceLE, Int.reduceLT, Int.reduceGT, Int.reduceGE, Int.zero_lt_one, Int.le_refl, and_self, Int.toNat_natCast])
  refine br_f (by simp only [ByteArray.toList_eq]; rfl) ?_
  (try simp (config := {maxSteps := 4000000}) only [go_sem, Nat.reduceBEq, Nat.reduceLT, Nat.reduceLeDiff, Nat.reduceAdd, Nat.reduceMul, Int.reduceToNat, Nat.reduceMod, Int.cast_ofNat_Int, Int.reduceBEq, Int.reduceBNe, Int.reduceLE, Int.reduceLT, Int.reduceGT, Int.reduceGE, Int.zero_lt_one, Int.le_refl, and_self, Int.toNat_natCast])
  refine br_f (by simp only [ByteArray.toList_eq]; rfl) ?_
  (try simp (config := {maxSteps := 4000000}) only [go_sem, Nat.reduceBEq, Nat.reduceLT, Nat.reduceLeDiff, Nat.reduceAdd, Nat.reduceMul, Int.reduceToNat, Nat.reduceMod, Int.cast_ofNat_Int, Int.reduceBEq, Int.reduceBNe, Int.reduceLE, Int.reduceLT, Int.reduceGT, Int.reduceGE, Int.zero_lt_one, Int.le_refl, and_self, Int.toNat_natCast])
  refine br_f (by simp only [ByteArray.toList_eq]; rfl) ?_
  (try simp (config := {maxSteps := 4000000}) only [go_sem, Nat.reduceBEq, Nat.reduceLT, Nat.reduceLeDiff, Nat.reduceAdd, Nat.reduceMul, Int.reduceToNat, Nat.reduceMod, Int.cast_ofNat_Int, Int.reduceBEq, Int.reduceBNe, Int.reduceLE, Int.reduceLT, Int.reduceGT, Int.reduceGE, Int.zero_lt_one, Int.le_refl, and_self, Int.toNat_natCast])
  refine br_f (by simp only [ByteArray.toList_eq]; rfl) ?_
  (try simp (config := {maxSteps := 4000000}) only [go_sem, Nat.reduceBEq, Nat.reduceLT, Nat.reduceLeDiff, Nat.reduceAdd, Nat.reduceMul, Int.reduceToNat, Nat.reduceMod, Int.cast_ofNat_Int, Int.reduceBEq, Int.reduceBNe, Int.reduceLE, Int.reduceLT, Int.reduceGT, Int.reduceGE, Int.zero_lt_one, Int.le_refl, and_self, Int.toNat_natCast])
  refine br_f (by simp only [ByteArray.toList_eq]; rfl) ?_
  (try simp (config := {maxSteps := 4000000}) only [go_sem, Nat.reduceBEq, Nat.reduceLT, Nat.reduceLeDiff, Nat.reduceAdd, Nat.reduceMul, Int.reduceToNat, Nat.reduceMod, Int.cast_ofNat_Int, Int.reduceBEq, Int.reduceBNe, Int.reduceLE, Int.reduceLT, Int.reduceGT, Int.reduceGE, Int.zero_lt_one, Int.le_refl, and_self, Int.toNat_natCast])
  refine br_f (by simp only [ByteArray.toList_eq]; rfl) ?_
  (try simp (config := {maxSteps := 4000000}) only [go_sem, Nat.reduceBEq, Nat.reduceLT, Nat.reduceLeDiff, Nat.reduceAdd, Nat.reduceMul, Int.reduceToNat, Nat.reduceMod, Int.cast_ofNat_Int, Int.reduceBEq, Int.reduceBNe, Int.reduceLE, Int.reduceLT, Int.reduceGT, Int.reduceGE, Int.zero_lt_one, Int.le_refl, and_self, Int.toNat_natCast])
  refine br_f (by simp only [ByteArray.toList_eq]; rfl) ?_
  (try simp (config := {maxSteps := 4000000}) only [go_sem, Nat.reduceBEq, Nat.reduceLT, Nat.reduceLeDiff, Nat.reduceAdd, Nat.reduceMul, Int.reduceToNat, Nat.reduceMod, Int.cast_ofNat_Int, Int.reduceBEq, Int.reduceBNe, Int.reduceLE, Int.reduceLT, Int.reduceGT, Int.reduceGE, Int.zero_lt_one, Int.le_refl, and_self, Int.toNat_natCast])
  refine br_t (by simp only [ByteArray.toList_eq]; rfl) ?_
  (try simp (config := {maxSteps := 4000000}) only [go_sem, Nat.reduceBEq, Nat.reduceLT, Nat.reduceLeDiff, Nat.reduceAdd, Nat.reduceMul, Int.reduceToNat, Nat.reduceMod, Int.cast_ofNat_Int, Int.reduceBEq, Int.reduceBNe, Int.reduceLE, Int.reduceLT, Int.reduceGT, Int.reduceGE, Int.zero_lt_one, Int.le_refl, and_self, Int.toNat_natCast])
  rotate_left
  refine callb_r hC 1000 (.fn (.func 34) [] [.ptr 0 0]) [.v (.int .i64 0)] 3 rfl (by kernel_rfl) rfl rfl (fun r => by simp [SV.den, dens]) (fun r => by simp [SV.den, dens]) (fun w' hB => lookup_lines _ w') ?_
  (try simp (config := {maxSteps := 4000000}) only [go_sem, Nat.reduceBEq, Nat.reduceLT, Nat.reduceLeDiff, Nat.reduceAdd, Nat.reduceMul, Int.reduceToNat, Nat.reduceMod, Int.cast_ofNat_Int, Int.reduceBEq, Int.reduceBNe, Int.reduceLE, Int.reduceLT, Int.reduceGT, Int.reduceGE, Int.zero_lt_one, Int.le_refl, and_self, Int.toNat_natCast])
  (refine ⟨0, _, fun r => ?_, .inr rfl, fun r => ?_⟩ <;> simp [SV.den, dens])
theorem find_VLOOKUP (w : World) : Calls Try.prog 11 #[.string ⟨#[86, 76, 79, 79, 75, 85, 80]⟩] w (RetB w (fun g => .tuple #[.func (.func 35) #[] #[.pointer (some ⟨g, 0, none⟩)], .int .i64 3, .int .i64 4]) [.bool true] 4) := by
  refine walk tabOK mixedOK 1000 [.v (.string ⟨#[86, 76, 79, 79, 75, 85, 80]⟩)] vok_b Try.func11 rfl Try.ntmps11 (by rw [Try.results11]) rfl rfl fun hC => ?_
  (try simp (config := {maxSteps := 4000000}) only [go_sem, Nat.reduceBEq, Nat.reduceLT, Nat.reduceLeDiff, Nat.reduceAdd, Nat.reduceMul, Int.reduceToNat, Nat.reduceMod, Int.cast_ofNat_Int, Int.reduceBEq, Int.reduceBNe, Int.reduceLE, Int.reduceLT, Int.reduceGT, Int.reduceGE, Int.zero_lt_one, Int.le_refl, and_self, Int.toNat_natCast])
  refine br_f (by simp only [ByteArray.toList_eq]; rfl) ?_
  (try simp (config := {maxSteps := 4000000}) only [go_sem, Nat.reduceBEq, Nat.reduceLT, Nat.reduceLeDiff, Nat.reduceAdd, Nat.reduceMul, Int.reduceToNat, Nat.reduceMod, Int.cast_ofNat_Int, Int.reduceBEq, Int.reduceBNe, Int.reduceLE, Int.reduceLT, Int.reduceGT, Int.reduceGE, Int.zero_lt_one, Int.le_refl, and_self, Int.toNat_natCast])
  refine br_f (by simp only [ByteArray.toList_eq]; rfl) ?_
  (try simp (config := {maxSteps := 4000000}) only [go_sem, Nat.reduceBEq, Nat.reduceLT, Nat.reduceLeDiff, Nat.reduceAdd, Nat.reduceMul, Int.reduceToNat, Nat.reduceMod, Int.cast_ofNat_Int, Int.reduceBEq, Int.reduceBNe, Int.reduceLE, Int.reduceLT, Int.reduceGT, Int.reduceGE, Int.zero_lt_one, Int.le_refl, and_self, Int.toNat_natCast])
  refine br_f (by simp only [ByteArray.toList_eq]; rfl) ?_
  (try simp (config := {maxSteps := 4000000}) only [go_sem, Nat.reduceBEq, Nat.reduceLT, Nat.reduceLeDiff, Nat.reduceAdd, Nat.reduceMul, Int.reduceToNat, Nat.reduceMod, Int.cast_ofNat_Int, Int.reduceBEq, Int.reduceBNe, Int.reduceLE, Int.reduceLT, Int.reduceGT, Int.reduceGE, Int.zero_lt_one, Int.le_refl, and_self, Int.toNat_natCast])
  refine br_f (by simp only [ByteArray.toList_eq]; rfl) ?_
  (try simp (config := {maxSteps := 4000000}) only [go_sem, Nat.reduceBEq, Nat.reduceLT, Nat.reduceLeDiff, Nat.reduceAdd, Nat.reduceMul, Int.reduceToNat, Nat.reduceMod, Int.cast_ofNat_Int, Int.reduceBEq, Int.reduceBNe, Int.reduceLE, Int.reduceLT, Int.reduceGT, Int.reduceGE, Int.zero_lt_one, Int.le_refl, and_self, Int.toNat_natCast])
  refine br_f (by simp only [ByteArray.toList_eq]; rfl) ?_
  (try simp (config := {maxSteps := 4000000}) only [go_sem, Nat.reduceBEq, Nat.reduceLT, Nat.reduceLeDiff, Nat.reduceAdd, Nat.reduceMul, Int.reduceToNat, Nat.reduceMod, Int.cast_ofNat_Int, Int.reduceBEq, Int.reduceBNe, Int.reduceLE, Int.reduceLT, Int.reduceGT, Int.reduceGE, Int.zero_lt_one, Int.le_refl, and_self, Int.toNat_natCast])
  refine br_f (by simp only [ByteArray.toList_eq]; rfl) ?_
  (try simp (config := {maxSteps := 4000000}) only [go_sem, Nat.reduceBEq, Nat.reduceLT, Nat.reduceLeDiff, Nat.reduceAdd, Nat.reduceMul, Int.reduceToNat, Nat.reduceMod, Int.cast_ofNat_Int, Int.reduceBEq, Int.reduceBNe, Int.reduceLE, Int.reduceLT, Int.reduceGT, Int.reduceGE, Int.zero_lt_one, Int.le_refl, and_self, Int.toNat_natCast])
  refine br_f (by simp only [ByteArray.toList_eq]; rfl) ?_
  (try simp (config := {maxSteps := 4000000}) only [go_sem, Nat.reduceBEq, Nat.reduceLT, Nat.reduceLeDiff, Nat.reduceAdd, Nat.reduceMul, Int.reduceToNat, Nat.reduceMod, Int.cast_ofNat_Int, Int.reduceBEq, Int.reduceBNe, Int.reduceLE, Int.reduceLT, Int.reduceGT, Int.reduceGE, Int.zero_lt_one, Int.le_refl, and_self, Int.toNat_natCast])
  refine br_f (by simp only [ByteArray.toList_eq]; rfl) ?_
  (try simp (config := {maxSteps := 4000000}) only [go_sem, Nat.reduceBEq, Nat.reduceLT, Nat.reduceLeDiff, Nat.reduceAdd, Nat.reduceMul, Int.reduceToNat, Nat.reduceMod, Int.cast_ofNat_Int, Int.reduceBEq, Int.reduceBNe, Int.reduceLE, Int.reduceLT, Int.reduceGT, Int.reduceGE, Int.zero_lt_one, Int.le_refl, and_self, Int.toNat_natCast])
  refine br_t (by simp only [ByteArray.toList_eq]; rfl) ?_
  (try simp (config := {maxSteps := 4000000}) only [go_sem, Nat.reduceBEq, Nat.reduceLT, Nat.reduceLeDiff, Nat.reduceAdd, Nat.reduceMul, Int.reduceToNat, Nat.reduceMod, Int.cast_ofNat_Int, Int.reduceBEq, Int.reduceBNe, Int.reduceLE, Int.reduceLT, Int.reduceGT, Int.reduceGE, Int.zero_lt_one, Int.le_refl, and_self, Int.toNat_natCast])
  rotate_left
  refine callb_r hC 1000 (.fn (.func 35) [] [.ptr 0 0]) [.v (.bool true)] 4 rfl (by kernel_rfl) rfl rfl (fun r => by simp [SV.den, dens]) (fun r => by simp [SV.den, dens]) (fun w' hB => lookup_table _ w') ?_
  (try simp (config := {maxSteps := 4000000}) only [go_sem, Nat.reduceBEq, Nat.reduceLT, Nat.reduceLeDiff, Nat.reduceAdd, Nat.reduceMul, Int.reduceToNat, Nat.reduceMod, Int.cast_ofNat_Int, Int.reduceBEq, Int.reduceBNe, Int.reduceLE, Int.reduceLT, Int.reduceGT, Int.reduceGE, Int.zero_lt_one, Int.le_refl, and_self, Int.toNat_natCast])
  (refine ⟨0, _, fun r => ?_, .inr rfl, fun r => ?_⟩ <;> simp [SV.den, dens])
theorem find_HLOOKUP (w : World) : Calls Try.prog 11 #[.string ⟨#[72, 76, 79, 79, 75, 85, 80]⟩] w (RetB w (fun g => .tuple #[.func (.func 35) #[] #[.pointer (some ⟨g, 0, none⟩)], .int .i64 3, .int .i64 4]) [.bool false] 4) := by
  refine walk tabOK mixedOK 1000 [.v (.string ⟨#[72, 76, 79, 79, 75, 85, 80]⟩)] vok_b Try.func11 rfl Try.ntmps11 (by rw [Try.results11]) rfl rfl fun hC => ?_
  (try simp (config := {maxSteps := 4000000}) only [go_sem, Nat.reduceBEq, Nat.reduceLT, Nat.reduceLeDiff, Nat.reduceAdd, Nat.reduceMul, Int.reduceToNat, Nat.reduceMod, Int.cast_ofNat_Int, Int.reduceBEq, Int.reduceBNe, Int.reduceLE, Int.reduceLT, Int.reduceGT, Int.reduceGE, Int.zero_lt_one, Int.le_refl, and_self, Int.toNat_natCast])
  refine br_f (by simp only [ByteArray.toList_eq]; rfl) ?_
  (try simp (config := {maxSteps := 4000000}) only [go_sem, Nat.reduceBEq, Nat.reduceLT, Nat.reduceLeDiff, Nat.reduceAdd, Nat.reduceMul, Int.reduceToNat, Nat.reduceMod, Int.cast_ofNat_Int, Int.reduceBEq, Int.reduceBNe, Int.reduceLE, Int.reduceLT, Int.reduceGT, Int.reduceGE, Int.zero_lt_one, Int.le_refl, and_self, Int.toNat_natCast])
  refine br_f (by simp only [ByteArray.toList_eq]; rfl) ?_
  (try simp (config := {maxSteps := 4000000}) only [go_sem, Nat.reduceBEq, Nat.reduceLT, Nat.reduceLeDiff, Nat.reduceAdd, Nat.reduceMul, Int.reduceToNat, Nat.reduceMod, Int.cast_ofNat_Int, Int.reduceBEq, Int.reduceBNe, Int.reduceLE, Int.reduceLT, Int.reduceGT, Int.reduceGE, Int.zero_lt_one, Int.le_refl, and_self, Int.toNat_natCast])
  refine br_f (by simp only [ByteArray.toList_eq]; rfl) ?_
  (try simp (config := {maxSteps := 4000000}) only [go_sem, Nat.reduceBEq, Nat.reduceLT, Nat.reduceLeDiff, Nat.reduceAdd, Nat.reduceMul, Int.reduceToNat, Nat.reduceMod, Int.cast_ofNat_Int, Int.reduceBEq, Int.reduceBNe, Int.reduceLE, Int.reduceLT, Int.reduceGT, Int.reduceGE, Int.zero_lt_one, Int.le_refl, and_self, Int.toNat_natCast])
  refine br_f (by simp only [ByteArray.toList_eq]; rfl) ?_
  (try simp (config := {maxSteps := 4000000}) only [go_sem, Nat.reduceBEq, Nat.reduceLT, Nat.reduceLeDiff, Nat.reduceAdd, Nat.reduceMul, Int.reduceToNat, Nat.reduceMod, Int.cast_ofNat_Int, Int.reduceBEq, Int.reduceBNe, Int.reduceLE, Int.reduceLT, Int.reduceGT, Int.reduceGE, Int.zero_lt_one, Int.le_refl, and_self, Int.toNat_natCast])
  refine br_f (by simp only [ByteArray.toList_eq]; rfl) ?_
  (try simp (config := {maxSteps := 4000000}) only [go_sem, Nat.reduceBEq, Nat.reduceLT, Nat.reduceLeDiff, Nat.reduceAdd, Nat.reduceMul, Int.reduceToNat, Nat.reduceMod, Int.cast_ofNat_Int, Int.reduceBEq, Int.reduceBNe, Int.reduceLE, Int.reduceLT, Int.reduceGT, Int.reduceGE, Int.zero_lt_one, Int.le_refl, and_self, Int.toNat_natCast])
  refine br_f (by simp only [ByteArray.toList_eq]; rfl) ?_
  (try simp (config := {maxSteps := 4000000}) only [go_sem, Nat.reduceBEq, Nat.reduceLT, Nat.reduceLeDiff, Nat.reduceAdd, Nat.reduceMul, Int.reduceToNat, Nat.reduceMod, Int.cast_ofNat_Int, Int.reduceBEq, Int.reduceBNe, Int.reduceLE, Int.reduceLT, Int.reduceGT, Int.reduceGE, Int.zero_lt_one, Int.le_refl, and_self, Int.toNat_natCast])
  refine br_f (by simp only [ByteArray.toList_eq]; rfl) ?_
  (try simp (config := {maxSteps := 4000000}) only [go_sem, Nat.reduceBEq, Nat.reduceLT, Nat.reduceLeDiff, Nat.reduceAdd, Nat.reduceMul, Int.reduceToNat, Nat.reduceMod, Int.cast_ofNat_Int, Int.reduceBEq, Int.reduceBNe, Int.reduceLE, Int.reduceLT, Int.reduceGT, Int.reduceGE, Int.zero_lt_one, Int.le_refl, and_self, Int.toNat_natCast])
  refine br_f (by simp only [ByteArray.toList_eq]; rfl) ?_
  (try simp (config := {maxSteps := 4000000}) only [go_sem, Nat.reduceBEq, Nat.reduceLT, Nat.reduceLeDiff, Nat.reduceAdd, Nat.reduceMul, Int.reduceToNat, Nat.reduceMod, Int.cast_ofNat_Int, Int.reduceBEq, Int.reduceBNe, Int.reduceLE, Int.reduceLT, Int.reduceGT, Int.reduceGE, Int.zero_lt_one, Int.le_refl, and_self, Int.toNat_natCast])
  refine br_f (by simp only [ByteArray.toList_eq]; rfl) ?_
  (try simp (config := {maxSteps := 4000000}) only [go_sem, Nat.reduceBEq, Nat.reduceLT, Nat.reduceLeDiff, Nat.reduceAdd, Nat.reduceMul, Int.reduceToNat, Nat.reduceMod, Int.cast_ofNat_Int, Int.reduceBEq, Int.reduceBNe, Int.reduceLE, Int.reduceLT, Int.reduceGT, Int.reduceGE, Int.zero_lt_one, Int.le_refl, and_self, Int.toNat_natCast])
  refine br_t (by simp only [ByteArray.toList_eq]; rfl) ?_
  (try simp (config := {maxSteps := 4000000}) only [go_sem, Nat.reduceBEq, Nat.reduceLT, Nat.reduceLeDiff, Nat.reduceAdd, Nat.reduceMul, Int.reduceToNat, Nat.reduceMod, Int.cast_ofNat_Int, Int.reduceBEq, Int.reduceBNe, Int.reduceLE, Int.reduceLT, Int.reduceGT, Int.reduceGE, Int.zero_lt_one, Int.le_refl, and_self, Int.toNat_natCast])
  rotate_left
  refine callb_r hC 1000 (.fn (.func 35) [] [.ptr 0 0]) [.v (.bool false)] 4 rfl (by kernel_rfl) rfl rfl (fun r => by simp [SV.den, dens]) (fun r => by simp [SV.den, dens]) (fun w' hB => lookup_table _ w') ?_
  (try simp (config := {maxSteps := 4000000}) only [go_sem, Nat.reduceBEq, Nat.reduceLT, Nat.reduceLeDiff, Nat.reduceAdd, Nat.reduceMul, Int.reduceToNat, Nat.reduceMod, Int.cast_ofNat_Int, Int.reduceBEq, Int.reduceBNe, Int.reduceLE, Int.reduceLT, Int.reduceGT, Int.reduceGE, Int.zero_lt_one, Int.le_refl, and_self, Int.toNat_natCast])
  (refine ⟨0, _, fun r => ?_, .inr rfl, fun r => ?_⟩ <;> simp [SV.den, dens])
theorem find_none (s : ByteArray) (w : World) (h0 : (s.toList == ByteArray.toList ⟨#[82, 79, 87, 83]⟩) = false) (h1 : (s.toList == ByteArray.toList ⟨#[67, 79, 76, 85, 77, 78, 83]⟩) = false) (h2 : (s.toList == ByteArray.toList ⟨#[67, 79, 85, 78, 84, 85, 78, 73, 81, 85, 69]⟩) = false) (h3 : (s.toList == ByteArray.toList ⟨#[73, 78, 68, 69, 88]⟩) = false) (h4 : (s.toList == ByteArray.toList ⟨#[67, 72, 79, 79, 83, 69]⟩) = false) (h5 : (s.toList == ByteArray.toList ⟨#[77, 65, 84, 67, 72]⟩) = false) (h6 : (s.toList == ByteArray.toList ⟨#[76, 79, 79, 75, 85, 80]⟩) = false) (h7 : (s.toList == ByteArray.toList ⟨#[88, 76, 79, 79, 75, 85, 80]⟩) = false) (h8 : (s.toList == ByteArray.toList ⟨#[86, 76, 79, 79, 75, 85, 80]⟩) = false) (h9 : (s.toList == ByteArray.toList ⟨#[72, 76, 79, 79, 75, 85, 80]⟩) = false) : Calls Try.prog 11 #[.string s] w (Ret w (.tuple #[.nilFunc, .int .i64 0, .int .i64 0])) := by
  refine walk tabOK mixedOK 1000 [.v (.string s)] vok_ret Try.func11 rfl Try.ntmps11 (by rw [Try.results11]) rfl rfl fun hC => ?_
  (try simp (config := {maxSteps := 4000000}) only [go_sem, Nat.reduceBEq, Nat.reduceLT, Nat.reduceLeDiff, Nat.reduceAdd, Nat.reduceMul, Int.reduceToNat, Nat.reduceMod, Int.cast_ofNat_Int, Int.reduceBEq, Int.reduceBNe, Int.reduceLE, Int.reduceLT, Int.reduceGT, Int.reduceGE, Int.zero_lt_one, Int.le_refl, and_self, Int.toNat_natCast])
  refine br_f (by assumption) ?_
  (try simp (config := {maxSteps := 4000000}) only [go_sem, Nat.reduceBEq, Nat.reduceLT, Nat.reduceLeDiff, Nat.reduceAdd, Nat.reduceMul, Int.reduceToNat, Nat.reduceMod, Int.cast_ofNat_Int, Int.reduceBEq, Int.reduceBNe, Int.reduceLE, Int.reduceLT, Int.reduceGT, Int.reduceGE, Int.zero_lt_one, Int.le_refl, and_self, Int.toNat_natCast])
  refine br_f (by assumption) ?_
  (try simp (config := {maxSteps := 4000000}) only [go_sem, Nat.reduceBEq, Nat.reduceLT, Nat.reduceLeDiff, Nat.reduceAdd, Nat.reduceMul, Int.reduceToNat, Nat.reduceMod, Int.cast_ofNat_Int, Int.reduceBEq, Int.reduceBNe, Int.reduceLE, Int.reduceLT, Int.reduceGT, Int.reduceGE, Int.zero_lt_one, Int.le_refl, and_self, Int.toNat_natCast])
  refine br_f (by assumption) ?_
  (try simp (config := {maxSteps := 4000000}) only [go_sem, Nat.reduceBEq, Nat.reduceLT, Nat.reduceLeDiff, Nat.reduceAdd, Nat.reduceMul, Int.reduceToNat, Nat.reduceMod, Int.cast_ofNat_Int, Int.reduceBEq, Int.reduceBNe, Int.reduceLE, Int.reduceLT, Int.reduceGT, Int.reduceGE, Int.zero_lt_one, Int.le_refl, and_self, Int.toNat_natCast])
  refine br_f (by assumption) ?_
  (try simp (config := {maxSteps := 4000000}) only [go_sem, Nat.reduceBEq, Nat.reduceLT, Nat.reduceLeDiff, Nat.reduceAdd, Nat.reduceMul, Int.reduceToNat, Nat.reduceMod, Int.cast_ofNat_Int, Int.reduceBEq, Int.reduceBNe, Int.reduceLE, Int.reduceLT, Int.reduceGT, Int.reduceGE, Int.zero_lt_one, Int.le_refl, and_self, Int.toNat_natCast])
  refine br_f (by assumption) ?_
  (try simp (config := {maxSteps := 4000000}) only [go_sem, Nat.reduceBEq, Nat.reduceLT, Nat.reduceLeDiff, Nat.reduceAdd, Nat.reduceMul, Int.reduceToNat, Nat.reduceMod, Int.cast_ofNat_Int, Int.reduceBEq, Int.reduceBNe, Int.reduceLE, Int.reduceLT, Int.reduceGT, Int.reduceGE, Int.zero_lt_one, Int.le_refl, and_self, Int.toNat_natCast])
  refine br_f (by assumption) ?_
  (try simp (config := {maxSteps := 4000000}) only [go_sem, Nat.reduceBEq, Nat.reduceLT, Nat.reduceLeDiff, Nat.reduceAdd, Nat.reduceMul, Int.reduceToNat, Nat.reduceMod, Int.cast_ofNat_Int, Int.reduceBEq, Int.reduceBNe, Int.reduceLE, Int.reduceLT, Int.reduceGT, Int.reduceGE, Int.zero_lt_one, Int.le_refl, and_self, Int.toNat_natCast])
  refine br_f (by assumption) ?_
  (try simp (config := {maxSteps := 4000000}) only [go_sem, Nat.reduceBEq, Nat.reduceLT, Nat.reduceLeDiff, Nat.reduceAdd, Nat.reduceMul, Int.reduceToNat, Nat.reduceMod, Int.cast_ofNat_Int, Int.reduceBEq, Int.reduceBNe, Int.reduceLE, Int.reduceLT, Int.reduceGT, Int.reduceGE, Int.zero_lt_one, Int.le_refl, and_self, Int.toNat_natCast])
  refine br_f (by assumption) ?_
  (try simp (config := {maxSteps := 4000000}) only [go_sem, Nat.reduceBEq, Nat.reduceLT, Nat.reduceLeDiff, Nat.reduceAdd, Nat.reduceMul, Int.reduceToNat, Nat.reduceMod, Int.cast_ofNat_Int, Int.reduceBEq, Int.reduceBNe, Int.reduceLE, Int.reduceLT, Int.reduceGT, Int.reduceGE, Int.zero_lt_one, Int.le_refl, and_self, Int.toNat_natCast])
  refine br_f (by assumption) ?_
  (try simp (config := {maxSteps := 4000000}) only [go_sem, Nat.reduceBEq, Nat.reduceLT, Nat.reduceLeDiff, Nat.reduceAdd, Nat.reduceMul, Int.reduceToNat, Nat.reduceMod, Int.cast_ofNat_Int, Int.reduceBEq, Int.reduceBNe, Int.reduceLE, Int.reduceLT, Int.reduceGT, Int.reduceGE, Int.zero_lt_one, Int.le_refl, and_self, Int.toNat_natCast])
  refine br_f (by assumption) ?_
  (try simp (config := {maxSteps := 4000000}) only [go_sem, Nat.reduceBEq, Nat.reduceLT, Nat.reduceLeDiff, Nat.reduceAdd, Nat.reduceMul, Int.reduceToNat, Nat.reduceMod, Int.cast_ofNat_Int, Int.reduceBEq, Int.reduceBNe, Int.reduceLE, Int.reduceLT, Int.reduceGT, Int.reduceGE, Int.zero_lt_one, Int.le_refl, and_self, Int.toNat_natCast])
end Go.Proofs.Ytpoiebkcjehheaa