/- The law's lives: the document's examples. -/
import Derived.Test.YtpoiebkcjehheaaOw
namespace Go.Proofs.Ytpoiebkcjehheaa
open Go.RowKit
set_option linter.unusedSimpArgs false
set_option linter.unusedVariables false
attribute [local go_sem] St.init enum sym St.ev lk lkD dstOf St.put effOf opt1 opt2 evs evp SV.cs List.map stepK_ask stepK_ok stepK_box stepK_row stepK_upd stepK_call cond_true cond_false pLoad pStore pFieldAddr pField pIndexAddr pIndex pAssert pMakeIface pExtract pLen pBin pEq aggL eqLL pInt pStr pUn pConv pCall pPick calleeOp Option.bind_some Option.bind_none TK.agg sameK ones SV.one lay List.set_cons_zero List.set_cons_succ List.getElem?_cons_zero List.getElem?_cons_succ List.getElem?_nil List.length_cons List.length_nil List.take_succ_cons List.take_zero List.drop_succ_cons List.drop_zero List.take_nil List.drop_nil condK_some popTo popK_some guardK_some sameB finK_one finK_nil finK_more resOf true_and and_true decide_true decide_false Bool.and_true Bool.true_and Bool.and_self Bool.not_true Bool.not_false Br_true Br_false Nat.zero_mul Int.toNat_zero Int.toNat_one Nat.one_mul fillS initGo Bool.or_false Bool.or_self fdPlace slPlace List.append_nil List.nil_append List.cons_append SV.pv pvs Option.some.injEq dstepK_ask dstepK_ok dstepK_box dstepK_row dstepK_upd dstepK_call dguardK_some symD accOf memB isS SV.names namesL tabs0 tabs1 tabs2 tabs3 tabs4 tabs5 tabs6 tabs7
def kA : A := ⟨1, 3, [numV 10000, numV 20000, numV 40000], true⟩
theorem lv1 : fPlaceL [oneA (numV 30000), kA] = numV 20000 := by kernel_rfl
theorem lv2 : fPlaceL [oneA (numV 30000), kA, oneA (numV 0)] = ⟨4, 6, ⟨#[]⟩⟩ := by kernel_rfl
theorem lv3 : fIndexL [kA, oneA (numV 30000)] = numV 40000 := by kernel_rfl
theorem lv4 : fSized A.cols [kA] = numV 30000 := by kernel_rfl
theorem empty_beq : (ByteArray.toList ⟨#[]⟩ == ByteArray.toList ⟨#[]⟩) = true := by simp

section
variable {w0 w : World} {r : Va} {H : List (Nat × Blk)}
theorem num_vals (hI : Inv w0 r H w) {j : Nat} {n : Int} {T : TypeId} (hk : lk H j = some (.pre [.v (.int .i64 1), .v (.int .i64 n), .v (.string ⟨#[]⟩)] T)) (hn : -9223372036854775808 ≤ n ∧ n ≤ 9223372036854775807) :
    IsVals w (.slice (some ⟨r.lo j, 0, none⟩) 1 1) [numV n] :=
  own_vals hI [numV n] (.inr hk) (by simp [dens, SV.den, vCells, numV]) (by simp) fun v hv => by
    simp only [List.mem_singleton] at hv
    subst hv
    exact ⟨by simp [numV], hn, (show (0 : Nat) ≤ 9223372036854775807 by omega)⟩
theorem k_vals (hI : Inv w0 r H w) {j : Nat} {T : TypeId} (hk : lk H j = some (.cells [.v (.int .i64 1), .v (.int .i64 10000), .v (.string ⟨#[]⟩), .v (.int .i64 1), .v (.int .i64 20000), .v (.string ⟨#[]⟩), .v (.int .i64 1), .v (.int .i64 40000), .v (.string ⟨#[]⟩)] T)) :
    IsVals w (.slice (some ⟨r.lo j, 0, none⟩) 3 3) kA.l :=
  own_vals hI kA.l (.inl hk) (by simp [dens, SV.den, vCells, numV, kA]) (by decide) fun v hv => by
    simp only [kA, List.mem_cons, List.not_mem_nil, or_false] at hv
    rcases hv with rfl | rfl | rfl <;> exact ⟨⟨by decide, by decide⟩, ⟨by decide, by decide⟩, by decide⟩
end
theorem kA_fit : kA.fit := ⟨⟨by decide, by decide⟩, by decide, by decide⟩
theorem lives_ask {s : ByteArray} {sl : Value} {ao : Option Addr} {n c : Nat} {xs : List A} {w : World} {u : V} (hsl : sl = .slice ao n c) (h : IsAreas w sl xs) (hg : Glob w) {v : V}
    (hc : ∀ w', IsAreas w' sl xs → Glob w' → Calls Try.prog 7 #[.string s, sl] w' (Ret w' (.tuple #[(.agg #[.int .i64 (u).k, .int .i64 (u).n, .string (u).s]), .bool true]))) (e : u = v) : Calls Try.prog 9 #[.string s, sl] w (Ret w (.agg #[.int .i64 (v).k, .int .i64 (v).n, .string (v).s])) := by
  subst e
  exact law_ask s sl ao n c u true w hsl fun w' hB => hc w' (h.below hB) (hg.below hB)
theorem law_lives (w : World) (hg : Glob w) : Calls Try.prog 6 #[] w (Ret w (.bool true)) := by
  refine walk tabOK mixedOK 1000 [] vok_ret Try.func6 rfl Try.ntmps6 (by rw [Try.results6]) rfl rfl fun hC => ?_
  (try simp (config := {maxSteps := 4000000}) only [go_sem, Nat.reduceBEq, Nat.reduceLT, Nat.reduceLeDiff, Nat.reduceAdd, Nat.reduceMul, Int.reduceToNat, Nat.reduceMod, Int.cast_ofNat_Int, Int.reduceBEq, Int.reduceBNe, Int.reduceLE, Int.reduceLT, Int.reduceGT, Int.reduceGE, Int.zero_lt_one, Int.le_refl, and_self, Int.toNat_natCast, empty_beq])
  refine draw_go hC ?_
  (try simp (config := {maxSteps := 4000000}) only [go_sem, Nat.reduceBEq, Nat.reduceLT, Nat.reduceLeDiff, Nat.reduceAdd, Nat.reduceMul, Int.reduceToNat, Nat.reduceMod, Int.cast_ofNat_Int, Int.reduceBEq, Int.reduceBNe, Int.reduceLE, Int.reduceLT, Int.reduceGT, Int.reduceGE, Int.zero_lt_one, Int.le_refl, and_self, Int.toNat_natCast, empty_beq])
  rotate_left
  refine dcallb_r hC (.agg [.v (.int .i64 1), .v (.int .i64 1), .slc 2 0 1 1, .v (.bool false)]) [.v (.int .i64 1), .v (.int .i64 30000), .v (.string ⟨#[]⟩)] 26 rfl (by kernel_rfl) rfl (fun r => by simp [SV.den, dens]) (fun r => by simp [SV.den, dens]) (fun w' hB => law_number _ w') ?_
  (try simp (config := {maxSteps := 4000000}) only [go_sem, Nat.reduceBEq, Nat.reduceLT, Nat.reduceLeDiff, Nat.reduceAdd, Nat.reduceMul, Int.reduceToNat, Nat.reduceMod, Int.cast_ofNat_Int, Int.reduceBEq, Int.reduceBNe, Int.reduceLE, Int.reduceLT, Int.reduceGT, Int.reduceGE, Int.zero_lt_one, Int.le_refl, and_self, Int.toNat_natCast, empty_beq])
  rotate_left
  refine dcall_go hC (.agg #[.int .i64 ((numV 20000)).k, .int .i64 ((numV 20000)).n, .string ((numV 20000)).s]) [4, 2, 0] (by kernel_rfl) (fun r w' hI => ?_) ?_
  · have hA := own_areas hI [(oneA (numV 30000), .slice (some ⟨r.lo 2, 0, none⟩) 1 1), (kA, .slice (some ⟨r.lo 0, 0, none⟩) 3 3)] (j := 4) (.inl rfl) (by simp [dens, SV.den, A.cells, oneA, kA, numV]) (by simp) (fun p hp => by
      simp only [List.mem_cons, List.not_mem_nil, or_false] at hp
      rcases hp with rfl | rfl
      · exact ⟨num_vals hI rfl (by decide), oneA_fit _⟩
      · exact ⟨k_vals hI rfl, kA_fit⟩)
    simp only [dens, SV.den]
    exact lives_ask rfl hA (hg.below hI.below) (fun w2 h2 g2 => call_MATCH _ _ w2 h2 g2) lv1
  (try simp (config := {maxSteps := 4000000}) only [go_sem, Nat.reduceBEq, Nat.reduceLT, Nat.reduceLeDiff, Nat.reduceAdd, Nat.reduceMul, Int.reduceToNat, Nat.reduceMod, Int.cast_ofNat_Int, Int.reduceBEq, Int.reduceBNe, Int.reduceLE, Int.reduceLT, Int.reduceGT, Int.reduceGE, Int.zero_lt_one, Int.le_refl, and_self, Int.toNat_natCast, empty_beq, numV])
  rotate_left
  refine dcallb_r hC (.agg [.v (.int .i64 1), .v (.int .i64 1), .slc 9 0 1 1, .v (.bool false)]) [.v (.int .i64 1), .v (.int .i64 30000), .v (.string ⟨#[]⟩)] 26 rfl (by kernel_rfl) rfl (fun r => by simp [SV.den, dens]) (fun r => by simp [SV.den, dens]) (fun w' hB => law_number _ w') ?_
  (try simp (config := {maxSteps := 4000000}) only [go_sem, Nat.reduceBEq, Nat.reduceLT, Nat.reduceLeDiff, Nat.reduceAdd, Nat.reduceMul, Int.reduceToNat, Nat.reduceMod, Int.cast_ofNat_Int, Int.reduceBEq, Int.reduceBNe, Int.reduceLE, Int.reduceLT, Int.reduceGT, Int.reduceGE, Int.zero_lt_one, Int.le_refl, and_self, Int.toNat_natCast, empty_beq])
  rotate_left
  refine dcallb_r hC (.agg [.v (.int .i64 1), .v (.int .i64 1), .slc 11 0 1 1, .v (.bool false)]) [.v (.int .i64 1), .v (.int .i64 0), .v (.string ⟨#[]⟩)] 26 rfl (by kernel_rfl) rfl (fun r => by simp [SV.den, dens]) (fun r => by simp [SV.den, dens]) (fun w' hB => law_number _ w') ?_
  (try simp (config := {maxSteps := 4000000}) only [go_sem, Nat.reduceBEq, Nat.reduceLT, Nat.reduceLeDiff, Nat.reduceAdd, Nat.reduceMul, Int.reduceToNat, Nat.reduceMod, Int.cast_ofNat_Int, Int.reduceBEq, Int.reduceBNe, Int.reduceLE, Int.reduceLT, Int.reduceGT, Int.reduceGE, Int.zero_lt_one, Int.le_refl, and_self, Int.toNat_natCast, empty_beq])
  rotate_left
  refine dcall_go hC (.agg #[.int .i64 ((⟨4, 6, ⟨#[]⟩⟩ : V)).k, .int .i64 ((⟨4, 6, ⟨#[]⟩⟩ : V)).n, .string ((⟨4, 6, ⟨#[]⟩⟩ : V)).s]) [12, 9, 0, 11] (by kernel_rfl) (fun r w' hI => ?_) ?_
  · have hA := own_areas hI [(oneA (numV 30000), .slice (some ⟨r.lo 9, 0, none⟩) 1 1), (kA, .slice (some ⟨r.lo 0, 0, none⟩) 3 3), (oneA (numV 0), .slice (some ⟨r.lo 11, 0, none⟩) 1 1)] (j := 12) (.inl rfl) (by simp [dens, SV.den, A.cells, oneA, kA, numV]) (by simp) (fun p hp => by
      simp only [List.mem_cons, List.not_mem_nil, or_false] at hp
      rcases hp with rfl | rfl | rfl
      · exact ⟨num_vals hI rfl (by decide), oneA_fit _⟩
      · exact ⟨k_vals hI rfl, kA_fit⟩
      · exact ⟨num_vals hI rfl (by decide), oneA_fit _⟩)
    simp only [dens, SV.den]
    exact lives_ask rfl hA (hg.below hI.below) (fun w2 h2 g2 => call_MATCH _ _ w2 h2 g2) lv2
  (try simp (config := {maxSteps := 4000000}) only [go_sem, Nat.reduceBEq, Nat.reduceLT, Nat.reduceLeDiff, Nat.reduceAdd, Nat.reduceMul, Int.reduceToNat, Nat.reduceMod, Int.cast_ofNat_Int, Int.reduceBEq, Int.reduceBNe, Int.reduceLE, Int.reduceLT, Int.reduceGT, Int.reduceGE, Int.zero_lt_one, Int.le_refl, and_self, Int.toNat_natCast, empty_beq, numV])
  rotate_left
  refine dcallb_r hC (.agg [.v (.int .i64 1), .v (.int .i64 1), .slc 19 0 1 1, .v (.bool false)]) [.v (.int .i64 1), .v (.int .i64 30000), .v (.string ⟨#[]⟩)] 26 rfl (by kernel_rfl) rfl (fun r => by simp [SV.den, dens]) (fun r => by simp [SV.den, dens]) (fun w' hB => law_number _ w') ?_
  (try simp (config := {maxSteps := 4000000}) only [go_sem, Nat.reduceBEq, Nat.reduceLT, Nat.reduceLeDiff, Nat.reduceAdd, Nat.reduceMul, Int.reduceToNat, Nat.reduceMod, Int.cast_ofNat_Int, Int.reduceBEq, Int.reduceBNe, Int.reduceLE, Int.reduceLT, Int.reduceGT, Int.reduceGE, Int.zero_lt_one, Int.le_refl, and_self, Int.toNat_natCast, empty_beq])
  rotate_left
  refine dcall_go hC (.agg #[.int .i64 ((numV 40000)).k, .int .i64 ((numV 40000)).n, .string ((numV 40000)).s]) [20, 0, 19] (by kernel_rfl) (fun r w' hI => ?_) ?_
  · have hA := own_areas hI [(kA, .slice (some ⟨r.lo 0, 0, none⟩) 3 3), (oneA (numV 30000), .slice (some ⟨r.lo 19, 0, none⟩) 1 1)] (j := 20) (.inl rfl) (by simp [dens, SV.den, A.cells, oneA, kA, numV]) (by simp) (fun p hp => by
      simp only [List.mem_cons, List.not_mem_nil, or_false] at hp
      rcases hp with rfl | rfl
      · exact ⟨k_vals hI rfl, kA_fit⟩
      · exact ⟨num_vals hI rfl (by decide), oneA_fit _⟩)
    simp only [dens, SV.den]
    exact lives_ask rfl hA (hg.below hI.below) (fun w2 h2 g2 => call_INDEX _ _ w2 h2 g2) lv3
  (try simp (config := {maxSteps := 4000000}) only [go_sem, Nat.reduceBEq, Nat.reduceLT, Nat.reduceLeDiff, Nat.reduceAdd, Nat.reduceMul, Int.reduceToNat, Nat.reduceMod, Int.cast_ofNat_Int, Int.reduceBEq, Int.reduceBNe, Int.reduceLE, Int.reduceLT, Int.reduceGT, Int.reduceGE, Int.zero_lt_one, Int.le_refl, and_self, Int.toNat_natCast, empty_beq, numV])
  rotate_left
  refine dcall_go hC (.agg #[.int .i64 ((numV 30000)).k, .int .i64 ((numV 30000)).n, .string ((numV 30000)).s]) [27, 0] (by kernel_rfl) (fun r w' hI => ?_) ?_
  · have hA := own_areas hI [(kA, .slice (some ⟨r.lo 0, 0, none⟩) 3 3)] (j := 27) (.inl rfl) (by simp [dens, SV.den, A.cells, oneA, kA, numV]) (by simp) (fun p hp => by
      simp only [List.mem_cons, List.not_mem_nil, or_false] at hp
      rcases hp with rfl
      · exact ⟨k_vals hI rfl, kA_fit⟩)
    simp only [dens, SV.den]
    exact lives_ask rfl hA (hg.below hI.below) (fun w2 h2 g2 => call_COLUMNS _ _ w2 h2 g2) lv4
  (try simp (config := {maxSteps := 4000000}) only [go_sem, Nat.reduceBEq, Nat.reduceLT, Nat.reduceLeDiff, Nat.reduceAdd, Nat.reduceMul, Int.reduceToNat, Nat.reduceMod, Int.cast_ofNat_Int, Int.reduceBEq, Int.reduceBNe, Int.reduceLE, Int.reduceLT, Int.reduceGT, Int.reduceGE, Int.zero_lt_one, Int.le_refl, and_self, Int.toNat_natCast, empty_beq, numV])
  refine ⟨by kernel_rfl, go hC 1000 ?_⟩
  (try simp (config := {maxSteps := 4000000}) only [go_sem, Nat.reduceBEq, Nat.reduceLT, Nat.reduceLeDiff, Nat.reduceAdd, Nat.reduceMul, Int.reduceToNat, Nat.reduceMod, Int.cast_ofNat_Int, Int.reduceBEq, Int.reduceBNe, Int.reduceLE, Int.reduceLT, Int.reduceGT, Int.reduceGE, Int.zero_lt_one, Int.le_refl, and_self, Int.toNat_natCast, empty_beq, numV])
end Go.Proofs.Ytpoiebkcjehheaa
