/- The law LookupFaults, and COUNTUNIQUE. -/
import Derived.Test.YtpoiebkcjehheaaLv
namespace Go.Proofs.Ytpoiebkcjehheaa
open Go.RowKit
set_option linter.unusedSimpArgs false
set_option linter.unusedVariables false
attribute [local go_sem] St.init enum sym St.ev lk lkD dstOf St.put effOf opt1 opt2 evs evp SV.cs List.map stepK_ask stepK_ok stepK_box stepK_row stepK_upd stepK_call cond_true cond_false pLoad pStore pFieldAddr pField pIndexAddr pIndex pAssert pMakeIface pExtract pLen pBin pEq aggL eqLL pInt pStr pUn pConv pCall pPick calleeOp Option.bind_some Option.bind_none TK.agg sameK ones SV.one lay List.set_cons_zero List.set_cons_succ List.getElem?_cons_zero List.getElem?_cons_succ List.getElem?_nil List.length_cons List.length_nil List.take_succ_cons List.take_zero List.drop_succ_cons List.drop_zero List.take_nil List.drop_nil condK_some popTo popK_some guardK_some sameB finK_one finK_nil finK_more resOf true_and and_true decide_true decide_false Bool.and_true Bool.true_and Bool.and_self Bool.not_true Bool.not_false Br_true Br_false Nat.zero_mul Int.toNat_zero Int.toNat_one Nat.one_mul fillS initGo Bool.or_false Bool.or_self fdPlace slPlace List.append_nil List.nil_append List.cons_append SV.pv pvs Option.some.injEq dstepK_ask dstepK_ok dstepK_box dstepK_row dstepK_upd dstepK_call dguardK_some symD accOf memB isS SV.names namesL tabs0 tabs1 tabs2 tabs3 tabs4 tabs5 tabs6 tabs7
theorem fSized_good (φ : A → Int) (xs : List A) : (fSized φ xs).good = true := by
  unfold fSized
  split
  · split
    · exact ofV_good _ _
    · exact badV_good 2
  · exact badV_good 2
theorem fPlace_good (x a : A) (m : Option A) : (fPlace x a m).good = true := by
  unfold fPlace
  simp only
  repeat' split
  all_goals first | exact badV_good _ | exact ofV_good _ _
theorem fIndex_good (a r : A) (c : Option A) : (fIndex a r c).good = true := by
  unfold fIndex
  split
  · rename_i ha
    repeat' split
    all_goals first | exact badV_good _ | exact at_good ha _ _
  · exact badV_good 2
theorem fIndexL_good (xs : List A) : (fIndexL xs).good = true := by
  unfold fIndexL
  split
  · exact fIndex_good _ _ _
  · exact fIndex_good _ _ _
  · exact badV_good 2
theorem fPlaceL_good (xs : List A) : (fPlaceL xs).good = true := by
  unfold fPlaceL
  split
  · exact fPlace_good _ _ _
  · exact fPlace_good _ _ _
  · exact badV_good 2
theorem fChooseL_good (xs : List A) : (fChooseL xs).good = true := by
  unfold fChooseL fChoose
  simp only
  repeat' split
  all_goals first | exact badV_good _ | exact one_good _
theorem ref06_GoodT (v : V) (hv : v.good = true) (w : World) : Calls Try.prog 8 #[(.agg #[.int .i64 (v).k, .int .i64 (v).n, .string (v).s])] w (Ret w (.bool true)) := by
  have := ref06_Good v w
  rwa [hv] at this
theorem callOK_of {v : V} {w : World} {P : Program} {f : FuncId} {args : Array Value} (hv : v.good = true) (h : Calls P f args w (Ret w (.tuple #[(.agg #[.int .i64 (v).k, .int .i64 (v).n, .string (v).s]), .bool true]))) : Calls P f args w (RetP w CallOK) :=
  h.mono fun _ _ ⟨h1, h2⟩ => ⟨_, ⟨v, true, rfl, fun _ => hv, (fun e => by cases e)⟩, h1, h2⟩
theorem call_any (s : ByteArray) (sl : Value) (xs : List A) (w : World) (h : IsAreas w sl xs) (hg : Glob w) : Calls Try.prog 7 #[.string s, sl] w (RetP w CallOK) := by
  by_cases h0 : s.toList = ByteArray.toList ⟨#[82, 79, 87, 83]⟩
  · obtain rfl := toList_inj h0
    exact callOK_of (fSized_good _ _) (call_ROWS sl xs w h hg)
  by_cases h1 : s.toList = ByteArray.toList ⟨#[67, 79, 76, 85, 77, 78, 83]⟩
  · obtain rfl := toList_inj h1
    exact callOK_of (fSized_good _ _) (call_COLUMNS sl xs w h hg)
  by_cases h2 : s.toList = ByteArray.toList ⟨#[67, 79, 85, 78, 84, 85, 78, 73, 81, 85, 69]⟩
  · obtain rfl := toList_inj h2
    exact callOK_of (fSized_good _ _) (call_COUNTUNIQUE sl xs w h hg)
  by_cases h3 : s.toList = ByteArray.toList ⟨#[73, 78, 68, 69, 88]⟩
  · obtain rfl := toList_inj h3
    exact callOK_of (fIndexL_good _) (call_INDEX sl xs w h hg)
  by_cases h4 : s.toList = ByteArray.toList ⟨#[67, 72, 79, 79, 83, 69]⟩
  · obtain rfl := toList_inj h4
    exact callOK_of (fChooseL_good _) (call_CHOOSE sl xs w h hg)
  by_cases h5 : s.toList = ByteArray.toList ⟨#[77, 65, 84, 67, 72]⟩
  · obtain rfl := toList_inj h5
    exact callOK_of (fPlaceL_good _) (call_MATCH sl xs w h hg)
  by_cases h6 : s.toList = ByteArray.toList ⟨#[76, 79, 79, 75, 85, 80]⟩
  · obtain rfl := toList_inj h6
    exact call_LOOKUP sl xs w h hg
  by_cases h7 : s.toList = ByteArray.toList ⟨#[88, 76, 79, 79, 75, 85, 80]⟩
  · obtain rfl := toList_inj h7
    exact call_XLOOKUP sl xs w h hg
  by_cases h8 : s.toList = ByteArray.toList ⟨#[86, 76, 79, 79, 75, 85, 80]⟩
  · obtain rfl := toList_inj h8
    exact call_VLOOKUP sl xs w h hg
  by_cases h9 : s.toList = ByteArray.toList ⟨#[72, 76, 79, 79, 75, 85, 80]⟩
  · obtain rfl := toList_inj h9
    exact call_HLOOKUP sl xs w h hg
  exact (call_none s sl xs w h (by simpa using h0) (by simpa using h1) (by simpa using h2) (by simpa using h3) (by simpa using h4) (by simpa using h5) (by simpa using h6) (by simpa using h7) (by simpa using h8) (by simpa using h9)).mono fun _ _ ⟨g1, g2⟩ => ⟨_, ⟨⟨0, 0, ⟨#[]⟩⟩, false, rfl, (fun e => by cases e), fun _ => rfl⟩, g1, g2⟩

theorem law_faults (s : ByteArray) (sl : Value) (xs : List A) (w : World) (h : IsAreas w sl xs) (hg : Glob w) : Calls Try.prog 3 #[.string s, sl] w (Ret w (.bool true)) := by
  have h' := h
  obtain ⟨ao, cap, rfl, hc1, hc2, _⟩ := h'
  refine walk tabOK mixedOK 1000 [.v (.string s), .v (.slice ao xs.length cap)] vok_ret Try.func3 rfl Try.ntmps3 (by rw [Try.results3]) rfl rfl fun hC => ?_
  (try simp (config := {maxSteps := 4000000}) only [go_sem, Nat.reduceBEq, Nat.reduceLT, Nat.reduceLeDiff, Nat.reduceAdd, Nat.reduceMul, Int.reduceToNat, Nat.reduceMod, Int.cast_ofNat_Int, Int.reduceBEq, Int.reduceBNe, Int.reduceLE, Int.reduceLT, Int.reduceGT, Int.reduceGE, Int.zero_lt_one, Int.le_refl, and_self, Int.toNat_natCast])
  rotate_left
  refine call_q hC 1000 rfl (by kernel_rfl) (fun w' hB => law_light _ xs w' (h.below hB)) ?_
  rintro _ ⟨b, rfl⟩
  (try simp (config := {maxSteps := 4000000}) only [go_sem, Nat.reduceBEq, Nat.reduceLT, Nat.reduceLeDiff, Nat.reduceAdd, Nat.reduceMul, Int.reduceToNat, Nat.reduceMod, Int.cast_ofNat_Int, Int.reduceBEq, Int.reduceBNe, Int.reduceLE, Int.reduceLT, Int.reduceGT, Int.reduceGE, Int.zero_lt_one, Int.le_refl, and_self, Int.toNat_natCast])
  refine br (fun q0 => ?_) fun q0 => ?_
  (try simp (config := {maxSteps := 4000000}) only [go_sem, Nat.reduceBEq, Nat.reduceLT, Nat.reduceLeDiff, Nat.reduceAdd, Nat.reduceMul, Int.reduceToNat, Nat.reduceMod, Int.cast_ofNat_Int, Int.reduceBEq, Int.reduceBNe, Int.reduceLE, Int.reduceLT, Int.reduceGT, Int.reduceGE, Int.zero_lt_one, Int.le_refl, and_self, Int.toNat_natCast, q0])
  refine call_p hC 1000 rfl (by kernel_rfl) (fun w' hB => law_lives w' (hg.below hB)) ?_
  (try simp (config := {maxSteps := 4000000}) only [go_sem, Nat.reduceBEq, Nat.reduceLT, Nat.reduceLeDiff, Nat.reduceAdd, Nat.reduceMul, Int.reduceToNat, Nat.reduceMod, Int.cast_ofNat_Int, Int.reduceBEq, Int.reduceBNe, Int.reduceLE, Int.reduceLT, Int.reduceGT, Int.reduceGE, Int.zero_lt_one, Int.le_refl, and_self, Int.toNat_natCast])
  (try simp (config := {maxSteps := 4000000}) only [go_sem, Nat.reduceBEq, Nat.reduceLT, Nat.reduceLeDiff, Nat.reduceAdd, Nat.reduceMul, Int.reduceToNat, Nat.reduceMod, Int.cast_ofNat_Int, Int.reduceBEq, Int.reduceBNe, Int.reduceLE, Int.reduceLT, Int.reduceGT, Int.reduceGE, Int.zero_lt_one, Int.le_refl, and_self, Int.toNat_natCast, q0])
  rotate_left
  refine call_q hC 1000 rfl (by kernel_rfl) (fun w' hB => call_any s _ xs w' (h.below hB) (hg.below hB)) ?_
  rintro _ ⟨v, ok, rfl, h1, h2⟩
  cases ok
  · obtain rfl := h2 rfl
    (try simp (config := {maxSteps := 4000000}) only [go_sem, Nat.reduceBEq, Nat.reduceLT, Nat.reduceLeDiff, Nat.reduceAdd, Nat.reduceMul, Int.reduceToNat, Nat.reduceMod, Int.cast_ofNat_Int, Int.reduceBEq, Int.reduceBNe, Int.reduceLE, Int.reduceLT, Int.reduceGT, Int.reduceGE, Int.zero_lt_one, Int.le_refl, and_self, Int.toNat_natCast, empty_beq])
    refine call_p hC 1000 rfl (by kernel_rfl) (fun w' hB => law_lives w' (hg.below hB)) ?_
    (try simp (config := {maxSteps := 4000000}) only [go_sem, Nat.reduceBEq, Nat.reduceLT, Nat.reduceLeDiff, Nat.reduceAdd, Nat.reduceMul, Int.reduceToNat, Nat.reduceMod, Int.cast_ofNat_Int, Int.reduceBEq, Int.reduceBNe, Int.reduceLE, Int.reduceLT, Int.reduceGT, Int.reduceGE, Int.zero_lt_one, Int.le_refl, and_self, Int.toNat_natCast, empty_beq])
  · have hv := h1 rfl
    (try simp (config := {maxSteps := 4000000}) only [go_sem, Nat.reduceBEq, Nat.reduceLT, Nat.reduceLeDiff, Nat.reduceAdd, Nat.reduceMul, Int.reduceToNat, Nat.reduceMod, Int.cast_ofNat_Int, Int.reduceBEq, Int.reduceBNe, Int.reduceLE, Int.reduceLT, Int.reduceGT, Int.reduceGE, Int.zero_lt_one, Int.le_refl, and_self, Int.toNat_natCast])
    refine call_p hC 1000 rfl (by kernel_rfl) (fun w' hB => ref06_GoodT _ (by assumption) w') ?_
    (try simp (config := {maxSteps := 4000000}) only [go_sem, Nat.reduceBEq, Nat.reduceLT, Nat.reduceLeDiff, Nat.reduceAdd, Nat.reduceMul, Int.reduceToNat, Nat.reduceMod, Int.cast_ofNat_Int, Int.reduceBEq, Int.reduceBNe, Int.reduceLE, Int.reduceLT, Int.reduceGT, Int.reduceGE, Int.zero_lt_one, Int.le_refl, and_self, Int.toNat_natCast])
    refine call_p hC 1000 rfl (by kernel_rfl) (fun w' hB => law_lives w' (hg.below hB)) ?_
    (try simp (config := {maxSteps := 4000000}) only [go_sem, Nat.reduceBEq, Nat.reduceLT, Nat.reduceLeDiff, Nat.reduceAdd, Nat.reduceMul, Int.reduceToNat, Nat.reduceMod, Int.cast_ofNat_Int, Int.reduceBEq, Int.reduceBNe, Int.reduceLE, Int.reduceLT, Int.reduceGT, Int.reduceGE, Int.zero_lt_one, Int.le_refl, and_self, Int.toNat_natCast])
end Go.Proofs.Ytpoiebkcjehheaa