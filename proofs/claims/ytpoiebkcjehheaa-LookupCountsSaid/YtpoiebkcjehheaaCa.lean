/- lookup.Call at each name. -/
import Derived.Test.YtpoiebkcjehheaaFi
namespace Go.Proofs.Ytpoiebkcjehheaa
open Go.RowKit
set_option linter.unusedSimpArgs false
set_option linter.unusedVariables false
attribute [local go_sem] St.init enum sym St.ev lk lkD dstOf St.put effOf opt1 opt2 evs evp SV.cs List.map stepK_ask stepK_ok stepK_box stepK_row stepK_upd stepK_call cond_true cond_false pLoad pStore pFieldAddr pField pIndexAddr pIndex pAssert pMakeIface pExtract pLen pBin pEq aggL eqLL pInt pStr pUn pConv pCall pPick calleeOp Option.bind_some Option.bind_none TK.agg sameK ones SV.one lay List.set_cons_zero List.set_cons_succ List.getElem?_cons_zero List.getElem?_cons_succ List.getElem?_nil List.length_cons List.length_nil List.take_succ_cons List.take_zero List.drop_succ_cons List.drop_zero List.take_nil List.drop_nil condK_some popTo popK_some guardK_some sameB finK_one finK_nil finK_more resOf true_and and_true decide_true decide_false Bool.and_true Bool.true_and Bool.and_self Bool.not_true Bool.not_false Br_true Br_false Nat.zero_mul Int.toNat_zero Int.toNat_one Nat.one_mul fillS initGo Bool.or_false Bool.or_self fdPlace slPlace List.append_nil List.nil_append List.cons_append SV.pv pvs Option.some.injEq dstepK_ask dstepK_ok dstepK_box dstepK_row dstepK_upd dstepK_call dguardK_some symD accOf memB isS SV.names namesL tabs0 tabs1 tabs2 tabs3 tabs4 tabs5 tabs6 tabs7
theorem kIns_le {K : Type} [DecidableEq K] (v : K) (l : List (K × Int)) : (kIns v l).length ≤ l.length + 1 := by
  unfold kIns; split <;> simp
theorem seenStep_le (l : List (V × Int)) (v : V) : (seenStep l v).length ≤ l.length + 1 := by
  unfold seenStep
  split
  · omega
  · rw [List.length_set]; exact kIns_le _ _
theorem seen_le : ∀ (xs : List V) (l : List (V × Int)), (xs.foldl seenStep l).length ≤ l.length + xs.length
  | [], l => by simp
  | x :: xs, l => by
    have h1 := seen_le xs (seenStep l x)
    have h2 := seenStep_le l x
    simp only [List.foldl_cons, List.length_cons]
    omega
theorem unlike_le (a : A) : a.unlike ≤ a.l.length := by
  have := seen_le a.l []
  simpa [A.unlike] using this
def fSized (φ : A → Int) (xs : List A) : V := match xs with | [a] => if a.good then ofV (φ a * 10000) true else badV 2 | _ => badV 2
def fIndexL (xs : List A) : V := match xs with | [a, r] => fIndex a r none | [a, r, c] => fIndex a r (some c) | _ => badV 2
def fPlaceL (xs : List A) : V := match xs with | [x, a] => fPlace x a none | [x, a, m] => fPlace x a (some m) | _ => badV 2
def fChooseL (xs : List A) : V := if 2 ≤ xs.length ∧ xs.length ≤ 1073741824 then fChoose xs else badV 2
theorem sized_l (sl : Value) (xs : List A) (g fid : Nat) (φ : A → Int) (w : World) (h : IsAreas w sl xs) (hn : xs.length = 1) (hw : w.cell? ⟨g, 0, none⟩ = some (.func (.func fid) #[] #[])) (hc : callable Try.prog fid = true)
    (hf : ∀ (x : Value) (a : A) (w' : World), IsArea w' x a → a.good = true → Calls Try.prog fid #[x] w' (Ret w' (.int .i64 (φ a)))) (hb : ∀ a : A, a.good = true → -1000000000 ≤ φ a ∧ φ a ≤ 1000000000) :
    Calls Try.prog 24 #[sl, .pointer (some ⟨g, 0, none⟩)] w (Ret w (.agg #[.int .i64 (fSized φ xs).k, .int .i64 (fSized φ xs).n, .string (fSized φ xs).s])) := by
  match xs, hn, h with
  | [a], _, h =>
    have := sized_any sl a g fid φ w h hw hc (fun x w' hx hg => hf x a w' hx hg) (hb a)
    simp only [fSized]
    split at this <;> rename_i hg <;> simp only [hg, if_true, Bool.false_eq_true, if_false] <;> exact this
theorem index_l (sl : Value) (xs : List A) (w : World) (h : IsAreas w sl xs) (hg : Glob w) (h1 : 2 ≤ xs.length) (h2 : xs.length ≤ 3) : Calls Try.prog 19 #[sl] w (Ret w (.agg #[.int .i64 (fIndexL xs).k, .int .i64 (fIndexL xs).n, .string (fIndexL xs).s])) := by
  match xs, h1, h2, h with
  | [a, r], _, _, h => exact lookup_index2 sl a r w h hg
  | [a, r, c], _, _, h => exact lookup_index3 sl a r c w h hg
theorem place_l (sl : Value) (xs : List A) (w : World) (h : IsAreas w sl xs) (hg : Glob w) (h1 : 2 ≤ xs.length) (h2 : xs.length ≤ 3) : Calls Try.prog 21 #[sl] w (Ret w (.agg #[.int .i64 (fPlaceL xs).k, .int .i64 (fPlaceL xs).n, .string (fPlaceL xs).s])) := by
  match xs, h1, h2, h with
  | [a, r], _, _, h => exact place_any sl a r none w h hg
  | [a, r, c], _, _, h => exact place_any sl a r (some c) w h hg
theorem choose_l (sl : Value) (xs : List A) (w : World) (h : IsAreas w sl xs) (hg : Glob w) (h1 : 2 ≤ xs.length) (h2 : xs.length ≤ 1073741824) : Calls Try.prog 20 #[sl] w (Ret w (.agg #[.int .i64 (fChooseL xs).k, .int .i64 (fChooseL xs).n, .string (fChooseL xs).s])) := by
  rw [fChooseL, if_pos ⟨h1, h2⟩]
  exact lookup_choose sl xs w h (by intro e; simp [e] at h1) hg
theorem lines_l (sl : Value) (xs : List A) (g : Nat) (how : Int) (hh : how = 0 ∨ how = 1) (w : World) (h : IsAreas w sl xs) (hg : Glob w) (h1 : 3 ≤ xs.length) (h2 : xs.length ≤ 4) (hw : w.cell? ⟨g, 0, none⟩ = some (.int .i64 how)) :
    Calls Try.prog 34 #[sl, .pointer (some ⟨g, 0, none⟩)] w (RetG w) := by
  match xs, h1, h2, h with
  | [x, a, b], _, _, h => exact lines_any sl x a b none g how hh w h hg hw
  | [x, a, b, c], _, _, h => exact lines_any sl x a b (some c) g how hh w h hg hw
theorem table_l (sl : Value) (xs : List A) (g : Nat) (up : Bool) (w : World) (h : IsAreas w sl xs) (hg : Glob w) (h1 : 3 ≤ xs.length) (h2 : xs.length ≤ 4) (hw : w.cell? ⟨g, 0, none⟩ = some (.bool up)) :
    Calls Try.prog 35 #[sl, .pointer (some ⟨g, 0, none⟩)] w (RetG w) := by
  match xs, h1, h2, h with
  | [x, a, b], _, _, h => exact table_any sl x a b none g up w h hg hw
  | [x, a, b, c], _, _, h => exact table_any sl x a b (some c) g up w h hg hw
/-- What a call by any name answers: a good value, or nothing. -/
def CallOK (u : Value) : Prop := ∃ (v : V) (ok : Bool), u = .tuple #[(.agg #[.int .i64 (v).k, .int .i64 (v).n, .string (v).s]), .bool ok] ∧ (ok = true → v.good = true) ∧ (ok = false → v = ⟨0, 0, ⟨#[]⟩⟩)

theorem call_ROWS (sl : Value) (xs : List A) (w : World) (h : IsAreas w sl xs) (hg : Glob w) : Calls Try.prog 7 #[.string ⟨#[82, 79, 87, 83]⟩, sl] w (Ret w (.tuple #[(.agg #[.int .i64 (fSized A.rows xs).k, .int .i64 (fSized A.rows xs).n, .string (fSized A.rows xs).s]), .bool true])) := by
  have h' := h
  obtain ⟨ao, cap, rfl, hc1, hc2, _⟩ := h'
  obtain ⟨F, hF⟩ : ∃ F, F = fSized A.rows xs := ⟨_, rfl⟩
  have hbad : xs.length < 1 ∨ 1 < xs.length → F = badV 2 := fun hh => by rw [hF]; have hh' := hh; clear hF hh; revert hh'; unfold fSized; split <;> simp
  rw [← hF]
  refine walk tabOK mixedOK 1000 [.v (.string ⟨#[82, 79, 87, 83]⟩), .v (.slice ao xs.length cap)] vok_ret Try.func7 rfl Try.ntmps7 (by rw [Try.results7]) rfl rfl fun hC => ?_
  (try simp (config := {maxSteps := 4000000}) only [go_sem, Nat.reduceBEq, Nat.reduceLT, Nat.reduceLeDiff, Nat.reduceAdd, Nat.reduceMul, Int.reduceToNat, Nat.reduceMod, Int.cast_ofNat_Int, Int.reduceBEq, Int.reduceBNe, Int.reduceLE, Int.reduceLT, Int.reduceGT, Int.reduceGE, Int.zero_lt_one, Int.le_refl, and_self, Int.toNat_natCast])
  rotate_left
  refine callb_r hC 1000 (.tup [.fn (.func 24) [] [.ptr 1 0], .v (.int .i64 1), .v (.int .i64 1)]) [.v (.func (.func 16) #[] #[])] 47 rfl (by kernel_rfl) rfl rfl (fun r => by simp [SV.den, dens]) (fun r => by simp [SV.den, dens]) (fun w' hB => find_ROWS w') ?_
  (try simp (config := {maxSteps := 4000000}) only [go_sem, Nat.reduceBEq, Nat.reduceLT, Nat.reduceLeDiff, Nat.reduceAdd, Nat.reduceMul, Int.reduceToNat, Nat.reduceMod, Int.cast_ofNat_Int, Int.reduceBEq, Int.reduceBNe, Int.reduceLE, Int.reduceLT, Int.reduceGT, Int.reduceGE, Int.zero_lt_one, Int.le_refl, and_self, Int.toNat_natCast])
  refine br (fun q0 => ?_) fun q0 => ?_
  have q0' := of_decide_eq_true q0
  (try simp (config := {maxSteps := 4000000}) only [go_sem, Nat.reduceBEq, Nat.reduceLT, Nat.reduceLeDiff, Nat.reduceAdd, Nat.reduceMul, Int.reduceToNat, Nat.reduceMod, Int.cast_ofNat_Int, Int.reduceBEq, Int.reduceBNe, Int.reduceLE, Int.reduceLT, Int.reduceGT, Int.reduceGE, Int.zero_lt_one, Int.le_refl, and_self, Int.toNat_natCast, q0])
  refine call_p hC 1000 rfl (by kernel_rfl) (fun w' hB => value_Bad _ w') ?_
  (try simp (config := {maxSteps := 4000000}) only [go_sem, Nat.reduceBEq, Nat.reduceLT, Nat.reduceLeDiff, Nat.reduceAdd, Nat.reduceMul, Int.reduceToNat, Nat.reduceMod, Int.cast_ofNat_Int, Int.reduceBEq, Int.reduceBNe, Int.reduceLE, Int.reduceLT, Int.reduceGT, Int.reduceGE, Int.zero_lt_one, Int.le_refl, and_self, Int.toNat_natCast])
  rw [hbad (by omega)]
  have q0' := of_decide_eq_false q0
  (try simp (config := {maxSteps := 4000000}) only [go_sem, Nat.reduceBEq, Nat.reduceLT, Nat.reduceLeDiff, Nat.reduceAdd, Nat.reduceMul, Int.reduceToNat, Nat.reduceMod, Int.cast_ofNat_Int, Int.reduceBEq, Int.reduceBNe, Int.reduceLE, Int.reduceLT, Int.reduceGT, Int.reduceGE, Int.zero_lt_one, Int.le_refl, and_self, Int.toNat_natCast, q0])
  refine br (fun q1 => ?_) fun q1 => ?_
  have q1' := of_decide_eq_true q1
  (try simp (config := {maxSteps := 4000000}) only [go_sem, Nat.reduceBEq, Nat.reduceLT, Nat.reduceLeDiff, Nat.reduceAdd, Nat.reduceMul, Int.reduceToNat, Nat.reduceMod, Int.cast_ofNat_Int, Int.reduceBEq, Int.reduceBNe, Int.reduceLE, Int.reduceLT, Int.reduceGT, Int.reduceGE, Int.zero_lt_one, Int.le_refl, and_self, Int.toNat_natCast, q1])
  refine call_p hC 1000 rfl (by kernel_rfl) (fun w' hB => value_Bad _ w') ?_
  (try simp (config := {maxSteps := 4000000}) only [go_sem, Nat.reduceBEq, Nat.reduceLT, Nat.reduceLeDiff, Nat.reduceAdd, Nat.reduceMul, Int.reduceToNat, Nat.reduceMod, Int.cast_ofNat_Int, Int.reduceBEq, Int.reduceBNe, Int.reduceLE, Int.reduceLT, Int.reduceGT, Int.reduceGE, Int.zero_lt_one, Int.le_refl, and_self, Int.toNat_natCast])
  rw [hbad (by omega)]
  have q1' := of_decide_eq_false q1
  (try simp (config := {maxSteps := 4000000}) only [go_sem, Nat.reduceBEq, Nat.reduceLT, Nat.reduceLeDiff, Nat.reduceAdd, Nat.reduceMul, Int.reduceToNat, Nat.reduceMod, Int.cast_ofNat_Int, Int.reduceBEq, Int.reduceBNe, Int.reduceLE, Int.reduceLT, Int.reduceGT, Int.reduceGE, Int.zero_lt_one, Int.le_refl, and_self, Int.toNat_natCast, q1])
  rotate_left
  refine call_go hC 1000 (.agg #[.int .i64 (F).k, .int .i64 (F).n, .string (F).s]) (by kernel_rfl) (fun r' w' hI => ?_) ?_
  · simp only [dens, SV.den]; rw [hF]; exact sized_l _ xs _ 16 A.rows w' (h.below hI.below) (by omega) (own_prev hI rfl) (by kernel_rfl) (fun x a w2 hx ha => find_rows x a w2 hx) (fun a ha => by have := a.good_parts ha; omega)
  (try simp (config := {maxSteps := 4000000}) only [go_sem, Nat.reduceBEq, Nat.reduceLT, Nat.reduceLeDiff, Nat.reduceAdd, Nat.reduceMul, Int.reduceToNat, Nat.reduceMod, Int.cast_ofNat_Int, Int.reduceBEq, Int.reduceBNe, Int.reduceLE, Int.reduceLT, Int.reduceGT, Int.reduceGE, Int.zero_lt_one, Int.le_refl, and_self, Int.toNat_natCast])
theorem call_COLUMNS (sl : Value) (xs : List A) (w : World) (h : IsAreas w sl xs) (hg : Glob w) : Calls Try.prog 7 #[.string ⟨#[67, 79, 76, 85, 77, 78, 83]⟩, sl] w (Ret w (.tuple #[(.agg #[.int .i64 (fSized A.cols xs).k, .int .i64 (fSized A.cols xs).n, .string (fSized A.cols xs).s]), .bool true])) := by
  have h' := h
  obtain ⟨ao, cap, rfl, hc1, hc2, _⟩ := h'
  obtain ⟨F, hF⟩ : ∃ F, F = fSized A.cols xs := ⟨_, rfl⟩
  have hbad : xs.length < 1 ∨ 1 < xs.length → F = badV 2 := fun hh => by rw [hF]; have hh' := hh; clear hF hh; revert hh'; unfold fSized; split <;> simp
  rw [← hF]
  refine walk tabOK mixedOK 1000 [.v (.string ⟨#[67, 79, 76, 85, 77, 78, 83]⟩), .v (.slice ao xs.length cap)] vok_ret Try.func7 rfl Try.ntmps7 (by rw [Try.results7]) rfl rfl fun hC => ?_
  (try simp (config := {maxSteps := 4000000}) only [go_sem, Nat.reduceBEq, Nat.reduceLT, Nat.reduceLeDiff, Nat.reduceAdd, Nat.reduceMul, Int.reduceToNat, Nat.reduceMod, Int.cast_ofNat_Int, Int.reduceBEq, Int.reduceBNe, Int.reduceLE, Int.reduceLT, Int.reduceGT, Int.reduceGE, Int.zero_lt_one, Int.le_refl, and_self, Int.toNat_natCast])
  rotate_left
  refine callb_r hC 1000 (.tup [.fn (.func 24) [] [.ptr 1 0], .v (.int .i64 1), .v (.int .i64 1)]) [.v (.func (.func 17) #[] #[])] 47 rfl (by kernel_rfl) rfl rfl (fun r => by simp [SV.den, dens]) (fun r => by simp [SV.den, dens]) (fun w' hB => find_COLUMNS w') ?_
  (try simp (config := {maxSteps := 4000000}) only [go_sem, Nat.reduceBEq, Nat.reduceLT, Nat.reduceLeDiff, Nat.reduceAdd, Nat.reduceMul, Int.reduceToNat, Nat.reduceMod, Int.cast_ofNat_Int, Int.reduceBEq, Int.reduceBNe, Int.reduceLE, Int.reduceLT, Int.reduceGT, Int.reduceGE, Int.zero_lt_one, Int.le_refl, and_self, Int.toNat_natCast])
  refine br (fun q0 => ?_) fun q0 => ?_
  have q0' := of_decide_eq_true q0
  (try simp (config := {maxSteps := 4000000}) only [go_sem, Nat.reduceBEq, Nat.reduceLT, Nat.reduceLeDiff, Nat.reduceAdd, Nat.reduceMul, Int.reduceToNat, Nat.reduceMod, Int.cast_ofNat_Int, Int.reduceBEq, Int.reduceBNe, Int.reduceLE, Int.reduceLT, Int.reduceGT, Int.reduceGE, Int.zero_lt_one, Int.le_refl, and_self, Int.toNat_natCast, q0])
  refine call_p hC 1000 rfl (by kernel_rfl) (fun w' hB => value_Bad _ w') ?_
  (try simp (config := {maxSteps := 4000000}) only [go_sem, Nat.reduceBEq, Nat.reduceLT, Nat.reduceLeDiff, Nat.reduceAdd, Nat.reduceMul, Int.reduceToNat, Nat.reduceMod, Int.cast_ofNat_Int, Int.reduceBEq, Int.reduceBNe, Int.reduceLE, Int.reduceLT, Int.reduceGT, Int.reduceGE, Int.zero_lt_one, Int.le_refl, and_self, Int.toNat_natCast])
  rw [hbad (by omega)]
  have q0' := of_decide_eq_false q0
  (try simp (config := {maxSteps := 4000000}) only [go_sem, Nat.reduceBEq, Nat.reduceLT, Nat.reduceLeDiff, Nat.reduceAdd, Nat.reduceMul, Int.reduceToNat, Nat.reduceMod, Int.cast_ofNat_Int, Int.reduceBEq, Int.reduceBNe, Int.reduceLE, Int.reduceLT, Int.reduceGT, Int.reduceGE, Int.zero_lt_one, Int.le_refl, and_self, Int.toNat_natCast, q0])
  refine br (fun q1 => ?_) fun q1 => ?_
  have q1' := of_decide_eq_true q1
  (try simp (config := {maxSteps := 4000000}) only [go_sem, Nat.reduceBEq, Nat.reduceLT, Nat.reduceLeDiff, Nat.reduceAdd, Nat.reduceMul, Int.reduceToNat, Nat.reduceMod, Int.cast_ofNat_Int, Int.reduceBEq, Int.reduceBNe, Int.reduceLE, Int.reduceLT, Int.reduceGT, Int.reduceGE, Int.zero_lt_one, Int.le_refl, and_self, Int.toNat_natCast, q1])
  refine call_p hC 1000 rfl (by kernel_rfl) (fun w' hB => value_Bad _ w') ?_
  (try simp (config := {maxSteps := 4000000}) only [go_sem, Nat.reduceBEq, Nat.reduceLT, Nat.reduceLeDiff, Nat.reduceAdd, Nat.reduceMul, Int.reduceToNat, Nat.reduceMod, Int.cast_ofNat_Int, Int.reduceBEq, Int.reduceBNe, Int.reduceLE, Int.reduceLT, Int.reduceGT, Int.reduceGE, Int.zero_lt_one, Int.le_refl, and_self, Int.toNat_natCast])
  rw [hbad (by omega)]
  have q1' := of_decide_eq_false q1
  (try simp (config := {maxSteps := 4000000}) only [go_sem, Nat.reduceBEq, Nat.reduceLT, Nat.reduceLeDiff, Nat.reduceAdd, Nat.reduceMul, Int.reduceToNat, Nat.reduceMod, Int.cast_ofNat_Int, Int.reduceBEq, Int.reduceBNe, Int.reduceLE, Int.reduceLT, Int.reduceGT, Int.reduceGE, Int.zero_lt_one, Int.le_refl, and_self, Int.toNat_natCast, q1])
  rotate_left
  refine call_go hC 1000 (.agg #[.int .i64 (F).k, .int .i64 (F).n, .string (F).s]) (by kernel_rfl) (fun r' w' hI => ?_) ?_
  · simp only [dens, SV.den]; rw [hF]; exact sized_l _ xs _ 17 A.cols w' (h.below hI.below) (by omega) (own_prev hI rfl) (by kernel_rfl) (fun x a w2 hx ha => find_cols x a w2 hx) (fun a ha => by have := a.good_parts ha; omega)
  (try simp (config := {maxSteps := 4000000}) only [go_sem, Nat.reduceBEq, Nat.reduceLT, Nat.reduceLeDiff, Nat.reduceAdd, Nat.reduceMul, Int.reduceToNat, Nat.reduceMod, Int.cast_ofNat_Int, Int.reduceBEq, Int.reduceBNe, Int.reduceLE, Int.reduceLT, Int.reduceGT, Int.reduceGE, Int.zero_lt_one, Int.le_refl, and_self, Int.toNat_natCast])
theorem call_COUNTUNIQUE (sl : Value) (xs : List A) (w : World) (h : IsAreas w sl xs) (hg : Glob w) : Calls Try.prog 7 #[.string ⟨#[67, 79, 85, 78, 84, 85, 78, 73, 81, 85, 69]⟩, sl] w (Ret w (.tuple #[(.agg #[.int .i64 (fSized (fun a => a.unlike) xs).k, .int .i64 (fSized (fun a => a.unlike) xs).n, .string (fSized (fun a => a.unlike) xs).s]), .bool true])) := by
  have h' := h
  obtain ⟨ao, cap, rfl, hc1, hc2, _⟩ := h'
  obtain ⟨F, hF⟩ : ∃ F, F = fSized (fun a => a.unlike) xs := ⟨_, rfl⟩
  have hbad : xs.length < 1 ∨ 1 < xs.length → F = badV 2 := fun hh => by rw [hF]; have hh' := hh; clear hF hh; revert hh'; unfold fSized; split <;> simp
  rw [← hF]
  refine walk tabOK mixedOK 1000 [.v (.string ⟨#[67, 79, 85, 78, 84, 85, 78, 73, 81, 85, 69]⟩), .v (.slice ao xs.length cap)] vok_ret Try.func7 rfl Try.ntmps7 (by rw [Try.results7]) rfl rfl fun hC => ?_
  (try simp (config := {maxSteps := 4000000}) only [go_sem, Nat.reduceBEq, Nat.reduceLT, Nat.reduceLeDiff, Nat.reduceAdd, Nat.reduceMul, Int.reduceToNat, Nat.reduceMod, Int.cast_ofNat_Int, Int.reduceBEq, Int.reduceBNe, Int.reduceLE, Int.reduceLT, Int.reduceGT, Int.reduceGE, Int.zero_lt_one, Int.le_refl, and_self, Int.toNat_natCast])
  rotate_left
  refine callb_r hC 1000 (.tup [.fn (.func 24) [] [.ptr 1 0], .v (.int .i64 1), .v (.int .i64 1)]) [.v (.func (.func 18) #[] #[])] 47 rfl (by kernel_rfl) rfl rfl (fun r => by simp [SV.den, dens]) (fun r => by simp [SV.den, dens]) (fun w' hB => find_COUNTUNIQUE w') ?_
  (try simp (config := {maxSteps := 4000000}) only [go_sem, Nat.reduceBEq, Nat.reduceLT, Nat.reduceLeDiff, Nat.reduceAdd, Nat.reduceMul, Int.reduceToNat, Nat.reduceMod, Int.cast_ofNat_Int, Int.reduceBEq, Int.reduceBNe, Int.reduceLE, Int.reduceLT, Int.reduceGT, Int.reduceGE, Int.zero_lt_one, Int.le_refl, and_self, Int.toNat_natCast])
  refine br (fun q0 => ?_) fun q0 => ?_
  have q0' := of_decide_eq_true q0
  (try simp (config := {maxSteps := 4000000}) only [go_sem, Nat.reduceBEq, Nat.reduceLT, Nat.reduceLeDiff, Nat.reduceAdd, Nat.reduceMul, Int.reduceToNat, Nat.reduceMod, Int.cast_ofNat_Int, Int.reduceBEq, Int.reduceBNe, Int.reduceLE, Int.reduceLT, Int.reduceGT, Int.reduceGE, Int.zero_lt_one, Int.le_refl, and_self, Int.toNat_natCast, q0])
  refine call_p hC 1000 rfl (by kernel_rfl) (fun w' hB => value_Bad _ w') ?_
  (try simp (config := {maxSteps := 4000000}) only [go_sem, Nat.reduceBEq, Nat.reduceLT, Nat.reduceLeDiff, Nat.reduceAdd, Nat.reduceMul, Int.reduceToNat, Nat.reduceMod, Int.cast_ofNat_Int, Int.reduceBEq, Int.reduceBNe, Int.reduceLE, Int.reduceLT, Int.reduceGT, Int.reduceGE, Int.zero_lt_one, Int.le_refl, and_self, Int.toNat_natCast])
  rw [hbad (by omega)]
  have q0' := of_decide_eq_false q0
  (try simp (config := {maxSteps := 4000000}) only [go_sem, Nat.reduceBEq, Nat.reduceLT, Nat.reduceLeDiff, Nat.reduceAdd, Nat.reduceMul, Int.reduceToNat, Nat.reduceMod, Int.cast_ofNat_Int, Int.reduceBEq, Int.reduceBNe, Int.reduceLE, Int.reduceLT, Int.reduceGT, Int.reduceGE, Int.zero_lt_one, Int.le_refl, and_self, Int.toNat_natCast, q0])
  refine br (fun q1 => ?_) fun q1 => ?_
  have q1' := of_decide_eq_true q1
  (try simp (config := {maxSteps := 4000000}) only [go_sem, Nat.reduceBEq, Nat.reduceLT, Nat.reduceLeDiff, Nat.reduceAdd, Nat.reduceMul, Int.reduceToNat, Nat.reduceMod, Int.cast_ofNat_Int, Int.reduceBEq, Int.reduceBNe, Int.reduceLE, Int.reduceLT, Int.reduceGT, Int.reduceGE, Int.zero_lt_one, Int.le_refl, and_self, Int.toNat_natCast, q1])
  refine call_p hC 1000 rfl (by kernel_rfl) (fun w' hB => value_Bad _ w') ?_
  (try simp (config := {maxSteps := 4000000}) only [go_sem, Nat.reduceBEq, Nat.reduceLT, Nat.reduceLeDiff, Nat.reduceAdd, Nat.reduceMul, Int.reduceToNat, Nat.reduceMod, Int.cast_ofNat_Int, Int.reduceBEq, Int.reduceBNe, Int.reduceLE, Int.reduceLT, Int.reduceGT, Int.reduceGE, Int.zero_lt_one, Int.le_refl, and_self, Int.toNat_natCast])
  rw [hbad (by omega)]
  have q1' := of_decide_eq_false q1
  (try simp (config := {maxSteps := 4000000}) only [go_sem, Nat.reduceBEq, Nat.reduceLT, Nat.reduceLeDiff, Nat.reduceAdd, Nat.reduceMul, Int.reduceToNat, Nat.reduceMod, Int.cast_ofNat_Int, Int.reduceBEq, Int.reduceBNe, Int.reduceLE, Int.reduceLT, Int.reduceGT, Int.reduceGE, Int.zero_lt_one, Int.le_refl, and_self, Int.toNat_natCast, q1])
  rotate_left
  refine call_go hC 1000 (.agg #[.int .i64 (F).k, .int .i64 (F).n, .string (F).s]) (by kernel_rfl) (fun r' w' hI => ?_) ?_
  · simp only [dens, SV.den]; rw [hF]; exact sized_l _ xs _ 18 (fun a => a.unlike) w' (h.below hI.below) (by omega) (own_prev hI rfl) (by kernel_rfl) (fun x a w2 hx ha => lookup_unlike x a w2 hx) (fun a ha => by have := unlike_le a; have := len_bd ha; omega)
  (try simp (config := {maxSteps := 4000000}) only [go_sem, Nat.reduceBEq, Nat.reduceLT, Nat.reduceLeDiff, Nat.reduceAdd, Nat.reduceMul, Int.reduceToNat, Nat.reduceMod, Int.cast_ofNat_Int, Int.reduceBEq, Int.reduceBNe, Int.reduceLE, Int.reduceLT, Int.reduceGT, Int.reduceGE, Int.zero_lt_one, Int.le_refl, and_self, Int.toNat_natCast])
theorem call_INDEX (sl : Value) (xs : List A) (w : World) (h : IsAreas w sl xs) (hg : Glob w) : Calls Try.prog 7 #[.string ⟨#[73, 78, 68, 69, 88]⟩, sl] w (Ret w (.tuple #[(.agg #[.int .i64 (fIndexL xs).k, .int .i64 (fIndexL xs).n, .string (fIndexL xs).s]), .bool true])) := by
  have h' := h
  obtain ⟨ao, cap, rfl, hc1, hc2, _⟩ := h'
  obtain ⟨F, hF⟩ : ∃ F, F = fIndexL xs := ⟨_, rfl⟩
  have hbad : xs.length < 2 ∨ 3 < xs.length → F = badV 2 := fun hh => by rw [hF]; have hh' := hh; clear hF hh; revert hh'; unfold fIndexL; split <;> simp
  rw [← hF]
  refine walk tabOK mixedOK 1000 [.v (.string ⟨#[73, 78, 68, 69, 88]⟩), .v (.slice ao xs.length cap)] vok_ret Try.func7 rfl Try.ntmps7 (by rw [Try.results7]) rfl rfl fun hC => ?_
  (try simp (config := {maxSteps := 4000000}) only [go_sem, Nat.reduceBEq, Nat.reduceLT, Nat.reduceLeDiff, Nat.reduceAdd, Nat.reduceMul, Int.reduceToNat, Nat.reduceMod, Int.cast_ofNat_Int, Int.reduceBEq, Int.reduceBNe, Int.reduceLE, Int.reduceLT, Int.reduceGT, Int.reduceGE, Int.zero_lt_one, Int.le_refl, and_self, Int.toNat_natCast])
  refine call_p hC 1000 rfl (by kernel_rfl) (fun w' hB => find_INDEX w') ?_
  (try simp (config := {maxSteps := 4000000}) only [go_sem, Nat.reduceBEq, Nat.reduceLT, Nat.reduceLeDiff, Nat.reduceAdd, Nat.reduceMul, Int.reduceToNat, Nat.reduceMod, Int.cast_ofNat_Int, Int.reduceBEq, Int.reduceBNe, Int.reduceLE, Int.reduceLT, Int.reduceGT, Int.reduceGE, Int.zero_lt_one, Int.le_refl, and_self, Int.toNat_natCast])
  refine br (fun q0 => ?_) fun q0 => ?_
  have q0' := of_decide_eq_true q0
  (try simp (config := {maxSteps := 4000000}) only [go_sem, Nat.reduceBEq, Nat.reduceLT, Nat.reduceLeDiff, Nat.reduceAdd, Nat.reduceMul, Int.reduceToNat, Nat.reduceMod, Int.cast_ofNat_Int, Int.reduceBEq, Int.reduceBNe, Int.reduceLE, Int.reduceLT, Int.reduceGT, Int.reduceGE, Int.zero_lt_one, Int.le_refl, and_self, Int.toNat_natCast, q0])
  refine call_p hC 1000 rfl (by kernel_rfl) (fun w' hB => value_Bad _ w') ?_
  (try simp (config := {maxSteps := 4000000}) only [go_sem, Nat.reduceBEq, Nat.reduceLT, Nat.reduceLeDiff, Nat.reduceAdd, Nat.reduceMul, Int.reduceToNat, Nat.reduceMod, Int.cast_ofNat_Int, Int.reduceBEq, Int.reduceBNe, Int.reduceLE, Int.reduceLT, Int.reduceGT, Int.reduceGE, Int.zero_lt_one, Int.le_refl, and_self, Int.toNat_natCast])
  rw [hbad (by omega)]
  have q0' := of_decide_eq_false q0
  (try simp (config := {maxSteps := 4000000}) only [go_sem, Nat.reduceBEq, Nat.reduceLT, Nat.reduceLeDiff, Nat.reduceAdd, Nat.reduceMul, Int.reduceToNat, Nat.reduceMod, Int.cast_ofNat_Int, Int.reduceBEq, Int.reduceBNe, Int.reduceLE, Int.reduceLT, Int.reduceGT, Int.reduceGE, Int.zero_lt_one, Int.le_refl, and_self, Int.toNat_natCast, q0])
  refine br (fun q1 => ?_) fun q1 => ?_
  have q1' := of_decide_eq_true q1
  (try simp (config := {maxSteps := 4000000}) only [go_sem, Nat.reduceBEq, Nat.reduceLT, Nat.reduceLeDiff, Nat.reduceAdd, Nat.reduceMul, Int.reduceToNat, Nat.reduceMod, Int.cast_ofNat_Int, Int.reduceBEq, Int.reduceBNe, Int.reduceLE, Int.reduceLT, Int.reduceGT, Int.reduceGE, Int.zero_lt_one, Int.le_refl, and_self, Int.toNat_natCast, q1])
  refine call_p hC 1000 rfl (by kernel_rfl) (fun w' hB => value_Bad _ w') ?_
  (try simp (config := {maxSteps := 4000000}) only [go_sem, Nat.reduceBEq, Nat.reduceLT, Nat.reduceLeDiff, Nat.reduceAdd, Nat.reduceMul, Int.reduceToNat, Nat.reduceMod, Int.cast_ofNat_Int, Int.reduceBEq, Int.reduceBNe, Int.reduceLE, Int.reduceLT, Int.reduceGT, Int.reduceGE, Int.zero_lt_one, Int.le_refl, and_self, Int.toNat_natCast])
  rw [hbad (by omega)]
  have q1' := of_decide_eq_false q1
  (try simp (config := {maxSteps := 4000000}) only [go_sem, Nat.reduceBEq, Nat.reduceLT, Nat.reduceLeDiff, Nat.reduceAdd, Nat.reduceMul, Int.reduceToNat, Nat.reduceMod, Int.cast_ofNat_Int, Int.reduceBEq, Int.reduceBNe, Int.reduceLE, Int.reduceLT, Int.reduceGT, Int.reduceGE, Int.zero_lt_one, Int.le_refl, and_self, Int.toNat_natCast, q1])
  refine call_p hC 1000 rfl (by kernel_rfl) (fun w' hB => index_l _ _ w' (h.below hB) (hg.below hB) (by omega) (by omega)) ?_
  (try simp (config := {maxSteps := 4000000}) only [go_sem, Nat.reduceBEq, Nat.reduceLT, Nat.reduceLeDiff, Nat.reduceAdd, Nat.reduceMul, Int.reduceToNat, Nat.reduceMod, Int.cast_ofNat_Int, Int.reduceBEq, Int.reduceBNe, Int.reduceLE, Int.reduceLT, Int.reduceGT, Int.reduceGE, Int.zero_lt_one, Int.le_refl, and_self, Int.toNat_natCast])
  rw [hF]
theorem call_CHOOSE (sl : Value) (xs : List A) (w : World) (h : IsAreas w sl xs) (hg : Glob w) : Calls Try.prog 7 #[.string ⟨#[67, 72, 79, 79, 83, 69]⟩, sl] w (Ret w (.tuple #[(.agg #[.int .i64 (fChooseL xs).k, .int .i64 (fChooseL xs).n, .string (fChooseL xs).s]), .bool true])) := by
  have h' := h
  obtain ⟨ao, cap, rfl, hc1, hc2, _⟩ := h'
  obtain ⟨F, hF⟩ : ∃ F, F = fChooseL xs := ⟨_, rfl⟩
  have hbad : xs.length < 2 ∨ 1073741824 < xs.length → F = badV 2 := fun hh => by rw [hF]; have hh' := hh; clear hF hh; revert hh'; unfold fChooseL; intro hh'; rw [if_neg (by omega)]
  rw [← hF]
  refine walk tabOK mixedOK 1000 [.v (.string ⟨#[67, 72, 79, 79, 83, 69]⟩), .v (.slice ao xs.length cap)] vok_ret Try.func7 rfl Try.ntmps7 (by rw [Try.results7]) rfl rfl fun hC => ?_
  (try simp (config := {maxSteps := 4000000}) only [go_sem, Nat.reduceBEq, Nat.reduceLT, Nat.reduceLeDiff, Nat.reduceAdd, Nat.reduceMul, Int.reduceToNat, Nat.reduceMod, Int.cast_ofNat_Int, Int.reduceBEq, Int.reduceBNe, Int.reduceLE, Int.reduceLT, Int.reduceGT, Int.reduceGE, Int.zero_lt_one, Int.le_refl, and_self, Int.toNat_natCast])
  refine call_p hC 1000 rfl (by kernel_rfl) (fun w' hB => find_CHOOSE w') ?_
  (try simp (config := {maxSteps := 4000000}) only [go_sem, Nat.reduceBEq, Nat.reduceLT, Nat.reduceLeDiff, Nat.reduceAdd, Nat.reduceMul, Int.reduceToNat, Nat.reduceMod, Int.cast_ofNat_Int, Int.reduceBEq, Int.reduceBNe, Int.reduceLE, Int.reduceLT, Int.reduceGT, Int.reduceGE, Int.zero_lt_one, Int.le_refl, and_self, Int.toNat_natCast])
  refine br (fun q0 => ?_) fun q0 => ?_
  have q0' := of_decide_eq_true q0
  (try simp (config := {maxSteps := 4000000}) only [go_sem, Nat.reduceBEq, Nat.reduceLT, Nat.reduceLeDiff, Nat.reduceAdd, Nat.reduceMul, Int.reduceToNat, Nat.reduceMod, Int.cast_ofNat_Int, Int.reduceBEq, Int.reduceBNe, Int.reduceLE, Int.reduceLT, Int.reduceGT, Int.reduceGE, Int.zero_lt_one, Int.le_refl, and_self, Int.toNat_natCast, q0])
  refine call_p hC 1000 rfl (by kernel_rfl) (fun w' hB => value_Bad _ w') ?_
  (try simp (config := {maxSteps := 4000000}) only [go_sem, Nat.reduceBEq, Nat.reduceLT, Nat.reduceLeDiff, Nat.reduceAdd, Nat.reduceMul, Int.reduceToNat, Nat.reduceMod, Int.cast_ofNat_Int, Int.reduceBEq, Int.reduceBNe, Int.reduceLE, Int.reduceLT, Int.reduceGT, Int.reduceGE, Int.zero_lt_one, Int.le_refl, and_self, Int.toNat_natCast])
  rw [hbad (by omega)]
  have q0' := of_decide_eq_false q0
  (try simp (config := {maxSteps := 4000000}) only [go_sem, Nat.reduceBEq, Nat.reduceLT, Nat.reduceLeDiff, Nat.reduceAdd, Nat.reduceMul, Int.reduceToNat, Nat.reduceMod, Int.cast_ofNat_Int, Int.reduceBEq, Int.reduceBNe, Int.reduceLE, Int.reduceLT, Int.reduceGT, Int.reduceGE, Int.zero_lt_one, Int.le_refl, and_self, Int.toNat_natCast, q0])
  refine br (fun q1 => ?_) fun q1 => ?_
  have q1' := of_decide_eq_true q1
  (try simp (config := {maxSteps := 4000000}) only [go_sem, Nat.reduceBEq, Nat.reduceLT, Nat.reduceLeDiff, Nat.reduceAdd, Nat.reduceMul, Int.reduceToNat, Nat.reduceMod, Int.cast_ofNat_Int, Int.reduceBEq, Int.reduceBNe, Int.reduceLE, Int.reduceLT, Int.reduceGT, Int.reduceGE, Int.zero_lt_one, Int.le_refl, and_self, Int.toNat_natCast, q1])
  refine call_p hC 1000 rfl (by kernel_rfl) (fun w' hB => value_Bad _ w') ?_
  (try simp (config := {maxSteps := 4000000}) only [go_sem, Nat.reduceBEq, Nat.reduceLT, Nat.reduceLeDiff, Nat.reduceAdd, Nat.reduceMul, Int.reduceToNat, Nat.reduceMod, Int.cast_ofNat_Int, Int.reduceBEq, Int.reduceBNe, Int.reduceLE, Int.reduceLT, Int.reduceGT, Int.reduceGE, Int.zero_lt_one, Int.le_refl, and_self, Int.toNat_natCast])
  rw [hbad (by omega)]
  have q1' := of_decide_eq_false q1
  (try simp (config := {maxSteps := 4000000}) only [go_sem, Nat.reduceBEq, Nat.reduceLT, Nat.reduceLeDiff, Nat.reduceAdd, Nat.reduceMul, Int.reduceToNat, Nat.reduceMod, Int.cast_ofNat_Int, Int.reduceBEq, Int.reduceBNe, Int.reduceLE, Int.reduceLT, Int.reduceGT, Int.reduceGE, Int.zero_lt_one, Int.le_refl, and_self, Int.toNat_natCast, q1])
  refine call_p hC 1000 rfl (by kernel_rfl) (fun w' hB => choose_l _ _ w' (h.below hB) (hg.below hB) (by omega) (by omega)) ?_
  (try simp (config := {maxSteps := 4000000}) only [go_sem, Nat.reduceBEq, Nat.reduceLT, Nat.reduceLeDiff, Nat.reduceAdd, Nat.reduceMul, Int.reduceToNat, Nat.reduceMod, Int.cast_ofNat_Int, Int.reduceBEq, Int.reduceBNe, Int.reduceLE, Int.reduceLT, Int.reduceGT, Int.reduceGE, Int.zero_lt_one, Int.le_refl, and_self, Int.toNat_natCast])
  rw [hF]
theorem call_MATCH (sl : Value) (xs : List A) (w : World) (h : IsAreas w sl xs) (hg : Glob w) : Calls Try.prog 7 #[.string ⟨#[77, 65, 84, 67, 72]⟩, sl] w (Ret w (.tuple #[(.agg #[.int .i64 (fPlaceL xs).k, .int .i64 (fPlaceL xs).n, .string (fPlaceL xs).s]), .bool true])) := by
  have h' := h
  obtain ⟨ao, cap, rfl, hc1, hc2, _⟩ := h'
  obtain ⟨F, hF⟩ : ∃ F, F = fPlaceL xs := ⟨_, rfl⟩
  have hbad : xs.length < 2 ∨ 3 < xs.length → F = badV 2 := fun hh => by rw [hF]; have hh' := hh; clear hF hh; revert hh'; unfold fPlaceL; split <;> simp
  rw [← hF]
  refine walk tabOK mixedOK 1000 [.v (.string ⟨#[77, 65, 84, 67, 72]⟩), .v (.slice ao xs.length cap)] vok_ret Try.func7 rfl Try.ntmps7 (by rw [Try.results7]) rfl rfl fun hC => ?_
  (try simp (config := {maxSteps := 4000000}) only [go_sem, Nat.reduceBEq, Nat.reduceLT, Nat.reduceLeDiff, Nat.reduceAdd, Nat.reduceMul, Int.reduceToNat, Nat.reduceMod, Int.cast_ofNat_Int, Int.reduceBEq, Int.reduceBNe, Int.reduceLE, Int.reduceLT, Int.reduceGT, Int.reduceGE, Int.zero_lt_one, Int.le_refl, and_self, Int.toNat_natCast])
  refine call_p hC 1000 rfl (by kernel_rfl) (fun w' hB => find_MATCH w') ?_
  (try simp (config := {maxSteps := 4000000}) only [go_sem, Nat.reduceBEq, Nat.reduceLT, Nat.reduceLeDiff, Nat.reduceAdd, Nat.reduceMul, Int.reduceToNat, Nat.reduceMod, Int.cast_ofNat_Int, Int.reduceBEq, Int.reduceBNe, Int.reduceLE, Int.reduceLT, Int.reduceGT, Int.reduceGE, Int.zero_lt_one, Int.le_refl, and_self, Int.toNat_natCast])
  refine br (fun q0 => ?_) fun q0 => ?_
  have q0' := of_decide_eq_true q0
  (try simp (config := {maxSteps := 4000000}) only [go_sem, Nat.reduceBEq, Nat.reduceLT, Nat.reduceLeDiff, Nat.reduceAdd, Nat.reduceMul, Int.reduceToNat, Nat.reduceMod, Int.cast_ofNat_Int, Int.reduceBEq, Int.reduceBNe, Int.reduceLE, Int.reduceLT, Int.reduceGT, Int.reduceGE, Int.zero_lt_one, Int.le_refl, and_self, Int.toNat_natCast, q0])
  refine call_p hC 1000 rfl (by kernel_rfl) (fun w' hB => value_Bad _ w') ?_
  (try simp (config := {maxSteps := 4000000}) only [go_sem, Nat.reduceBEq, Nat.reduceLT, Nat.reduceLeDiff, Nat.reduceAdd, Nat.reduceMul, Int.reduceToNat, Nat.reduceMod, Int.cast_ofNat_Int, Int.reduceBEq, Int.reduceBNe, Int.reduceLE, Int.reduceLT, Int.reduceGT, Int.reduceGE, Int.zero_lt_one, Int.le_refl, and_self, Int.toNat_natCast])
  rw [hbad (by omega)]
  have q0' := of_decide_eq_false q0
  (try simp (config := {maxSteps := 4000000}) only [go_sem, Nat.reduceBEq, Nat.reduceLT, Nat.reduceLeDiff, Nat.reduceAdd, Nat.reduceMul, Int.reduceToNat, Nat.reduceMod, Int.cast_ofNat_Int, Int.reduceBEq, Int.reduceBNe, Int.reduceLE, Int.reduceLT, Int.reduceGT, Int.reduceGE, Int.zero_lt_one, Int.le_refl, and_self, Int.toNat_natCast, q0])
  refine br (fun q1 => ?_) fun q1 => ?_
  have q1' := of_decide_eq_true q1
  (try simp (config := {maxSteps := 4000000}) only [go_sem, Nat.reduceBEq, Nat.reduceLT, Nat.reduceLeDiff, Nat.reduceAdd, Nat.reduceMul, Int.reduceToNat, Nat.reduceMod, Int.cast_ofNat_Int, Int.reduceBEq, Int.reduceBNe, Int.reduceLE, Int.reduceLT, Int.reduceGT, Int.reduceGE, Int.zero_lt_one, Int.le_refl, and_self, Int.toNat_natCast, q1])
  refine call_p hC 1000 rfl (by kernel_rfl) (fun w' hB => value_Bad _ w') ?_
  (try simp (config := {maxSteps := 4000000}) only [go_sem, Nat.reduceBEq, Nat.reduceLT, Nat.reduceLeDiff, Nat.reduceAdd, Nat.reduceMul, Int.reduceToNat, Nat.reduceMod, Int.cast_ofNat_Int, Int.reduceBEq, Int.reduceBNe, Int.reduceLE, Int.reduceLT, Int.reduceGT, Int.reduceGE, Int.zero_lt_one, Int.le_refl, and_self, Int.toNat_natCast])
  rw [hbad (by omega)]
  have q1' := of_decide_eq_false q1
  (try simp (config := {maxSteps := 4000000}) only [go_sem, Nat.reduceBEq, Nat.reduceLT, Nat.reduceLeDiff, Nat.reduceAdd, Nat.reduceMul, Int.reduceToNat, Nat.reduceMod, Int.cast_ofNat_Int, Int.reduceBEq, Int.reduceBNe, Int.reduceLE, Int.reduceLT, Int.reduceGT, Int.reduceGE, Int.zero_lt_one, Int.le_refl, and_self, Int.toNat_natCast, q1])
  refine call_p hC 1000 rfl (by kernel_rfl) (fun w' hB => place_l _ _ w' (h.below hB) (hg.below hB) (by omega) (by omega)) ?_
  (try simp (config := {maxSteps := 4000000}) only [go_sem, Nat.reduceBEq, Nat.reduceLT, Nat.reduceLeDiff, Nat.reduceAdd, Nat.reduceMul, Int.reduceToNat, Nat.reduceMod, Int.cast_ofNat_Int, Int.reduceBEq, Int.reduceBNe, Int.reduceLE, Int.reduceLT, Int.reduceGT, Int.reduceGE, Int.zero_lt_one, Int.le_refl, and_self, Int.toNat_natCast])
  rw [hF]
theorem call_LOOKUP (sl : Value) (xs : List A) (w : World) (h : IsAreas w sl xs) (hg : Glob w) : Calls Try.prog 7 #[.string ⟨#[76, 79, 79, 75, 85, 80]⟩, sl] w (RetP w CallOK) := by
  have h' := h
  obtain ⟨ao, cap, rfl, hc1, hc2, _⟩ := h'
  refine walk tabOK mixedOK 1000 [.v (.string ⟨#[76, 79, 79, 75, 85, 80]⟩), .v (.slice ao xs.length cap)] vok_p Try.func7 rfl Try.ntmps7 (by rw [Try.results7]) rfl rfl fun hC => ?_
  (try simp (config := {maxSteps := 4000000}) only [go_sem, Nat.reduceBEq, Nat.reduceLT, Nat.reduceLeDiff, Nat.reduceAdd, Nat.reduceMul, Int.reduceToNat, Nat.reduceMod, Int.cast_ofNat_Int, Int.reduceBEq, Int.reduceBNe, Int.reduceLE, Int.reduceLT, Int.reduceGT, Int.reduceGE, Int.zero_lt_one, Int.le_refl, and_self, Int.toNat_natCast])
  rotate_left
  refine callb_r hC 1000 (.tup [.fn (.func 34) [] [.ptr 1 0], .v (.int .i64 3), .v (.int .i64 3)]) [.v (.int .i64 1)] 3 rfl (by kernel_rfl) rfl rfl (fun r => by simp [SV.den, dens]) (fun r => by simp [SV.den, dens]) (fun w' hB => find_LOOKUP w') ?_
  (try simp (config := {maxSteps := 4000000}) only [go_sem, Nat.reduceBEq, Nat.reduceLT, Nat.reduceLeDiff, Nat.reduceAdd, Nat.reduceMul, Int.reduceToNat, Nat.reduceMod, Int.cast_ofNat_Int, Int.reduceBEq, Int.reduceBNe, Int.reduceLE, Int.reduceLT, Int.reduceGT, Int.reduceGE, Int.zero_lt_one, Int.le_refl, and_self, Int.toNat_natCast])
  refine br (fun q0 => ?_) fun q0 => ?_
  have q0' := of_decide_eq_true q0
  (try simp (config := {maxSteps := 4000000}) only [go_sem, Nat.reduceBEq, Nat.reduceLT, Nat.reduceLeDiff, Nat.reduceAdd, Nat.reduceMul, Int.reduceToNat, Nat.reduceMod, Int.cast_ofNat_Int, Int.reduceBEq, Int.reduceBNe, Int.reduceLE, Int.reduceLT, Int.reduceGT, Int.reduceGE, Int.zero_lt_one, Int.le_refl, and_self, Int.toNat_natCast, q0])
  refine call_p hC 1000 rfl (by kernel_rfl) (fun w' hB => value_Bad _ w') ?_
  (try simp (config := {maxSteps := 4000000}) only [go_sem, Nat.reduceBEq, Nat.reduceLT, Nat.reduceLeDiff, Nat.reduceAdd, Nat.reduceMul, Int.reduceToNat, Nat.reduceMod, Int.cast_ofNat_Int, Int.reduceBEq, Int.reduceBNe, Int.reduceLE, Int.reduceLT, Int.reduceGT, Int.reduceGE, Int.zero_lt_one, Int.le_refl, and_self, Int.toNat_natCast])
  exact ⟨_, ⟨badV 2, true, rfl, fun _ => badV_good 2, fun e => by cases e⟩, rfl⟩
  have q0' := of_decide_eq_false q0
  (try simp (config := {maxSteps := 4000000}) only [go_sem, Nat.reduceBEq, Nat.reduceLT, Nat.reduceLeDiff, Nat.reduceAdd, Nat.reduceMul, Int.reduceToNat, Nat.reduceMod, Int.cast_ofNat_Int, Int.reduceBEq, Int.reduceBNe, Int.reduceLE, Int.reduceLT, Int.reduceGT, Int.reduceGE, Int.zero_lt_one, Int.le_refl, and_self, Int.toNat_natCast, q0])
  refine br (fun q1 => ?_) fun q1 => ?_
  have q1' := of_decide_eq_true q1
  (try simp (config := {maxSteps := 4000000}) only [go_sem, Nat.reduceBEq, Nat.reduceLT, Nat.reduceLeDiff, Nat.reduceAdd, Nat.reduceMul, Int.reduceToNat, Nat.reduceMod, Int.cast_ofNat_Int, Int.reduceBEq, Int.reduceBNe, Int.reduceLE, Int.reduceLT, Int.reduceGT, Int.reduceGE, Int.zero_lt_one, Int.le_refl, and_self, Int.toNat_natCast, q1])
  refine call_p hC 1000 rfl (by kernel_rfl) (fun w' hB => value_Bad _ w') ?_
  (try simp (config := {maxSteps := 4000000}) only [go_sem, Nat.reduceBEq, Nat.reduceLT, Nat.reduceLeDiff, Nat.reduceAdd, Nat.reduceMul, Int.reduceToNat, Nat.reduceMod, Int.cast_ofNat_Int, Int.reduceBEq, Int.reduceBNe, Int.reduceLE, Int.reduceLT, Int.reduceGT, Int.reduceGE, Int.zero_lt_one, Int.le_refl, and_self, Int.toNat_natCast])
  exact ⟨_, ⟨badV 2, true, rfl, fun _ => badV_good 2, fun e => by cases e⟩, rfl⟩
  have q1' := of_decide_eq_false q1
  (try simp (config := {maxSteps := 4000000}) only [go_sem, Nat.reduceBEq, Nat.reduceLT, Nat.reduceLeDiff, Nat.reduceAdd, Nat.reduceMul, Int.reduceToNat, Nat.reduceMod, Int.cast_ofNat_Int, Int.reduceBEq, Int.reduceBNe, Int.reduceLE, Int.reduceLT, Int.reduceGT, Int.reduceGE, Int.zero_lt_one, Int.le_refl, and_self, Int.toNat_natCast, q1])
  rotate_left
  refine call_g hC 1000 (by kernel_rfl) (fun r' w' hI => ?_) fun v hv => ?_
  · simp only [dens, SV.den]; exact lines_l _ xs _ 1 (by decide) w' (h.below hI.below) (hg.below hI.below) (by omega) (by omega) (own_prev hI rfl)
  (try simp (config := {maxSteps := 4000000}) only [go_sem, Nat.reduceBEq, Nat.reduceLT, Nat.reduceLeDiff, Nat.reduceAdd, Nat.reduceMul, Int.reduceToNat, Nat.reduceMod, Int.cast_ofNat_Int, Int.reduceBEq, Int.reduceBNe, Int.reduceLE, Int.reduceLT, Int.reduceGT, Int.reduceGE, Int.zero_lt_one, Int.le_refl, and_self, Int.toNat_natCast])
  exact ⟨_, ⟨v, true, rfl, fun _ => hv, fun e => by cases e⟩, rfl⟩
theorem call_XLOOKUP (sl : Value) (xs : List A) (w : World) (h : IsAreas w sl xs) (hg : Glob w) : Calls Try.prog 7 #[.string ⟨#[88, 76, 79, 79, 75, 85, 80]⟩, sl] w (RetP w CallOK) := by
  have h' := h
  obtain ⟨ao, cap, rfl, hc1, hc2, _⟩ := h'
  refine walk tabOK mixedOK 1000 [.v (.string ⟨#[88, 76, 79, 79, 75, 85, 80]⟩), .v (.slice ao xs.length cap)] vok_p Try.func7 rfl Try.ntmps7 (by rw [Try.results7]) rfl rfl fun hC => ?_
  (try simp (config := {maxSteps := 4000000}) only [go_sem, Nat.reduceBEq, Nat.reduceLT, Nat.reduceLeDiff, Nat.reduceAdd, Nat.reduceMul, Int.reduceToNat, Nat.reduceMod, Int.cast_ofNat_Int, Int.reduceBEq, Int.reduceBNe, Int.reduceLE, Int.reduceLT, Int.reduceGT, Int.reduceGE, Int.zero_lt_one, Int.le_refl, and_self, Int.toNat_natCast])
  rotate_left
  refine callb_r hC 1000 (.tup [.fn (.func 34) [] [.ptr 1 0], .v (.int .i64 3), .v (.int .i64 4)]) [.v (.int .i64 0)] 3 rfl (by kernel_rfl) rfl rfl (fun r => by simp [SV.den, dens]) (fun r => by simp [SV.den, dens]) (fun w' hB => find_XLOOKUP w') ?_
  (try simp (config := {maxSteps := 4000000}) only [go_sem, Nat.reduceBEq, Nat.reduceLT, Nat.reduceLeDiff, Nat.reduceAdd, Nat.reduceMul, Int.reduceToNat, Nat.reduceMod, Int.cast_ofNat_Int, Int.reduceBEq, Int.reduceBNe, Int.reduceLE, Int.reduceLT, Int.reduceGT, Int.reduceGE, Int.zero_lt_one, Int.le_refl, and_self, Int.toNat_natCast])
  refine br (fun q0 => ?_) fun q0 => ?_
  have q0' := of_decide_eq_true q0
  (try simp (config := {maxSteps := 4000000}) only [go_sem, Nat.reduceBEq, Nat.reduceLT, Nat.reduceLeDiff, Nat.reduceAdd, Nat.reduceMul, Int.reduceToNat, Nat.reduceMod, Int.cast_ofNat_Int, Int.reduceBEq, Int.reduceBNe, Int.reduceLE, Int.reduceLT, Int.reduceGT, Int.reduceGE, Int.zero_lt_one, Int.le_refl, and_self, Int.toNat_natCast, q0])
  refine call_p hC 1000 rfl (by kernel_rfl) (fun w' hB => value_Bad _ w') ?_
  (try simp (config := {maxSteps := 4000000}) only [go_sem, Nat.reduceBEq, Nat.reduceLT, Nat.reduceLeDiff, Nat.reduceAdd, Nat.reduceMul, Int.reduceToNat, Nat.reduceMod, Int.cast_ofNat_Int, Int.reduceBEq, Int.reduceBNe, Int.reduceLE, Int.reduceLT, Int.reduceGT, Int.reduceGE, Int.zero_lt_one, Int.le_refl, and_self, Int.toNat_natCast])
  exact ⟨_, ⟨badV 2, true, rfl, fun _ => badV_good 2, fun e => by cases e⟩, rfl⟩
  have q0' := of_decide_eq_false q0
  (try simp (config := {maxSteps := 4000000}) only [go_sem, Nat.reduceBEq, Nat.reduceLT, Nat.reduceLeDiff, Nat.reduceAdd, Nat.reduceMul, Int.reduceToNat, Nat.reduceMod, Int.cast_ofNat_Int, Int.reduceBEq, Int.reduceBNe, Int.reduceLE, Int.reduceLT, Int.reduceGT, Int.reduceGE, Int.zero_lt_one, Int.le_refl, and_self, Int.toNat_natCast, q0])
  refine br (fun q1 => ?_) fun q1 => ?_
  have q1' := of_decide_eq_true q1
  (try simp (config := {maxSteps := 4000000}) only [go_sem, Nat.reduceBEq, Nat.reduceLT, Nat.reduceLeDiff, Nat.reduceAdd, Nat.reduceMul, Int.reduceToNat, Nat.reduceMod, Int.cast_ofNat_Int, Int.reduceBEq, Int.reduceBNe, Int.reduceLE, Int.reduceLT, Int.reduceGT, Int.reduceGE, Int.zero_lt_one, Int.le_refl, and_self, Int.toNat_natCast, q1])
  refine call_p hC 1000 rfl (by kernel_rfl) (fun w' hB => value_Bad _ w') ?_
  (try simp (config := {maxSteps := 4000000}) only [go_sem, Nat.reduceBEq, Nat.reduceLT, Nat.reduceLeDiff, Nat.reduceAdd, Nat.reduceMul, Int.reduceToNat, Nat.reduceMod, Int.cast_ofNat_Int, Int.reduceBEq, Int.reduceBNe, Int.reduceLE, Int.reduceLT, Int.reduceGT, Int.reduceGE, Int.zero_lt_one, Int.le_refl, and_self, Int.toNat_natCast])
  exact ⟨_, ⟨badV 2, true, rfl, fun _ => badV_good 2, fun e => by cases e⟩, rfl⟩
  have q1' := of_decide_eq_false q1
  (try simp (config := {maxSteps := 4000000}) only [go_sem, Nat.reduceBEq, Nat.reduceLT, Nat.reduceLeDiff, Nat.reduceAdd, Nat.reduceMul, Int.reduceToNat, Nat.reduceMod, Int.cast_ofNat_Int, Int.reduceBEq, Int.reduceBNe, Int.reduceLE, Int.reduceLT, Int.reduceGT, Int.reduceGE, Int.zero_lt_one, Int.le_refl, and_self, Int.toNat_natCast, q1])
  rotate_left
  refine call_g hC 1000 (by kernel_rfl) (fun r' w' hI => ?_) fun v hv => ?_
  · simp only [dens, SV.den]; exact lines_l _ xs _ 0 (by decide) w' (h.below hI.below) (hg.below hI.below) (by omega) (by omega) (own_prev hI rfl)
  (try simp (config := {maxSteps := 4000000}) only [go_sem, Nat.reduceBEq, Nat.reduceLT, Nat.reduceLeDiff, Nat.reduceAdd, Nat.reduceMul, Int.reduceToNat, Nat.reduceMod, Int.cast_ofNat_Int, Int.reduceBEq, Int.reduceBNe, Int.reduceLE, Int.reduceLT, Int.reduceGT, Int.reduceGE, Int.zero_lt_one, Int.le_refl, and_self, Int.toNat_natCast])
  exact ⟨_, ⟨v, true, rfl, fun _ => hv, fun e => by cases e⟩, rfl⟩
theorem call_VLOOKUP (sl : Value) (xs : List A) (w : World) (h : IsAreas w sl xs) (hg : Glob w) : Calls Try.prog 7 #[.string ⟨#[86, 76, 79, 79, 75, 85, 80]⟩, sl] w (RetP w CallOK) := by
  have h' := h
  obtain ⟨ao, cap, rfl, hc1, hc2, _⟩ := h'
  refine walk tabOK mixedOK 1000 [.v (.string ⟨#[86, 76, 79, 79, 75, 85, 80]⟩), .v (.slice ao xs.length cap)] vok_p Try.func7 rfl Try.ntmps7 (by rw [Try.results7]) rfl rfl fun hC => ?_
  (try simp (config := {maxSteps := 4000000}) only [go_sem, Nat.reduceBEq, Nat.reduceLT, Nat.reduceLeDiff, Nat.reduceAdd, Nat.reduceMul, Int.reduceToNat, Nat.reduceMod, Int.cast_ofNat_Int, Int.reduceBEq, Int.reduceBNe, Int.reduceLE, Int.reduceLT, Int.reduceGT, Int.reduceGE, Int.zero_lt_one, Int.le_refl, and_self, Int.toNat_natCast])
  rotate_left
  refine callb_r hC 1000 (.tup [.fn (.func 35) [] [.ptr 1 0], .v (.int .i64 3), .v (.int .i64 4)]) [.v (.bool true)] 4 rfl (by kernel_rfl) rfl rfl (fun r => by simp [SV.den, dens]) (fun r => by simp [SV.den, dens]) (fun w' hB => find_VLOOKUP w') ?_
  (try simp (config := {maxSteps := 4000000}) only [go_sem, Nat.reduceBEq, Nat.reduceLT, Nat.reduceLeDiff, Nat.reduceAdd, Nat.reduceMul, Int.reduceToNat, Nat.reduceMod, Int.cast_ofNat_Int, Int.reduceBEq, Int.reduceBNe, Int.reduceLE, Int.reduceLT, Int.reduceGT, Int.reduceGE, Int.zero_lt_one, Int.le_refl, and_self, Int.toNat_natCast])
  refine br (fun q0 => ?_) fun q0 => ?_
  have q0' := of_decide_eq_true q0
  (try simp (config := {maxSteps := 4000000}) only [go_sem, Nat.reduceBEq, Nat.reduceLT, Nat.reduceLeDiff, Nat.reduceAdd, Nat.reduceMul, Int.reduceToNat, Nat.reduceMod, Int.cast_ofNat_Int, Int.reduceBEq, Int.reduceBNe, Int.reduceLE, Int.reduceLT, Int.reduceGT, Int.reduceGE, Int.zero_lt_one, Int.le_refl, and_self, Int.toNat_natCast, q0])
  refine call_p hC 1000 rfl (by kernel_rfl) (fun w' hB => value_Bad _ w') ?_
  (try simp (config := {maxSteps := 4000000}) only [go_sem, Nat.reduceBEq, Nat.reduceLT, Nat.reduceLeDiff, Nat.reduceAdd, Nat.reduceMul, Int.reduceToNat, Nat.reduceMod, Int.cast_ofNat_Int, Int.reduceBEq, Int.reduceBNe, Int.reduceLE, Int.reduceLT, Int.reduceGT, Int.reduceGE, Int.zero_lt_one, Int.le_refl, and_self, Int.toNat_natCast])
  exact ⟨_, ⟨badV 2, true, rfl, fun _ => badV_good 2, fun e => by cases e⟩, rfl⟩
  have q0' := of_decide_eq_false q0
  (try simp (config := {maxSteps := 4000000}) only [go_sem, Nat.reduceBEq, Nat.reduceLT, Nat.reduceLeDiff, Nat.reduceAdd, Nat.reduceMul, Int.reduceToNat, Nat.reduceMod, Int.cast_ofNat_Int, Int.reduceBEq, Int.reduceBNe, Int.reduceLE, Int.reduceLT, Int.reduceGT, Int.reduceGE, Int.zero_lt_one, Int.le_refl, and_self, Int.toNat_natCast, q0])
  refine br (fun q1 => ?_) fun q1 => ?_
  have q1' := of_decide_eq_true q1
  (try simp (config := {maxSteps := 4000000}) only [go_sem, Nat.reduceBEq, Nat.reduceLT, Nat.reduceLeDiff, Nat.reduceAdd, Nat.reduceMul, Int.reduceToNat, Nat.reduceMod, Int.cast_ofNat_Int, Int.reduceBEq, Int.reduceBNe, Int.reduceLE, Int.reduceLT, Int.reduceGT, Int.reduceGE, Int.zero_lt_one, Int.le_refl, and_self, Int.toNat_natCast, q1])
  refine call_p hC 1000 rfl (by kernel_rfl) (fun w' hB => value_Bad _ w') ?_
  (try simp (config := {maxSteps := 4000000}) only [go_sem, Nat.reduceBEq, Nat.reduceLT, Nat.reduceLeDiff, Nat.reduceAdd, Nat.reduceMul, Int.reduceToNat, Nat.reduceMod, Int.cast_ofNat_Int, Int.reduceBEq, Int.reduceBNe, Int.reduceLE, Int.reduceLT, Int.reduceGT, Int.reduceGE, Int.zero_lt_one, Int.le_refl, and_self, Int.toNat_natCast])
  exact ⟨_, ⟨badV 2, true, rfl, fun _ => badV_good 2, fun e => by cases e⟩, rfl⟩
  have q1' := of_decide_eq_false q1
  (try simp (config := {maxSteps := 4000000}) only [go_sem, Nat.reduceBEq, Nat.reduceLT, Nat.reduceLeDiff, Nat.reduceAdd, Nat.reduceMul, Int.reduceToNat, Nat.reduceMod, Int.cast_ofNat_Int, Int.reduceBEq, Int.reduceBNe, Int.reduceLE, Int.reduceLT, Int.reduceGT, Int.reduceGE, Int.zero_lt_one, Int.le_refl, and_self, Int.toNat_natCast, q1])
  rotate_left
  refine call_g hC 1000 (by kernel_rfl) (fun r' w' hI => ?_) fun v hv => ?_
  · simp only [dens, SV.den]; exact table_l _ xs _ true w' (h.below hI.below) (hg.below hI.below) (by omega) (by omega) (own_prev hI rfl)
  (try simp (config := {maxSteps := 4000000}) only [go_sem, Nat.reduceBEq, Nat.reduceLT, Nat.reduceLeDiff, Nat.reduceAdd, Nat.reduceMul, Int.reduceToNat, Nat.reduceMod, Int.cast_ofNat_Int, Int.reduceBEq, Int.reduceBNe, Int.reduceLE, Int.reduceLT, Int.reduceGT, Int.reduceGE, Int.zero_lt_one, Int.le_refl, and_self, Int.toNat_natCast])
  exact ⟨_, ⟨v, true, rfl, fun _ => hv, fun e => by cases e⟩, rfl⟩
theorem call_HLOOKUP (sl : Value) (xs : List A) (w : World) (h : IsAreas w sl xs) (hg : Glob w) : Calls Try.prog 7 #[.string ⟨#[72, 76, 79, 79, 75, 85, 80]⟩, sl] w (RetP w CallOK) := by
  have h' := h
  obtain ⟨ao, cap, rfl, hc1, hc2, _⟩ := h'
  refine walk tabOK mixedOK 1000 [.v (.string ⟨#[72, 76, 79, 79, 75, 85, 80]⟩), .v (.slice ao xs.length cap)] vok_p Try.func7 rfl Try.ntmps7 (by rw [Try.results7]) rfl rfl fun hC => ?_
  (try simp (config := {maxSteps := 4000000}) only [go_sem, Nat.reduceBEq, Nat.reduceLT, Nat.reduceLeDiff, Nat.reduceAdd, Nat.reduceMul, Int.reduceToNat, Nat.reduceMod, Int.cast_ofNat_Int, Int.reduceBEq, Int.reduceBNe, Int.reduceLE, Int.reduceLT, Int.reduceGT, Int.reduceGE, Int.zero_lt_one, Int.le_refl, and_self, Int.toNat_natCast])
  rotate_left
  refine callb_r hC 1000 (.tup [.fn (.func 35) [] [.ptr 1 0], .v (.int .i64 3), .v (.int .i64 4)]) [.v (.bool false)] 4 rfl (by kernel_rfl) rfl rfl (fun r => by simp [SV.den, dens]) (fun r => by simp [SV.den, dens]) (fun w' hB => find_HLOOKUP w') ?_
  (try simp (config := {maxSteps := 4000000}) only [go_sem, Nat.reduceBEq, Nat.reduceLT, Nat.reduceLeDiff, Nat.reduceAdd, Nat.reduceMul, Int.reduceToNat, Nat.reduceMod, Int.cast_ofNat_Int, Int.reduceBEq, Int.reduceBNe, Int.reduceLE, Int.reduceLT, Int.reduceGT, Int.reduceGE, Int.zero_lt_one, Int.le_refl, and_self, Int.toNat_natCast])
  refine br (fun q0 => ?_) fun q0 => ?_
  have q0' := of_decide_eq_true q0
  (try simp (config := {maxSteps := 4000000}) only [go_sem, Nat.reduceBEq, Nat.reduceLT, Nat.reduceLeDiff, Nat.reduceAdd, Nat.reduceMul, Int.reduceToNat, Nat.reduceMod, Int.cast_ofNat_Int, Int.reduceBEq, Int.reduceBNe, Int.reduceLE, Int.reduceLT, Int.reduceGT, Int.reduceGE, Int.zero_lt_one, Int.le_refl, and_self, Int.toNat_natCast, q0])
  refine call_p hC 1000 rfl (by kernel_rfl) (fun w' hB => value_Bad _ w') ?_
  (try simp (config := {maxSteps := 4000000}) only [go_sem, Nat.reduceBEq, Nat.reduceLT, Nat.reduceLeDiff, Nat.reduceAdd, Nat.reduceMul, Int.reduceToNat, Nat.reduceMod, Int.cast_ofNat_Int, Int.reduceBEq, Int.reduceBNe, Int.reduceLE, Int.reduceLT, Int.reduceGT, Int.reduceGE, Int.zero_lt_one, Int.le_refl, and_self, Int.toNat_natCast])
  exact ⟨_, ⟨badV 2, true, rfl, fun _ => badV_good 2, fun e => by cases e⟩, rfl⟩
  have q0' := of_decide_eq_false q0
  (try simp (config := {maxSteps := 4000000}) only [go_sem, Nat.reduceBEq, Nat.reduceLT, Nat.reduceLeDiff, Nat.reduceAdd, Nat.reduceMul, Int.reduceToNat, Nat.reduceMod, Int.cast_ofNat_Int, Int.reduceBEq, Int.reduceBNe, Int.reduceLE, Int.reduceLT, Int.reduceGT, Int.reduceGE, Int.zero_lt_one, Int.le_refl, and_self, Int.toNat_natCast, q0])
  refine br (fun q1 => ?_) fun q1 => ?_
  have q1' := of_decide_eq_true q1
  (try simp (config := {maxSteps := 4000000}) only [go_sem, Nat.reduceBEq, Nat.reduceLT, Nat.reduceLeDiff, Nat.reduceAdd, Nat.reduceMul, Int.reduceToNat, Nat.reduceMod, Int.cast_ofNat_Int, Int.reduceBEq, Int.reduceBNe, Int.reduceLE, Int.reduceLT, Int.reduceGT, Int.reduceGE, Int.zero_lt_one, Int.le_refl, and_self, Int.toNat_natCast, q1])
  refine call_p hC 1000 rfl (by kernel_rfl) (fun w' hB => value_Bad _ w') ?_
  (try simp (config := {maxSteps := 4000000}) only [go_sem, Nat.reduceBEq, Nat.reduceLT, Nat.reduceLeDiff, Nat.reduceAdd, Nat.reduceMul, Int.reduceToNat, Nat.reduceMod, Int.cast_ofNat_Int, Int.reduceBEq, Int.reduceBNe, Int.reduceLE, Int.reduceLT, Int.reduceGT, Int.reduceGE, Int.zero_lt_one, Int.le_refl, and_self, Int.toNat_natCast])
  exact ⟨_, ⟨badV 2, true, rfl, fun _ => badV_good 2, fun e => by cases e⟩, rfl⟩
  have q1' := of_decide_eq_false q1
  (try simp (config := {maxSteps := 4000000}) only [go_sem, Nat.reduceBEq, Nat.reduceLT, Nat.reduceLeDiff, Nat.reduceAdd, Nat.reduceMul, Int.reduceToNat, Nat.reduceMod, Int.cast_ofNat_Int, Int.reduceBEq, Int.reduceBNe, Int.reduceLE, Int.reduceLT, Int.reduceGT, Int.reduceGE, Int.zero_lt_one, Int.le_refl, and_self, Int.toNat_natCast, q1])
  rotate_left
  refine call_g hC 1000 (by kernel_rfl) (fun r' w' hI => ?_) fun v hv => ?_
  · simp only [dens, SV.den]; exact table_l _ xs _ false w' (h.below hI.below) (hg.below hI.below) (by omega) (by omega) (own_prev hI rfl)
  (try simp (config := {maxSteps := 4000000}) only [go_sem, Nat.reduceBEq, Nat.reduceLT, Nat.reduceLeDiff, Nat.reduceAdd, Nat.reduceMul, Int.reduceToNat, Nat.reduceMod, Int.cast_ofNat_Int, Int.reduceBEq, Int.reduceBNe, Int.reduceLE, Int.reduceLT, Int.reduceGT, Int.reduceGE, Int.zero_lt_one, Int.le_refl, and_self, Int.toNat_natCast])
  exact ⟨_, ⟨v, true, rfl, fun _ => hv, fun e => by cases e⟩, rfl⟩
theorem call_none (s : ByteArray) (sl : Value) (xs : List A) (w : World) (h : IsAreas w sl xs) (h0 : (s.toList == ByteArray.toList ⟨#[82, 79, 87, 83]⟩) = false) (h1 : (s.toList == ByteArray.toList ⟨#[67, 79, 76, 85, 77, 78, 83]⟩) = false) (h2 : (s.toList == ByteArray.toList ⟨#[67, 79, 85, 78, 84, 85, 78, 73, 81, 85, 69]⟩) = false) (h3 : (s.toList == ByteArray.toList ⟨#[73, 78, 68, 69, 88]⟩) = false) (h4 : (s.toList == ByteArray.toList ⟨#[67, 72, 79, 79, 83, 69]⟩) = false) (h5 : (s.toList == ByteArray.toList ⟨#[77, 65, 84, 67, 72]⟩) = false) (h6 : (s.toList == ByteArray.toList ⟨#[76, 79, 79, 75, 85, 80]⟩) = false) (h7 : (s.toList == ByteArray.toList ⟨#[88, 76, 79, 79, 75, 85, 80]⟩) = false) (h8 : (s.toList == ByteArray.toList ⟨#[86, 76, 79, 79, 75, 85, 80]⟩) = false) (h9 : (s.toList == ByteArray.toList ⟨#[72, 76, 79, 79, 75, 85, 80]⟩) = false) : Calls Try.prog 7 #[.string s, sl] w (Ret w (.tuple #[(.agg #[.int .i64 ((⟨0, 0, ⟨#[]⟩⟩ : V)).k, .int .i64 ((⟨0, 0, ⟨#[]⟩⟩ : V)).n, .string ((⟨0, 0, ⟨#[]⟩⟩ : V)).s]), .bool false])) := by
  have h' := h
  obtain ⟨ao, cap, rfl, hc1, hc2, _⟩ := h'
  refine walk tabOK mixedOK 1000 [.v (.string s), .v (.slice ao xs.length cap)] vok_ret Try.func7 rfl Try.ntmps7 (by rw [Try.results7]) rfl rfl fun hC => ?_
  (try simp (config := {maxSteps := 4000000}) only [go_sem, Nat.reduceBEq, Nat.reduceLT, Nat.reduceLeDiff, Nat.reduceAdd, Nat.reduceMul, Int.reduceToNat, Nat.reduceMod, Int.cast_ofNat_Int, Int.reduceBEq, Int.reduceBNe, Int.reduceLE, Int.reduceLT, Int.reduceGT, Int.reduceGE, Int.zero_lt_one, Int.le_refl, and_self, Int.toNat_natCast])
  refine call_p hC 1000 rfl (by kernel_rfl) (fun w' hB => find_none _ w' (by assumption) (by assumption) (by assumption) (by assumption) (by assumption) (by assumption) (by assumption) (by assumption) (by assumption) (by assumption)) ?_
  (try simp (config := {maxSteps := 4000000}) only [go_sem, Nat.reduceBEq, Nat.reduceLT, Nat.reduceLeDiff, Nat.reduceAdd, Nat.reduceMul, Int.reduceToNat, Nat.reduceMod, Int.cast_ofNat_Int, Int.reduceBEq, Int.reduceBNe, Int.reduceLE, Int.reduceLT, Int.reduceGT, Int.reduceGE, Int.zero_lt_one, Int.le_refl, and_self, Int.toNat_natCast])
end Go.Proofs.Ytpoiebkcjehheaa