/- lookup.table$1. -/
import Derived.Test.YtpoiebkcjehheaaOc
import Derived.Test.YtpoiebkcjehheaaSyJ
namespace Go.Proofs.Ytpoiebkcjehheaa
open Go.RowKit
set_option linter.unusedSimpArgs false
set_option linter.unusedVariables false
attribute [local go_sem] St.init enum sym St.ev lk lkD dstOf St.put effOf opt1 opt2 evs evp SV.cs List.map stepK_ask stepK_ok stepK_box stepK_row stepK_upd stepK_call cond_true cond_false pLoad pStore pFieldAddr pField pIndexAddr pIndex pAssert pMakeIface pExtract pLen pBin pEq aggL eqLL pInt pStr pUn pConv pCall pPick calleeOp Option.bind_some Option.bind_none TK.agg sameK ones SV.one lay List.set_cons_zero List.set_cons_succ List.getElem?_cons_zero List.getElem?_cons_succ List.getElem?_nil List.length_cons List.length_nil List.take_succ_cons List.take_zero List.drop_succ_cons List.drop_zero List.take_nil List.drop_nil condK_some popTo popK_some guardK_some sameB finK_one finK_nil finK_more resOf true_and and_true decide_true decide_false Bool.and_true Bool.true_and Bool.and_self Bool.not_true Bool.not_false Br_true Br_false Nat.zero_mul Int.toNat_zero Int.toNat_one Nat.one_mul fillS initGo Bool.or_false Bool.or_self fdPlace slPlace List.append_nil List.nil_append List.cons_append SV.pv pvs Option.some.injEq dstepK_ask dstepK_ok dstepK_box dstepK_row dstepK_upd dstepK_call dguardK_some symD accOf memB isS SV.names namesL tabs0 tabs1 tabs2 tabs3 tabs4 tabs5 tabs6 tabs7

theorem one_ToBool (a : A) (w : World) : Calls Try.prog 36 #[(.agg #[.int .i64 (a.one).k, .int .i64 (a.one).n, .string (a.one).s])] w (Ret w (.tuple #[.bool a.one.toBool.1, .int .i64 a.one.toBool.2])) :=
  value_ToBool a.one (by have := one_size a; omega) w
theorem mt_turned {C : Cx} (hP : C.P = Try.prog) {H : List (Nat × Blk)} {r : Va} {w' : World} (hI : Inv C.w0 r H w') {k : Nat} {T : TypeId} {a x : A} {ao ao1 : Option Addr} {c0 c1 : Nat} {how : Int} {kc : Int} (h1 : -1 ≤ how) (h2 : how ≤ 1)
    (i0 : IsArea C.w0 (.agg #[.int .i64 x.rows, .int .i64 x.cols, .slice ao x.l.length c0, .bool x.many]) x) (i1 : IsArea C.w0 (.agg #[.int .i64 a.rows, .int .i64 a.cols, .slice ao1 a.l.length c1, .bool a.many]) a) (ha : a.good = true)
    (hkc : kc = a.cols) (hk : lk H k = some (.cells [.fn (.func 37) [.agg [.v (.int .i64 a.rows), .v (.int .i64 a.cols), .v (.slice ao1 a.l.length c1), .v (.bool a.many)]] []] T)) :
    Calls C.P 32 (dens r [.agg [.v (.int .i64 x.rows), .v (.int .i64 x.cols), .v (.slice ao x.l.length c0), .v (.bool x.many)], .v (.int .i64 kc), .fn (.func 38) [] [.ptr k 0], .v (.int .i64 how)]).toArray w'
      (Ret w' (.tuple #[.int .i64 (mRes x.one a.cols.toNat (fun j => a.at 1 j) how).1, .int .i64 (mRes x.one a.cols.toNat (fun j => a.at 1 j) how).2])) := by
  rw [hP]
  have hcl : (a.cols.toNat : Int) = a.cols := by have := a.good_parts ha; omega
  have oc := own_cell hI (k := k) hk
  simp only [SV.den, dens] at oc
  refine Eq.mp (congrArg (fun z => Calls Try.prog 32 z w' _) ?_) (lookup_match (.agg (x.at4 ao c0).toArray) x a.cols.toNat 38 #[] #[.pointer (some ⟨r.lo k, 0, none⟩)] (fun j => a.at 1 j) how w' (i0.below hI.below) (by have := a.good_parts ha; omega) (by omega) (by omega) (by kernel_rfl) (fun j => by have := V.good_size (at_good ha 1 j); omega) fun j w2 h2 g1 g2 => ?_)
  · simp [dens, SV.den, A.at4, hcl, hkc]
  · exact table_key j _ 37 #[.agg (a.at4 ao1 c1).toArray] (a.at 1 j) w2 (by rw [World.cell?_of_block (w := w') (h2.block _ (World.block_lt_of_cell? w' _ oc)), oc]; simp [A.at4, SV.den, dens]) (by kernel_rfl) fun w3 h3 => grid_turned _ a j 1 w3 (((i1.below hI.below).below h2).below h3) ha
theorem mt_at {C : Cx} (hP : C.P = Try.prog) {H : List (Nat × Blk)} {r : Va} {w' : World} (hI : Inv C.w0 r H w') {k : Nat} {T : TypeId} {a x : A} {ao ao1 : Option Addr} {c0 c1 : Nat} {how : Int} {kc : Int} (h1 : -1 ≤ how) (h2 : how ≤ 1)
    (i0 : IsArea C.w0 (.agg #[.int .i64 x.rows, .int .i64 x.cols, .slice ao x.l.length c0, .bool x.many]) x) (i1 : IsArea C.w0 (.agg #[.int .i64 a.rows, .int .i64 a.cols, .slice ao1 a.l.length c1, .bool a.many]) a) (ha : a.good = true)
    (hkc : kc = a.rows) (hk : lk H k = some (.cells [.fn (.func 29) [.agg [.v (.int .i64 a.rows), .v (.int .i64 a.cols), .v (.slice ao1 a.l.length c1), .v (.bool a.many)]] []] T)) :
    Calls C.P 32 (dens r [.agg [.v (.int .i64 x.rows), .v (.int .i64 x.cols), .v (.slice ao x.l.length c0), .v (.bool x.many)], .v (.int .i64 kc), .fn (.func 38) [] [.ptr k 0], .v (.int .i64 how)]).toArray w'
      (Ret w' (.tuple #[.int .i64 (mRes x.one a.rows.toNat (fun j => a.at j 1) how).1, .int .i64 (mRes x.one a.rows.toNat (fun j => a.at j 1) how).2])) := by
  rw [hP]
  have hcl : (a.rows.toNat : Int) = a.rows := by have := a.good_parts ha; omega
  have oc := own_cell hI (k := k) hk
  simp only [SV.den, dens] at oc
  refine Eq.mp (congrArg (fun z => Calls Try.prog 32 z w' _) ?_) (lookup_match (.agg (x.at4 ao c0).toArray) x a.rows.toNat 38 #[] #[.pointer (some ⟨r.lo k, 0, none⟩)] (fun j => a.at j 1) how w' (i0.below hI.below) (by have := a.good_parts ha; omega) (by omega) (by omega) (by kernel_rfl) (fun j => by have := V.good_size (at_good ha j 1); omega) fun j w2 h2 g1 g2 => ?_)
  · simp [dens, SV.den, A.at4, hcl, hkc]
  · exact table_key j _ 29 #[.agg (a.at4 ao1 c1).toArray] (a.at j 1) w2 (by rw [World.cell?_of_block (w := w') (h2.block _ (World.block_lt_of_cell? w' _ oc)), oc]; simp [A.at4, SV.den, dens]) (by kernel_rfl) fun w3 h3 => grid_at _ a j 1 w3 (((i1.below hI.below).below h2).below h3) ha

theorem table_any (sl : Value) (x a i : A) (d : Option A) (g : Nat) (up : Bool) (w : World) (h : IsAreas w sl (x :: a :: i :: d.toList)) (hg : Glob w) (hw : w.cell? ⟨g, 0, none⟩ = some (.bool up)) :
    Calls Try.prog 35 #[sl, .pointer (some ⟨g, 0, none⟩)] w (RetG w) := by
  have hgl : g < w.heap.size := World.block_lt_of_cell? w _ hw
  have mh : memOf tab w 4 ⟨g, 0, none⟩ = some (.bool up) := mem_one rfl rfl hgl hw
  obtain ⟨b, off, cap, rfl, hb, hx⟩ := h.parts (by simp)
  obtain ⟨ao, c0, m0, i0⟩ := areas_mem hx hb 0 (by simp)
  obtain ⟨ao1, c1, m1, i1⟩ := areas_mem hx hb 1 (by simp)
  obtain ⟨ao2, c2, m2, i2⟩ := areas_mem hx hb 2 (by simp)
  obtain ⟨n, hn⟩ : ∃ n, n = (x :: a :: i :: d.toList).length := ⟨_, rfl⟩
  simp only [← hn]
  have hn2 : 3 ≤ n := by rw [hn]; simp
  simp only [List.getElem_cons_zero, List.getElem_cons_succ, Nat.zero_mul, Nat.one_mul, Nat.reduceMul, addr_add, Nat.add_zero] at m0 m1 m2 i0 i1 i2 ⊢
  refine walk tabOK mixedOK 1000 [.v (.slice (some ⟨b, off, none⟩) n cap), .v (.pointer (some ⟨g, 0, none⟩))] vok_g Try.func35 rfl Try.ntmps35 (by rw [Try.results35]) rfl rfl fun hC => ?_
  (try simp (config := {maxSteps := 4000000}) only [go_sem, Nat.reduceBEq, Nat.reduceLT, Nat.reduceLeDiff, Nat.reduceAdd, Nat.reduceMul, Int.reduceToNat, Nat.reduceMod, Int.cast_ofNat_Int, Int.reduceBEq, Int.reduceBNe, Int.reduceLE, Int.reduceLT, Int.reduceGT, Int.reduceGE, Int.zero_lt_one, Int.le_refl, and_self, Int.toNat_natCast, m0, m1, m2])
  refine ⟨by omega, ?_⟩
  (try simp (config := {maxSteps := 4000000}) only [go_sem, Nat.reduceBEq, Nat.reduceLT, Nat.reduceLeDiff, Nat.reduceAdd, Nat.reduceMul, Int.reduceToNat, Nat.reduceMod, Int.cast_ofNat_Int, Int.reduceBEq, Int.reduceBNe, Int.reduceLE, Int.reduceLT, Int.reduceGT, Int.reduceGE, Int.zero_lt_one, Int.le_refl, and_self, Int.toNat_natCast, m0, m1, m2])
  rotate_left
  by_cases ha : a.good = false
  · refine call_go hC 1000 (.tuple #[.slice none 0 0, .bool false]) (by kernel_rfl) (fun r' w' hI => goods1_no hI (a := a) (ao := ao1) (cap := c1) rfl i1 ha) ?_
    (try simp (config := {maxSteps := 4000000}) only [go_sem, Nat.reduceBEq, Nat.reduceLT, Nat.reduceLeDiff, Nat.reduceAdd, Nat.reduceMul, Int.reduceToNat, Nat.reduceMod, Int.cast_ofNat_Int, Int.reduceBEq, Int.reduceBNe, Int.reduceLE, Int.reduceLT, Int.reduceGT, Int.reduceGE, Int.zero_lt_one, Int.le_refl, and_self, Int.toNat_natCast])
    refine call_p hC 1000 rfl (by kernel_rfl) (fun w' hB => value_Bad _ w') ?_
    (try simp (config := {maxSteps := 4000000}) only [go_sem, Nat.reduceBEq, Nat.reduceLT, Nat.reduceLeDiff, Nat.reduceAdd, Nat.reduceMul, Int.reduceToNat, Nat.reduceMod, Int.cast_ofNat_Int, Int.reduceBEq, Int.reduceBNe, Int.reduceLE, Int.reduceLT, Int.reduceGT, Int.reduceGE, Int.zero_lt_one, Int.le_refl, and_self, Int.toNat_natCast])
    exact ⟨_, badV_good _, rfl⟩
  replace ha : a.good = true := by simpa using ha
  refine callb_go hC 1000 (.tup [.slu 2 0 1, .v (.bool true)]) (a.sv4 ao1 c1) 46 (by kernel_rfl) rfl rfl (fun r' w' hI => goods1_yes hI (a := a) (ao := ao1) (cap := c1) rfl i1 ha) ?_
  rcases d with _ | d
  · obtain rfl : n = 3 := by rw [hn]; rfl
    (try simp (config := {maxSteps := 4000000}) only [go_sem, Nat.reduceBEq, Nat.reduceLT, Nat.reduceLeDiff, Nat.reduceAdd, Nat.reduceMul, Int.reduceToNat, Nat.reduceMod, Int.cast_ofNat_Int, Int.reduceBEq, Int.reduceBNe, Int.reduceLE, Int.reduceLT, Int.reduceGT, Int.reduceGE, Int.zero_lt_one, Int.le_refl, and_self, Int.toNat_natCast, A.sv4, m0, m1, m2, mh])
    refine call_p hC 1000 rfl (by kernel_rfl) (fun w' hB => lookup_ints _ _ w' (i2.below hB) (hg.below hB)) ?_
    (try simp (config := {maxSteps := 4000000}) only [go_sem, Nat.reduceBEq, Nat.reduceLT, Nat.reduceLeDiff, Nat.reduceAdd, Nat.reduceMul, Int.reduceToNat, Nat.reduceMod, Int.cast_ofNat_Int, Int.reduceBEq, Int.reduceBNe, Int.reduceLE, Int.reduceLT, Int.reduceGT, Int.reduceGE, Int.zero_lt_one, Int.le_refl, and_self, Int.toNat_natCast, A.sv4, m0, m1, m2, mh])
    refine br (fun q0 => ?_) fun q0 => ?_
    have q0' := of_decide_eq_true q0
    (try simp (config := {maxSteps := 4000000}) only [go_sem, Nat.reduceBEq, Nat.reduceLT, Nat.reduceLeDiff, Nat.reduceAdd, Nat.reduceMul, Int.reduceToNat, Nat.reduceMod, Int.cast_ofNat_Int, Int.reduceBEq, Int.reduceBNe, Int.reduceLE, Int.reduceLT, Int.reduceGT, Int.reduceGE, Int.zero_lt_one, Int.le_refl, and_self, Int.toNat_natCast, q0, A.sv4, m0, m1, m2, mh])
    refine call_p hC 1000 rfl (by kernel_rfl) (fun w' hB => value_Bad _ w') ?_
    (try simp (config := {maxSteps := 4000000}) only [go_sem, Nat.reduceBEq, Nat.reduceLT, Nat.reduceLeDiff, Nat.reduceAdd, Nat.reduceMul, Int.reduceToNat, Nat.reduceMod, Int.cast_ofNat_Int, Int.reduceBEq, Int.reduceBNe, Int.reduceLE, Int.reduceLT, Int.reduceGT, Int.reduceGE, Int.zero_lt_one, Int.le_refl, and_self, Int.toNat_natCast, A.sv4, m0, m1, m2, mh])
    exact ⟨_, badV_good _, rfl⟩
    have q0' := of_decide_eq_false q0
    (try simp (config := {maxSteps := 4000000}) only [go_sem, Nat.reduceBEq, Nat.reduceLT, Nat.reduceLeDiff, Nat.reduceAdd, Nat.reduceMul, Int.reduceToNat, Nat.reduceMod, Int.cast_ofNat_Int, Int.reduceBEq, Int.reduceBNe, Int.reduceLE, Int.reduceLT, Int.reduceGT, Int.reduceGE, Int.zero_lt_one, Int.le_refl, and_self, Int.toNat_natCast, q0, A.sv4, m0, m1, m2, mh])
    refine draw_go hC ?_
    (try simp (config := {maxSteps := 4000000}) only [go_sem, Nat.reduceBEq, Nat.reduceLT, Nat.reduceLeDiff, Nat.reduceAdd, Nat.reduceMul, Int.reduceToNat, Nat.reduceMod, Int.cast_ofNat_Int, Int.reduceBEq, Int.reduceBNe, Int.reduceLE, Int.reduceLT, Int.reduceGT, Int.reduceGE, Int.zero_lt_one, Int.le_refl, and_self, Int.toNat_natCast, A.sv4, m0, m1, m2, mh])
    refine ⟨by kernel_rfl, go hC 1000 ?_⟩
    (try simp (config := {maxSteps := 4000000}) only [go_sem, Nat.reduceBEq, Nat.reduceLT, Nat.reduceLeDiff, Nat.reduceAdd, Nat.reduceMul, Int.reduceToNat, Nat.reduceMod, Int.cast_ofNat_Int, Int.reduceBEq, Int.reduceBNe, Int.reduceLE, Int.reduceLT, Int.reduceGT, Int.reduceGE, Int.zero_lt_one, Int.le_refl, and_self, Int.toNat_natCast, A.sv4, m0, m1, m2, mh])
    refine br (fun q1 => ?_) fun q1 => ?_
    (try simp (config := {maxSteps := 4000000}) only [go_sem, Nat.reduceBEq, Nat.reduceLT, Nat.reduceLeDiff, Nat.reduceAdd, Nat.reduceMul, Int.reduceToNat, Nat.reduceMod, Int.cast_ofNat_Int, Int.reduceBEq, Int.reduceBNe, Int.reduceLE, Int.reduceLT, Int.reduceGT, Int.reduceGE, Int.zero_lt_one, Int.le_refl, and_self, Int.toNat_natCast, q1, A.sv4, m0, m1, m2, mh])
    refine draw_go hC ?_
    (try simp (config := {maxSteps := 4000000}) only [go_sem, Nat.reduceBEq, Nat.reduceLT, Nat.reduceLeDiff, Nat.reduceAdd, Nat.reduceMul, Int.reduceToNat, Nat.reduceMod, Int.cast_ofNat_Int, Int.reduceBEq, Int.reduceBNe, Int.reduceLE, Int.reduceLT, Int.reduceGT, Int.reduceGE, Int.zero_lt_one, Int.le_refl, and_self, Int.toNat_natCast, A.sv4, m0, m1, m2, mh])
    refine ⟨by kernel_rfl, go hC 1000 ?_⟩
    (try simp (config := {maxSteps := 4000000}) only [go_sem, Nat.reduceBEq, Nat.reduceLT, Nat.reduceLeDiff, Nat.reduceAdd, Nat.reduceMul, Int.reduceToNat, Nat.reduceMod, Int.cast_ofNat_Int, Int.reduceBEq, Int.reduceBNe, Int.reduceLE, Int.reduceLT, Int.reduceGT, Int.reduceGE, Int.zero_lt_one, Int.le_refl, and_self, Int.toNat_natCast, A.sv4, m0, m1, m2, mh])
    refine br (fun q2 => ?_) fun q2 => ?_
    (try simp (config := {maxSteps := 4000000}) only [go_sem, Nat.reduceBEq, Nat.reduceLT, Nat.reduceLeDiff, Nat.reduceAdd, Nat.reduceMul, Int.reduceToNat, Nat.reduceMod, Int.cast_ofNat_Int, Int.reduceBEq, Int.reduceBNe, Int.reduceLE, Int.reduceLT, Int.reduceGT, Int.reduceGE, Int.zero_lt_one, Int.le_refl, and_self, Int.toNat_natCast, q2, A.sv4, m0, m1, m2, mh])
    refine br (fun q3 => ?_) fun q3 => ?_
    have q3' := of_decide_eq_true q3
    (try simp (config := {maxSteps := 4000000}) only [go_sem, Nat.reduceBEq, Nat.reduceLT, Nat.reduceLeDiff, Nat.reduceAdd, Nat.reduceMul, Int.reduceToNat, Nat.reduceMod, Int.cast_ofNat_Int, Int.reduceBEq, Int.reduceBNe, Int.reduceLE, Int.reduceLT, Int.reduceGT, Int.reduceGE, Int.zero_lt_one, Int.le_refl, and_self, Int.toNat_natCast, q3, A.sv4, m0, m1, m2, mh])
    refine call_p hC 1000 rfl (by kernel_rfl) (fun w' hB => value_Bad _ w') ?_
    (try simp (config := {maxSteps := 4000000}) only [go_sem, Nat.reduceBEq, Nat.reduceLT, Nat.reduceLeDiff, Nat.reduceAdd, Nat.reduceMul, Int.reduceToNat, Nat.reduceMod, Int.cast_ofNat_Int, Int.reduceBEq, Int.reduceBNe, Int.reduceLE, Int.reduceLT, Int.reduceGT, Int.reduceGE, Int.zero_lt_one, Int.le_refl, and_self, Int.toNat_natCast, A.sv4, m0, m1, m2, mh])
    exact ⟨_, badV_good _, rfl⟩
    have q3' := of_decide_eq_false q3
    (try simp (config := {maxSteps := 4000000}) only [go_sem, Nat.reduceBEq, Nat.reduceLT, Nat.reduceLeDiff, Nat.reduceAdd, Nat.reduceMul, Int.reduceToNat, Nat.reduceMod, Int.cast_ofNat_Int, Int.reduceBEq, Int.reduceBNe, Int.reduceLE, Int.reduceLT, Int.reduceGT, Int.reduceGE, Int.zero_lt_one, Int.le_refl, and_self, Int.toNat_natCast, q3, A.sv4, m0, m1, m2, mh])
    rotate_left
    (try simp (config := {maxSteps := 4000000}) only [go_sem, Nat.reduceBEq, Nat.reduceLT, Nat.reduceLeDiff, Nat.reduceAdd, Nat.reduceMul, Int.reduceToNat, Nat.reduceMod, Int.cast_ofNat_Int, Int.reduceBEq, Int.reduceBNe, Int.reduceLE, Int.reduceLT, Int.reduceGT, Int.reduceGE, Int.zero_lt_one, Int.le_refl, and_self, Int.toNat_natCast, q2, A.sv4, m0, m1, m2, mh])
    refine call_p hC 1000 rfl (by kernel_rfl) (fun w' hB => value_Bad _ w') ?_
    (try simp (config := {maxSteps := 4000000}) only [go_sem, Nat.reduceBEq, Nat.reduceLT, Nat.reduceLeDiff, Nat.reduceAdd, Nat.reduceMul, Int.reduceToNat, Nat.reduceMod, Int.cast_ofNat_Int, Int.reduceBEq, Int.reduceBNe, Int.reduceLE, Int.reduceLT, Int.reduceGT, Int.reduceGE, Int.zero_lt_one, Int.le_refl, and_self, Int.toNat_natCast, A.sv4, m0, m1, m2, mh])
    exact ⟨_, badV_good _, rfl⟩
    (try simp (config := {maxSteps := 4000000}) only [go_sem, Nat.reduceBEq, Nat.reduceLT, Nat.reduceLeDiff, Nat.reduceAdd, Nat.reduceMul, Int.reduceToNat, Nat.reduceMod, Int.cast_ofNat_Int, Int.reduceBEq, Int.reduceBNe, Int.reduceLE, Int.reduceLT, Int.reduceGT, Int.reduceGE, Int.zero_lt_one, Int.le_refl, and_self, Int.toNat_natCast, q1, A.sv4, m0, m1, m2, mh])
    refine br (fun q2 => ?_) fun q2 => ?_
    (try simp (config := {maxSteps := 4000000}) only [go_sem, Nat.reduceBEq, Nat.reduceLT, Nat.reduceLeDiff, Nat.reduceAdd, Nat.reduceMul, Int.reduceToNat, Nat.reduceMod, Int.cast_ofNat_Int, Int.reduceBEq, Int.reduceBNe, Int.reduceLE, Int.reduceLT, Int.reduceGT, Int.reduceGE, Int.zero_lt_one, Int.le_refl, and_self, Int.toNat_natCast, q2, A.sv4, m0, m1, m2, mh])
    refine br (fun q3 => ?_) fun q3 => ?_
    have q3' := of_decide_eq_true q3
    (try simp (config := {maxSteps := 4000000}) only [go_sem, Nat.reduceBEq, Nat.reduceLT, Nat.reduceLeDiff, Nat.reduceAdd, Nat.reduceMul, Int.reduceToNat, Nat.reduceMod, Int.cast_ofNat_Int, Int.reduceBEq, Int.reduceBNe, Int.reduceLE, Int.reduceLT, Int.reduceGT, Int.reduceGE, Int.zero_lt_one, Int.le_refl, and_self, Int.toNat_natCast, q3, A.sv4, m0, m1, m2, mh])
    refine call_p hC 1000 rfl (by kernel_rfl) (fun w' hB => value_Bad _ w') ?_
    (try simp (config := {maxSteps := 4000000}) only [go_sem, Nat.reduceBEq, Nat.reduceLT, Nat.reduceLeDiff, Nat.reduceAdd, Nat.reduceMul, Int.reduceToNat, Nat.reduceMod, Int.cast_ofNat_Int, Int.reduceBEq, Int.reduceBNe, Int.reduceLE, Int.reduceLT, Int.reduceGT, Int.reduceGE, Int.zero_lt_one, Int.le_refl, and_self, Int.toNat_natCast, A.sv4, m0, m1, m2, mh])
    exact ⟨_, badV_good _, rfl⟩
    have q3' := of_decide_eq_false q3
    (try simp (config := {maxSteps := 4000000}) only [go_sem, Nat.reduceBEq, Nat.reduceLT, Nat.reduceLeDiff, Nat.reduceAdd, Nat.reduceMul, Int.reduceToNat, Nat.reduceMod, Int.cast_ofNat_Int, Int.reduceBEq, Int.reduceBNe, Int.reduceLE, Int.reduceLT, Int.reduceGT, Int.reduceGE, Int.zero_lt_one, Int.le_refl, and_self, Int.toNat_natCast, q3, A.sv4, m0, m1, m2, mh])
    rotate_left
    (try simp (config := {maxSteps := 4000000}) only [go_sem, Nat.reduceBEq, Nat.reduceLT, Nat.reduceLeDiff, Nat.reduceAdd, Nat.reduceMul, Int.reduceToNat, Nat.reduceMod, Int.cast_ofNat_Int, Int.reduceBEq, Int.reduceBNe, Int.reduceLE, Int.reduceLT, Int.reduceGT, Int.reduceGE, Int.zero_lt_one, Int.le_refl, and_self, Int.toNat_natCast, q2, A.sv4, m0, m1, m2, mh])
    refine call_p hC 1000 rfl (by kernel_rfl) (fun w' hB => value_Bad _ w') ?_
    (try simp (config := {maxSteps := 4000000}) only [go_sem, Nat.reduceBEq, Nat.reduceLT, Nat.reduceLeDiff, Nat.reduceAdd, Nat.reduceMul, Int.reduceToNat, Nat.reduceMod, Int.cast_ofNat_Int, Int.reduceBEq, Int.reduceBNe, Int.reduceLE, Int.reduceLT, Int.reduceGT, Int.reduceGE, Int.zero_lt_one, Int.le_refl, and_self, Int.toNat_natCast, A.sv4, m0, m1, m2, mh])
    exact ⟨_, badV_good _, rfl⟩
    · refine call_go hC 1000 (.tuple #[.int .i64 (mRes x.one a.cols.toNat (fun j => a.at 1 j) 1).1, .int .i64 (mRes x.one a.cols.toNat (fun j => a.at 1 j) 1).2]) (by kernel_rfl) (fun r' w' hI => mt_turned rfl hI (by omega) (by omega) i0 i1 ha rfl rfl) ?_
      (try simp (config := {maxSteps := 4000000}) only [go_sem, Nat.reduceBEq, Nat.reduceLT, Nat.reduceLeDiff, Nat.reduceAdd, Nat.reduceMul, Int.reduceToNat, Nat.reduceMod, Int.cast_ofNat_Int, Int.reduceBEq, Int.reduceBNe, Int.reduceLE, Int.reduceLT, Int.reduceGT, Int.reduceGE, Int.zero_lt_one, Int.le_refl, and_self, Int.toNat_natCast])
      refine br (fun q4 => ?_) fun q4 => ?_
      have q4' := of_decide_eq_true q4
      (try simp (config := {maxSteps := 4000000}) only [go_sem, Nat.reduceBEq, Nat.reduceLT, Nat.reduceLeDiff, Nat.reduceAdd, Nat.reduceMul, Int.reduceToNat, Nat.reduceMod, Int.cast_ofNat_Int, Int.reduceBEq, Int.reduceBNe, Int.reduceLE, Int.reduceLT, Int.reduceGT, Int.reduceGE, Int.zero_lt_one, Int.le_refl, and_self, Int.toNat_natCast, q4])
      refine call_p hC 1000 rfl (by kernel_rfl) (fun w' hB => value_Bad _ w') ?_
      (try simp (config := {maxSteps := 4000000}) only [go_sem, Nat.reduceBEq, Nat.reduceLT, Nat.reduceLeDiff, Nat.reduceAdd, Nat.reduceMul, Int.reduceToNat, Nat.reduceMod, Int.cast_ofNat_Int, Int.reduceBEq, Int.reduceBNe, Int.reduceLE, Int.reduceLT, Int.reduceGT, Int.reduceGE, Int.zero_lt_one, Int.le_refl, and_self, Int.toNat_natCast])
      exact ⟨_, badV_good _, rfl⟩
      have q4' := of_decide_eq_false q4
      (try simp (config := {maxSteps := 4000000}) only [go_sem, Nat.reduceBEq, Nat.reduceLT, Nat.reduceLeDiff, Nat.reduceAdd, Nat.reduceMul, Int.reduceToNat, Nat.reduceMod, Int.cast_ofNat_Int, Int.reduceBEq, Int.reduceBNe, Int.reduceLE, Int.reduceLT, Int.reduceGT, Int.reduceGE, Int.zero_lt_one, Int.le_refl, and_self, Int.toNat_natCast, q4])
      refine call_p hC 1000 rfl (by kernel_rfl) (fun w' hB => grid_turned _ _ _ _ w' (i1.below hB) (by assumption)) ?_
      (try simp (config := {maxSteps := 4000000}) only [go_sem, Nat.reduceBEq, Nat.reduceLT, Nat.reduceLeDiff, Nat.reduceAdd, Nat.reduceMul, Int.reduceToNat, Nat.reduceMod, Int.cast_ofNat_Int, Int.reduceBEq, Int.reduceBNe, Int.reduceLE, Int.reduceLT, Int.reduceGT, Int.reduceGE, Int.zero_lt_one, Int.le_refl, and_self, Int.toNat_natCast])
      exact ⟨_, at_good (by assumption) _ _, rfl⟩
    · refine call_go hC 1000 (.tuple #[.int .i64 (mRes x.one a.rows.toNat (fun j => a.at j 1) 1).1, .int .i64 (mRes x.one a.rows.toNat (fun j => a.at j 1) 1).2]) (by kernel_rfl) (fun r' w' hI => mt_at rfl hI (by omega) (by omega) i0 i1 ha rfl rfl) ?_
      (try simp (config := {maxSteps := 4000000}) only [go_sem, Nat.reduceBEq, Nat.reduceLT, Nat.reduceLeDiff, Nat.reduceAdd, Nat.reduceMul, Int.reduceToNat, Nat.reduceMod, Int.cast_ofNat_Int, Int.reduceBEq, Int.reduceBNe, Int.reduceLE, Int.reduceLT, Int.reduceGT, Int.reduceGE, Int.zero_lt_one, Int.le_refl, and_self, Int.toNat_natCast])
      refine br (fun q4 => ?_) fun q4 => ?_
      have q4' := of_decide_eq_true q4
      (try simp (config := {maxSteps := 4000000}) only [go_sem, Nat.reduceBEq, Nat.reduceLT, Nat.reduceLeDiff, Nat.reduceAdd, Nat.reduceMul, Int.reduceToNat, Nat.reduceMod, Int.cast_ofNat_Int, Int.reduceBEq, Int.reduceBNe, Int.reduceLE, Int.reduceLT, Int.reduceGT, Int.reduceGE, Int.zero_lt_one, Int.le_refl, and_self, Int.toNat_natCast, q4])
      refine call_p hC 1000 rfl (by kernel_rfl) (fun w' hB => value_Bad _ w') ?_
      (try simp (config := {maxSteps := 4000000}) only [go_sem, Nat.reduceBEq, Nat.reduceLT, Nat.reduceLeDiff, Nat.reduceAdd, Nat.reduceMul, Int.reduceToNat, Nat.reduceMod, Int.cast_ofNat_Int, Int.reduceBEq, Int.reduceBNe, Int.reduceLE, Int.reduceLT, Int.reduceGT, Int.reduceGE, Int.zero_lt_one, Int.le_refl, and_self, Int.toNat_natCast])
      exact ⟨_, badV_good _, rfl⟩
      have q4' := of_decide_eq_false q4
      (try simp (config := {maxSteps := 4000000}) only [go_sem, Nat.reduceBEq, Nat.reduceLT, Nat.reduceLeDiff, Nat.reduceAdd, Nat.reduceMul, Int.reduceToNat, Nat.reduceMod, Int.cast_ofNat_Int, Int.reduceBEq, Int.reduceBNe, Int.reduceLE, Int.reduceLT, Int.reduceGT, Int.reduceGE, Int.zero_lt_one, Int.le_refl, and_self, Int.toNat_natCast, q4])
      refine call_p hC 1000 rfl (by kernel_rfl) (fun w' hB => grid_at _ _ _ _ w' (i1.below hB) (by assumption)) ?_
      (try simp (config := {maxSteps := 4000000}) only [go_sem, Nat.reduceBEq, Nat.reduceLT, Nat.reduceLeDiff, Nat.reduceAdd, Nat.reduceMul, Int.reduceToNat, Nat.reduceMod, Int.cast_ofNat_Int, Int.reduceBEq, Int.reduceBNe, Int.reduceLE, Int.reduceLT, Int.reduceGT, Int.reduceGE, Int.zero_lt_one, Int.le_refl, and_self, Int.toNat_natCast])
      exact ⟨_, at_good (by assumption) _ _, rfl⟩
  · obtain rfl : n = 4 := by rw [hn]; rfl
    obtain ⟨ao3, c3, m3, i3⟩ := areas_mem hx hb 3 (by simp)
    simp only [Option.toList, List.getElem_cons_zero, List.getElem_cons_succ, Nat.reduceMul, addr_add, Nat.add_zero] at m3 i3
    (try simp (config := {maxSteps := 4000000}) only [go_sem, Nat.reduceBEq, Nat.reduceLT, Nat.reduceLeDiff, Nat.reduceAdd, Nat.reduceMul, Int.reduceToNat, Nat.reduceMod, Int.cast_ofNat_Int, Int.reduceBEq, Int.reduceBNe, Int.reduceLE, Int.reduceLT, Int.reduceGT, Int.reduceGE, Int.zero_lt_one, Int.le_refl, and_self, Int.toNat_natCast, A.sv4, m0, m1, m2, m3, mh])
    refine call_p hC 1000 rfl (by kernel_rfl) (fun w' hB => lookup_ints _ _ w' (i2.below hB) (hg.below hB)) ?_
    (try simp (config := {maxSteps := 4000000}) only [go_sem, Nat.reduceBEq, Nat.reduceLT, Nat.reduceLeDiff, Nat.reduceAdd, Nat.reduceMul, Int.reduceToNat, Nat.reduceMod, Int.cast_ofNat_Int, Int.reduceBEq, Int.reduceBNe, Int.reduceLE, Int.reduceLT, Int.reduceGT, Int.reduceGE, Int.zero_lt_one, Int.le_refl, and_self, Int.toNat_natCast, A.sv4, m0, m1, m2, m3, mh])
    refine br (fun q0 => ?_) fun q0 => ?_
    have q0' := of_decide_eq_true q0
    (try simp (config := {maxSteps := 4000000}) only [go_sem, Nat.reduceBEq, Nat.reduceLT, Nat.reduceLeDiff, Nat.reduceAdd, Nat.reduceMul, Int.reduceToNat, Nat.reduceMod, Int.cast_ofNat_Int, Int.reduceBEq, Int.reduceBNe, Int.reduceLE, Int.reduceLT, Int.reduceGT, Int.reduceGE, Int.zero_lt_one, Int.le_refl, and_self, Int.toNat_natCast, q0, A.sv4, m0, m1, m2, m3, mh])
    refine call_p hC 1000 rfl (by kernel_rfl) (fun w' hB => value_Bad _ w') ?_
    (try simp (config := {maxSteps := 4000000}) only [go_sem, Nat.reduceBEq, Nat.reduceLT, Nat.reduceLeDiff, Nat.reduceAdd, Nat.reduceMul, Int.reduceToNat, Nat.reduceMod, Int.cast_ofNat_Int, Int.reduceBEq, Int.reduceBNe, Int.reduceLE, Int.reduceLT, Int.reduceGT, Int.reduceGE, Int.zero_lt_one, Int.le_refl, and_self, Int.toNat_natCast, A.sv4, m0, m1, m2, m3, mh])
    exact ⟨_, badV_good _, rfl⟩
    have q0' := of_decide_eq_false q0
    (try simp (config := {maxSteps := 4000000}) only [go_sem, Nat.reduceBEq, Nat.reduceLT, Nat.reduceLeDiff, Nat.reduceAdd, Nat.reduceMul, Int.reduceToNat, Nat.reduceMod, Int.cast_ofNat_Int, Int.reduceBEq, Int.reduceBNe, Int.reduceLE, Int.reduceLT, Int.reduceGT, Int.reduceGE, Int.zero_lt_one, Int.le_refl, and_self, Int.toNat_natCast, q0, A.sv4, m0, m1, m2, m3, mh])
    refine call_p hC 1000 rfl (by kernel_rfl) (fun w' hB => maths_One _ _ w' (i3.below hB)) ?_
    (try simp (config := {maxSteps := 4000000}) only [go_sem, Nat.reduceBEq, Nat.reduceLT, Nat.reduceLeDiff, Nat.reduceAdd, Nat.reduceMul, Int.reduceToNat, Nat.reduceMod, Int.cast_ofNat_Int, Int.reduceBEq, Int.reduceBNe, Int.reduceLE, Int.reduceLT, Int.reduceGT, Int.reduceGE, Int.zero_lt_one, Int.le_refl, and_self, Int.toNat_natCast, A.sv4, m0, m1, m2, m3, mh])
    refine call_p hC 1000 rfl (by kernel_rfl) (fun w' hB => one_ToBool _ w') ?_
    (try simp (config := {maxSteps := 4000000}) only [go_sem, Nat.reduceBEq, Nat.reduceLT, Nat.reduceLeDiff, Nat.reduceAdd, Nat.reduceMul, Int.reduceToNat, Nat.reduceMod, Int.cast_ofNat_Int, Int.reduceBEq, Int.reduceBNe, Int.reduceLE, Int.reduceLT, Int.reduceGT, Int.reduceGE, Int.zero_lt_one, Int.le_refl, and_self, Int.toNat_natCast, A.sv4, m0, m1, m2, m3, mh])
    refine br (fun q1 => ?_) fun q1 => ?_
    have q1' := of_decide_eq_true q1
    (try simp (config := {maxSteps := 4000000}) only [go_sem, Nat.reduceBEq, Nat.reduceLT, Nat.reduceLeDiff, Nat.reduceAdd, Nat.reduceMul, Int.reduceToNat, Nat.reduceMod, Int.cast_ofNat_Int, Int.reduceBEq, Int.reduceBNe, Int.reduceLE, Int.reduceLT, Int.reduceGT, Int.reduceGE, Int.zero_lt_one, Int.le_refl, and_self, Int.toNat_natCast, q1, A.sv4, m0, m1, m2, m3, mh])
    refine call_p hC 1000 rfl (by kernel_rfl) (fun w' hB => value_Bad _ w') ?_
    (try simp (config := {maxSteps := 4000000}) only [go_sem, Nat.reduceBEq, Nat.reduceLT, Nat.reduceLeDiff, Nat.reduceAdd, Nat.reduceMul, Int.reduceToNat, Nat.reduceMod, Int.cast_ofNat_Int, Int.reduceBEq, Int.reduceBNe, Int.reduceLE, Int.reduceLT, Int.reduceGT, Int.reduceGE, Int.zero_lt_one, Int.le_refl, and_self, Int.toNat_natCast, A.sv4, m0, m1, m2, m3, mh])
    exact ⟨_, badV_good _, rfl⟩
    have q1' := of_decide_eq_false q1
    (try simp (config := {maxSteps := 4000000}) only [go_sem, Nat.reduceBEq, Nat.reduceLT, Nat.reduceLeDiff, Nat.reduceAdd, Nat.reduceMul, Int.reduceToNat, Nat.reduceMod, Int.cast_ofNat_Int, Int.reduceBEq, Int.reduceBNe, Int.reduceLE, Int.reduceLT, Int.reduceGT, Int.reduceGE, Int.zero_lt_one, Int.le_refl, and_self, Int.toNat_natCast, q1, A.sv4, m0, m1, m2, m3, mh])
    refine br (fun q2 => ?_) fun q2 => ?_
    (try simp (config := {maxSteps := 4000000}) only [go_sem, Nat.reduceBEq, Nat.reduceLT, Nat.reduceLeDiff, Nat.reduceAdd, Nat.reduceMul, Int.reduceToNat, Nat.reduceMod, Int.cast_ofNat_Int, Int.reduceBEq, Int.reduceBNe, Int.reduceLE, Int.reduceLT, Int.reduceGT, Int.reduceGE, Int.zero_lt_one, Int.le_refl, and_self, Int.toNat_natCast, q2, A.sv4, m0, m1, m2, m3, mh])
    refine draw_go hC ?_
    (try simp (config := {maxSteps := 4000000}) only [go_sem, Nat.reduceBEq, Nat.reduceLT, Nat.reduceLeDiff, Nat.reduceAdd, Nat.reduceMul, Int.reduceToNat, Nat.reduceMod, Int.cast_ofNat_Int, Int.reduceBEq, Int.reduceBNe, Int.reduceLE, Int.reduceLT, Int.reduceGT, Int.reduceGE, Int.zero_lt_one, Int.le_refl, and_self, Int.toNat_natCast, A.sv4, m0, m1, m2, m3, mh])
    refine ⟨by kernel_rfl, go hC 1000 ?_⟩
    (try simp (config := {maxSteps := 4000000}) only [go_sem, Nat.reduceBEq, Nat.reduceLT, Nat.reduceLeDiff, Nat.reduceAdd, Nat.reduceMul, Int.reduceToNat, Nat.reduceMod, Int.cast_ofNat_Int, Int.reduceBEq, Int.reduceBNe, Int.reduceLE, Int.reduceLT, Int.reduceGT, Int.reduceGE, Int.zero_lt_one, Int.le_refl, and_self, Int.toNat_natCast, A.sv4, m0, m1, m2, m3, mh])
    refine br (fun q3 => ?_) fun q3 => ?_
    (try simp (config := {maxSteps := 4000000}) only [go_sem, Nat.reduceBEq, Nat.reduceLT, Nat.reduceLeDiff, Nat.reduceAdd, Nat.reduceMul, Int.reduceToNat, Nat.reduceMod, Int.cast_ofNat_Int, Int.reduceBEq, Int.reduceBNe, Int.reduceLE, Int.reduceLT, Int.reduceGT, Int.reduceGE, Int.zero_lt_one, Int.le_refl, and_self, Int.toNat_natCast, q3, A.sv4, m0, m1, m2, m3, mh])
    refine draw_go hC ?_
    (try simp (config := {maxSteps := 4000000}) only [go_sem, Nat.reduceBEq, Nat.reduceLT, Nat.reduceLeDiff, Nat.reduceAdd, Nat.reduceMul, Int.reduceToNat, Nat.reduceMod, Int.cast_ofNat_Int, Int.reduceBEq, Int.reduceBNe, Int.reduceLE, Int.reduceLT, Int.reduceGT, Int.reduceGE, Int.zero_lt_one, Int.le_refl, and_self, Int.toNat_natCast, A.sv4, m0, m1, m2, m3, mh])
    refine ⟨by kernel_rfl, go hC 1000 ?_⟩
    (try simp (config := {maxSteps := 4000000}) only [go_sem, Nat.reduceBEq, Nat.reduceLT, Nat.reduceLeDiff, Nat.reduceAdd, Nat.reduceMul, Int.reduceToNat, Nat.reduceMod, Int.cast_ofNat_Int, Int.reduceBEq, Int.reduceBNe, Int.reduceLE, Int.reduceLT, Int.reduceGT, Int.reduceGE, Int.zero_lt_one, Int.le_refl, and_self, Int.toNat_natCast, A.sv4, m0, m1, m2, m3, mh])
    refine br (fun q4 => ?_) fun q4 => ?_
    (try simp (config := {maxSteps := 4000000}) only [go_sem, Nat.reduceBEq, Nat.reduceLT, Nat.reduceLeDiff, Nat.reduceAdd, Nat.reduceMul, Int.reduceToNat, Nat.reduceMod, Int.cast_ofNat_Int, Int.reduceBEq, Int.reduceBNe, Int.reduceLE, Int.reduceLT, Int.reduceGT, Int.reduceGE, Int.zero_lt_one, Int.le_refl, and_self, Int.toNat_natCast, q4, A.sv4, m0, m1, m2, m3, mh])
    refine br (fun q5 => ?_) fun q5 => ?_
    have q5' := of_decide_eq_true q5
    (try simp (config := {maxSteps := 4000000}) only [go_sem, Nat.reduceBEq, Nat.reduceLT, Nat.reduceLeDiff, Nat.reduceAdd, Nat.reduceMul, Int.reduceToNat, Nat.reduceMod, Int.cast_ofNat_Int, Int.reduceBEq, Int.reduceBNe, Int.reduceLE, Int.reduceLT, Int.reduceGT, Int.reduceGE, Int.zero_lt_one, Int.le_refl, and_self, Int.toNat_natCast, q5, A.sv4, m0, m1, m2, m3, mh])
    refine call_p hC 1000 rfl (by kernel_rfl) (fun w' hB => value_Bad _ w') ?_
    (try simp (config := {maxSteps := 4000000}) only [go_sem, Nat.reduceBEq, Nat.reduceLT, Nat.reduceLeDiff, Nat.reduceAdd, Nat.reduceMul, Int.reduceToNat, Nat.reduceMod, Int.cast_ofNat_Int, Int.reduceBEq, Int.reduceBNe, Int.reduceLE, Int.reduceLT, Int.reduceGT, Int.reduceGE, Int.zero_lt_one, Int.le_refl, and_self, Int.toNat_natCast, A.sv4, m0, m1, m2, m3, mh])
    exact ⟨_, badV_good _, rfl⟩
    have q5' := of_decide_eq_false q5
    (try simp (config := {maxSteps := 4000000}) only [go_sem, Nat.reduceBEq, Nat.reduceLT, Nat.reduceLeDiff, Nat.reduceAdd, Nat.reduceMul, Int.reduceToNat, Nat.reduceMod, Int.cast_ofNat_Int, Int.reduceBEq, Int.reduceBNe, Int.reduceLE, Int.reduceLT, Int.reduceGT, Int.reduceGE, Int.zero_lt_one, Int.le_refl, and_self, Int.toNat_natCast, q5, A.sv4, m0, m1, m2, m3, mh])
    rotate_left
    (try simp (config := {maxSteps := 4000000}) only [go_sem, Nat.reduceBEq, Nat.reduceLT, Nat.reduceLeDiff, Nat.reduceAdd, Nat.reduceMul, Int.reduceToNat, Nat.reduceMod, Int.cast_ofNat_Int, Int.reduceBEq, Int.reduceBNe, Int.reduceLE, Int.reduceLT, Int.reduceGT, Int.reduceGE, Int.zero_lt_one, Int.le_refl, and_self, Int.toNat_natCast, q4, A.sv4, m0, m1, m2, m3, mh])
    refine call_p hC 1000 rfl (by kernel_rfl) (fun w' hB => value_Bad _ w') ?_
    (try simp (config := {maxSteps := 4000000}) only [go_sem, Nat.reduceBEq, Nat.reduceLT, Nat.reduceLeDiff, Nat.reduceAdd, Nat.reduceMul, Int.reduceToNat, Nat.reduceMod, Int.cast_ofNat_Int, Int.reduceBEq, Int.reduceBNe, Int.reduceLE, Int.reduceLT, Int.reduceGT, Int.reduceGE, Int.zero_lt_one, Int.le_refl, and_self, Int.toNat_natCast, A.sv4, m0, m1, m2, m3, mh])
    exact ⟨_, badV_good _, rfl⟩
    (try simp (config := {maxSteps := 4000000}) only [go_sem, Nat.reduceBEq, Nat.reduceLT, Nat.reduceLeDiff, Nat.reduceAdd, Nat.reduceMul, Int.reduceToNat, Nat.reduceMod, Int.cast_ofNat_Int, Int.reduceBEq, Int.reduceBNe, Int.reduceLE, Int.reduceLT, Int.reduceGT, Int.reduceGE, Int.zero_lt_one, Int.le_refl, and_self, Int.toNat_natCast, q3, A.sv4, m0, m1, m2, m3, mh])
    refine br (fun q4 => ?_) fun q4 => ?_
    (try simp (config := {maxSteps := 4000000}) only [go_sem, Nat.reduceBEq, Nat.reduceLT, Nat.reduceLeDiff, Nat.reduceAdd, Nat.reduceMul, Int.reduceToNat, Nat.reduceMod, Int.cast_ofNat_Int, Int.reduceBEq, Int.reduceBNe, Int.reduceLE, Int.reduceLT, Int.reduceGT, Int.reduceGE, Int.zero_lt_one, Int.le_refl, and_self, Int.toNat_natCast, q4, A.sv4, m0, m1, m2, m3, mh])
    refine br (fun q5 => ?_) fun q5 => ?_
    have q5' := of_decide_eq_true q5
    (try simp (config := {maxSteps := 4000000}) only [go_sem, Nat.reduceBEq, Nat.reduceLT, Nat.reduceLeDiff, Nat.reduceAdd, Nat.reduceMul, Int.reduceToNat, Nat.reduceMod, Int.cast_ofNat_Int, Int.reduceBEq, Int.reduceBNe, Int.reduceLE, Int.reduceLT, Int.reduceGT, Int.reduceGE, Int.zero_lt_one, Int.le_refl, and_self, Int.toNat_natCast, q5, A.sv4, m0, m1, m2, m3, mh])
    refine call_p hC 1000 rfl (by kernel_rfl) (fun w' hB => value_Bad _ w') ?_
    (try simp (config := {maxSteps := 4000000}) only [go_sem, Nat.reduceBEq, Nat.reduceLT, Nat.reduceLeDiff, Nat.reduceAdd, Nat.reduceMul, Int.reduceToNat, Nat.reduceMod, Int.cast_ofNat_Int, Int.reduceBEq, Int.reduceBNe, Int.reduceLE, Int.reduceLT, Int.reduceGT, Int.reduceGE, Int.zero_lt_one, Int.le_refl, and_self, Int.toNat_natCast, A.sv4, m0, m1, m2, m3, mh])
    exact ⟨_, badV_good _, rfl⟩
    have q5' := of_decide_eq_false q5
    (try simp (config := {maxSteps := 4000000}) only [go_sem, Nat.reduceBEq, Nat.reduceLT, Nat.reduceLeDiff, Nat.reduceAdd, Nat.reduceMul, Int.reduceToNat, Nat.reduceMod, Int.cast_ofNat_Int, Int.reduceBEq, Int.reduceBNe, Int.reduceLE, Int.reduceLT, Int.reduceGT, Int.reduceGE, Int.zero_lt_one, Int.le_refl, and_self, Int.toNat_natCast, q5, A.sv4, m0, m1, m2, m3, mh])
    rotate_left
    (try simp (config := {maxSteps := 4000000}) only [go_sem, Nat.reduceBEq, Nat.reduceLT, Nat.reduceLeDiff, Nat.reduceAdd, Nat.reduceMul, Int.reduceToNat, Nat.reduceMod, Int.cast_ofNat_Int, Int.reduceBEq, Int.reduceBNe, Int.reduceLE, Int.reduceLT, Int.reduceGT, Int.reduceGE, Int.zero_lt_one, Int.le_refl, and_self, Int.toNat_natCast, q4, A.sv4, m0, m1, m2, m3, mh])
    refine call_p hC 1000 rfl (by kernel_rfl) (fun w' hB => value_Bad _ w') ?_
    (try simp (config := {maxSteps := 4000000}) only [go_sem, Nat.reduceBEq, Nat.reduceLT, Nat.reduceLeDiff, Nat.reduceAdd, Nat.reduceMul, Int.reduceToNat, Nat.reduceMod, Int.cast_ofNat_Int, Int.reduceBEq, Int.reduceBNe, Int.reduceLE, Int.reduceLT, Int.reduceGT, Int.reduceGE, Int.zero_lt_one, Int.le_refl, and_self, Int.toNat_natCast, A.sv4, m0, m1, m2, m3, mh])
    exact ⟨_, badV_good _, rfl⟩
    (try simp (config := {maxSteps := 4000000}) only [go_sem, Nat.reduceBEq, Nat.reduceLT, Nat.reduceLeDiff, Nat.reduceAdd, Nat.reduceMul, Int.reduceToNat, Nat.reduceMod, Int.cast_ofNat_Int, Int.reduceBEq, Int.reduceBNe, Int.reduceLE, Int.reduceLT, Int.reduceGT, Int.reduceGE, Int.zero_lt_one, Int.le_refl, and_self, Int.toNat_natCast, q2, A.sv4, m0, m1, m2, m3, mh])
    refine draw_go hC ?_
    (try simp (config := {maxSteps := 4000000}) only [go_sem, Nat.reduceBEq, Nat.reduceLT, Nat.reduceLeDiff, Nat.reduceAdd, Nat.reduceMul, Int.reduceToNat, Nat.reduceMod, Int.cast_ofNat_Int, Int.reduceBEq, Int.reduceBNe, Int.reduceLE, Int.reduceLT, Int.reduceGT, Int.reduceGE, Int.zero_lt_one, Int.le_refl, and_self, Int.toNat_natCast, A.sv4, m0, m1, m2, m3, mh])
    refine ⟨by kernel_rfl, go hC 1000 ?_⟩
    (try simp (config := {maxSteps := 4000000}) only [go_sem, Nat.reduceBEq, Nat.reduceLT, Nat.reduceLeDiff, Nat.reduceAdd, Nat.reduceMul, Int.reduceToNat, Nat.reduceMod, Int.cast_ofNat_Int, Int.reduceBEq, Int.reduceBNe, Int.reduceLE, Int.reduceLT, Int.reduceGT, Int.reduceGE, Int.zero_lt_one, Int.le_refl, and_self, Int.toNat_natCast, A.sv4, m0, m1, m2, m3, mh])
    refine br (fun q3 => ?_) fun q3 => ?_
    (try simp (config := {maxSteps := 4000000}) only [go_sem, Nat.reduceBEq, Nat.reduceLT, Nat.reduceLeDiff, Nat.reduceAdd, Nat.reduceMul, Int.reduceToNat, Nat.reduceMod, Int.cast_ofNat_Int, Int.reduceBEq, Int.reduceBNe, Int.reduceLE, Int.reduceLT, Int.reduceGT, Int.reduceGE, Int.zero_lt_one, Int.le_refl, and_self, Int.toNat_natCast, q3, A.sv4, m0, m1, m2, m3, mh])
    refine draw_go hC ?_
    (try simp (config := {maxSteps := 4000000}) only [go_sem, Nat.reduceBEq, Nat.reduceLT, Nat.reduceLeDiff, Nat.reduceAdd, Nat.reduceMul, Int.reduceToNat, Nat.reduceMod, Int.cast_ofNat_Int, Int.reduceBEq, Int.reduceBNe, Int.reduceLE, Int.reduceLT, Int.reduceGT, Int.reduceGE, Int.zero_lt_one, Int.le_refl, and_self, Int.toNat_natCast, A.sv4, m0, m1, m2, m3, mh])
    refine ⟨by kernel_rfl, go hC 1000 ?_⟩
    (try simp (config := {maxSteps := 4000000}) only [go_sem, Nat.reduceBEq, Nat.reduceLT, Nat.reduceLeDiff, Nat.reduceAdd, Nat.reduceMul, Int.reduceToNat, Nat.reduceMod, Int.cast_ofNat_Int, Int.reduceBEq, Int.reduceBNe, Int.reduceLE, Int.reduceLT, Int.reduceGT, Int.reduceGE, Int.zero_lt_one, Int.le_refl, and_self, Int.toNat_natCast, A.sv4, m0, m1, m2, m3, mh])
    refine br (fun q4 => ?_) fun q4 => ?_
    (try simp (config := {maxSteps := 4000000}) only [go_sem, Nat.reduceBEq, Nat.reduceLT, Nat.reduceLeDiff, Nat.reduceAdd, Nat.reduceMul, Int.reduceToNat, Nat.reduceMod, Int.cast_ofNat_Int, Int.reduceBEq, Int.reduceBNe, Int.reduceLE, Int.reduceLT, Int.reduceGT, Int.reduceGE, Int.zero_lt_one, Int.le_refl, and_self, Int.toNat_natCast, q4, A.sv4, m0, m1, m2, m3, mh])
    refine br (fun q5 => ?_) fun q5 => ?_
    have q5' := of_decide_eq_true q5
    (try simp (config := {maxSteps := 4000000}) only [go_sem, Nat.reduceBEq, Nat.reduceLT, Nat.reduceLeDiff, Nat.reduceAdd, Nat.reduceMul, Int.reduceToNat, Nat.reduceMod, Int.cast_ofNat_Int, Int.reduceBEq, Int.reduceBNe, Int.reduceLE, Int.reduceLT, Int.reduceGT, Int.reduceGE, Int.zero_lt_one, Int.le_refl, and_self, Int.toNat_natCast, q5, A.sv4, m0, m1, m2, m3, mh])
    refine call_p hC 1000 rfl (by kernel_rfl) (fun w' hB => value_Bad _ w') ?_
    (try simp (config := {maxSteps := 4000000}) only [go_sem, Nat.reduceBEq, Nat.reduceLT, Nat.reduceLeDiff, Nat.reduceAdd, Nat.reduceMul, Int.reduceToNat, Nat.reduceMod, Int.cast_ofNat_Int, Int.reduceBEq, Int.reduceBNe, Int.reduceLE, Int.reduceLT, Int.reduceGT, Int.reduceGE, Int.zero_lt_one, Int.le_refl, and_self, Int.toNat_natCast, A.sv4, m0, m1, m2, m3, mh])
    exact ⟨_, badV_good _, rfl⟩
    have q5' := of_decide_eq_false q5
    (try simp (config := {maxSteps := 4000000}) only [go_sem, Nat.reduceBEq, Nat.reduceLT, Nat.reduceLeDiff, Nat.reduceAdd, Nat.reduceMul, Int.reduceToNat, Nat.reduceMod, Int.cast_ofNat_Int, Int.reduceBEq, Int.reduceBNe, Int.reduceLE, Int.reduceLT, Int.reduceGT, Int.reduceGE, Int.zero_lt_one, Int.le_refl, and_self, Int.toNat_natCast, q5, A.sv4, m0, m1, m2, m3, mh])
    rotate_left
    (try simp (config := {maxSteps := 4000000}) only [go_sem, Nat.reduceBEq, Nat.reduceLT, Nat.reduceLeDiff, Nat.reduceAdd, Nat.reduceMul, Int.reduceToNat, Nat.reduceMod, Int.cast_ofNat_Int, Int.reduceBEq, Int.reduceBNe, Int.reduceLE, Int.reduceLT, Int.reduceGT, Int.reduceGE, Int.zero_lt_one, Int.le_refl, and_self, Int.toNat_natCast, q4, A.sv4, m0, m1, m2, m3, mh])
    refine call_p hC 1000 rfl (by kernel_rfl) (fun w' hB => value_Bad _ w') ?_
    (try simp (config := {maxSteps := 4000000}) only [go_sem, Nat.reduceBEq, Nat.reduceLT, Nat.reduceLeDiff, Nat.reduceAdd, Nat.reduceMul, Int.reduceToNat, Nat.reduceMod, Int.cast_ofNat_Int, Int.reduceBEq, Int.reduceBNe, Int.reduceLE, Int.reduceLT, Int.reduceGT, Int.reduceGE, Int.zero_lt_one, Int.le_refl, and_self, Int.toNat_natCast, A.sv4, m0, m1, m2, m3, mh])
    exact ⟨_, badV_good _, rfl⟩
    (try simp (config := {maxSteps := 4000000}) only [go_sem, Nat.reduceBEq, Nat.reduceLT, Nat.reduceLeDiff, Nat.reduceAdd, Nat.reduceMul, Int.reduceToNat, Nat.reduceMod, Int.cast_ofNat_Int, Int.reduceBEq, Int.reduceBNe, Int.reduceLE, Int.reduceLT, Int.reduceGT, Int.reduceGE, Int.zero_lt_one, Int.le_refl, and_self, Int.toNat_natCast, q3, A.sv4, m0, m1, m2, m3, mh])
    refine br (fun q4 => ?_) fun q4 => ?_
    (try simp (config := {maxSteps := 4000000}) only [go_sem, Nat.reduceBEq, Nat.reduceLT, Nat.reduceLeDiff, Nat.reduceAdd, Nat.reduceMul, Int.reduceToNat, Nat.reduceMod, Int.cast_ofNat_Int, Int.reduceBEq, Int.reduceBNe, Int.reduceLE, Int.reduceLT, Int.reduceGT, Int.reduceGE, Int.zero_lt_one, Int.le_refl, and_self, Int.toNat_natCast, q4, A.sv4, m0, m1, m2, m3, mh])
    refine br (fun q5 => ?_) fun q5 => ?_
    have q5' := of_decide_eq_true q5
    (try simp (config := {maxSteps := 4000000}) only [go_sem, Nat.reduceBEq, Nat.reduceLT, Nat.reduceLeDiff, Nat.reduceAdd, Nat.reduceMul, Int.reduceToNat, Nat.reduceMod, Int.cast_ofNat_Int, Int.reduceBEq, Int.reduceBNe, Int.reduceLE, Int.reduceLT, Int.reduceGT, Int.reduceGE, Int.zero_lt_one, Int.le_refl, and_self, Int.toNat_natCast, q5, A.sv4, m0, m1, m2, m3, mh])
    refine call_p hC 1000 rfl (by kernel_rfl) (fun w' hB => value_Bad _ w') ?_
    (try simp (config := {maxSteps := 4000000}) only [go_sem, Nat.reduceBEq, Nat.reduceLT, Nat.reduceLeDiff, Nat.reduceAdd, Nat.reduceMul, Int.reduceToNat, Nat.reduceMod, Int.cast_ofNat_Int, Int.reduceBEq, Int.reduceBNe, Int.reduceLE, Int.reduceLT, Int.reduceGT, Int.reduceGE, Int.zero_lt_one, Int.le_refl, and_self, Int.toNat_natCast, A.sv4, m0, m1, m2, m3, mh])
    exact ⟨_, badV_good _, rfl⟩
    have q5' := of_decide_eq_false q5
    (try simp (config := {maxSteps := 4000000}) only [go_sem, Nat.reduceBEq, Nat.reduceLT, Nat.reduceLeDiff, Nat.reduceAdd, Nat.reduceMul, Int.reduceToNat, Nat.reduceMod, Int.cast_ofNat_Int, Int.reduceBEq, Int.reduceBNe, Int.reduceLE, Int.reduceLT, Int.reduceGT, Int.reduceGE, Int.zero_lt_one, Int.le_refl, and_self, Int.toNat_natCast, q5, A.sv4, m0, m1, m2, m3, mh])
    rotate_left
    (try simp (config := {maxSteps := 4000000}) only [go_sem, Nat.reduceBEq, Nat.reduceLT, Nat.reduceLeDiff, Nat.reduceAdd, Nat.reduceMul, Int.reduceToNat, Nat.reduceMod, Int.cast_ofNat_Int, Int.reduceBEq, Int.reduceBNe, Int.reduceLE, Int.reduceLT, Int.reduceGT, Int.reduceGE, Int.zero_lt_one, Int.le_refl, and_self, Int.toNat_natCast, q4, A.sv4, m0, m1, m2, m3, mh])
    refine call_p hC 1000 rfl (by kernel_rfl) (fun w' hB => value_Bad _ w') ?_
    (try simp (config := {maxSteps := 4000000}) only [go_sem, Nat.reduceBEq, Nat.reduceLT, Nat.reduceLeDiff, Nat.reduceAdd, Nat.reduceMul, Int.reduceToNat, Nat.reduceMod, Int.cast_ofNat_Int, Int.reduceBEq, Int.reduceBNe, Int.reduceLE, Int.reduceLT, Int.reduceGT, Int.reduceGE, Int.zero_lt_one, Int.le_refl, and_self, Int.toNat_natCast, A.sv4, m0, m1, m2, m3, mh])
    exact ⟨_, badV_good _, rfl⟩
    · refine call_go hC 1000 (.tuple #[.int .i64 (mRes x.one a.cols.toNat (fun j => a.at 1 j) 0).1, .int .i64 (mRes x.one a.cols.toNat (fun j => a.at 1 j) 0).2]) (by kernel_rfl) (fun r' w' hI => mt_turned rfl hI (by omega) (by omega) i0 i1 ha rfl rfl) ?_
      (try simp (config := {maxSteps := 4000000}) only [go_sem, Nat.reduceBEq, Nat.reduceLT, Nat.reduceLeDiff, Nat.reduceAdd, Nat.reduceMul, Int.reduceToNat, Nat.reduceMod, Int.cast_ofNat_Int, Int.reduceBEq, Int.reduceBNe, Int.reduceLE, Int.reduceLT, Int.reduceGT, Int.reduceGE, Int.zero_lt_one, Int.le_refl, and_self, Int.toNat_natCast])
      refine br (fun q6 => ?_) fun q6 => ?_
      have q6' := of_decide_eq_true q6
      (try simp (config := {maxSteps := 4000000}) only [go_sem, Nat.reduceBEq, Nat.reduceLT, Nat.reduceLeDiff, Nat.reduceAdd, Nat.reduceMul, Int.reduceToNat, Nat.reduceMod, Int.cast_ofNat_Int, Int.reduceBEq, Int.reduceBNe, Int.reduceLE, Int.reduceLT, Int.reduceGT, Int.reduceGE, Int.zero_lt_one, Int.le_refl, and_self, Int.toNat_natCast, q6])
      refine call_p hC 1000 rfl (by kernel_rfl) (fun w' hB => value_Bad _ w') ?_
      (try simp (config := {maxSteps := 4000000}) only [go_sem, Nat.reduceBEq, Nat.reduceLT, Nat.reduceLeDiff, Nat.reduceAdd, Nat.reduceMul, Int.reduceToNat, Nat.reduceMod, Int.cast_ofNat_Int, Int.reduceBEq, Int.reduceBNe, Int.reduceLE, Int.reduceLT, Int.reduceGT, Int.reduceGE, Int.zero_lt_one, Int.le_refl, and_self, Int.toNat_natCast])
      exact ⟨_, badV_good _, rfl⟩
      have q6' := of_decide_eq_false q6
      (try simp (config := {maxSteps := 4000000}) only [go_sem, Nat.reduceBEq, Nat.reduceLT, Nat.reduceLeDiff, Nat.reduceAdd, Nat.reduceMul, Int.reduceToNat, Nat.reduceMod, Int.cast_ofNat_Int, Int.reduceBEq, Int.reduceBNe, Int.reduceLE, Int.reduceLT, Int.reduceGT, Int.reduceGE, Int.zero_lt_one, Int.le_refl, and_self, Int.toNat_natCast, q6])
      refine call_p hC 1000 rfl (by kernel_rfl) (fun w' hB => grid_turned _ _ _ _ w' (i1.below hB) (by assumption)) ?_
      (try simp (config := {maxSteps := 4000000}) only [go_sem, Nat.reduceBEq, Nat.reduceLT, Nat.reduceLeDiff, Nat.reduceAdd, Nat.reduceMul, Int.reduceToNat, Nat.reduceMod, Int.cast_ofNat_Int, Int.reduceBEq, Int.reduceBNe, Int.reduceLE, Int.reduceLT, Int.reduceGT, Int.reduceGE, Int.zero_lt_one, Int.le_refl, and_self, Int.toNat_natCast])
      exact ⟨_, at_good (by assumption) _ _, rfl⟩
    · refine call_go hC 1000 (.tuple #[.int .i64 (mRes x.one a.rows.toNat (fun j => a.at j 1) 0).1, .int .i64 (mRes x.one a.rows.toNat (fun j => a.at j 1) 0).2]) (by kernel_rfl) (fun r' w' hI => mt_at rfl hI (by omega) (by omega) i0 i1 ha rfl rfl) ?_
      (try simp (config := {maxSteps := 4000000}) only [go_sem, Nat.reduceBEq, Nat.reduceLT, Nat.reduceLeDiff, Nat.reduceAdd, Nat.reduceMul, Int.reduceToNat, Nat.reduceMod, Int.cast_ofNat_Int, Int.reduceBEq, Int.reduceBNe, Int.reduceLE, Int.reduceLT, Int.reduceGT, Int.reduceGE, Int.zero_lt_one, Int.le_refl, and_self, Int.toNat_natCast])
      refine br (fun q6 => ?_) fun q6 => ?_
      have q6' := of_decide_eq_true q6
      (try simp (config := {maxSteps := 4000000}) only [go_sem, Nat.reduceBEq, Nat.reduceLT, Nat.reduceLeDiff, Nat.reduceAdd, Nat.reduceMul, Int.reduceToNat, Nat.reduceMod, Int.cast_ofNat_Int, Int.reduceBEq, Int.reduceBNe, Int.reduceLE, Int.reduceLT, Int.reduceGT, Int.reduceGE, Int.zero_lt_one, Int.le_refl, and_self, Int.toNat_natCast, q6])
      refine call_p hC 1000 rfl (by kernel_rfl) (fun w' hB => value_Bad _ w') ?_
      (try simp (config := {maxSteps := 4000000}) only [go_sem, Nat.reduceBEq, Nat.reduceLT, Nat.reduceLeDiff, Nat.reduceAdd, Nat.reduceMul, Int.reduceToNat, Nat.reduceMod, Int.cast_ofNat_Int, Int.reduceBEq, Int.reduceBNe, Int.reduceLE, Int.reduceLT, Int.reduceGT, Int.reduceGE, Int.zero_lt_one, Int.le_refl, and_self, Int.toNat_natCast])
      exact ⟨_, badV_good _, rfl⟩
      have q6' := of_decide_eq_false q6
      (try simp (config := {maxSteps := 4000000}) only [go_sem, Nat.reduceBEq, Nat.reduceLT, Nat.reduceLeDiff, Nat.reduceAdd, Nat.reduceMul, Int.reduceToNat, Nat.reduceMod, Int.cast_ofNat_Int, Int.reduceBEq, Int.reduceBNe, Int.reduceLE, Int.reduceLT, Int.reduceGT, Int.reduceGE, Int.zero_lt_one, Int.le_refl, and_self, Int.toNat_natCast, q6])
      refine call_p hC 1000 rfl (by kernel_rfl) (fun w' hB => grid_at _ _ _ _ w' (i1.below hB) (by assumption)) ?_
      (try simp (config := {maxSteps := 4000000}) only [go_sem, Nat.reduceBEq, Nat.reduceLT, Nat.reduceLeDiff, Nat.reduceAdd, Nat.reduceMul, Int.reduceToNat, Nat.reduceMod, Int.cast_ofNat_Int, Int.reduceBEq, Int.reduceBNe, Int.reduceLE, Int.reduceLT, Int.reduceGT, Int.reduceGE, Int.zero_lt_one, Int.le_refl, and_self, Int.toNat_natCast])
      exact ⟨_, at_good (by assumption) _ _, rfl⟩
    · refine call_go hC 1000 (.tuple #[.int .i64 (mRes x.one a.cols.toNat (fun j => a.at 1 j) 1).1, .int .i64 (mRes x.one a.cols.toNat (fun j => a.at 1 j) 1).2]) (by kernel_rfl) (fun r' w' hI => mt_turned rfl hI (by omega) (by omega) i0 i1 ha rfl rfl) ?_
      (try simp (config := {maxSteps := 4000000}) only [go_sem, Nat.reduceBEq, Nat.reduceLT, Nat.reduceLeDiff, Nat.reduceAdd, Nat.reduceMul, Int.reduceToNat, Nat.reduceMod, Int.cast_ofNat_Int, Int.reduceBEq, Int.reduceBNe, Int.reduceLE, Int.reduceLT, Int.reduceGT, Int.reduceGE, Int.zero_lt_one, Int.le_refl, and_self, Int.toNat_natCast])
      refine br (fun q6 => ?_) fun q6 => ?_
      have q6' := of_decide_eq_true q6
      (try simp (config := {maxSteps := 4000000}) only [go_sem, Nat.reduceBEq, Nat.reduceLT, Nat.reduceLeDiff, Nat.reduceAdd, Nat.reduceMul, Int.reduceToNat, Nat.reduceMod, Int.cast_ofNat_Int, Int.reduceBEq, Int.reduceBNe, Int.reduceLE, Int.reduceLT, Int.reduceGT, Int.reduceGE, Int.zero_lt_one, Int.le_refl, and_self, Int.toNat_natCast, q6])
      refine call_p hC 1000 rfl (by kernel_rfl) (fun w' hB => value_Bad _ w') ?_
      (try simp (config := {maxSteps := 4000000}) only [go_sem, Nat.reduceBEq, Nat.reduceLT, Nat.reduceLeDiff, Nat.reduceAdd, Nat.reduceMul, Int.reduceToNat, Nat.reduceMod, Int.cast_ofNat_Int, Int.reduceBEq, Int.reduceBNe, Int.reduceLE, Int.reduceLT, Int.reduceGT, Int.reduceGE, Int.zero_lt_one, Int.le_refl, and_self, Int.toNat_natCast])
      exact ⟨_, badV_good _, rfl⟩
      have q6' := of_decide_eq_false q6
      (try simp (config := {maxSteps := 4000000}) only [go_sem, Nat.reduceBEq, Nat.reduceLT, Nat.reduceLeDiff, Nat.reduceAdd, Nat.reduceMul, Int.reduceToNat, Nat.reduceMod, Int.cast_ofNat_Int, Int.reduceBEq, Int.reduceBNe, Int.reduceLE, Int.reduceLT, Int.reduceGT, Int.reduceGE, Int.zero_lt_one, Int.le_refl, and_self, Int.toNat_natCast, q6])
      refine call_p hC 1000 rfl (by kernel_rfl) (fun w' hB => grid_turned _ _ _ _ w' (i1.below hB) (by assumption)) ?_
      (try simp (config := {maxSteps := 4000000}) only [go_sem, Nat.reduceBEq, Nat.reduceLT, Nat.reduceLeDiff, Nat.reduceAdd, Nat.reduceMul, Int.reduceToNat, Nat.reduceMod, Int.cast_ofNat_Int, Int.reduceBEq, Int.reduceBNe, Int.reduceLE, Int.reduceLT, Int.reduceGT, Int.reduceGE, Int.zero_lt_one, Int.le_refl, and_self, Int.toNat_natCast])
      exact ⟨_, at_good (by assumption) _ _, rfl⟩
    · refine call_go hC 1000 (.tuple #[.int .i64 (mRes x.one a.rows.toNat (fun j => a.at j 1) 1).1, .int .i64 (mRes x.one a.rows.toNat (fun j => a.at j 1) 1).2]) (by kernel_rfl) (fun r' w' hI => mt_at rfl hI (by omega) (by omega) i0 i1 ha rfl rfl) ?_
      (try simp (config := {maxSteps := 4000000}) only [go_sem, Nat.reduceBEq, Nat.reduceLT, Nat.reduceLeDiff, Nat.reduceAdd, Nat.reduceMul, Int.reduceToNat, Nat.reduceMod, Int.cast_ofNat_Int, Int.reduceBEq, Int.reduceBNe, Int.reduceLE, Int.reduceLT, Int.reduceGT, Int.reduceGE, Int.zero_lt_one, Int.le_refl, and_self, Int.toNat_natCast])
      refine br (fun q6 => ?_) fun q6 => ?_
      have q6' := of_decide_eq_true q6
      (try simp (config := {maxSteps := 4000000}) only [go_sem, Nat.reduceBEq, Nat.reduceLT, Nat.reduceLeDiff, Nat.reduceAdd, Nat.reduceMul, Int.reduceToNat, Nat.reduceMod, Int.cast_ofNat_Int, Int.reduceBEq, Int.reduceBNe, Int.reduceLE, Int.reduceLT, Int.reduceGT, Int.reduceGE, Int.zero_lt_one, Int.le_refl, and_self, Int.toNat_natCast, q6])
      refine call_p hC 1000 rfl (by kernel_rfl) (fun w' hB => value_Bad _ w') ?_
      (try simp (config := {maxSteps := 4000000}) only [go_sem, Nat.reduceBEq, Nat.reduceLT, Nat.reduceLeDiff, Nat.reduceAdd, Nat.reduceMul, Int.reduceToNat, Nat.reduceMod, Int.cast_ofNat_Int, Int.reduceBEq, Int.reduceBNe, Int.reduceLE, Int.reduceLT, Int.reduceGT, Int.reduceGE, Int.zero_lt_one, Int.le_refl, and_self, Int.toNat_natCast])
      exact ⟨_, badV_good _, rfl⟩
      have q6' := of_decide_eq_false q6
      (try simp (config := {maxSteps := 4000000}) only [go_sem, Nat.reduceBEq, Nat.reduceLT, Nat.reduceLeDiff, Nat.reduceAdd, Nat.reduceMul, Int.reduceToNat, Nat.reduceMod, Int.cast_ofNat_Int, Int.reduceBEq, Int.reduceBNe, Int.reduceLE, Int.reduceLT, Int.reduceGT, Int.reduceGE, Int.zero_lt_one, Int.le_refl, and_self, Int.toNat_natCast, q6])
      refine call_p hC 1000 rfl (by kernel_rfl) (fun w' hB => grid_at _ _ _ _ w' (i1.below hB) (by assumption)) ?_
      (try simp (config := {maxSteps := 4000000}) only [go_sem, Nat.reduceBEq, Nat.reduceLT, Nat.reduceLeDiff, Nat.reduceAdd, Nat.reduceMul, Int.reduceToNat, Nat.reduceMod, Int.cast_ofNat_Int, Int.reduceBEq, Int.reduceBNe, Int.reduceLE, Int.reduceLT, Int.reduceGT, Int.reduceGE, Int.zero_lt_one, Int.le_refl, and_self, Int.toNat_natCast])
      exact ⟨_, at_good (by assumption) _ _, rfl⟩
end Go.Proofs.Ytpoiebkcjehheaa
