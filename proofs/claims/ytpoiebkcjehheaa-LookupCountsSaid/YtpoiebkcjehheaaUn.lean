/- lookup.unlike. -/
import Derived.Test.YtpoiebkcjehheaaOc
import Derived.Test.YtpoiebkcjehheaaVm
namespace Go.Proofs.Ytpoiebkcjehheaa
open Go.RowKit
set_option linter.unusedSimpArgs false
set_option linter.unusedVariables false
attribute [local go_sem] St.init enum sym St.ev lk lkD dstOf St.put effOf opt1 opt2 evs evp SV.cs List.map stepK_ask stepK_ok stepK_box stepK_row stepK_upd stepK_call cond_true cond_false pLoad pStore pFieldAddr pField pIndexAddr pIndex pAssert pMakeIface pExtract pLen pBin pEq aggL eqLL pInt pStr pUn pConv pCall pPick calleeOp Option.bind_some Option.bind_none TK.agg sameK ones SV.one lay List.set_cons_zero List.set_cons_succ List.getElem?_cons_zero List.getElem?_cons_succ List.getElem?_nil List.length_cons List.length_nil List.take_succ_cons List.take_zero List.drop_succ_cons List.drop_zero List.take_nil List.drop_nil condK_some popTo popK_some guardK_some sameB finK_one finK_nil finK_more resOf true_and and_true decide_true decide_false Bool.and_true Bool.true_and Bool.and_self Bool.not_true Bool.not_false Br_true Br_false Nat.zero_mul Int.toNat_zero Int.toNat_one Nat.one_mul fillS initGo Bool.or_false Bool.or_self fdPlace slPlace List.append_nil List.nil_append List.cons_append SV.pv pvs Option.some.injEq dstepK_ask dstepK_ok dstepK_box dstepK_row dstepK_upd dstepK_call dguardK_some symD accOf memB isS SV.names namesL tabs0 tabs1 tabs2 tabs3 tabs4 tabs5 tabs6 tabs7

/-- A value's key. -/
def V.up (v : V) : V := ⟨v.k, v.n, upStr v.s⟩
def seenStep (l : List (V × Int)) (v : V) : List (V × Int) := if v.k = 0 ∨ v.k = 4 then l else (kIns v.up l).set (kIdx v.up l) (v.up, IntKind.i64.wrap (kGet v.up l + 1))
def A.unlike (a : A) : Nat := (a.l.foldl seenStep []).length

theorem upper_R (s : ByteArray) (hs : s.size ≤ 9223372036854775807) (w : World) : Calls Try.prog 27 #[.string s] w (Ret w (.string (upStr s))) := value_Upper s hs w

theorem lookup_unlike (x : Value) (a : A) (w : World) (h : IsArea w x a) :
    Calls Try.prog 18 #[x] w (Ret w (.int .i64 a.unlike)) := by
  obtain ⟨ao, cap, rfl⟩ := h.form
  refine walk tabOK mixedOK 1000 [.v (.agg #[.int .i64 a.rows, .int .i64 a.cols, .slice ao a.l.length cap, .bool a.many])] vok_ret Try.func18 rfl Try.ntmps18 (by rw [Try.results18]) rfl rfl fun hC => ?_
  (try simp (config := {maxSteps := 4000000}) only [go_sem, Nat.reduceBEq, Nat.reduceLT, Nat.reduceLeDiff, Nat.reduceAdd, Nat.reduceMul, Int.reduceToNat, Nat.reduceMod, Int.cast_ofNat_Int, Int.reduceBEq, Int.reduceBNe, Int.reduceLE, Int.reduceLT, Int.reduceGT, Int.reduceGE, Int.zero_lt_one, Int.le_refl, and_self, Int.toNat_natCast])
  rotate_left
  refine map_made (kv := V.val) hC 1000 rfl ?_
  (try simp (config := {maxSteps := 4000000}) only [go_sem, Nat.reduceBEq, Nat.reduceLT, Nat.reduceLeDiff, Nat.reduceAdd, Nat.reduceMul, Int.reduceToNat, Nat.reduceMod, Int.cast_ofNat_Int, Int.reduceBEq, Int.reduceBNe, Int.reduceLE, Int.reduceLT, Int.reduceGT, Int.reduceGE, Int.zero_lt_one, Int.le_refl, and_self, Int.toNat_natCast])
  rotate_left
  have hlen : (a.l.length : Int) ≤ 9223372036854775807 := by
    obtain ⟨_, h2, ⟨ao2, cap2, e, h5, h6, _⟩, _⟩ := h
    omega
  have hfit : ∀ v ∈ a.l, v.fit := by
    obtain ⟨_, h2, ⟨ao2, cap2, e, h5, h6, h7, _⟩, _⟩ := h
    exact h7
  refine loop_sym Nat (fun i => (⟨36, [(11, .v (.int .i64 (i : Nat))), (10, .v (.int .i64 (a.l.length : Nat))), (9, .v (.slice ao a.l.length cap)), (3, .mp 1)], [(1, .obj (kMap V.val ((a.l.take i).foldl seenStep [])))], 2⟩ : St))
    (fun i => i ≤ a.l.length) (fun i => a.l.length - i) 0 (Nat.zero_le _) ⟨rfl, rfl, by simp [subL, lk], by simp [subL, lk]⟩ ?_
  intro i hi
  replace hi : i ≤ a.l.length := hi
  refine go hC 1000 ?_
  by_cases hlt : i < a.l.length
  · have hw1 : IntKind.i64.wrap ((i : Int) + 1) = ((i + 1 : Nat) : Int) := by rw [wrap64_id (by omega) (by omega)]; omega
    obtain ⟨A, rfl, hm⟩ := area_mem h (n := i) (by omega) (by omega)
    have hs : (a.l.take (i + 1)).foldl seenStep [] = seenStep ((a.l.take i).foldl seenStep []) (a.l.getD i ⟨0, 0, ⟨#[]⟩⟩) := by
      rw [List.take_add_one, List.foldl_append]
      simp [List.getElem?_eq_getElem hlt]
    obtain ⟨v, hv⟩ : ∃ v, v = a.l.getD i ⟨0, 0, ⟨#[]⟩⟩ := ⟨_, rfl⟩
    have hvs : v.s.size ≤ 9223372036854775807 := by
      have := (hfit (a.l.getD i ⟨0, 0, ⟨#[]⟩⟩) (by simp [List.getD, hlt])).2.2
      rw [hv]; exact this
    simp only [Int.toNat_natCast, ← hv] at hm hs
    obtain ⟨L, hL⟩ : ∃ L, L = (a.l.take i).foldl seenStep [] := ⟨_, rfl⟩
    simp only [← hL] at hs ⊢
    (try simp (config := {maxSteps := 4000000}) only [go_sem, Nat.reduceBEq, Nat.reduceLT, Nat.reduceLeDiff, Nat.reduceAdd, Nat.reduceMul, Int.reduceToNat, Nat.reduceMod, Int.cast_ofNat_Int, Int.reduceBEq, Int.reduceBNe, Int.reduceLE, Int.reduceLT, Int.reduceGT, Int.reduceGE, Int.zero_lt_one, Int.le_refl, and_self, Int.toNat_natCast, hm, hw1])
    refine br_t (by simp only [decide_eq_true_eq, beq_iff_eq, bne_iff_ne, ne_eq]; omega) ?_
    (try simp (config := {maxSteps := 4000000}) only [go_sem, Nat.reduceBEq, Nat.reduceLT, Nat.reduceLeDiff, Nat.reduceAdd, Nat.reduceMul, Int.reduceToNat, Nat.reduceMod, Int.cast_ofNat_Int, Int.reduceBEq, Int.reduceBNe, Int.reduceLE, Int.reduceLT, Int.reduceGT, Int.reduceGE, Int.zero_lt_one, Int.le_refl, and_self, Int.toNat_natCast, hm, hw1])
    refine ⟨by omega, ?_⟩
    (try simp (config := {maxSteps := 4000000}) only [go_sem, Nat.reduceBEq, Nat.reduceLT, Nat.reduceLeDiff, Nat.reduceAdd, Nat.reduceMul, Int.reduceToNat, Nat.reduceMod, Int.cast_ofNat_Int, Int.reduceBEq, Int.reduceBNe, Int.reduceLE, Int.reduceLT, Int.reduceGT, Int.reduceGE, Int.zero_lt_one, Int.le_refl, and_self, Int.toNat_natCast, hm, hw1])
    refine br (fun q0 => ?_) fun q0 => ?_
    (try simp (config := {maxSteps := 4000000}) only [go_sem, Nat.reduceBEq, Nat.reduceLT, Nat.reduceLeDiff, Nat.reduceAdd, Nat.reduceMul, Int.reduceToNat, Nat.reduceMod, Int.cast_ofNat_Int, Int.reduceBEq, Int.reduceBNe, Int.reduceLE, Int.reduceLT, Int.reduceGT, Int.reduceGE, Int.zero_lt_one, Int.le_refl, and_self, Int.toNat_natCast, q0, hm, hw1])
    refine br (fun q1 => ?_) fun q1 => ?_
    have q1' := eq_of_beq q1
    (try simp (config := {maxSteps := 4000000}) only [go_sem, Nat.reduceBEq, Nat.reduceLT, Nat.reduceLeDiff, Nat.reduceAdd, Nat.reduceMul, Int.reduceToNat, Nat.reduceMod, Int.cast_ofNat_Int, Int.reduceBEq, Int.reduceBNe, Int.reduceLE, Int.reduceLT, Int.reduceGT, Int.reduceGE, Int.zero_lt_one, Int.le_refl, and_self, Int.toNat_natCast, q1, hm, hw1])
    rotate_left
    have q1' := beq_eq_false_iff_ne.1 q1
    (try simp (config := {maxSteps := 4000000}) only [go_sem, Nat.reduceBEq, Nat.reduceLT, Nat.reduceLeDiff, Nat.reduceAdd, Nat.reduceMul, Int.reduceToNat, Nat.reduceMod, Int.cast_ofNat_Int, Int.reduceBEq, Int.reduceBNe, Int.reduceLE, Int.reduceLT, Int.reduceGT, Int.reduceGE, Int.zero_lt_one, Int.le_refl, and_self, Int.toNat_natCast, q1, hm, hw1])
    refine call_p hC 1000 rfl (by kernel_rfl) (fun w' hB => upper_R _ (by assumption) w') ?_
    (try simp (config := {maxSteps := 4000000}) only [go_sem, Nat.reduceBEq, Nat.reduceLT, Nat.reduceLeDiff, Nat.reduceAdd, Nat.reduceMul, Int.reduceToNat, Nat.reduceMod, Int.cast_ofNat_Int, Int.reduceBEq, Int.reduceBNe, Int.reduceLE, Int.reduceLT, Int.reduceGT, Int.reduceGE, Int.zero_lt_one, Int.le_refl, and_self, Int.toNat_natCast, hm, hw1])
    refine draw_go hC ?_
    (try simp (config := {maxSteps := 4000000}) only [go_sem, Nat.reduceBEq, Nat.reduceLT, Nat.reduceLeDiff, Nat.reduceAdd, Nat.reduceMul, Int.reduceToNat, Nat.reduceMod, Int.cast_ofNat_Int, Int.reduceBEq, Int.reduceBNe, Int.reduceLE, Int.reduceLT, Int.reduceGT, Int.reduceGE, Int.zero_lt_one, Int.le_refl, and_self, Int.toNat_natCast, hm, hw1])
    rotate_left
    (try simp (config := {maxSteps := 4000000}) only [go_sem, Nat.reduceBEq, Nat.reduceLT, Nat.reduceLeDiff, Nat.reduceAdd, Nat.reduceMul, Int.reduceToNat, Nat.reduceMod, Int.cast_ofNat_Int, Int.reduceBEq, Int.reduceBNe, Int.reduceLE, Int.reduceLT, Int.reduceGT, Int.reduceGE, Int.zero_lt_one, Int.le_refl, and_self, Int.toNat_natCast, q0, hm, hw1])
    rotate_left
    · have : v.k = 4 := by simpa using q1
      exact ⟨i + 1, by omega, by omega, rfl, rfl, by simp [subL, lk], by simp [subL, lk, hs, seenStep, this]⟩
    · have h0 : v.k ≠ 0 := by simpa using q0
      refine dmap_inc hC rfl mkV v.up L rfl rfl rfl rfl ⟨rfl, rfl, rfl, rfl⟩ rfl rfl rfl rfl rfl rfl rfl rfl rfl rfl rfl rfl rfl rfl (by kernel_rfl) ?_
      (try simp (config := {maxSteps := 4000000}) only [go_sem, Nat.reduceBEq, Nat.reduceLT, Nat.reduceLeDiff, Nat.reduceAdd, Nat.reduceMul, Int.reduceToNat, Nat.reduceMod, Int.cast_ofNat_Int, Int.reduceBEq, Int.reduceBNe, Int.reduceLE, Int.reduceLT, Int.reduceGT, Int.reduceGE, Int.zero_lt_one, Int.le_refl, and_self, Int.toNat_natCast])
      rotate_left
      refine dmap_store hC rfl mkV v.up _ (kIdx v.up L) (kGet v.up L) _ (kIns_get _ _) rfl rfl rfl rfl rfl ?_
      (try simp (config := {maxSteps := 4000000}) only [go_sem, Nat.reduceBEq, Nat.reduceLT, Nat.reduceLeDiff, Nat.reduceAdd, Nat.reduceMul, Int.reduceToNat, Nat.reduceMod, Int.cast_ofNat_Int, Int.reduceBEq, Int.reduceBNe, Int.reduceLE, Int.reduceLT, Int.reduceGT, Int.reduceGE, Int.zero_lt_one, Int.le_refl, and_self, Int.toNat_natCast, hw1])
      refine ⟨by kernel_rfl, go hC 1000 ?_⟩
      (try simp (config := {maxSteps := 4000000}) only [go_sem, Nat.reduceBEq, Nat.reduceLT, Nat.reduceLeDiff, Nat.reduceAdd, Nat.reduceMul, Int.reduceToNat, Nat.reduceMod, Int.cast_ofNat_Int, Int.reduceBEq, Int.reduceBNe, Int.reduceLE, Int.reduceLT, Int.reduceGT, Int.reduceGE, Int.zero_lt_one, Int.le_refl, and_self, Int.toNat_natCast, hw1])
      rotate_left
      exact ⟨i + 1, by omega, by omega, rfl, rfl, by simp [subL, lk], by simp [subL, lk, hs, seenStep, h0, q1']⟩
    · have : v.k = 0 := by simpa using q0
      exact ⟨i + 1, by omega, by omega, rfl, rfl, by simp [subL, lk], by simp [subL, lk, hs, seenStep, this]⟩
  · have hi2 : i = a.l.length := by omega
    (try simp (config := {maxSteps := 4000000}) only [go_sem, Nat.reduceBEq, Nat.reduceLT, Nat.reduceLeDiff, Nat.reduceAdd, Nat.reduceMul, Int.reduceToNat, Nat.reduceMod, Int.cast_ofNat_Int, Int.reduceBEq, Int.reduceBNe, Int.reduceLE, Int.reduceLT, Int.reduceGT, Int.reduceGE, Int.zero_lt_one, Int.le_refl, and_self, Int.toNat_natCast])
    refine br_f (by simp only [decide_eq_false_iff_not, beq_eq_false_iff_ne, bne_eq_false_iff_eq, ne_eq]; omega) ?_
    (try simp (config := {maxSteps := 4000000}) only [go_sem, Nat.reduceBEq, Nat.reduceLT, Nat.reduceLeDiff, Nat.reduceAdd, Nat.reduceMul, Int.reduceToNat, Nat.reduceMod, Int.cast_ofNat_Int, Int.reduceBEq, Int.reduceBNe, Int.reduceLE, Int.reduceLT, Int.reduceGT, Int.reduceGE, Int.zero_lt_one, Int.le_refl, and_self, Int.toNat_natCast])
    rotate_left
    refine map_len hC 1000 rfl mkV ((a.l.take i).foldl seenStep []) rfl rfl rfl ?_
    rw [hi2, List.take_length]
    (try simp (config := {maxSteps := 4000000}) only [go_sem, Nat.reduceBEq, Nat.reduceLT, Nat.reduceLeDiff, Nat.reduceAdd, Nat.reduceMul, Int.reduceToNat, Nat.reduceMod, Int.cast_ofNat_Int, Int.reduceBEq, Int.reduceBNe, Int.reduceLE, Int.reduceLT, Int.reduceGT, Int.reduceGE, Int.zero_lt_one, Int.le_refl, and_self, Int.toNat_natCast])
    rfl
end Go.Proofs.Ytpoiebkcjehheaa
