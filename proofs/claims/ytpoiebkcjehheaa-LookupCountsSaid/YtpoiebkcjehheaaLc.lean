/- The law LookupCounts. -/
import Derived.Test.YtpoiebkcjehheaaFa
import Derived.Test.YtpoiebkcjehheaaSyK
namespace Go.Proofs.Ytpoiebkcjehheaa
open Go.RowKit
set_option linter.unusedSimpArgs false
set_option linter.unusedVariables false
attribute [local go_sem] St.init enum sym St.ev lk lkD dstOf St.put effOf opt1 opt2 evs evp SV.cs List.map stepK_ask stepK_ok stepK_box stepK_row stepK_upd stepK_call cond_true cond_false pLoad pStore pFieldAddr pField pIndexAddr pIndex pAssert pMakeIface pExtract pLen pBin pEq aggL eqLL pInt pStr pUn pConv pCall pPick calleeOp Option.bind_some Option.bind_none TK.agg sameK ones SV.one lay List.set_cons_zero List.set_cons_succ List.getElem?_cons_zero List.getElem?_cons_succ List.getElem?_nil List.length_cons List.length_nil List.take_succ_cons List.take_zero List.drop_succ_cons List.drop_zero List.take_nil List.drop_nil condK_some popTo popK_some guardK_some sameB finK_one finK_nil finK_more resOf true_and and_true decide_true decide_false Bool.and_true Bool.true_and Bool.and_self Bool.not_true Bool.not_false Br_true Br_false Nat.zero_mul Int.toNat_zero Int.toNat_one Nat.one_mul fillS initGo Bool.or_false Bool.or_self fdPlace slPlace List.append_nil List.nil_append List.cons_append SV.pv pvs Option.some.injEq dstepK_ask dstepK_ok dstepK_box dstepK_row dstepK_upd dstepK_call dguardK_some symD accOf memB isS SV.names namesL tabs0 tabs1 tabs2 tabs3 tabs4 tabs5 tabs6 tabs7
def cA (l : List V) : A := ⟨1, l.length, l, true⟩
def cB (l : List V) : A := ⟨2, l.length, l ++ l, true⟩
theorem row_vals {w0 w : World} {r : Va} {H : List (Nat × Blk)} (hI : Inv w0 r H w) {q : Nat} {T : TypeId} {n : Nat} (vs : List V) (hn : n = vs.length) (hk : lk H q = some (.row n (vs.flatMap vCells) T 3)) (hfit : ∀ v ∈ vs, v.fit) :
    IsVals w (.slice (r.sa q) n (r.sc q)) vs := by
  subst hn
  obtain ⟨_, _, h1, _⟩ := hI.blk q _ hk
  have hcell := h1
  rcases h1.2 with ⟨e, h2⟩ | ⟨g, cap, cur, e, h2, h3, h4, h5, h6, h7⟩
  · have : vs = [] := List.length_eq_zero_iff.1 h2
    subst this
    exact ⟨none, 0, e, Nat.le_refl _, by omega, fun v hv => (by cases hv), .inl rfl⟩
  · simp only [Value.slice.injEq, true_and] at e
    rw [e.1, e.2]
    refine ⟨some ⟨g, 0, none⟩, cap, rfl, h4, by unfold maxLen at h5; omega, hfit, .inr ⟨g, 0, rfl, (Array.getElem?_eq_some_iff.1 h3).1, fun i hi => ?_⟩⟩
    have key : ∀ m, m < 3 → w.cell? ⟨g, 0 + i * 3 + m, none⟩ = (vCells vs[i])[m]? := by
      intro m hm
      have h8 := flat_at 3 vCells (fun _ => rfl) vs i m hi hm
      have h9 : (vCells vs[i])[m]? = some ((vCells vs[i])[m]'(by exact hm)) := List.getElem?_eq_getElem _
      have := hcell.cells (g := g) (by rw [e.1, e.2]; rfl) (i * 3 + m) _ (h8.trans h9)
      rw [addr_add] at this
      rw [h9, Nat.zero_add]
      rw [Nat.zero_add] at this
      exact this
    exact ⟨key 0 (by omega), key 1 (by omega), key 2 (by omega)⟩
theorem ref06_GoodF (v : V) (hv : v.good = false) (w : World) : Calls Try.prog 8 #[(.agg #[.int .i64 (v).k, .int .i64 (v).n, .string (v).s])] w (Ret w (.bool false)) := by
  have := ref06_Good v w
  rwa [hv] at this

/-! The keys that have been seen. -/
theorem kFind_iff {K : Type} [DecidableEq K] (v : K) (l : List (K × Int)) : kFind v l 0 = none ↔ v ∉ l.map (·.1) := by
  rw [kFind_none]
  simp only [List.mem_map, not_exists, not_and]
theorem keys_step (L : List (V × Int)) (v : V) : (seenStep L v).map (·.1) = if v.k = 0 ∨ v.k = 4 then L.map (·.1) else if v.up ∈ L.map (·.1) then L.map (·.1) else L.map (·.1) ++ [v.up] := by
  unfold seenStep
  split
  · rfl
  · have hset : ∀ (M : List (V × Int)) (j : Nat) (c d : Int), M[j]? = some (v.up, c) → (M.set j (v.up, d)).map (·.1) = M.map (·.1) := by
      intro M j c d hM
      apply List.ext_getElem?
      intro i
      rw [List.getElem?_map, List.getElem?_map, List.getElem?_set]
      split
      · rename_i e; subst e
        rw [hM]
        have : j < M.length := (List.getElem?_eq_some_iff.1 hM).1
        simp [this]
      · rfl
    rw [hset _ _ _ _ (kIns_get v.up L)]
    by_cases hm : v.up ∈ L.map (·.1)
    · rw [if_pos hm]
      have : kFind v.up L 0 ≠ none := fun e => (kFind_iff _ _).1 e hm
      unfold kIns
      split
      · rename_i e; exact absurd e this
      · rfl
    · rw [if_neg hm]
      have := (kFind_iff v.up L).2 hm
      unfold kIns
      rw [this]
      simp
theorem keys_mono (k : V) : ∀ (l : List V) (L : List (V × Int)), k ∈ L.map (·.1) → k ∈ (l.foldl seenStep L).map (·.1)
  | [], L, h => h
  | v :: l, L, h => by
    rw [List.foldl_cons]
    refine keys_mono k l _ ?_
    rw [keys_step]
    repeat' split
    · exact h
    · exact h
    · exact List.mem_append_left _ h
theorem keys_after : ∀ (l : List V) (L : List (V × Int)) (v : V), v ∈ l → ¬ (v.k = 0 ∨ v.k = 4) → v.up ∈ (l.foldl seenStep L).map (·.1)
  | [], L, v, h, _ => by cases h
  | u :: l, L, v, h, hk => by
    rw [List.foldl_cons]
    rcases List.mem_cons.1 h with rfl | h
    · refine keys_mono _ l _ ?_
      rw [keys_step, if_neg hk]
      split
      · assumption
      · simp
    · exact keys_after l _ v h hk
theorem keys_again : ∀ (l : List V) (L : List (V × Int)), (∀ v ∈ l, ¬ (v.k = 0 ∨ v.k = 4) → v.up ∈ L.map (·.1)) → (l.foldl seenStep L).map (·.1) = L.map (·.1)
  | [], L, _ => rfl
  | v :: l, L, h => by
    have h1 : (seenStep L v).map (·.1) = L.map (·.1) := by
      rw [keys_step]
      split
      · rfl
      · rename_i hk
        rw [if_pos (h v (List.mem_cons_self ..) hk)]
    rw [List.foldl_cons, keys_again l _ fun u hu hk => by rw [h1]; exact h u (List.mem_cons_of_mem _ hu) hk, h1]
theorem unlike_twice (l : List V) : (cB l).unlike = (cA l).unlike := by
  unfold A.unlike cA cB
  simp only [List.foldl_append]
  have := keys_again l (l.foldl seenStep []) fun v hv hk => keys_after l [] v hv hk
  have := congrArg List.length this
  simpa using this
theorem good_cA {l : List V} (h0 : l.length ≠ 0) (h1 : l.length ≤ 60) (h : ∀ v ∈ l, v.good = true) : (cA l).good = true := by
  simp only [cA, A.good, Bool.and_eq_true, decide_eq_true_eq, List.all_eq_true]
  refine ⟨⟨⟨⟨⟨?_, ?_⟩, ?_⟩, ?_⟩, ?_⟩, h⟩ <;> exact decide_eq_true (by omega)
theorem good_cB {l : List V} (h0 : l.length ≠ 0) (h1 : l.length ≤ 60) (h : ∀ v ∈ l, v.good = true) : (cB l).good = true := by
  simp only [cB, A.good, Bool.and_eq_true, decide_eq_true_eq, List.all_eq_true, List.length_append, List.mem_append]
  refine ⟨⟨⟨⟨⟨?_, ?_⟩, ?_⟩, ?_⟩, ?_⟩, fun v hv => h v (by rcases hv with hv | hv <;> exact hv)⟩ <;> first | exact decide_eq_true (by omega) | omega
theorem ofV_num {n : Int} (h1 : -100000000000 ≤ n) (h2 : n ≤ 100000000000) : ofV n true = numV n := by
  have : numGood n = true := by simp [numGood, h1, h2]
  simp [ofV, this, numV]
theorem count_cA {l : List V} (h0 : l.length ≠ 0) (h1 : l.length ≤ 60) (h : ∀ v ∈ l, v.good = true) : fSized (fun a => a.unlike) [cA l] = numV ((cA l).unlike * 10000) := by
  have := unlike_le (cA l)
  have hl : (cA l).l.length = l.length := rfl
  simp only [fSized, good_cA h0 h1 h, if_true]
  exact ofV_num (by omega) (by omega)
theorem count_cB {l : List V} (h0 : l.length ≠ 0) (h1 : l.length ≤ 60) (h : ∀ v ∈ l, v.good = true) : fSized (fun a => a.unlike) [cB l] = numV ((cA l).unlike * 10000) := by
  have := unlike_le (cA l)
  have hl : (cA l).l.length = l.length := rfl
  simp only [fSized, good_cB h0 h1 h, if_true, unlike_twice]
  exact ofV_num (by omega) (by omega)
theorem rows_cB {l : List V} (h0 : l.length ≠ 0) (h1 : l.length ≤ 60) (h : ∀ v ∈ l, v.good = true) : fSized A.rows [cB l] = numV 20000 := by
  simp only [fSized, good_cB h0 h1 h, if_true]
  exact ofV_num (show (-100000000000 : Int) ≤ 2 * 10000 by decide) (show (2 : Int) * 10000 ≤ 100000000000 by decide)
theorem infoV : (Try.prog.info? 26).map (fun i => (i.zero, i.size, i.bytes)) = some (some (.agg #[.int .i64 0, .int .i64 0, .string ⟨#[]⟩]), 3, 32) := by kernel_rfl
theorem flat_src {w : World} {b off : Nat} {l : List V} (h : ValsAt w b off l) (j : Nat) (u : Value) (hu : (l.flatMap vCells)[j]? = some u) : w.cell? ((⟨b, off, none⟩ : Addr).add j) = some u := by
  have hlt : j < (l.flatMap vCells).length := (List.getElem?_eq_some_iff.1 hu).1
  rw [flat_len 3 vCells (fun _ => rfl)] at hlt
  have hi : j / 3 < l.length := by omega
  have hj : j = j / 3 * 3 + j % 3 := by omega
  have h1 := flat_at 3 vCells (fun _ => rfl) l (j / 3) (j % 3) hi (by omega)
  rw [← hj, hu] at h1
  obtain ⟨g0, g1, g2⟩ := h (j / 3) hi
  rw [addr_add, show off + j = off + j / 3 * 3 + j % 3 by omega]
  have hm : j % 3 = 0 ∨ j % 3 = 1 ∨ j % 3 = 2 := by omega
  rcases hm with hm | hm | hm <;> rw [hm] at h1 ⊢ <;> simp [vCells] at h1 <;> subst h1
  · exact g0
  · exact g1
  · exact g2
theorem vCells_one {l : List V} : ∀ u ∈ l.flatMap vCells, u.oneCell' = true := fun u hu => by
  obtain ⟨v, _, hv⟩ := List.mem_flatMap.1 hu
  simp only [vCells, List.mem_cons, List.not_mem_nil, or_false] at hv
  rcases hv with rfl | rfl | rfl <;> rfl
theorem law_counts (sl : Value) (l : List V) (w : World) (h : IsVals w sl l) (hg : Glob w) : Calls Try.prog 4 #[sl] w (Ret w (.bool true)) := by
  have h' := h
  obtain ⟨ao, cap, rfl, hc1, hc2, hfit, h3⟩ := h'
  refine walk tabOK mixedOK 1000 [.v (.slice ao l.length cap)] vok_ret Try.func4 rfl Try.ntmps4 (by rw [Try.results4]) rfl rfl fun hC => ?_
  (try simp (config := {maxSteps := 4000000}) only [go_sem, Nat.reduceBEq, Nat.reduceLT, Nat.reduceLeDiff, Nat.reduceAdd, Nat.reduceMul, Int.reduceToNat, Nat.reduceMod, Int.cast_ofNat_Int, Int.reduceBEq, Int.reduceBNe, Int.reduceLE, Int.reduceLT, Int.reduceGT, Int.reduceGE, Int.zero_lt_one, Int.le_refl, and_self, Int.toNat_natCast])
  refine br (fun q0 => ?_) fun q0 => ?_
  (try simp (config := {maxSteps := 4000000}) only [go_sem, Nat.reduceBEq, Nat.reduceLT, Nat.reduceLeDiff, Nat.reduceAdd, Nat.reduceMul, Int.reduceToNat, Nat.reduceMod, Int.cast_ofNat_Int, Int.reduceBEq, Int.reduceBNe, Int.reduceLE, Int.reduceLT, Int.reduceGT, Int.reduceGE, Int.zero_lt_one, Int.le_refl, and_self, Int.toNat_natCast, q0])
  refine br (fun q1 => ?_) fun q1 => ?_
  have q1' := of_decide_eq_true q1
  (try simp (config := {maxSteps := 4000000}) only [go_sem, Nat.reduceBEq, Nat.reduceLT, Nat.reduceLeDiff, Nat.reduceAdd, Nat.reduceMul, Int.reduceToNat, Nat.reduceMod, Int.cast_ofNat_Int, Int.reduceBEq, Int.reduceBNe, Int.reduceLE, Int.reduceLT, Int.reduceGT, Int.reduceGE, Int.zero_lt_one, Int.le_refl, and_self, Int.toNat_natCast, q1])
  refine call_p hC 1000 rfl (by kernel_rfl) (fun w' hB => law_lives w' (hg.below hB)) ?_
  (try simp (config := {maxSteps := 4000000}) only [go_sem, Nat.reduceBEq, Nat.reduceLT, Nat.reduceLeDiff, Nat.reduceAdd, Nat.reduceMul, Int.reduceToNat, Nat.reduceMod, Int.cast_ofNat_Int, Int.reduceBEq, Int.reduceBNe, Int.reduceLE, Int.reduceLT, Int.reduceGT, Int.reduceGE, Int.zero_lt_one, Int.le_refl, and_self, Int.toNat_natCast])
  have q1' := of_decide_eq_false q1
  (try simp (config := {maxSteps := 4000000}) only [go_sem, Nat.reduceBEq, Nat.reduceLT, Nat.reduceLeDiff, Nat.reduceAdd, Nat.reduceMul, Int.reduceToNat, Nat.reduceMod, Int.cast_ofNat_Int, Int.reduceBEq, Int.reduceBNe, Int.reduceLE, Int.reduceLT, Int.reduceGT, Int.reduceGE, Int.zero_lt_one, Int.le_refl, and_self, Int.toNat_natCast, q1])
  rotate_left
  (try simp (config := {maxSteps := 4000000}) only [go_sem, Nat.reduceBEq, Nat.reduceLT, Nat.reduceLeDiff, Nat.reduceAdd, Nat.reduceMul, Int.reduceToNat, Nat.reduceMod, Int.cast_ofNat_Int, Int.reduceBEq, Int.reduceBNe, Int.reduceLE, Int.reduceLT, Int.reduceGT, Int.reduceGE, Int.zero_lt_one, Int.le_refl, and_self, Int.toNat_natCast, q0])
  refine call_p hC 1000 rfl (by kernel_rfl) (fun w' hB => law_lives w' (hg.below hB)) ?_
  (try simp (config := {maxSteps := 4000000}) only [go_sem, Nat.reduceBEq, Nat.reduceLT, Nat.reduceLeDiff, Nat.reduceAdd, Nat.reduceMul, Int.reduceToNat, Nat.reduceMod, Int.cast_ofNat_Int, Int.reduceBEq, Int.reduceBNe, Int.reduceLE, Int.reduceLT, Int.reduceGT, Int.reduceGE, Int.zero_lt_one, Int.le_refl, and_self, Int.toNat_natCast])
  refine loop_sym Nat (fun i => (⟨71, [(19, .v (.int .i64 (i : Nat))), (18, .v (.int .i64 (l.length : Nat))), (17, .v (.slice ao l.length cap)), (0, .v (.slice ao l.length cap)), (2, .v (.bool false))], [], 0⟩ : St))
    (fun i => i ≤ l.length ∧ ∀ j (hj : j < l.length), j < i → l[j].good = true) (fun i => l.length - i) 0 ⟨Nat.zero_le _, fun j _ h => (by omega)⟩ ⟨rfl, rfl, by simp [subL, lk], by simp [subL, lk]⟩ ?_
  rintro i ⟨hi, hgood⟩
  refine go hC 1000 ?_
  by_cases hlt : i < l.length
  · have hw1 : IntKind.i64.wrap ((i : Int) + 1) = ((i + 1 : Nat) : Int) := by rw [wrap64_id (by omega) (by omega)]; omega
    rcases h3 with h3 | ⟨b, off, rfl, hb, hv⟩
    · rw [h3] at hlt; simp at hlt
    have hm := vals_mem hv hb i hlt
    obtain ⟨v, hvd⟩ : ∃ v, v = l[i] := ⟨_, rfl⟩
    simp only [← hvd, addr_add] at hm
    cases hvg : v.good
    · (try simp (config := {maxSteps := 4000000}) only [go_sem, Nat.reduceBEq, Nat.reduceLT, Nat.reduceLeDiff, Nat.reduceAdd, Nat.reduceMul, Int.reduceToNat, Nat.reduceMod, Int.cast_ofNat_Int, Int.reduceBEq, Int.reduceBNe, Int.reduceLE, Int.reduceLT, Int.reduceGT, Int.reduceGE, Int.zero_lt_one, Int.le_refl, and_self, Int.toNat_natCast, hm, hw1])
      refine br_t (by simp only [decide_eq_true_eq, beq_iff_eq, bne_iff_ne, ne_eq]; omega) ?_
      (try simp (config := {maxSteps := 4000000}) only [go_sem, Nat.reduceBEq, Nat.reduceLT, Nat.reduceLeDiff, Nat.reduceAdd, Nat.reduceMul, Int.reduceToNat, Nat.reduceMod, Int.cast_ofNat_Int, Int.reduceBEq, Int.reduceBNe, Int.reduceLE, Int.reduceLT, Int.reduceGT, Int.reduceGE, Int.zero_lt_one, Int.le_refl, and_self, Int.toNat_natCast, hm, hw1])
      refine ⟨by omega, ?_⟩
      (try simp (config := {maxSteps := 4000000}) only [go_sem, Nat.reduceBEq, Nat.reduceLT, Nat.reduceLeDiff, Nat.reduceAdd, Nat.reduceMul, Int.reduceToNat, Nat.reduceMod, Int.cast_ofNat_Int, Int.reduceBEq, Int.reduceBNe, Int.reduceLE, Int.reduceLT, Int.reduceGT, Int.reduceGE, Int.zero_lt_one, Int.le_refl, and_self, Int.toNat_natCast, hm, hw1])
      refine call_p hC 1000 rfl (by kernel_rfl) (fun w' hB => ref06_GoodF _ (by assumption) w') ?_
      (try simp (config := {maxSteps := 4000000}) only [go_sem, Nat.reduceBEq, Nat.reduceLT, Nat.reduceLeDiff, Nat.reduceAdd, Nat.reduceMul, Int.reduceToNat, Nat.reduceMod, Int.cast_ofNat_Int, Int.reduceBEq, Int.reduceBNe, Int.reduceLE, Int.reduceLT, Int.reduceGT, Int.reduceGE, Int.zero_lt_one, Int.le_refl, and_self, Int.toNat_natCast, hm, hw1])
      refine call_p hC 1000 rfl (by kernel_rfl) (fun w' hB => law_lives w' (hg.below hB)) ?_
      (try simp (config := {maxSteps := 4000000}) only [go_sem, Nat.reduceBEq, Nat.reduceLT, Nat.reduceLeDiff, Nat.reduceAdd, Nat.reduceMul, Int.reduceToNat, Nat.reduceMod, Int.cast_ofNat_Int, Int.reduceBEq, Int.reduceBNe, Int.reduceLE, Int.reduceLT, Int.reduceGT, Int.reduceGE, Int.zero_lt_one, Int.le_refl, and_self, Int.toNat_natCast, hm, hw1])
    · (try simp (config := {maxSteps := 4000000}) only [go_sem, Nat.reduceBEq, Nat.reduceLT, Nat.reduceLeDiff, Nat.reduceAdd, Nat.reduceMul, Int.reduceToNat, Nat.reduceMod, Int.cast_ofNat_Int, Int.reduceBEq, Int.reduceBNe, Int.reduceLE, Int.reduceLT, Int.reduceGT, Int.reduceGE, Int.zero_lt_one, Int.le_refl, and_self, Int.toNat_natCast, hm, hw1])
      refine br_t (by simp only [decide_eq_true_eq, beq_iff_eq, bne_iff_ne, ne_eq]; omega) ?_
      (try simp (config := {maxSteps := 4000000}) only [go_sem, Nat.reduceBEq, Nat.reduceLT, Nat.reduceLeDiff, Nat.reduceAdd, Nat.reduceMul, Int.reduceToNat, Nat.reduceMod, Int.cast_ofNat_Int, Int.reduceBEq, Int.reduceBNe, Int.reduceLE, Int.reduceLT, Int.reduceGT, Int.reduceGE, Int.zero_lt_one, Int.le_refl, and_self, Int.toNat_natCast, hm, hw1])
      refine ⟨by omega, ?_⟩
      (try simp (config := {maxSteps := 4000000}) only [go_sem, Nat.reduceBEq, Nat.reduceLT, Nat.reduceLeDiff, Nat.reduceAdd, Nat.reduceMul, Int.reduceToNat, Nat.reduceMod, Int.cast_ofNat_Int, Int.reduceBEq, Int.reduceBNe, Int.reduceLE, Int.reduceLT, Int.reduceGT, Int.reduceGE, Int.zero_lt_one, Int.le_refl, and_self, Int.toNat_natCast, hm, hw1])
      refine call_p hC 1000 rfl (by kernel_rfl) (fun w' hB => ref06_GoodT _ (by assumption) w') ?_
      (try simp (config := {maxSteps := 4000000}) only [go_sem, Nat.reduceBEq, Nat.reduceLT, Nat.reduceLeDiff, Nat.reduceAdd, Nat.reduceMul, Int.reduceToNat, Nat.reduceMod, Int.cast_ofNat_Int, Int.reduceBEq, Int.reduceBNe, Int.reduceLE, Int.reduceLT, Int.reduceGT, Int.reduceGE, Int.zero_lt_one, Int.le_refl, and_self, Int.toNat_natCast, hm, hw1])
      rotate_left
      exact ⟨i + 1, ⟨by omega, fun j hj hji => by
        rcases Nat.lt_or_ge j i with h1 | h1
        · exact hgood j hj h1
        · obtain rfl : j = i := by omega
          rw [← hvd]; exact hvg⟩, by omega, rfl, rfl, by simp [subL, lk], by simp [subL, lk]⟩
  · have hi2 : i = l.length := by omega
    subst hi2
    have hall : ∀ v ∈ l, v.good = true := fun v hv => by
      obtain ⟨j, hj, rfl⟩ := List.getElem_of_mem hv
      exact hgood j hj hj
    (try simp (config := {maxSteps := 4000000}) only [go_sem, Nat.reduceBEq, Nat.reduceLT, Nat.reduceLeDiff, Nat.reduceAdd, Nat.reduceMul, Int.reduceToNat, Nat.reduceMod, Int.cast_ofNat_Int, Int.reduceBEq, Int.reduceBNe, Int.reduceLE, Int.reduceLT, Int.reduceGT, Int.reduceGE, Int.zero_lt_one, Int.le_refl, and_self, Int.toNat_natCast])
    refine br_f (by simp only [decide_eq_false_iff_not, beq_eq_false_iff_ne, bne_eq_false_iff_eq, ne_eq]; omega) ?_
    (try simp (config := {maxSteps := 4000000}) only [go_sem, Nat.reduceBEq, Nat.reduceLT, Nat.reduceLeDiff, Nat.reduceAdd, Nat.reduceMul, Int.reduceToNat, Nat.reduceMod, Int.cast_ofNat_Int, Int.reduceBEq, Int.reduceBNe, Int.reduceLE, Int.reduceLT, Int.reduceGT, Int.reduceGE, Int.zero_lt_one, Int.le_refl, and_self, Int.toNat_natCast])
    rotate_left
    have hne : l.length ≠ 0 := fun e => by rw [e] at q0; exact absurd q0 (by decide)
    rcases h3 with h3 | ⟨b, off, rfl, hb, hv⟩
    · rw [h3] at hne; simp at hne
    obtain ⟨iv, hi1, hz, hsz, hby⟩ := info_parts infoV
    have hsrc : ∀ (S : St) (d : Nat), lk S.tmps d = some (.v (.slice (some ⟨b, off, none⟩) l.length cap)) → ∀ r a w', Rel w r S a w' → ∃ (ad : Addr) (c : Nat), a.eval (.tmp d) = .slice (some ad) l.length c ∧ ∀ j u, (l.flatMap vCells)[j]? = some u → w'.cell? (ad.add j) = some u :=
      fun S d hd r a w' hR => ⟨⟨b, off, none⟩, cap, (hR.ev (x := .tmp d) hd).1, flat_src (hv.below hb hR.inv.below)⟩
    have hlen60 : l.length ≤ 60 := by omega
    refine row_made hC 1000 _ rfl rfl rfl ?_
    (try simp (config := {maxSteps := 4000000}) only [go_sem, Nat.reduceBEq, Nat.reduceLT, Nat.reduceLeDiff, Nat.reduceAdd, Nat.reduceMul, Int.reduceToNat, Nat.reduceMod, Int.cast_ofNat_Int, Int.reduceBEq, Int.reduceBNe, Int.reduceLE, Int.reduceLT, Int.reduceGT, Int.reduceGE, Int.zero_lt_one, Int.le_refl, and_self, Int.toNat_natCast, Nat.zero_add])
    rotate_left
    refine app_go hC 1000 ⟨71, [(33, .v (.int .i64 (l.length : Nat))), (5, .ptr 0 0), (0, .v (.slice (some ⟨b, off, none⟩) l.length cap)), (2, .v (.bool false))], [(0, .cells [.v (.int .i64 1), .v (.int .i64 (l.length : Nat)), .v (.slice (some ⟨b, off, none⟩) l.length cap), .v (.bool true)] 33)], 2⟩ iv _ rfl Try.underlying31 hi1 hz hsz hby rfl (by decide) rfl rfl
      ⟨rfl, rfl, by simp [subL, lk], by simp [subL, lk]⟩ rfl (flat_len 3 vCells (fun _ => rfl) l) vCells_one (hsrc _ _ rfl) (by unfold maxLen; omega) (by omega) ?_
    (try simp (config := {maxSteps := 4000000}) only [go_sem, Nat.reduceBEq, Nat.reduceLT, Nat.reduceLeDiff, Nat.reduceAdd, Nat.reduceMul, Int.reduceToNat, Nat.reduceMod, Int.cast_ofNat_Int, Int.reduceBEq, Int.reduceBNe, Int.reduceLE, Int.reduceLT, Int.reduceGT, Int.reduceGE, Int.zero_lt_one, Int.le_refl, and_self, Int.toNat_natCast, Nat.zero_add])
    rotate_left
    refine app_go hC 1000 ⟨71, [(33, .v (.int .i64 (l.length : Nat))), (5, .ptr 0 0), (0, .v (.slice (some ⟨b, off, none⟩) l.length cap)), (2, .v (.bool false))], [(0, .cells [.v (.int .i64 1), .v (.int .i64 (l.length : Nat)), .v (.slice (some ⟨b, off, none⟩) l.length cap), .v (.bool true)] 33)], 2⟩ iv _ rfl Try.underlying31 hi1 hz hsz hby rfl (by decide) rfl rfl
      ⟨rfl, rfl, by simp [subL, lk], by simp [subL, lk]⟩ rfl (flat_len 3 vCells (fun _ => rfl) l) vCells_one (hsrc _ _ rfl) (by unfold maxLen; omega) (by omega) ?_
    (try simp (config := {maxSteps := 4000000}) only [go_sem, Nat.reduceBEq, Nat.reduceLT, Nat.reduceLeDiff, Nat.reduceAdd, Nat.reduceMul, Int.reduceToNat, Nat.reduceMod, Int.cast_ofNat_Int, Int.reduceBEq, Int.reduceBNe, Int.reduceLE, Int.reduceLT, Int.reduceGT, Int.reduceGE, Int.zero_lt_one, Int.le_refl, and_self, Int.toNat_natCast, Nat.zero_add])
    rotate_left
    have hU := unlike_le (cA l)
    have hU2 : (cA l).l.length = l.length := rfl
    have hfA : (cA l).fit := ⟨⟨(show (-9223372036854775808 : Int) ≤ 1 by decide), (show (1 : Int) ≤ 9223372036854775807 by decide)⟩, (show (-9223372036854775808 : Int) ≤ (l.length : Nat) by omega), (show ((l.length : Nat) : Int) ≤ 9223372036854775807 by omega)⟩
    have hfB : (cB l).fit := ⟨⟨(show (-9223372036854775808 : Int) ≤ 2 by decide), (show (2 : Int) ≤ 9223372036854775807 by decide)⟩, (show (-9223372036854775808 : Int) ≤ (l.length : Nat) by omega), (show ((l.length : Nat) : Int) ≤ 9223372036854775807 by omega)⟩
    obtain ⟨U, hUd⟩ : ∃ U : Int, U = (cA l).unlike := ⟨_, rfl⟩
    have hcA := count_cA hne hlen60 hall
    have hcB := count_cB hne hlen60 hall
    have hrB := rows_cB hne hlen60 hall
    rw [← hUd] at hcA hcB
    have hU3 : 0 ≤ U ∧ U ≤ l.length := by omega
    have hll : (l ++ l).flatMap vCells = l.flatMap vCells ++ l.flatMap vCells := by simp
    have hBv : ∀ {H r w'}, Inv w r H w' → lk H 1 = some (.row (l.length + l.length) (l.flatMap vCells ++ l.flatMap vCells) 26 3) → IsVals w' (.slice (r.sa 1) (l.length + l.length) (r.sc 1)) (l ++ l) :=
      fun hI hk => row_vals hI (l ++ l) (by simp) (by rw [hll]; exact hk) fun v hv => hfit v (by rcases List.mem_append.1 hv with hv | hv <;> exact hv)
    have w1 : IntKind.i64.wrap ((l.length : Int) * 10000) = (l.length : Int) * 10000 := wrap64_id (by omega) (by omega)
    refine call_go hC 1000 (.agg #[.int .i64 ((numV (U * 10000))).k, .int .i64 ((numV (U * 10000))).n, .string ((numV (U * 10000))).s]) (by kernel_rfl) (fun r w' hI => ?_) ?_
    · have hA := own_areas hI [(cA l, .slice (some ⟨b, off, none⟩) l.length cap)] (j := 3) (.inl rfl) (by simp [dens, SV.den, A.cells, cA]) (by simp) (fun p hp => by
        simp only [List.mem_cons, List.not_mem_nil, or_false] at hp
        subst hp
        exact ⟨h.below hI.below, hfA⟩)
      simp only [dens, SV.den]
      exact lives_ask rfl hA (hg.below hI.below) (fun w2 h2 g2 => call_COUNTUNIQUE _ _ w2 h2 g2) hcA
    (try simp (config := {maxSteps := 4000000}) only [go_sem, Nat.reduceBEq, Nat.reduceLT, Nat.reduceLeDiff, Nat.reduceAdd, Nat.reduceMul, Int.reduceToNat, Nat.reduceMod, Int.cast_ofNat_Int, Int.reduceBEq, Int.reduceBNe, Int.reduceLE, Int.reduceLT, Int.reduceGT, Int.reduceGE, Int.zero_lt_one, Int.le_refl, and_self, Int.toNat_natCast, numV])
    refine draw_go hC ?_
    (try simp (config := {maxSteps := 4000000}) only [go_sem, Nat.reduceBEq, Nat.reduceLT, Nat.reduceLeDiff, Nat.reduceAdd, Nat.reduceMul, Int.reduceToNat, Nat.reduceMod, Int.cast_ofNat_Int, Int.reduceBEq, Int.reduceBNe, Int.reduceLE, Int.reduceLT, Int.reduceGT, Int.reduceGE, Int.zero_lt_one, Int.le_refl, and_self, Int.toNat_natCast, numV])
    rotate_left
    refine dcall_go hC (.agg #[.int .i64 ((numV (U * 10000))).k, .int .i64 ((numV (U * 10000))).n, .string ((numV (U * 10000))).s]) [11, 1] (by kernel_rfl) (fun r w' hI => ?_) ?_
    · have hA := own_areas hI [(cB l, .slice (r.sa 1) (l.length + l.length) (r.sc 1))] (j := 11) (.inl rfl) (by simp [dens, SV.den, A.cells, cB]) (by simp) (fun p hp => by
        simp only [List.mem_cons, List.not_mem_nil, or_false] at hp
        subst hp
        exact ⟨hBv hI rfl, hfB⟩)
      simp only [dens, SV.den]
      exact lives_ask rfl hA (hg.below hI.below) (fun w2 h2 g2 => call_COUNTUNIQUE _ _ w2 h2 g2) hcB
    (try simp (config := {maxSteps := 4000000}) only [go_sem, Nat.reduceBEq, Nat.reduceLT, Nat.reduceLeDiff, Nat.reduceAdd, Nat.reduceMul, Int.reduceToNat, Nat.reduceMod, Int.cast_ofNat_Int, Int.reduceBEq, Int.reduceBNe, Int.reduceLE, Int.reduceLT, Int.reduceGT, Int.reduceGE, Int.zero_lt_one, Int.le_refl, and_self, Int.toNat_natCast, numV, empty_beq, beq_self_eq_true, w1])
    refine br_t (by simp only [decide_eq_true_eq, beq_iff_eq, bne_iff_ne, ne_eq]; omega) ?_
    (try simp (config := {maxSteps := 4000000}) only [go_sem, Nat.reduceBEq, Nat.reduceLT, Nat.reduceLeDiff, Nat.reduceAdd, Nat.reduceMul, Int.reduceToNat, Nat.reduceMod, Int.cast_ofNat_Int, Int.reduceBEq, Int.reduceBNe, Int.reduceLE, Int.reduceLT, Int.reduceGT, Int.reduceGE, Int.zero_lt_one, Int.le_refl, and_self, Int.toNat_natCast, numV, empty_beq, beq_self_eq_true, w1])
    rotate_left
    refine dcall_go hC (.agg #[.int .i64 ((numV 20000)).k, .int .i64 ((numV 20000)).n, .string ((numV 20000)).s]) [25, 1] (by kernel_rfl) (fun r w' hI => ?_) ?_
    · have hA := own_areas hI [(cB l, .slice (r.sa 1) (l.length + l.length) (r.sc 1))] (j := 25) (.inl rfl) (by simp [dens, SV.den, A.cells, cB]) (by simp) (fun p hp => by
        simp only [List.mem_cons, List.not_mem_nil, or_false] at hp
        subst hp
        exact ⟨hBv hI rfl, hfB⟩)
      simp only [dens, SV.den]
      exact lives_ask rfl hA (hg.below hI.below) (fun w2 h2 g2 => call_ROWS _ _ w2 h2 g2) hrB
    (try simp (config := {maxSteps := 4000000}) only [go_sem, Nat.reduceBEq, Nat.reduceLT, Nat.reduceLeDiff, Nat.reduceAdd, Nat.reduceMul, Int.reduceToNat, Nat.reduceMod, Int.cast_ofNat_Int, Int.reduceBEq, Int.reduceBNe, Int.reduceLE, Int.reduceLT, Int.reduceGT, Int.reduceGE, Int.zero_lt_one, Int.le_refl, and_self, Int.toNat_natCast, numV, empty_beq, beq_self_eq_true, w1])
    refine dcall_p hC [] rfl (by kernel_rfl) (fun w' hB => law_lives w' (hg.below hB)) ?_
    (try simp (config := {maxSteps := 4000000}) only [go_sem, Nat.reduceBEq, Nat.reduceLT, Nat.reduceLeDiff, Nat.reduceAdd, Nat.reduceMul, Int.reduceToNat, Nat.reduceMod, Int.cast_ofNat_Int, Int.reduceBEq, Int.reduceBNe, Int.reduceLE, Int.reduceLT, Int.reduceGT, Int.reduceGE, Int.zero_lt_one, Int.le_refl, and_self, Int.toNat_natCast, numV, empty_beq, beq_self_eq_true, w1])
    refine ⟨by kernel_rfl, go hC 1000 ?_⟩
    (try simp (config := {maxSteps := 4000000}) only [go_sem, Nat.reduceBEq, Nat.reduceLT, Nat.reduceLeDiff, Nat.reduceAdd, Nat.reduceMul, Int.reduceToNat, Nat.reduceMod, Int.cast_ofNat_Int, Int.reduceBEq, Int.reduceBNe, Int.reduceLE, Int.reduceLT, Int.reduceGT, Int.reduceGE, Int.zero_lt_one, Int.le_refl, and_self, Int.toNat_natCast, numV, empty_beq, beq_self_eq_true, w1])
end Go.Proofs.Ytpoiebkcjehheaa
