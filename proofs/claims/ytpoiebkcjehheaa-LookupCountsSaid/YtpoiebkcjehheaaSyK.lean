/- A symbolic walk, part K: rows of the call's own that grow (append). -/
import Derived.Test.YtpoiebkcjehheaaSyJ
import Derived.Laws.AppendOwn
namespace Go.Proofs.Ytpoiebkcjehheaa
open Go.RowKit

theorem app_own {P : Program} (w : World) (base : Nat) (t ty e : TypeId) (i : TypeInfo) (z : Value) (size bytes : Nat) (ht : P.underlying t = some (.slice e)) (hi : P.info? e = some i) (hz : i.zero = some z)
    (hsize : i.size = size) (hby : i.bytes = bytes) (hzs : z.cells.size = size) (hsz : 0 < size)
    (v : Value) (n : Nat) (xs : List Value) (hown : w.ownsRow base e size v n xs)
    (a : Addr) (m c : Nat) (news : List Value) (hl : news.length = m * size) (hnews : ∀ j u, news[j]? = some u → w.cell? (a.add j) = some u) (h1 : ∀ u ∈ news, u.oneCell' = true)
    (h63 : n + m ≤ maxLen) (hbytes : (n + m) * bytes ≤ 140737488355328) (hbase : base ≤ w.heap.size) :
    ∃ v' w', (Builtin.append_ #[t, t] ty #[v, .slice (some a) m c]).run P w = .ok v' w' ∧ w'.ownsRow base e size v' (n + m) (xs ++ news) ∧ w.grownBy w' v.ownBlock ∧
      ∀ g', v'.ownBlock = some g' → v.ownBlock = some g' ∨ g' = w.heap.size := by
  obtain ⟨v', w', hr, h2, h3, h4⟩ := run_append_own (P := P) w base t ty e i z size bytes ht hi hz hsize hby hzs hsz v n xs hown a m c news hl hnews h1 h63 hbytes hbase
  refine ⟨v', w', hr, h2, h3, ?_⟩
  subst hsize
  subst hby
  rcases hown.2 with ⟨rfl, rfl⟩ | ⟨g, cap, cur, rfl, hbg, hg, hnc, hcm, hcs, htake⟩
  · by_cases hm : m = 0
    · rw [h4.2 ⟨rfl, hm⟩]
      intro g' hg'
      simp [Value.ownBlock] at hg'
    · have hr' := run_append_nil (P := P) w t ty e i z ht hi hz a m c news hl hnews (by omega) (by have := h63; simp only [maxLen] at this; omega) (by have hb := hbytes; simp only [Nat.zero_add] at hb; omega)
      rw [hr] at hr'
      simp only [Result.ok.injEq] at hr'
      rw [hr'.1]
      intro g' hg'
      simp [Value.ownBlock] at hg'
      exact .inr hg'.symm
  · by_cases hroom : n + m ≤ cap
    · have hfit : n * i.size + news.length ≤ cur.size := by rw [hl, hcs, ← Nat.add_mul]; exact Nat.mul_le_mul_right _ hroom
      have hr' := run_append_room (P := P) w t ty e i ht hi g n cap cur hg a m c news hl hnews h1 hroom hfit
      rw [hr] at hr'
      simp only [Result.ok.injEq] at hr'
      rw [hr'.1]
      intro g' hg'
      exact .inl hg'
    · have holds : ∀ j u, xs[j]? = some u → w.cell? ((⟨g, 0, none⟩ : Addr).add j) = some u := hown.cells (g := g) rfl
      have hr' := run_append_grow (P := P) w t ty e i z ht hi hz ⟨g, 0, none⟩ n cap xs hown.1 holds a m c news hl hnews (by omega) (by have := h63; simp only [maxLen] at this; omega) (growslice_fits (by omega) hbytes)
      rw [hr] at hr'
      simp only [Result.ok.injEq] at hr'
      rw [hr'.1]
      intro g' hg'
      simp [Value.ownBlock] at hg'
      exact .inr hg'.symm

/-- A row's base turns with its block. -/
theorem ownsRow_base {w : World} {base base' : Nat} {e : TypeId} {size n : Nat} {v : Value} {xs : List Value} (h : w.ownsRow base e size v n xs) (hb : ∀ g, v.ownBlock = some g → base' ≤ g) : w.ownsRow base' e size v n xs := by
  refine ⟨h.1, ?_⟩
  rcases h.2 with h2 | ⟨g, cap, cur, rfl, h3, h4⟩
  · exact .inl h2
  · exact .inr ⟨g, cap, cur, rfl, hb g rfl, h4⟩
def ne (k : Nat) : Nat → Bool := fun j => !(j == k)
/-- Nothing names k. -/
def freeT (k : Nat) : List (Nat × SV) → Bool
  | [] => true
  | (_, x) :: l => x.nm (ne k) && freeT k l
def freeH (k : Nat) : List (Nat × Blk) → Bool
  | [] => true
  | (j, b) :: l => ne k j && b.nm (ne k) && freeH k l
theorem freeT_lk (k : Nat) : ∀ l, freeT k l = true → ∀ t x, lk l t = some x → x.nm (ne k) = true
  | [], _, t, x, h => by simp only [lk] at h; cases h
  | (d, y) :: l, hs, t, x, h => by
    simp only [freeT, Bool.and_eq_true] at hs
    rw [lk_cons] at h
    split at h
    · simp only [Option.some.injEq] at h; subst h; exact hs.1
    · exact freeT_lk k l hs.2 t x h
theorem freeH_lk (k : Nat) : ∀ l, freeH k l = true → ∀ j b, lk l j = some b → ne k j = true ∧ b.nm (ne k) = true
  | [], _, t, x, h => by simp only [lk] at h; cases h
  | (d, y) :: l, hs, t, x, h => by
    simp only [freeH, Bool.and_eq_true] at hs
    rw [lk_cons] at h
    split at h
    · rename_i e; subst e; simp only [Option.some.injEq] at h; subst h; exact hs.1
    · exact freeH_lk k l hs.2 t x h

/-- A row of the call's own becomes another row, maybe elsewhere. -/
theorem Rel.grow {w0 : World} {r : Va} {S T : St} {a : Act} {w w' : World} {k n n' : Nat} {e : TypeId} {size : Nat} {xs xs' : List Value} {v' : Value} (h : Rel w0 r S a w) (hk : lk S.heap k = some (.row n xs e size)) (hl : S.le T) (hT : (freeT k T.tmps && freeH k T.heap && Nat.blt k T.next) = true)
    (hw : w.grownBy w' (Value.slice (r.sa k) n (r.sc k)).ownBlock) (hv : w'.ownsRow w0.heap.size e size v' n' xs') (hg : ∀ g', v'.ownBlock = some g' → (Value.slice (r.sa k) n (r.sc k)).ownBlock = some g' ∨ g' = w.heap.size) :
    ∃ r', Va.same (ne k) r r' ∧ v' = (SV.usl k n').den r' ∧ Rel w0 r' { T with heap := (k, .row n' xs' e size) :: T.heap } a w' := by
  have hb := h.inv.below.size
  obtain ⟨m1, m2, m3⟩ := h.inv.blk k _ hk
  simp only [Blk.ok] at m3
  obtain ⟨m3, m4⟩ := m3
  simp only [Bool.and_eq_true, Nat.blt_eq] at hT
  obtain ⟨⟨hT1, hT2⟩, hT3⟩ := hT
  have hform : ∃ sa sc, v' = .slice sa n' sc := by
    rcases hv.2 with ⟨rfl, rfl⟩ | ⟨g, cap, cur, rfl, _⟩
    · exact ⟨_, _, rfl⟩
    · exact ⟨_, _, rfl⟩
  obtain ⟨sa, sc, rfl⟩ := hform
  have own_lo : ∀ g, (Value.slice (r.sa k) n (r.sc k)).ownBlock = some g → r.lo k ≤ g ∧ g < r.hi k := fun g hg => ⟨(m3.lt g hg).1, m4 g hg⟩
  obtain ⟨lo, hi, hlo, hhi, hin, hblk⟩ : ∃ lo hi, w0.heap.size ≤ lo ∧ hi ≤ w'.heap.size ∧ (∀ g, (Value.slice sa n' sc).ownBlock = some g → lo ≤ g ∧ g < hi) ∧ ((r.lo k ≤ lo ∧ hi ≤ r.hi k) ∨ w.heap.size ≤ lo) := by
    cases ho : (Value.slice sa n' sc).ownBlock with
    | none => exact ⟨w.heap.size, w'.heap.size, hb, Nat.le_refl _, fun g hg => (by cases hg), .inr (Nat.le_refl _)⟩
    | some g =>
      have hlt := (hv.lt g ho).2
      rcases hg g ho with h1 | h1
      · obtain ⟨q1, q2⟩ := own_lo g h1
        exact ⟨g, g + 1, by omega, by omega, fun g' hg' => by simp only [Option.some.injEq] at hg'; omega, .inl ⟨q1, by omega⟩⟩
      · exact ⟨g, g + 1, by omega, by omega, fun g' hg' => by simp only [Option.some.injEq] at hg'; omega, .inr (by omega)⟩
  have hsame : Va.same (ne k) r (r.set k lo hi undef sa sc) := fun j hj => by
    have : ¬ j = k := by simpa [ne] using hj
    simp only [Va.set, if_neg this, and_self]
  have hle := h.le hl
  have hbel : Below w0.heap.size w0 w' := by
    refine ⟨hw.os.trans h.inv.below.os, hw.tape.trans h.inv.below.tape, hw.output.trans h.inv.below.output, Nat.le_trans hb hw.size, fun b hbb => ?_⟩
    rw [hw.block b (by omega) (fun e => by have := own_lo b e.symm; omega)]
    exact h.inv.below.block b hbb
  have old : ∀ j b, lk T.heap j = some b → j ≠ k ∧ w0.heap.size ≤ (r.set k lo hi undef sa sc).lo j ∧ (r.set k lo hi undef sa sc).hi j ≤ w.heap.size ∧ b.ok w0.heap.size (r.set k lo hi undef sa sc) j w' ∧
      ((r.set k lo hi undef sa sc).hi j ≤ lo ∨ hi ≤ (r.set k lo hi undef sa sc).lo j) := by
    intro j b hj
    obtain ⟨f1, f2⟩ := freeH_lk k _ hT2 j b hj
    have hne : j ≠ k := by simpa [ne] using f1
    obtain ⟨g1, g2, g3⟩ := hle.inv.blk j b hj
    obtain ⟨e1, e2, _⟩ := hsame j f1
    have ap := h.inv.apart j k b _ (subL_lk _ _ hl.2.2.2 j b hj) hk hne
    refine ⟨hne, by omega, by omega, Blk.ok_same g3 hsame f1 f2 hw.size fun i hi => ?_, ?_⟩
    · refine hw.block i (by omega) (fun e => ?_)
      obtain ⟨q1, q2⟩ := own_lo i e.symm
      omega
    · rw [← e1, ← e2]
      omega
  have hwsz := hw.size
  have hinv : Inv w0 (r.set k lo hi undef sa sc) ((k, .row n' xs' e size) :: T.heap) w' := by
    rw [Inv, lk_upF]
    refine ⟨hbel, fun j b hj => ?_, fun j j' b b' hj hj' hne => ?_⟩
    · simp only [upF] at hj
      split at hj
      · rename_i e; subst e
        simp only [Option.some.injEq] at hj; subst hj
        refine ⟨by simpa [Va.set] using hlo, by simpa [Va.set] using hhi, ?_⟩
        simp only [Blk.ok, Va.set, if_pos]
        exact ⟨ownsRow_base hv fun g hg => (hin g hg).1, fun g hg => (hin g hg).2⟩
      · obtain ⟨o1, o2, o3, o4, o5⟩ := old j b hj
        exact ⟨o2, by omega, o4⟩
    · simp only [upF] at hj hj'
      have elo : (r.set k lo hi undef sa sc).lo k = lo := by simp [Va.set]
      have ehi : (r.set k lo hi undef sa sc).hi k = hi := by simp [Va.set]
      split at hj <;> split at hj'
      · omega
      · rename_i e _; subst e
        obtain ⟨o1, o2, o3, o4, o5⟩ := old j' b' hj'
        rw [elo, ehi]; omega
      · rename_i e; subst e
        obtain ⟨o1, o2, o3, o4, o5⟩ := old j b hj
        rw [elo, ehi]; omega
      · obtain ⟨e1, e2, _⟩ := hsame j (freeH_lk k _ hT2 j b hj).1
        obtain ⟨f1, f2, _⟩ := hsame j' (freeH_lk k _ hT2 j' b' hj').1
        have := hle.inv.apart j j' b b' hj hj' hne
        omega
  refine ⟨_, hsame, by simp [SV.den, Va.set], ⟨hle.defers, hle.size, fun t x hx => ?_, hinv, ⟨hle.ok.tmps, fun j b hj => ?_⟩⟩⟩
  · rw [hle.tmps t x hx, SV.den_congr hsame x (freeT_lk k _ hT1 t x hx)]
  · rw [lk_cons] at hj
    split at hj
    · rename_i e; subst e
      simp only [Option.some.injEq] at hj; subst hj
      exact ⟨by simpa [lt] using hT3, rfl⟩
    · exact hle.ok.heap j b hj

section
variable {C : Cx} {k : List Item} {S : St} {o : Oper} {arr : Array Oper} {rest : List Oper}
/-- A slice of no elements, made by its literal. -/
theorem row_made (hC : CxOK C) (n : Nat) {t e : TypeId} (i : TI) (ht : C.tab t = some i) {es : Nat} (hi : i.k = .sl e es) (ho : o.op = .buildSlice t 0 #[])
    (hk : sym C n (.ops arr rest :: k) ({ S with heap := (S.next, .row 0 [] e es) :: S.heap, next := S.next + 1 }.put o.dst (.usl S.next 0))) : AskG C o arr rest k S := by
  obtain ⟨h1, h2, h3⟩ := hC.tab.sl ht hi
  refine asknew_go hC n (.row 0 [] e es) (.usl S.next 0) (by simp [SV.nm, lt]) rfl (fun r a w hR => ?_) hk
  refine ⟨r.set S.next w.heap.size (w.heap.size + 1) undef (some ⟨w.heap.size, 0, none⟩) 0, w.alloc (.cells #[] e), Va.set_same r S.next _ _ _ _ _, ?_, (Below.refl _ _).alloc (Nat.le_refl _) _, by simp [Va.set], by simp [Va.set], ?_⟩
  · have hs : ∀ w, (sizeOf e).run C.P w = .ok es w := fun w => by rw [run_sizeOf' h2, h3]
    simp [execOp, ho, Instr.buildSlice, run_underlying h1, hs, Instr.fill, newRow, SV.den, Va.set]
    congr 2
    apply Array.ext'
    simp
  · simp only [Blk.ok, Va.set, if_pos]
    exact ⟨World.ownsRow_made w #[] 0 (Nat.le_refl _) (by unfold maxLen; omega) (by simp), fun g hg => by simp [Value.ownBlock] at hg; omega⟩
/-- append to a row of the call's own. -/
theorem app_go (hC : CxOK C) (n : Nat) (T : St) {d s : Nat} {t e : TypeId} {q len m size bytes : Nat} {xs news : List Value} (i : TypeInfo) (z : Value) (ho : o.op = .call { callee := .builtin .append, args := #[.tmp d, .tmp s], argTypes := #[t, t] })
    (ht : C.P.underlying t = some (.slice e)) (hi : C.P.info? e = some i) (hz : i.zero = some z) (hsize : i.size = size) (hby : i.bytes = bytes) (hzs : z.cells.size = size) (hsz : 0 < size)
    (hd : lk S.tmps d = some (.usl q len)) (hq : lk S.heap q = some (.row len xs e size)) (hl : S.le T) (hT : (freeT q T.tmps && freeH q T.heap && Nat.blt q T.next) = true) (hnl : news.length = m * size) (hn1 : ∀ u ∈ news, u.oneCell' = true)
    (hsrc : ∀ r a w, Rel C.w0 r S a w → ∃ (ad : Addr) (c : Nat), a.eval (.tmp s) = .slice (some ad) m c ∧ ∀ j u, news[j]? = some u → w.cell? (ad.add j) = some u)
    (h63 : len + m ≤ maxLen) (hbytes : (len + m) * bytes ≤ 140737488355328)
    (hk : sym C n (.ops arr rest :: k) ({ T with heap := (q, .row (len + m) (xs ++ news) e size) :: T.heap }.put o.dst (.usl q (len + m)))) : AskG C o arr rest k S := by
  intro r a w hR
  obtain ⟨ad, c, h1, h2⟩ := hsrc r a w hR
  obtain ⟨m1, m2, m3⟩ := hR.inv.blk q _ hq
  simp only [Blk.ok] at m3
  have hv0 := (hR.ev (x := .tmp d) hd).1
  simp only [SV.den] at hv0
  obtain ⟨v', w', hr, g1, g2, g3⟩ := app_own (P := C.P) w C.w0.heap.size t o.type e i z size bytes ht hi hz hsize hby hzs hsz _ len xs (ownsRow_base m3.1 fun g hg => Nat.le_trans m1 (m3.1.lt g hg).1) ad m c news hnl h2 hn1 h63 hbytes hR.inv.below.size
  obtain ⟨r', s1, s2, s3⟩ := hR.grow hq hl hT g2 g1 g3
  have hrun : (execOp a.eval o).run C.P w = .ok (.value v') w' := by
    have e1 : a.tmps.getD d undef = .slice (r.sa q) len (r.sc q) := hv0
    have e2 : a.tmps.getD s undef = .slice (some ad) m c := h1
    simp only [execOp, ho, resolve, invoke, builtin, Sem.run_bind, Sem.run_pure, Result.andThen_ok, List.map_toArray, List.map_cons, List.map_nil, Act.eval, e1, e2, hr]
  unfold Oper.wp
  rw [hrun, s2]
  have hnm : (SV.usl q (len + m)).nm (lt T.next) = true := by
    simp only [Bool.and_eq_true] at hT
    simpa [SV.nm, lt] using hT.2
  exact go hC n hk _ _ _ (s3.put o.dst (x := .usl q (len + m)) hnm)
end
end Go.Proofs.Ytpoiebkcjehheaa
