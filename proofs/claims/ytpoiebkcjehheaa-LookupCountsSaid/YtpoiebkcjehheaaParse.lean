/- Contracts of num.told and num.Parse. -/
import Derived.Test.YtpoiebkcjehheaaCount
import Derived.Test.YtpoiebkcjehheaaShelf
namespace Go.Proofs.Ytpoiebkcjehheaa
open Go.RowKit
set_option linter.unusedSimpArgs false
set_option linter.unusedVariables false

/-- The library's own variable holds some number. -/
def Glob (w : World) : Prop := ∃ m, w.cell? ⟨0, 0, none⟩ = some (.int .i64 m)
theorem Glob.lt {w : World} (h : Glob w) : 0 < w.heap.size := by
  obtain ⟨m, hm⟩ := h
  rcases Nat.lt_or_ge 0 w.heap.size with h' | h'
  · exact h'
  · simp [World.cell?, Array.getElem?_eq_none h'] at hm
theorem Glob.below {w w' : World} (h : Glob w) (H : Below w.heap.size w w') : Glob w' := by
  have hl := h.lt
  obtain ⟨m, hm⟩ := h
  exact ⟨m, (H.cell (p := ⟨0, 0, none⟩) hl).trans hm⟩

theorem bel_drewN_of {w w1 w2 : World} {nd : Nat} (hb1 : Below (w.drewN nd).heap.size (w.drewN nd) w1) (hb2 : Below w1.heap.size w1 w2) : Below w.heap.size w w2 :=
  ((bel_drewN (Below.refl w.heap.size w) nd).trans hb1).trans (hb2.mono hb1.size)

theorem num_told (n : Int) (w : World) :
    Calls Try.prog 56 #[.int .i64 n] w fun e w' => e = .returned (.tuple #[.int .i64 (if numGood n then n else 0), .bool (numGood n)]) ∧ w = w' := by
  obtain ⟨g, hg⟩ : ∃ g, g = numGood n := ⟨_, rfl⟩
  have hG := num_Good n
  rw [← hg] at hG ⊢
  have HG := Lib.hid hG
  clear hG hg
  cases g
  all_goals
    go_enter Try.func56, Try.ntmps56
    go_wp2_with (first | (go_at_call 49; refine (HG.out _).mono ?_; rintro e w' ⟨rfl, rfl⟩))
    go_ret2
    exact ⟨rfl, rfl⟩

def tellNum (neg : Bool) (x : Int) : Option Int := if numGood (if neg then -x else x) then some (if neg then -x else x) else none
theorem tell_pair (neg : Bool) (x : Int) : (if numGood (if neg then -x else x) then (if neg then -x else x) else 0) = (tellNum neg x).getD 0 ∧ numGood (if neg then -x else x) = (tellNum neg x).isSome := by
  unfold tellNum
  generalize (if neg then -x else x) = y
  cases h : numGood y <;> simp
/-- A decimal's parts as a number. -/
def joinNum (neg : Bool) (wh rest : List UInt8) (point : Bool) : Option Int :=
  match countOf wh with
  | none => none
  | some n =>
    if 1 ≤ wh.length ∧ wh.length ≤ 12 then
      if point then
        match countOf rest with
        | none => none
        | some m => if 1 ≤ rest.length ∧ rest.length ≤ 4 then tellNum neg (n * 10000 + m * 10 ^ (4 - rest.length)) else none
      else tellNum neg (n * 10000)
    else none
/-- A text as a number. -/
def parseOf (l : List UInt8) : Option Int :=
  joinNum (Lib.hasPrefix l [45]) (Lib.cut (Lib.trimPrefix l [45]) [46]).1 (Lib.cut (Lib.trimPrefix l [45]) [46]).2.1 (Lib.cut (Lib.trimPrefix l [45]) [46]).2.2

theorem cntN_lt (l : List UInt8) (h : ∀ c ∈ l, isDig c = true) : cntN l < 10 ^ l.length := by
  have key : ∀ (l : List UInt8) (n b : Int), 0 ≤ n → n < b → (∀ c ∈ l, isDig c = true) → l.foldl cntStep n < b * 10 ^ l.length := by
    intro l
    induction l with
    | nil => intro n b h0 h1 _; simpa using h1
    | cons c l ih =>
      intro n b h0 h1 hd
      have hc := hd c (by simp)
      simp only [isDig, Bool.and_eq_true, decide_eq_true_eq] at hc
      have := ih (cntStep n c) (b * 10) (by unfold cntStep; split <;> omega) (by unfold cntStep; split <;> omega) (fun d hd' => hd d (by simp [hd']))
      simp only [List.foldl_cons, List.length_cons, Int.pow_succ]
      rw [Int.mul_comm (10 ^ l.length) 10, ← Int.mul_assoc]
      exact this
  have := key l 0 1 (by omega) (by omega) h
  simpa [cntN] using this

theorem countOf_bd {l : List UInt8} {n : Int} (h : countOf l = some n) : 0 ≤ n ∧ n < 10 ^ l.length := by
  unfold countOf at h
  split at h
  · rename_i hall
    rw [List.all_eq_true] at hall
    cases h
    exact ⟨(cntN_bd l hall).1, cntN_lt l hall⟩
  · cases h

theorem trim_len (l p : List UInt8) : (Lib.trimPrefix l p).length ≤ l.length := by
  unfold Lib.trimPrefix; split
  · simp
  · exact Nat.le_refl _
theorem cut_len (l p : List UInt8) : (Lib.cut l p).1.length ≤ l.length ∧ (Lib.cut l p).2.1.length ≤ l.length := by
  unfold Lib.cut; split
  · exact ⟨by simp; omega, by simp⟩
  · exact ⟨Nat.le_refl _, by simp⟩

theorem cut_none (l p : List UInt8) (h : (Lib.cut l p).2.2 = false) : (Lib.cut l p).2.1 = [] := by
  unfold Lib.cut at *; split at h
  · cases h
  · rename_i hh; rw [if_neg hh]

/-- The answer, by what the two counts tell. -/
def partsNum (neg : Bool) (n1 : Int) (ok1 point : Bool) (n2 : Int) (ok2 : Bool) (len : Nat) : Option Int :=
  if ok1 && (!point || ok2) then tellNum neg (n1 * 10000 + n2 * 10 ^ (4 - len)) else none

theorem joinNum_parts (neg : Bool) (wh rest : List UInt8) (point : Bool) (hp : point = false → rest = []) :
    joinNum neg wh rest point = partsNum neg ((countOf wh).getD 0) ((countOf wh).isSome && (decide ((1 : Int) ≤ wh.length) && decide ((wh.length : Int) ≤ 12))) point
      ((countOf rest).getD 0) ((countOf rest).isSome && (decide ((1 : Int) ≤ rest.length) && decide ((rest.length : Int) ≤ 4))) rest.length := by
  have e1 : (decide ((1 : Int) ≤ wh.length) && decide ((wh.length : Int) ≤ 12)) = decide (1 ≤ wh.length ∧ wh.length ≤ 12) := by
    rw [Bool.eq_iff_iff]; simp only [Bool.and_eq_true, decide_eq_true_eq]; omega
  have e2 : (decide ((1 : Int) ≤ rest.length) && decide ((rest.length : Int) ≤ 4)) = decide (1 ≤ rest.length ∧ rest.length ≤ 4) := by
    rw [Bool.eq_iff_iff]; simp only [Bool.and_eq_true, decide_eq_true_eq]; omega
  rw [e1, e2]
  unfold joinNum partsNum
  cases h1 : countOf wh with
  | none => rfl
  | some n =>
    by_cases hw : 1 ≤ wh.length ∧ wh.length ≤ 12
    · simp only [if_pos hw, decide_eq_true hw, Option.isSome_some, Option.getD_some]
      cases point with
      | false =>
        have := hp rfl
        subst this
        simp [countOf, cntN]
      | true =>
        cases h2 : countOf rest with
        | none => simp
        | some m =>
          by_cases hr : 1 ≤ rest.length ∧ rest.length ≤ 4
          · simp [hr]
          · simp [hr]
    · simp [hw]

theorem num_Parse (s : ByteArray) (hs : s.size < 4294967281) (w : World) (hg : Glob w) :
    Calls Try.prog 50 #[.string s] w fun e w' => e = .returned (.tuple #[.int .i64 ((parseOf s.data.toList).getD 0), .bool (parseOf s.data.toList).isSome]) ∧ Below w.heap.size w w' := by
  obtain ⟨m, hm⟩ := hg
  obtain ⟨r, hr⟩ : ∃ r, r = parseOf s.data.toList := ⟨_, rfl⟩
  rw [← hr]
  unfold parseOf at hr
  have hP := fun w0 => (Try.strings_CutPrefix s ⟨#[45]⟩ w0).mono fun e w' h => (⟨h.1, h.2.symm⟩ : e = _ ∧ w0 = w')
  simp only [List.toList_toArray] at hP
  have htl := trim_len s.data.toList [45]
  obtain ⟨neg, hneg⟩ : ∃ neg, neg = Lib.hasPrefix s.data.toList [45] := ⟨_, rfl⟩
  obtain ⟨l1, hl1⟩ : ∃ l1, l1 = Lib.trimPrefix s.data.toList [45] := ⟨_, rfl⟩
  rw [← hneg, ← hl1] at hP hr
  rw [← hl1] at htl
  have hsz1 : l1.length < 4294967281 := by simp at htl; omega
  have hC := fun w0 hm0 => Try.strings_Cut ⟨l1.toArray⟩ ⟨#[46]⟩ m w0 (by simpa [ByteArray.size] using hsz1) hm0
  simp only [List.toList_toArray] at hC
  have hcl := cut_len l1 [46]
  have hcn := cut_none l1 [46]
  obtain ⟨wh, hwh⟩ : ∃ wh, wh = (Lib.cut l1 [46]).1 := ⟨_, rfl⟩
  obtain ⟨rest, hrest⟩ : ∃ rest, rest = (Lib.cut l1 [46]).2.1 := ⟨_, rfl⟩
  obtain ⟨point, hpoint⟩ : ∃ point, point = (Lib.cut l1 [46]).2.2 := ⟨_, rfl⟩
  rw [← hwh, ← hrest, ← hpoint] at hC hr
  rw [← hwh, ← hrest] at hcl
  rw [← hrest, ← hpoint] at hcn
  have hN1 := fun w0 => num_count ⟨wh.toArray⟩ 1 12 (by simp [ByteArray.size]; omega) w0
  have hN2 := fun w0 => num_count ⟨rest.toArray⟩ 1 4 (by simp [ByteArray.size]; omega) w0
  simp only [List.toList_toArray] at hN1 hN2
  have hz1 : (⟨wh.toArray⟩ : ByteArray).size = wh.length := by simp [ByteArray.size]
  have hz2 : (⟨rest.toArray⟩ : ByteArray).size = rest.length := by simp [ByteArray.size]
  rw [hz1] at hN1
  rw [hz2] at hN2
  rw [joinNum_parts neg wh rest point hcn] at hr
  have b1 : (countOf wh).isSome && (decide ((1 : Int) ≤ wh.length) && decide ((wh.length : Int) ≤ 12)) → 0 ≤ (countOf wh).getD 0 ∧ (countOf wh).getD 0 < 1000000000000 := by
    intro h
    simp only [Bool.and_eq_true, decide_eq_true_eq] at h
    obtain ⟨n, hn⟩ := Option.isSome_iff_exists.1 h.1
    have := countOf_bd hn
    have h12 : (10 : Int) ^ wh.length ≤ 10 ^ 12 := by
      have : (10 : Nat) ^ wh.length ≤ 10 ^ 12 := Nat.pow_le_pow_right (by omega) (by omega)
      exact_mod_cast this
    rw [hn, Option.getD_some]
    omega
  have b2 : (countOf rest).isSome && (decide ((1 : Int) ≤ rest.length) && decide ((rest.length : Int) ≤ 4)) → 0 ≤ (countOf rest).getD 0 ∧ (countOf rest).getD 0 < 10000 := by
    intro h
    simp only [Bool.and_eq_true, decide_eq_true_eq] at h
    obtain ⟨n, hn⟩ := Option.isSome_iff_exists.1 h.1
    have := countOf_bd hn
    have h12 : (10 : Int) ^ rest.length ≤ 10 ^ 4 := by
      have : (10 : Nat) ^ rest.length ≤ 10 ^ 4 := Nat.pow_le_pow_right (by omega) (by omega)
      exact_mod_cast this
    rw [hn, Option.getD_some]
    omega
  have b3 : (countOf rest).isSome && (decide ((1 : Int) ≤ rest.length) && decide ((rest.length : Int) ≤ 4)) → rest.length ≤ 4 := by
    intro h
    simp only [Bool.and_eq_true, decide_eq_true_eq] at h
    omega
  have b4 : point = false → (countOf rest).getD 0 = 0 := by
    intro h
    rw [hcn h]; rfl
  have b5 : point = false → rest.length = 0 := by
    intro h
    rw [hcn h]; rfl
  obtain ⟨n1, hn1⟩ : ∃ n1, n1 = (countOf wh).getD 0 := ⟨_, rfl⟩
  obtain ⟨n2, hn2⟩ : ∃ n2, n2 = (countOf rest).getD 0 := ⟨_, rfl⟩
  obtain ⟨ok1, hok1⟩ : ∃ ok1, ok1 = ((countOf wh).isSome && (decide ((1 : Int) ≤ wh.length) && decide ((wh.length : Int) ≤ 12))) := ⟨_, rfl⟩
  obtain ⟨ok2, hok2⟩ : ∃ ok2, ok2 = ((countOf rest).isSome && (decide ((1 : Int) ≤ rest.length) && decide ((rest.length : Int) ≤ 4))) := ⟨_, rfl⟩
  rw [← hn1, ← hok1] at hr hN1 b1
  rw [← hn2, ← hok2] at hr hN2 b2
  rw [← hok2] at b3
  rw [← hn2] at b4
  have HP := Lib.hid hP
  have HC := Lib.hid hC
  have HN1 := Lib.hid hN1
  have HN2 := Lib.hid hN2
  have Hm := Lib.hid hm
  have Hr := Lib.hid hr
  clear hP hC hN1 hN2 hm hr hz1 hz2 hwh hrest hpoint hneg hl1 htl hn1 hn2 hok1 hok2 hcn
  by_cases hgo : (ok1 && (!point || ok2)) = true
  · rw [Bool.and_eq_true] at hgo
    obtain ⟨rfl, hpo⟩ := hgo
    obtain ⟨b1, b1'⟩ := b1 rfl
    have c2 : 0 ≤ n2 ∧ n2 < 10000 := by
      cases point with
      | false => rw [b4 rfl]; omega
      | true => exact b2 (by simpa using hpo)
    have c3 : rest.length ≤ 4 := by
      cases point with
      | false => rw [b5 rfl]; omega
      | true => exact b3 (by simpa using hpo)
    obtain ⟨c2, c2'⟩ := c2
    have hr : r = tellNum neg (n1 * 10000 + n2 * 10 ^ (4 - rest.length)) := by rw [Hr.out, partsNum, if_pos]; simpa using hpo
    have HR := Lib.hid hr
    have Hpo := Lib.hid hpo
    clear hr b2 b3 b4 b5 hpo Hr
    have hfin : ∀ (e : Ending) (w' wz : World), Below w.heap.size w wz → (e = .returned (.tuple #[.int .i64 (if numGood (if neg then -(n1 * 10000 + n2 * 10 ^ (4 - rest.length)) else n1 * 10000 + n2 * 10 ^ (4 - rest.length)) then (if neg then -(n1 * 10000 + n2 * 10 ^ (4 - rest.length)) else n1 * 10000 + n2 * 10 ^ (4 - rest.length)) else 0), .bool (numGood (if neg then -(n1 * 10000 + n2 * 10 ^ (4 - rest.length)) else n1 * 10000 + n2 * 10 ^ (4 - rest.length)))]) ∧ wz = w') →
        e = .returned (.tuple #[.int .i64 (r.getD 0), .bool r.isSome]) ∧ Below w.heap.size w w' := by
      rintro e w' wz hbz ⟨rfl, rfl⟩
      refine ⟨?_, hbz⟩
      rw [HR.out, ← (tell_pair _ _).1, ← (tell_pair _ _).2]
    have HF := Lib.hid hfin
    clear hfin HR
    have hL : (rest.length : Int) ≤ 4 := by omega
    have H9 : ∀ k : Nat, k + rest.length ≤ 4 → n2 * 10 ^ k ≤ 99990000 ∧ 0 ≤ n2 * 10 ^ k := by
      intro k hk
      have h1 : (10 : Int) ^ k ≤ 10 ^ 4 := by
        have : (10 : Nat) ^ k ≤ 10 ^ 4 := Nat.pow_le_pow_right (by omega) (by omega)
        exact_mod_cast this
      have h0 : (0 : Int) ≤ 10 ^ k := Int.le_of_lt (Int.pow_pos (by omega))
      have h3 : n2 * 10 ^ k ≤ 9999 * 10 ^ 4 := Int.mul_le_mul (by omega) h1 h0 (by omega)
      exact ⟨by omega, Int.mul_nonneg c2 h0⟩
    have HH9 := Lib.hid H9
    clear H9
    cases point <;> cases ok2
    case true.false => have := Hpo.out; simp at this
    all_goals
      clear Hpo
      go_enter Try.func50, Try.ntmps50
      go_wp2_with fail
      refine (HP.out _).mono ?_
      rintro e w1 ⟨rfl, rfl⟩
      go_wp2_with fail
      refine (HC.out _ Hm.out).mono ?_
      rintro e w1 ⟨rfl, nd, rfl⟩
      go_wp2_with fail
      refine (HN1.out _).mono ?_
      rintro e w1 ⟨rfl, hb1⟩
      go_wp2_with fail
      refine (HN2.out _).mono ?_
      rintro e w2 ⟨rfl, hb2⟩
      have hG := bel_drewN_of hb1 hb2
      clear hb1 hb2
      go_wp2_with fail
      go_loop [10, 45] (fun v i => ∃ k : Nat, k + rest.length ≤ 4 ∧ i = .int .i64 k ∧ v = .int .i64 (n2 * 10 ^ k)) (fun _ i => 4 - (intOf i).toNat)
      case atStart => exact ⟨0, by omega, rfl, by simp⟩
      case round =>
        obtain ⟨k, hk, rfl, rfl⟩ := hrel
        have hM := HH9.out k hk
        have hpow : n2 * 10 ^ (k + 1) = n2 * 10 ^ k * 10 := by rw [Int.pow_succ, Int.mul_assoc]
        have Hpow := Lib.hid hpow
        clear hpow
        obtain ⟨M, hMd⟩ : ∃ M, M = n2 * 10 ^ k := ⟨_, rfl⟩
        rw [← hMd] at hM Hpow ⊢
        have HM := Lib.hid hMd
        clear hMd
        obtain ⟨hM1, hM2⟩ := hM
        by_cases hlt : k + rest.length < 4
        · go_wp2_with fail
          go_round
          case rel => exact ⟨k + 1, by omega, by go_num, by rw [Hpow.out]⟩
          case measure => simp [intOf]; omega
        · obtain rfl : k = 4 - rest.length := by omega
          have HFM := HF.out
          rw [← HM.out] at HFM
          have HF := Lib.hid HFM
          clear HFM
          cases neg
          · have hT := fun w0 => num_told (n1 * 10000 + M) w0
            have hF := HF.out
            simp only [Bool.false_eq_true, if_false, if_true] at hF
            obtain ⟨tv, htv⟩ : ∃ tv, tv = (if numGood (n1 * 10000 + M) then (n1 * 10000 + M) else 0) := ⟨_, rfl⟩
            obtain ⟨tb, htb⟩ : ∃ tb, tb = numGood (n1 * 10000 + M) := ⟨_, rfl⟩
            simp only [← htv] at hT hF
            simp only [← htb] at hT hF
            have HT := Lib.hid hT
            have HF2 := Lib.hid hF
            clear hT hF htv htb HF
            go_wp2_with (go_at_call 56; refine (HT.out _).mono ?_; rintro e w' ⟨rfl, rfl⟩)
            go_ret2
            exact HF2.out _ _ _ hG ⟨rfl, rfl⟩
          · have hT := fun w0 => num_told (-(n1 * 10000 + M)) w0
            have hF := HF.out
            simp only [Bool.false_eq_true, if_false, if_true] at hF
            obtain ⟨tv, htv⟩ : ∃ tv, tv = (if numGood (-(n1 * 10000 + M)) then (-(n1 * 10000 + M)) else 0) := ⟨_, rfl⟩
            obtain ⟨tb, htb⟩ : ∃ tb, tb = numGood (-(n1 * 10000 + M)) := ⟨_, rfl⟩
            simp only [← htv] at hT hF
            simp only [← htb] at hT hF
            have HT := Lib.hid hT
            have HF2 := Lib.hid hF
            clear hT hF htv htb HF
            go_wp2_with (go_at_call 56; refine (HT.out _).mono ?_; rintro e w' ⟨rfl, rfl⟩)
            go_ret2
            exact HF2.out _ _ _ hG ⟨rfl, rfl⟩
  · have hr : r = none := by rw [Hr.out, partsNum, if_neg hgo]
    subst hr
    cases ok1
    · go_enter Try.func50, Try.ntmps50
      go_wp2_with fail
      refine (HP.out _).mono ?_
      rintro e w1 ⟨rfl, rfl⟩
      go_wp2_with fail
      refine (HC.out _ Hm.out).mono ?_
      rintro e w1 ⟨rfl, nd, rfl⟩
      go_wp2_with fail
      refine (HN1.out _).mono ?_
      rintro e w1 ⟨rfl, hb1⟩
      go_wp2_with fail
      refine (HN2.out _).mono ?_
      rintro e w2 ⟨rfl, hb2⟩
      go_wp2_with fail
      go_ret2
      exact ⟨rfl, (bel_drewN_of hb1 hb2)⟩
    · cases point
      · simp at hgo
      · cases ok2
        · clear b1 b2 b3 b4 b5 hgo
          go_enter Try.func50, Try.ntmps50
          go_wp2_with fail
          refine (HP.out _).mono ?_
          rintro e w1 ⟨rfl, rfl⟩
          go_wp2_with fail
          refine (HC.out _ Hm.out).mono ?_
          rintro e w1 ⟨rfl, nd, rfl⟩
          go_wp2_with fail
          refine (HN1.out _).mono ?_
          rintro e w1 ⟨rfl, hb1⟩
          go_wp2_with fail
          refine (HN2.out _).mono ?_
          rintro e w2 ⟨rfl, hb2⟩
          go_wp2_with fail
          go_ret2
          exact ⟨rfl, (bel_drewN_of hb1 hb2)⟩
        · simp at hgo
end Go.Proofs.Ytpoiebkcjehheaa
