/- Contract of num.count. -/
import Derived.Test.YtpoiebkcjehheaaStr
namespace Go.Proofs.Ytpoiebkcjehheaa
open Go.RowKit
set_option linter.unusedSimpArgs false
set_option linter.unusedVariables false

def isDig (c : UInt8) : Bool := decide (48 ≤ c.toNat) && decide (c.toNat ≤ 57)
/-- One digit more, up to a bound. -/
def cntStep (n : Int) (c : UInt8) : Int := if 10 * n + ((c.toNat : Int) - 48) > 1125899906842624 then 1125899906842624 else 10 * n + ((c.toNat : Int) - 48)
def cntN (l : List UInt8) : Int := l.foldl cntStep 0
/-- Digits as a number. -/
def countOf (l : List UInt8) : Option Int := if l.all isDig then some (cntN l) else none

theorem cntN_snoc (l : List UInt8) (c : UInt8) : cntN (l ++ [c]) = cntStep (cntN l) c := by simp [cntN, List.foldl_append]

theorem cntN_bd (l : List UInt8) (h : ∀ c ∈ l, isDig c = true) : 0 ≤ cntN l ∧ cntN l ≤ 1125899906842624 := by
  have key : ∀ (l : List UInt8) (n : Int), 0 ≤ n → n ≤ 1125899906842624 → (∀ c ∈ l, isDig c = true) → 0 ≤ l.foldl cntStep n ∧ l.foldl cntStep n ≤ 1125899906842624 := by
    intro l
    induction l with
    | nil => intro n h0 h1 _; exact ⟨h0, h1⟩
    | cons c l ih =>
      intro n h0 h1 hd
      have hc := hd c (by simp)
      simp only [isDig, Bool.and_eq_true, decide_eq_true_eq] at hc
      refine ih _ ?_ ?_ (fun d hd' => hd d (by simp [hd']))
      · unfold cntStep; split <;> omega
      · unfold cntStep; split <;> omega
  exact key l 0 (by omega) (by omega) h

theorem mem_bytes (s : ByteArray) (k : Nat) (h : k < s.size) : s[k] ∈ s.data.toList := by
  show s.data[k]'h ∈ s.data.toList
  simp

theorem take_snoc (s : ByteArray) (k : Nat) (h : k < s.size) : s.data.toList.take (k + 1) = s.data.toList.take k ++ [s[k]] := by
  rw [List.take_succ_eq_append_getElem (by simpa using h)]; rfl

theorem iter_below (w : World) (s : ByteArray) (pos : Nat) : Below w.heap.size w (w.iter s pos) := by
  have : w.iter s pos = w.alloc (.stringIter s pos) := rfl
  rw [this]
  exact (Below.refl _ _).alloc (Nat.le_refl _) _

theorem num_count (s : ByteArray) (lo hi : Int) (hs : s.size ≤ 9223372036854775807) (w : World) :
    Calls Try.prog 55 #[.string s, .int .i64 lo, .int .i64 hi] w fun e w' =>
      e = .returned (.tuple #[.int .i64 ((countOf s.data.toList).getD 0), .bool ((countOf s.data.toList).isSome && (decide (lo ≤ s.size) && decide ((s.size : Int) ≤ hi)))]) ∧ Below w.heap.size w w' := by
  obtain ⟨r, hr⟩ : ∃ r, r = countOf s.data.toList := ⟨_, rfl⟩
  rw [← hr]
  have Hr := Lib.hid hr
  clear hr
  go_enter Try.func55, Try.ntmps55
  go_wp2
  go_loopw [8] (fun n w' => ∃ (pos : Nat), pos ≤ s.size ∧ w' = w.iter s pos ∧ n = .int .i64 (cntN (s.data.toList.take pos)) ∧ Hid (∀ c ∈ s.data.toList.take pos, isDig c = true)) (fun _ w' => s.size - w'.iterPos w.heap.size)
  case atStart => exact ⟨0, Nat.zero_le _, rfl, rfl, Lib.hid (fun c hc => by simp at hc)⟩
  case round =>
    obtain ⟨pos, hpos, rfl, rfl, Hd⟩ := hrel
    obtain ⟨hb0, hb1⟩ := cntN_bd _ Hd.out
    obtain ⟨N, hN⟩ : ∃ N, N = cntN (s.data.toList.take pos) := ⟨_, rfl⟩
    rw [← hN] at hb0 hb1 ⊢
    have HN := Lib.hid hN
    clear hN
    by_cases hp : pos < s.size
    · by_cases ha : (s[pos]'hp).toNat < 128
      · have hnx : ∀ ty, (Instr.next (.pointer (some ⟨w.heap.size, 0, none⟩)) true ty).run Try.prog (w.iter s pos) = .ok (.tuple #[.bool true, .int .i64 pos, .int .i32 ((s[pos]'hp).toNat : Int)]) (w.iter s (pos + 1)) := fun ty => by
          rw [run_next_any w s pos ty hp, decode_ascii s pos hp ha]
        obtain ⟨c, hc⟩ : ∃ c : Nat, c = (s[pos]'hp).toNat := ⟨_, rfl⟩
        rw [← hc] at ha hnx
        have Hc := Lib.hid hc
        clear hc
        by_cases h48 : 48 ≤ c
        · by_cases h57 : c ≤ 57
          · have hdig : isDig (s[pos]'hp) = true := by simp only [isDig, ← Hc.out, h48, h57, decide_true, Bool.and_self]
            have hnext : Hid (∀ d ∈ s.data.toList.take (pos + 1), isDig d = true) := by
              rw [take_snoc s pos hp]
              refine Lib.hid fun d hd => ?_
              rcases List.mem_append.1 hd with hd | hd
              · exact Hd.out d hd
              · rw [List.mem_singleton.1 hd]; exact hdig
            have hstep : Hid (cntN (s.data.toList.take (pos + 1)) = if 10 * N + ((c : Int) - 48) > 1125899906842624 then 1125899906842624 else 10 * N + ((c : Int) - 48)) := by
              refine Lib.hid ?_
              rw [take_snoc s pos hp, cntN_snoc, ← HN.out, cntStep, ← Hc.out]
            go_wp2
            all_goals
              go_roundw
              case rel =>
                refine ⟨pos + 1, by omega, rfl, ?_, hnext⟩
                rw [hstep.out]
                first | (rw [if_pos (by assumption)]) | (rw [if_neg (by omega)])
              case measure => simp; omega
          · obtain rfl : r = none := by
              rw [Hr.out, countOf, if_neg]
              intro hall
              rw [List.all_eq_true] at hall
              have := hall (s[pos]'hp) (mem_bytes s pos hp)
              simp only [isDig, ← Hc.out, Bool.and_eq_true, decide_eq_true_eq] at this
              omega
            go_wp2
            go_ret2
            exact ⟨rfl, iter_below _ _ _⟩
        · obtain rfl : r = none := by
            rw [Hr.out, countOf, if_neg]
            intro hall
            rw [List.all_eq_true] at hall
            have := hall (s[pos]'hp) (mem_bytes s pos hp)
            simp only [isDig, ← Hc.out, Bool.and_eq_true, decide_eq_true_eq] at this
            omega
          go_wp2
          go_ret2
          exact ⟨rfl, iter_below _ _ _⟩
      · have hnx : ∀ ty, (Instr.next (.pointer (some ⟨w.heap.size, 0, none⟩)) true ty).run Try.prog (w.iter s pos) = _ := fun ty => run_next_any w s pos ty hp
        have hdh := (decode_high s pos hp (by omega)).1
        have hdl := decode_le s pos
        obtain rfl : r = none := by
          rw [Hr.out, countOf, if_neg]
          intro hall
          rw [List.all_eq_true] at hall
          have := hall (s[pos]'hp) (mem_bytes s pos hp)
          simp only [isDig, Bool.and_eq_true, decide_eq_true_eq] at this
          omega
        obtain ⟨d, hd⟩ : ∃ d, d = Utf8.decode s pos := ⟨_, rfl⟩
        rw [← hd] at hnx hdh hdl
        clear hd ha
        go_wp2
        go_ret2
        exact ⟨rfl, iter_below _ _ _⟩
    · have hnx : ∀ ty, (Instr.next (.pointer (some ⟨w.heap.size, 0, none⟩)) true ty).run Try.prog (w.iter s pos) = _ := fun ty => run_next_end w s pos ty hp
      obtain rfl : pos = s.size := by omega
      have hr : r = some N := by
        rw [Hr.out, countOf, HN.out]
        have e : s.data.toList.take s.size = s.data.toList := List.take_of_length_le (by simp)
        rw [e, if_pos]
        rw [List.all_eq_true]
        intro c hc
        exact Hd.out c (by rw [e]; exact hc)
      subst hr
      clear Hr
      by_cases hlo : lo ≤ (s.size : Int)
      · have Hlo := Lib.hid hlo
        go_wp2
        go_ret2
        refine ⟨?_, iter_below _ _ _⟩
        simp [Hlo.out]
        try omega
      · have Hlo := Lib.hid hlo
        go_wp2
        go_ret2
        refine ⟨?_, iter_below _ _ _⟩
        simp [Hlo.out]
        try omega
end Go.Proofs.Ytpoiebkcjehheaa
