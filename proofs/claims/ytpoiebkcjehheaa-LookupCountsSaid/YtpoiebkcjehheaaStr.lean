/- Contracts of value.mapped, value.Upper, value.word. -/
import Derived.Test.YtpoiebkcjehheaaNumA
import Derived.Laws.IdiomStrings
import Derived.Shelf.Abstract
namespace Go.Proofs.Ytpoiebkcjehheaa
open Go.RowKit
set_option linter.unusedSimpArgs false
set_option linter.unusedVariables false

theorem conv_bytes (s : ByteArray) (w : World) : ∃ (cap : Nat) (C : Array Value) (m : Nat × Nat),
    (convert 9 79 (.string s)).run Try.prog w = .ok (.slice (some ⟨w.heap.size, 0, none⟩) s.size cap) (w.drew.alloc (.cells C 5 m)) ∧
    (∀ j (h : j < s.size), (w.drew.alloc (.cells C 5 m)).cell? ⟨w.heap.size, j, none⟩ = some (.int .u8 (s.data[j].toNat : Int))) ∧
    (∀ j, j < s.size → (w.drew.alloc (.cells C 5 m)).frozen? ⟨w.heap.size, j, none⟩ = false) := by
  refine ⟨_, _, _, run_bytes_of_string w 9 79 5 s Try.underlying9 Try.underlying79 Try.underlying5, fun j h => ?_, fun j h => ?_⟩
  · have := World.cell?_alloc_mark w.drew (bytesRow s (grownCap w s.size 0 5)) 5 ((bytesRow s (grownCap w s.size 0 5)).size, (bytesRow s (grownCap w s.size 0 5)).size + 1) j
    exact this.trans (bytesRow_at s _ j h)
  · have := World.frozen?_alloc_mark w.drew (bytesRow s (grownCap w s.size 0 5)) 5 (bytesRow s (grownCap w s.size 0 5)).size ((bytesRow s (grownCap w s.size 0 5)).size + 1) j
    refine this.trans ?_
    have hs : s.size ≤ (bytesRow s (grownCap w s.size 0 5)).size := by simp only [bytesRow, Array.size_append, Array.size_map]; exact Nat.le_add_right _ _
    simp only [Bool.and_eq_false_iff, decide_eq_false_iff_not]
    left; omega

theorem conv_back (l : List UInt8) (B n cap : Nat) (w : World) (hn : n = l.length) (hc : ∀ j (hj : j < l.length), w.cell? ⟨B, j, none⟩ = some (.int .u8 (l[j].toNat : Int))) :
    (convert 79 9 (.slice (some ⟨B, 0, none⟩) n cap)).run Try.prog w = .ok (.string ⟨l.toArray⟩) w := by
  subst hn
  exact run_convert_bytes_back w 79 9 5 ⟨B, 0, none⟩ cap l Try.underlying79 Try.underlying5 Try.underlying9 (fun j hj => by rw [show (Addr.mk B 0 none).add j = ⟨B, j, none⟩ from by rw [Addr.add]; split <;> simp_all]; exact hc j hj)

/-- A string with each byte turned. -/
def mapStr (g : UInt8 → UInt8) (s : ByteArray) : ByteArray := ⟨(s.data.toList.map g).toArray⟩

theorem value_mapped (g : UInt8 → UInt8) (f : Nat) (hen : ∀ (args : Array Value) (w : World), (callFunc f args).run Try.prog w = .ok (.enter f args) w) (hf : ∀ (c : UInt8) (w : World), Calls Try.prog f #[.int .u8 (c.toNat : Int)] w fun e w' => e = .returned (.int .u8 ((g c).toNat : Int)) ∧ w = w')
    (s : ByteArray) (hs : s.size ≤ 9223372036854775807) (w : World) :
    Calls Try.prog 41 #[.string s, .func (.func f) #[] #[]] w fun e w' => e = .returned (.string (mapStr g s)) ∧ Below w.heap.size w w' := by
  have HF := Lib.hid hf
  clear hf
  obtain ⟨cap, C, m, hconv, hcells, hfree⟩ := conv_bytes s w
  have Hc := Lib.hid hcells
  have Hf := Lib.hid hfree
  clear hcells hfree
  go_enter Try.func41, Try.ntmps41
  go_wp2
  go_loopw [11] (fun i wr => ∃ k : Nat, k ≤ s.size ∧ i = .int .i64 k ∧ Hid (∀ j (h : j < s.size), wr.cell? ⟨w.heap.size, j, none⟩ = some (.int .u8 (if j < k then ((g s.data[j]).toNat : Int) else (s.data[j].toNat : Int)))) ∧
      Hid (∀ j, j < s.size → wr.frozen? ⟨w.heap.size, j, none⟩ = false) ∧ Below w.heap.size w wr) (fun i _ => s.size - (intOf i).toNat)
  case atStart =>
    exact ⟨0, Nat.zero_le _, rfl, Lib.hid (fun j h => (Hc.out j h).trans (by simp)), Lib.hid (fun j h => Hf.out j h), (by (repeat (first | exact Below.refl _ _ | assumption | refine Below.alloc ?_ (by first | assumption | omega | (simp; done) | (simp; omega)) _ | refine Below.drew ?_ | refine bel_drewN ?_ _ | refine Below.setCell ?_ (by first | assumption | omega | (simp; done) | (simp; omega)) _ | (refine Below.trans ?_ (Below.mono (by assumption) (by first | assumption | omega | (simp; done) | (simp; omega)))))); done)⟩
  case round =>
    obtain ⟨k, hk, rfl, Hcell, Hfree, hbel⟩ := hrel
    by_cases hlt : k < s.size
    · have hc := Hcell.out k hlt
      have hf := Hfree.out k hlt
      rw [if_neg (Nat.lt_irrefl _)] at hc
      obtain ⟨c, hcc⟩ : ∃ c, c = s.data[k] := ⟨_, rfl⟩
      rw [← hcc] at hc
      have Hcc := Lib.hid hcc
      clear hcc
      go_wp2_with (refine (HF.out _ _).mono ?_; rintro e w' ⟨rfl, rfl⟩)
      go_roundw
      case rel =>
        refine ⟨k + 1, by omega, by go_num, Lib.hid (fun j h => ?_), Lib.hid (fun j h => ?_), (by (repeat (first | exact Below.refl _ _ | assumption | refine Below.alloc ?_ (by first | assumption | omega | (simp; done) | (simp; omega)) _ | refine Below.drew ?_ | refine bel_drewN ?_ _ | refine Below.setCell ?_ (by first | assumption | omega | (simp; done) | (simp; omega)) _ | (refine Below.trans ?_ (Below.mono (by assumption) (by first | assumption | omega | (simp; done) | (simp; omega)))))); done)⟩
        · by_cases e : j = k
          · subst e
            rw [World.cell?_setCell_same' _ _ _ (by rw [hc]; rfl), if_pos (by omega), ← Hcc.out]
          · rw [World.cell?_setCell_other _ _ _ _ (by intro h2; injection h2 with _ h3; exact e h3.symm), Hcell.out j h]
            by_cases e2 : j < k
            · rw [if_pos e2, if_pos (by omega)]
            · rw [if_neg e2, if_neg (by omega)]
        · rw [World.frozen?_setCell]; exact Hfree.out j h
      case measure => simp [intOf]; omega
    · obtain rfl : k = s.size := by omega
      have hback := conv_back (s.data.toList.map g) w.heap.size s.size cap wr (by simp) (fun j hj => by
        have hj' : j < s.size := by simpa using hj
        rw [Hcell.out j hj', if_pos hj']
        simp)
      go_wp2
      go_ret
      exact ⟨rfl, hbel⟩

/-- A small letter's capital. -/
def upB (c : UInt8) : UInt8 := if 97 ≤ c ∧ c ≤ 122 then c - 32 else c
def upStr (s : ByteArray) : ByteArray := mapStr upB s

theorem upper_fn (c : UInt8) (w : World) : Calls Try.prog 42 #[.int .u8 (c.toNat : Int)] w fun e w' => e = .returned (.int .u8 ((upB c).toNat : Int)) ∧ w = w' := by
  have hlt := c.toNat_lt
  obtain ⟨r, hr⟩ : ∃ r, r = ((upB c).toNat : Int) := ⟨_, rfl⟩
  rw [← hr]
  have hr2 : r = if 97 ≤ c.toNat ∧ c.toNat ≤ 122 then (c.toNat : Int) - 32 else (c.toNat : Int) := by
    rw [hr, upB]
    simp only [UInt8.le_iff_toNat_le]
    show (((if 97 ≤ c.toNat ∧ c.toNat ≤ 122 then c - 32 else c).toNat : Nat) : Int) = _
    by_cases h : 97 ≤ c.toNat ∧ c.toNat ≤ 122
    · rw [if_pos h, if_pos h, UInt8.toNat_sub_of_le _ _ (by rw [UInt8.le_iff_toNat_le]; show 32 ≤ c.toNat; omega)]
      show ((c.toNat - 32 : Nat) : Int) = _
      omega
    · rw [if_neg h, if_neg h]
  have Hr := Lib.hid hr2
  clear hr hr2
  obtain ⟨n, hn⟩ : ∃ n, n = c.toNat := ⟨_, rfl⟩
  rw [← hn] at Hr hlt ⊢
  clear hn
  by_cases h1 : 97 ≤ n
  · by_cases h2 : n ≤ 122
    · have hr := Hr.out
      rw [if_pos ⟨h1, h2⟩] at hr
      subst hr
      clear Hr
      go_enter Try.func42, Try.ntmps42
      go_wp2
      go_ret
      exact ⟨ret_int (by omega), rfl⟩
    · have hr := Hr.out
      rw [if_neg (by omega)] at hr
      subst hr
      clear Hr
      go_enter Try.func42, Try.ntmps42
      go_wp2
      go_ret
      exact ⟨rfl, rfl⟩
  · have hr := Hr.out
    rw [if_neg (by omega)] at hr
    subst hr
    clear Hr
    go_enter Try.func42, Try.ntmps42
    go_wp2
    go_ret
    exact ⟨rfl, rfl⟩

theorem value_Upper (s : ByteArray) (hs : s.size ≤ 9223372036854775807) (w : World) :
    Calls Try.prog 27 #[.string s] w fun e w' => e = .returned (.string (upStr s)) ∧ Below w.heap.size w w' := by
  go_enter Try.func27, Try.ntmps27
  go_wp2_with fail
  refine (value_mapped upB 42 (enters_of Try.func42 (by kernel_rfl) rfl) upper_fn _ hs _).mono ?_
  rintro e w1 ⟨rfl, hb1⟩
  go_wp2
  go_ret
  exact ⟨rfl, hb1⟩

/-- TRUE, FALSE, or neither. -/
def wordOf (s : ByteArray) : Option Bool := if (upStr s).toList = [84, 82, 85, 69] then some true else if (upStr s).toList = [70, 65, 76, 83, 69] then some false else none

theorem value_word (s : ByteArray) (hs : s.size ≤ 9223372036854775807) (w : World) :
    Calls Try.prog 47 #[.string s] w fun e w' => e = .returned (.tuple #[.bool ((wordOf s).getD false), .bool (wordOf s).isSome]) ∧ Below w.heap.size w w' := by
  obtain ⟨r, hr⟩ : ∃ r, r = wordOf s := ⟨_, rfl⟩
  rw [← hr]
  have Hr := Lib.hid hr
  clear hr
  have HU := value_Upper s hs
  unfold wordOf at Hr
  obtain ⟨u, hu⟩ : ∃ u, u = upStr s := ⟨_, rfl⟩
  rw [← hu] at HU Hr
  have H := Lib.hid HU
  clear HU hu
  by_cases h1 : u.toList = [84, 82, 85, 69]
  · obtain rfl : r = some true := by rw [Hr.out, if_pos h1]
    have hb : (u.toList == [84, 82, 85, 69]) = true := by simp [h1]
    clear h1 Hr
    go_enter Try.func47, Try.ntmps47
    go_wp2_with (go_at_call 27; refine (H.out _).mono ?_; rintro e w1 ⟨rfl, hb1⟩)
    go_ret2
    exact ⟨rfl, hb1⟩
  · have hb : (u.toList == [84, 82, 85, 69]) = false := by simp [h1]
    by_cases h2 : u.toList = [70, 65, 76, 83, 69]
    · obtain rfl : r = some false := by rw [Hr.out, if_neg h1, if_pos h2]
      have hb2 : (u.toList == [70, 65, 76, 83, 69]) = true := by simp [h2]
      clear h1 h2 Hr
      go_enter Try.func47, Try.ntmps47
      go_wp2_with (go_at_call 27; refine (H.out _).mono ?_; rintro e w1 ⟨rfl, hb1⟩)
      go_ret2
      exact ⟨rfl, hb1⟩
    · obtain rfl : r = none := by rw [Hr.out, if_neg h1, if_neg h2]
      have hb2 : (u.toList == [70, 65, 76, 83, 69]) = false := by simp [h2]
      clear h1 h2 Hr
      go_enter Try.func47, Try.ntmps47
      go_wp2_with (go_at_call 27; refine (H.out _).mono ?_; rintro e w1 ⟨rfl, hb1⟩)
      go_ret2
      exact ⟨rfl, hb1⟩
end Go.Proofs.Ytpoiebkcjehheaa
