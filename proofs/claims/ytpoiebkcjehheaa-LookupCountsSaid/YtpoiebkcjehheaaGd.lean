/- Contract of lookup.goods. -/
import Derived.Test.YtpoiebkcjehheaaGr
import Derived.Test.YtpoiebkcjehheaaBase
namespace Go.Proofs.Ytpoiebkcjehheaa
open Go.RowKit
set_option linter.unusedSimpArgs false
set_option linter.unusedVariables false

theorem infoGrid : (Try.prog.info? 46).map (fun i => (i.zero, i.size, i.bytes)) = some (some (.agg #[.int .i64 0, .int .i64 0, .slice none 0 0, .bool false]), 4, 48) := by kernel_rfl

/-- A row made of pieces of one length. -/
theorem flat_get (c : Nat) (f : Nat → List Value) (hf : ∀ i, (f i).length = c) (n : Nat) : ∀ i j, i < n → j < c → ((List.range n).flatMap f)[i * c + j]? = (f i)[j]? := by
  induction n with
  | zero => intro i j hi; omega
  | succ n ih =>
    intro i j hi hj
    have hlen : ((List.range n).flatMap f).length = n * c := by
      clear ih hi
      induction n with
      | zero => simp
      | succ n ih => rw [List.range_succ, List.flatMap_append, List.length_append, ih]; simp [hf, Nat.succ_mul]
    rw [List.range_succ, List.flatMap_append]
    by_cases h : i < n
    · have h1 : i * c + j < n * c := by
        have : (i + 1) * c ≤ n * c := Nat.mul_le_mul_right c h
        rw [Nat.add_mul] at this; omega
      rw [List.getElem?_append_left (by rw [hlen]; exact h1), ih i j h hj]
    · obtain rfl : i = n := by omega
      rw [List.getElem?_append_right (by rw [hlen]; omega), hlen, Nat.add_sub_cancel_left]
      simp

theorem ownsRow_below {w w' : World} {base e size n : Nat} {v : Value} {xs : List Value} (h : w.ownsRow base e size v n xs) (H : Below w.heap.size w w') : w'.ownsRow base e size v n xs := by
  obtain ⟨h1, h2⟩ := h
  refine ⟨h1, ?_⟩
  rcases h2 with h2 | ⟨g, cap, cur, h3, h4, h5, h6⟩
  · exact .inl h2
  · have hlt : g < w.heap.size := by
      rcases Nat.lt_or_ge g w.heap.size with hh | hh
      · exact hh
      · rw [Array.getElem?_eq_none hh] at h5; cases h5
    exact .inr ⟨g, cap, cur, h3, h4, (H.block g hlt).trans h5, h6⟩

/-- The cells of an area with a given slice. -/
def A.cells (a : A) (sl : Value) : List Value := [.int .i64 a.rows, .int .i64 a.cols, sl, .bool a.many]

/-- The first cells of a list of areas. -/
def areaRow (xs : List A) (sls : Nat → Value) (k : Nat) : List Value := (List.range k).flatMap fun i => (xs.getD i ⟨0, 0, [], false⟩).cells (sls i)

theorem areaRow_succ (xs : List A) (sls : Nat → Value) (k : Nat) (h : k < xs.length) : areaRow xs sls (k + 1) = areaRow xs sls k ++ xs[k].cells (sls k) := by
  unfold areaRow
  rw [List.range_succ, List.flatMap_append]
  simp [List.getElem?_eq_getElem h]

theorem areaRow_len (xs : List A) (sls : Nat → Value) (k : Nat) : (areaRow xs sls k).length = k * 4 := by
  unfold areaRow
  induction k with
  | zero => simp
  | succ k ih => rw [List.range_succ, List.flatMap_append, List.length_append, ih]; simp [A.cells]; omega

theorem AreasAt.slices {w : World} {b off : Nat} {xs : List A} (h : AreasAt w b off xs) : ∃ sls : Nat → Value, ∀ i (hi : i < xs.length),
    w.cell? ⟨b, off + i * 4, none⟩ = some (.int .i64 xs[i].rows) ∧ w.cell? ⟨b, off + i * 4 + 1, none⟩ = some (.int .i64 xs[i].cols) ∧
    w.cell? ⟨b, off + i * 4 + 2, none⟩ = some (sls i) ∧ w.cell? ⟨b, off + i * 4 + 3, none⟩ = some (.bool xs[i].many) ∧ IsVals w (sls i) xs[i].l ∧ xs[i].fit := by
  refine ⟨fun i => if hi : i < xs.length then Classical.choose (h i hi) else undef, fun i hi => ?_⟩
  have := Classical.choose_spec (h i hi)
  simp only [hi, dif_pos]
  exact this

/-- A row that is owned reads as areas. -/
theorem areas_of_row {w : World} {base e g cap : Nat} {xs : List A} {sls : Nat → Value} (hb : base ≤ g)
    (h : w.ownsRow base e 4 (.slice (some ⟨g, 0, none⟩) xs.length cap) xs.length (areaRow xs sls xs.length)) (hs : ∀ i (hi : i < xs.length), IsVals w (sls i) xs[i].l ∧ xs[i].fit) :
    AreasAt w g 0 xs := by
  intro i hi
  have hc : ∀ j, j < 4 → w.cell? ⟨g, 0 + i * 4 + j, none⟩ = (xs[i].cells (sls i))[j]? := by
    intro j hj
    rw [Nat.zero_add, h.cellAt (i * 4 + j) (by omega), areaRow, flat_get 4 _ (fun _ => rfl) _ i j hi hj]
    simp [List.getElem?_eq_getElem hi]
  exact ⟨sls i, hc 0 (by omega), hc 1 (by omega), hc 2 (by omega), hc 3 (by omega), (hs i hi).1, (hs i hi).2⟩

theorem lookup_goods (b off cap : Nat) (xs : List A) (sls : Nat → Value) (w : World) (hb : b < w.heap.size) (hcap : xs.length ≤ cap) (hm : cap ≤ 9223372036854775807) (hn : xs.length ≤ 1000000) (hne : xs ≠ [])
    (hsl : ∀ i (hi : i < xs.length), w.cell? ⟨b, off + i * 4, none⟩ = some (.int .i64 xs[i].rows) ∧ w.cell? ⟨b, off + i * 4 + 1, none⟩ = some (.int .i64 xs[i].cols) ∧
      w.cell? ⟨b, off + i * 4 + 2, none⟩ = some (sls i) ∧ w.cell? ⟨b, off + i * 4 + 3, none⟩ = some (.bool xs[i].many) ∧ IsVals w (sls i) xs[i].l ∧ xs[i].fit) :
    Calls Try.prog 25 #[.slice (some ⟨b, off, none⟩) xs.length cap] w fun e w' => Below w.heap.size w w' ∧
      ((xs.all A.good = false ∧ e = .returned (.tuple #[.slice none 0 0, .bool false])) ∨
       (xs.all A.good = true ∧ ∃ out, e = .returned (.tuple #[out, .bool true]) ∧ w'.ownsRow w.heap.size 46 4 out xs.length (areaRow xs sls xs.length))) := by
  obtain ⟨i0, hi, hq0, hq1, hq2⟩ := info_parts infoGrid
  · have Hsl := Lib.hid hsl
    clear hsl
    go_enter Try.func25, Try.ntmps25
    go_wp2
    go_loopw [4, 9] (fun v i wr => ∃ k : Nat, k ≤ xs.length ∧ i = .int .i64 k ∧ Hid (∀ j (h : j < xs.length), j < k → xs[j].good = true) ∧ wr.ownsRow w.heap.size 46 4 v k (areaRow xs sls k) ∧ Below w.heap.size w wr)
      (fun _ i _ => xs.length - (intOf i).toNat)
    case atStart => exact ⟨0, Nat.zero_le _, rfl, Lib.hid (fun j _ h => by omega), World.ownsRow_nil _ _ _ _, Below.refl _ _⟩
    case round =>
      obtain ⟨k, hk, rfl, Hgood, hown, hbel⟩ := hrel
      have hzr := hbel.size
      by_cases hlt : k < xs.length
      · obtain ⟨c1, c2, c3, c4, c5, c6⟩ := Hsl.out k hlt
        obtain ⟨a, ha⟩ : ∃ a, a = xs[k] := ⟨_, rfl⟩
        rw [← ha] at c1 c2 c4 c5 c6
        have hG := fun w' (H : Below w.heap.size w w') => maths_Good (a.val (sls k)) a w' (IsArea.below ⟨sls k, rfl, c5, c6⟩ H)
        have hrow := areaRow_succ xs sls k hlt
        rw [← ha] at hrow
        obtain ⟨ao2, cap2, hsk, _⟩ := c5
        rw [hsk] at c3 hG hrow
        obtain ⟨l2, hl2⟩ : ∃ l2, l2 = a.l.length := ⟨_, rfl⟩
        simp only [← hl2] at c3 hG hrow
        replace c1 := (hbel.cell (p := ⟨b, _, none⟩) hb).trans c1
        replace c2 := (hbel.cell (p := ⟨b, _, none⟩) hb).trans c2
        replace c3 := (hbel.cell (p := ⟨b, _, none⟩) hb).trans c3
        replace c4 := (hbel.cell (p := ⟨b, _, none⟩) hb).trans c4
        obtain ⟨g, hg⟩ : ∃ g, g = a.good := ⟨_, rfl⟩
        simp only [← hg, A.val] at hG
        have HG := Lib.hid hG
        have Hg := Lib.hid hg
        have Ha := Lib.hid ha
        have Hrow := Lib.hid hrow
        clear hG hg ha hrow hsk hl2 c6
        cases g
        · go_wp2_with (go_at_call 39; refine (HG.out _ (by (repeat (first | exact Below.refl _ _ | assumption | refine Below.alloc ?_ (by first | assumption | omega | (simp; done) | (simp; omega)) _ | refine Below.drew ?_ | refine bel_drewN ?_ _ | refine Below.setCell ?_ (by first | assumption | omega | (simp; done) | (simp; omega)) _ | (refine Below.trans ?_ (Below.mono (by assumption) (by first | assumption | omega | (simp; done) | (simp; omega)))))); done)).mono ?_; rintro e w1 ⟨rfl, hb1⟩; obtain ⟨hc1, hf1, hz1⟩ := bcell hb1; (try simp only [World.size_alloc, World.size_setCell, World.size_drew] at hz1); have G1 : Below w.heap.size w w1 := (by (refine Below.trans ?_ (Below.mono hb1 (by first | assumption | omega | (simp; done) | (simp; omega)))); (repeat (first | exact Below.refl _ _ | assumption | refine Below.alloc ?_ (by first | assumption | omega | (simp; done) | (simp; omega)) _ | refine Below.drew ?_ | refine bel_drewN ?_ _ | refine Below.setCell ?_ (by first | assumption | omega | (simp; done) | (simp; omega)) _ | (refine Below.trans ?_ (Below.mono (by assumption) (by first | assumption | omega | (simp; done) | (simp; omega)))))); done); obtain ⟨co1, fo1, zo1⟩ := bcell G1; (first | have L1 : Below wr.heap.size wr w1 := (by (refine Below.trans ?_ (Below.mono hb1 (by first | assumption | omega | (simp; done) | (simp; omega)))); (repeat (first | exact Below.refl _ _ | assumption | refine Below.alloc ?_ (by first | assumption | omega | (simp; done) | (simp; omega)) _ | refine Below.drew ?_ | refine bel_drewN ?_ _ | refine Below.setCell ?_ (by first | assumption | omega | (simp; done) | (simp; omega)) _ | (refine Below.trans ?_ (Below.mono (by assumption) (by first | assumption | omega | (simp; done) | (simp; omega)))))); done) | (skip)); (try have z1w0 : w.heap.size < w1.heap.size := by omega); (try have z1w1 : w.heap.size + 1 < w1.heap.size := by omega); (try have z1w2 : w.heap.size + 1 + 1 < w1.heap.size := by omega); (try have z1w3 : w.heap.size + 1 + 1 + 1 < w1.heap.size := by omega); (try have zb1 : b < w1.heap.size := by omega); (try have zgb1 : gb < w1.heap.size := by omega))
          go_ret2
          refine ⟨(by (repeat (first | exact Below.refl _ _ | assumption | refine Below.alloc ?_ (by first | assumption | omega | (simp; done) | (simp; omega)) _ | refine Below.drew ?_ | refine bel_drewN ?_ _ | refine Below.setCell ?_ (by first | assumption | omega | (simp; done) | (simp; omega)) _ | (refine Below.trans ?_ (Below.mono (by assumption) (by first | assumption | omega | (simp; done) | (simp; omega)))))); done), .inl ⟨?_, rfl⟩⟩
          rw [List.all_eq_false]
          exact ⟨xs[k], List.getElem_mem hlt, by rw [← Ha.out, ← Hg.out]; simp⟩
        · go_wp2_with (first | (go_at_call 39; refine (HG.out _ (by (repeat (first | exact Below.refl _ _ | assumption | refine Below.alloc ?_ (by first | assumption | omega | (simp; done) | (simp; omega)) _ | refine Below.drew ?_ | refine bel_drewN ?_ _ | refine Below.setCell ?_ (by first | assumption | omega | (simp; done) | (simp; omega)) _ | (refine Below.trans ?_ (Below.mono (by assumption) (by first | assumption | omega | (simp; done) | (simp; omega)))))); done)).mono ?_; rintro e w1 ⟨rfl, hb1⟩; obtain ⟨hc1, hf1, hz1⟩ := bcell hb1; (try simp only [World.size_alloc, World.size_setCell, World.size_drew] at hz1); have G1 : Below w.heap.size w w1 := (by (refine Below.trans ?_ (Below.mono hb1 (by first | assumption | omega | (simp; done) | (simp; omega)))); (repeat (first | exact Below.refl _ _ | assumption | refine Below.alloc ?_ (by first | assumption | omega | (simp; done) | (simp; omega)) _ | refine Below.drew ?_ | refine bel_drewN ?_ _ | refine Below.setCell ?_ (by first | assumption | omega | (simp; done) | (simp; omega)) _ | (refine Below.trans ?_ (Below.mono (by assumption) (by first | assumption | omega | (simp; done) | (simp; omega)))))); done); obtain ⟨co1, fo1, zo1⟩ := bcell G1; (first | have L1 : Below wr.heap.size wr w1 := (by (refine Below.trans ?_ (Below.mono hb1 (by first | assumption | omega | (simp; done) | (simp; omega)))); (repeat (first | exact Below.refl _ _ | assumption | refine Below.alloc ?_ (by first | assumption | omega | (simp; done) | (simp; omega)) _ | refine Below.drew ?_ | refine bel_drewN ?_ _ | refine Below.setCell ?_ (by first | assumption | omega | (simp; done) | (simp; omega)) _ | (refine Below.trans ?_ (Below.mono (by assumption) (by first | assumption | omega | (simp; done) | (simp; omega)))))); done) | (skip)); (try have z1w0 : w.heap.size < w1.heap.size := by omega); (try have z1w1 : w.heap.size + 1 < w1.heap.size := by omega); (try have z1w2 : w.heap.size + 1 + 1 < w1.heap.size := by omega); (try have z1w3 : w.heap.size + 1 + 1 + 1 < w1.heap.size := by omega); (try have zb1 : b < w1.heap.size := by omega); (try have zgb1 : gb < w1.heap.size := by omega)) | (at_builtin; refine wpList_append_own _ rfl (.tmp 16) (.tmp 19) 50 rfl w.heap.size 46 i0 _ 4 48 Try.underlying50 hi hq0 hq1 hq2 rfl (by decide) _ k _ rfl ((ownsRow_below (hown.alloc _) hb1).alloc _) ⟨w1.heap.size, 0, none⟩ 1 1 (a.cells (.slice ao2 l2 cap2)) rfl rfl ?c1 ?c2 ?c3 ?c4 ?c5 ?_))
          case c1 =>
            intro j u hj
            match j, hj with
            | 0, hj => simp [A.cells] at hj; subst hj; simp [Addr.add]
            | 1, hj => simp [A.cells] at hj; subst hj; simp [Addr.add]
            | 2, hj => simp [A.cells] at hj; subst hj; simp [Addr.add]
            | 3, hj => simp [A.cells] at hj; subst hj; simp [Addr.add]
            | j + 4, hj => simp [A.cells] at hj
          case c2 =>
            intro u hu
            simp only [A.cells, List.mem_cons, List.mem_nil_iff, or_false] at hu
            rcases hu with rfl | rfl | rfl | rfl <;> rfl
          case c3 => unfold maxLen; omega
          case c4 => omega
          case c5 => simp; omega
          · intro v' w2 hown' hgrow _
            have hbel2 : Below w.heap.size w w2 := by
              refine Below.grown (w := w1.alloc _) ((G1.alloc zo1 _)) hgrow (by simp; omega) ?_
              intro j e
              exact ((hown.lt j e).1)
            rw [← Hrow.out] at hown'
            clear hgrow hown hb1 hc1 hf1 co1 fo1 HG
            go_wp2_with fail
            go_roundw
            case rel =>
              refine ⟨k + 1, by omega, by go_num, Lib.hid fun j h hj => ?_, hown', hbel2⟩
              by_cases e : j = k
              · subst e; rw [← Ha.out]; exact Hg.out.symm
              · exact Hgood.out j h (by omega)
            case measure => simp [intOf]; omega
      · obtain rfl : k = xs.length := by omega
        have hall : xs.all A.good = true := by
          rw [List.all_eq_true]
          intro v hv'
          obtain ⟨j, hj, rfl⟩ := List.getElem_of_mem hv'
          exact Hgood.out j hj hj
        go_wp2_with fail
        go_ret2
        exact ⟨hbel, .inr ⟨hall, _, rfl, hown⟩⟩
end Go.Proofs.Ytpoiebkcjehheaa
