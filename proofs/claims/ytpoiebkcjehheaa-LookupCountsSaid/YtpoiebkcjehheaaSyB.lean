/- A symbolic walk, part B: what one operation does, as a function of the symbolic state, and that the model does just that. -/
import Derived.Test.YtpoiebkcjehheaaSyA
import Derived.Laws.StructEq
namespace Go.Proofs.Ytpoiebkcjehheaa
open Go.RowKit

structure Fd where
  off : Nat
  size : Nat
  agg : Bool
  type : TypeId

inductive TK where
  | prim
  | bool
  | int (k : IntKind)
  | string
  | func
  | iface
  | str (fs : List Fd) (eq : List Nat)
  | sl (e : TypeId) (es : Nat)
  | arr (n : Nat) (e : TypeId) (es : Nat) (agg : Bool)

structure TI where
  size : Nat
  zero : Value
  k : TK

def TK.agg : TK → Bool
  | .str _ _ => true
  | .arr _ _ _ _ => true
  | _ => false

def hasT (P : Program) (t : TypeId) : Bool := (P.info? t).isSome && (P.underlying t).isSome
def szOf (P : Program) (t : TypeId) : Nat := ((P.info? t).map (·.size)).getD 0
def aggOf (P : Program) (t : TypeId) : Bool := match P.underlying t with | some (.struct _) => true | some (.array _ _) => true | _ => false

/-- Fields of one cell each, one behind the other, that == holds against each other as they are: their kinds (1 an integer, 2 a bool, 3 a string). -/
def codesF (P : Program) : Nat → List Field → Option (List Nat)
  | _, [] => some []
  | n, f :: fs =>
    if f.offset = n ∧ f.name ≠ "_" ∧ (P.info? f.type).isSome = true then
      match P.underlying f.type, codesF P (n + 1) fs with
      | some (.int _), some l => some (1 :: l)
      | some .bool, some l => some (2 :: l)
      | some .string, some l => some (3 :: l)
      | _, _ => none
    else none

def eqOK (P : Program) (t : TypeId) (fs : List Field) : List Nat :=
  if P.stoodInHeld t = false ∧ P.eqGuardType P.depth t = false then (codesF P 0 fs).getD [0] else [0]

def kOf (P : Program) (t : TypeId) : TypeDesc → Option TK
  | .struct fs => if fs.all (fun f => hasT P f.type) then some (.str (fs.toList.map fun f => ⟨f.offset, szOf P f.type, aggOf P f.type, f.type⟩) (eqOK P t fs.toList)) else none
  | .slice e => if hasT P e then some (.sl e (szOf P e)) else none
  | .array n e => if hasT P e then some (.arr n e (szOf P e) (aggOf P e)) else none
  | .string => some .string
  | .bool => some .bool
  | .int k => some (.int k)
  | .func _ _ _ => some .func
  | .interface _ => some .iface
  | _ => some .prim

def tiOf (P : Program) (t : TypeId) : Option TI :=
  match P.info? t, P.underlying t with
  | some i, some d =>
    match i.zero, kOf P t d with
    | some z, some k => some ⟨i.size, z, k⟩
    | _, _ => none
  | _, _ => none

/-- What a table of types says is so in the program. -/
def TabOK (P : Program) (tab : TypeId → Option TI) : Prop := ∀ t i, tab t = some i → tiOf P t = some i

section
variable {P : Program} {tab : TypeId → Option TI}
theorem run_sizeOf' {t : TypeId} (h : hasT P t = true) (w : World) : (sizeOf t).run P w = .ok (szOf P t) w := by
  unfold hasT at h
  simp only [Bool.and_eq_true, Option.isSome_iff_exists] at h
  obtain ⟨⟨i, hi⟩, _⟩ := h
  simp [sizeOf, typeInfo, hi, szOf]
theorem run_isAgg' {t : TypeId} (h : hasT P t = true) (w : World) : (isAgg t).run P w = .ok (aggOf P t) w := by
  unfold hasT at h
  simp only [Bool.and_eq_true, Option.isSome_iff_exists] at h
  obtain ⟨_, ⟨d, hd⟩⟩ := h
  simp only [isAgg, Sem.run_bind, run_underlying hd, Result.andThen_ok, aggOf, hd]
  cases d <;> rfl

theorem TabOK.at (hT : TabOK P tab) {t : TypeId} {i : TI} (h : tab t = some i) :
    ∃ f d, P.info? t = some f ∧ P.underlying t = some d ∧ f.size = i.size ∧ f.zero = some i.zero ∧ kOf P t d = some i.k := by
  have := hT t i h
  unfold tiOf at this
  split at this
  · rename_i f d hf hd
    split at this
    · rename_i z k hz hk
      simp only [Option.some.injEq] at this
      subst this
      exact ⟨f, d, hf, hd, rfl, hz, hk⟩
    · cases this
  · cases this
theorem TabOK.size (hT : TabOK P tab) {t : TypeId} {i : TI} (h : tab t = some i) (w : World) : (sizeOf t).run P w = .ok i.size w := by
  obtain ⟨f, d, hf, hd, hs, _⟩ := hT.at h
  simp [sizeOf, typeInfo, hf, hs]
theorem TabOK.zero (hT : TabOK P tab) {t : TypeId} {i : TI} (h : tab t = some i) (w : World) : (zeroValue t).run P w = .ok i.zero w := by
  obtain ⟨f, d, hf, hd, hs, hz, _⟩ := hT.at h
  simp [zeroValue, typeInfo, hf, hz]
theorem kOf_agg {t : TypeId} {d : TypeDesc} {k : TK} (h : kOf P t d = some k) : k.agg = (match d with | .struct _ => true | .array _ _ => true | _ => false) := by
  cases d <;> simp only [kOf] at h <;> (try split at h) <;> first | cases h; done | (simp only [Option.some.injEq] at h; subst h; rfl)
theorem TabOK.agg (hT : TabOK P tab) {t : TypeId} {i : TI} (h : tab t = some i) (w : World) : (isAgg t).run P w = .ok i.k.agg w := by
  obtain ⟨f, d, hf, hd, hs, hz, hk⟩ := hT.at h
  simp only [isAgg, Sem.run_bind, run_underlying hd, Result.andThen_ok, kOf_agg hk]
  cases d <;> rfl
theorem TabOK.str (hT : TabOK P tab) {t : TypeId} {i : TI} (h : tab t = some i) {fs : List Fd} {eq : List Nat} (hk : i.k = .str fs eq) :
    ∃ F : Array Field, P.underlying t = some (.struct F) ∧ ∀ (n : Nat) (f : Fd), fs[n]? = some f → ∃ G : Field, F[n]? = some G ∧ G.offset = f.off ∧ G.type = f.type ∧ hasT P f.type = true ∧ szOf P f.type = f.size ∧ aggOf P f.type = f.agg := by
  obtain ⟨f, d, hf, hd, hs, hz, hkk⟩ := hT.at h
  rw [hk] at hkk
  cases d <;> simp only [kOf] at hkk <;> (try split at hkk) <;> first | cases hkk; done | skip
  rename_i F hall
  simp only [Option.some.injEq, TK.str.injEq] at hkk
  obtain ⟨hkk, _⟩ := hkk
  refine ⟨F, hd, fun n f hn => ?_⟩
  subst hkk
  rw [List.getElem?_map] at hn
  cases hg : F[n]? with
  | none => simp [hg] at hn
  | some G =>
    simp [hg] at hn
    subst hn
    refine ⟨G, rfl, rfl, rfl, ?_, rfl, rfl⟩
    rw [Array.all_eq_true_iff_forall_mem] at hall
    exact hall G (Array.mem_of_getElem? hg)
theorem TabOK.strF (hT : TabOK P tab) {t : TypeId} {i : TI} (h : tab t = some i) {fs : List Fd} {eq : List Nat} (hk : i.k = .str fs eq) :
    ∃ F : Array Field, P.underlying t = some (.struct F) ∧ fs = F.toList.map (fun f => ⟨f.offset, szOf P f.type, aggOf P f.type, f.type⟩) ∧ ∀ f ∈ F, hasT P f.type = true := by
  obtain ⟨f, d, hf, hd, hs, hz, hkk⟩ := hT.at h
  rw [hk] at hkk
  cases d <;> simp only [kOf] at hkk <;> (try split at hkk) <;> first | cases hkk; done | skip
  rename_i F hall
  simp only [Option.some.injEq, TK.str.injEq] at hkk
  rw [Array.all_eq_true_iff_forall_mem] at hall
  exact ⟨F, hd, hkk.1.symm, hall⟩
theorem TabOK.strE (hT : TabOK P tab) {t : TypeId} {i : TI} (h : tab t = some i) {fs : List Fd} {eq : List Nat} (hk : i.k = .str fs eq) :
    ∃ F : Array Field, P.underlying t = some (.struct F) ∧ eqOK P t F.toList = eq := by
  obtain ⟨f, d, hf, hd, hs, hz, hkk⟩ := hT.at h
  rw [hk] at hkk
  cases d <;> simp only [kOf] at hkk <;> (try split at hkk) <;> first | cases hkk; done | skip
  rename_i F hall
  simp only [Option.some.injEq, TK.str.injEq] at hkk
  exact ⟨F, hd, hkk.2⟩
theorem TabOK.sl (hT : TabOK P tab) {t : TypeId} {i : TI} (h : tab t = some i) {e : TypeId} {es : Nat} (hk : i.k = .sl e es) :
    P.underlying t = some (.slice e) ∧ hasT P e = true ∧ szOf P e = es := by
  obtain ⟨f, d, hf, hd, hs, hz, hkk⟩ := hT.at h
  rw [hk] at hkk
  cases d <;> simp only [kOf] at hkk <;> (try split at hkk) <;> first | cases hkk; done | skip
  rename_i e' he
  simp only [Option.some.injEq, TK.sl.injEq] at hkk
  obtain ⟨rfl, rfl⟩ := hkk
  exact ⟨hd, he, rfl⟩
theorem TabOK.arr (hT : TabOK P tab) {t : TypeId} {i : TI} (h : tab t = some i) {n : Nat} {e : TypeId} {es : Nat} {ag : Bool} (hk : i.k = .arr n e es ag) :
    P.underlying t = some (.array n e) ∧ hasT P e = true ∧ szOf P e = es ∧ aggOf P e = ag := by
  obtain ⟨f, d, hf, hd, hs, hz, hkk⟩ := hT.at h
  rw [hk] at hkk
  cases d <;> simp only [kOf] at hkk <;> (try split at hkk) <;> first | cases hkk; done | skip
  rename_i m e' he
  simp only [Option.some.injEq, TK.arr.injEq] at hkk
  obtain ⟨rfl, rfl, rfl, rfl⟩ := hkk
  exact ⟨hd, he, rfl, rfl⟩
theorem TabOK.string (hT : TabOK P tab) {t : TypeId} {i : TI} (h : tab t = some i) (hk : i.k = .string) : P.underlying t = some .string := by
  obtain ⟨f, d, hf, hd, hs, hz, hkk⟩ := hT.at h
  rw [hk] at hkk
  cases d <;> simp only [kOf] at hkk <;> (try split at hkk) <;> first | cases hkk; done | exact hd
theorem TabOK.bool (hT : TabOK P tab) {t : TypeId} {i : TI} (h : tab t = some i) (hk : i.k = .bool) : P.underlying t = some .bool := by
  obtain ⟨f, d, hf, hd, hs, hz, hkk⟩ := hT.at h
  rw [hk] at hkk
  cases d <;> simp only [kOf] at hkk <;> (try split at hkk) <;> first | cases hkk; done | exact hd
theorem TabOK.int (hT : TabOK P tab) {t : TypeId} {i : TI} (h : tab t = some i) {k : IntKind} (hk : i.k = .int k) : P.underlying t = some (.int k) := by
  obtain ⟨f, d, hf, hd, hs, hz, hkk⟩ := hT.at h
  rw [hk] at hkk
  cases d <;> simp only [kOf] at hkk <;> (try split at hkk) <;> first | cases hkk; done | skip
  simp only [Option.some.injEq, TK.int.injEq] at hkk
  subst hkk
  exact hd
theorem TabOK.func (hT : TabOK P tab) {t : TypeId} {i : TI} (h : tab t = some i) (hk : i.k = .func) : ∃ a b c, P.underlying t = some (.func a b c) := by
  obtain ⟨f, d, hf, hd, hs, hz, hkk⟩ := hT.at h
  rw [hk] at hkk
  cases d <;> simp only [kOf] at hkk <;> (try split at hkk) <;> first | cases hkk; done | exact ⟨_, _, _, hd⟩
theorem TabOK.notIface (hT : TabOK P tab) {t : TypeId} {i : TI} (h : tab t = some i) (hk : i.k ≠ .iface) : ∃ d, P.underlying t = some d ∧ ∀ m, d ≠ .interface m := by
  obtain ⟨f, d, hf, hd, hs, hz, hkk⟩ := hT.at h
  refine ⟨d, hd, fun m e => ?_⟩
  subst e
  simp only [kOf, Option.some.injEq] at hkk
  exact hk hkk.symm
end

/-! ### The operations -/
def sameK : IntKind → IntKind → Bool
  | .i8, .i8 => true
  | .i16, .i16 => true
  | .i32, .i32 => true
  | .i64, .i64 => true
  | .u8, .u8 => true
  | .u16, .u16 => true
  | .u32, .u32 => true
  | .u64, .u64 => true
  | _, _ => false
theorem kNum_inj {a b : IntKind} (h : sameK a b = true) : a = b := by
  cases a <;> cases b <;> first | rfl | (exfalso; revert h; decide)

inductive Eff where
  | ask
  | ok (c : Prop) (x : SV)
  | box (l : List SV) (T : TypeId)
  | row (l : List SV) (T : TypeId) (len : Nat)
  | upd (k : Nat) (l : List SV) (T : TypeId)
  | call (f : FuncId) (args : List SV)

def pInt (op : BinOp) (k : IntKind) (a b : Int) : Eff :=
  match op with
  | .add => .ok True (.v (.int k (k.wrap (a + b))))
  | .sub => .ok True (.v (.int k (k.wrap (a - b))))
  | .mul => .ok True (.v (.int k (k.wrap (a * b))))
  | .quo => .ok (b ≠ 0) (.v (.int k (k.wrap (a.tdiv b))))
  | .rem => .ok (b ≠ 0) (.v (.int k (a.tmod b)))
  | .eql => .ok True (.v (.bool (a == b)))
  | .neq => .ok True (.v (.bool (a != b)))
  | .lss => .ok True (.v (.bool (decide (a < b))))
  | .leq => .ok True (.v (.bool (decide (a ≤ b))))
  | .gtr => .ok True (.v (.bool (decide (a > b))))
  | .geq => .ok True (.v (.bool (decide (a ≥ b))))
  | _ => .ask

def pStr (op : BinOp) (a b : ByteArray) : Eff :=
  match op with
  | .add => .ok (a.size + b.size ≤ 9223372036854775807) (.v (.string (a ++ b)))
  | .eql => .ok True (.v (.bool (a.toList == b.toList)))
  | .neq => .ok True (.v (.bool (!(a.toList == b.toList))))
  | .lss => .ok True (.v (.bool (Op.bytesLess a.toList b.toList)))
  | .gtr => .ok True (.v (.bool (!(Op.bytesLess a.toList b.toList || (a.toList == b.toList)))))
  | .leq => .ok True (.v (.bool (Op.bytesLess a.toList b.toList || (a.toList == b.toList))))
  | .geq => .ok True (.v (.bool (!Op.bytesLess a.toList b.toList)))
  | _ => .ask

def eqLL : List Nat → List SV → List SV → Option Bool
  | [], [], [] => some true
  | 1 :: c, .v (.int k a) :: l, .v (.int k' b) :: m => match eqLL c l m with | some r => bif sameK k k' then some ((a == b) && r) else none | none => none
  | 2 :: c, .v (.bool a) :: l, .v (.bool b) :: m => match eqLL c l m with | some r => some ((a == b) && r) | none => none
  | 3 :: c, .v (.string a) :: l, .v (.string b) :: m => match eqLL c l m with | some r => some ((a.toList == b.toList) && r) | none => none
  | _, _, _ => none

def aggL : SV → Option (List SV)
  | .agg l => some l
  | .v (.agg c) => some (c.toList.map .v)
  | _ => none

def pEq (c : List Nat) (x y : SV) (neg : Bool) : Eff :=
  match aggL x, aggL y with
  | some l, some m => match eqLL c l m with | some b => .ok True (.v (.bool (bif neg then !b else b))) | none => .ask
  | _, _ => .ask

def pBin (i : Option TI) (op : BinOp) : SV → SV → Eff
  | .v (.int k a), .v (.int k' b) => bif sameK k k' then pInt op k a b else .ask
  | .v (.string a), .v (.string b) => pStr op a b
  | .v (.bool a), .v (.bool b) =>
    match i, op with
    | some ⟨_, _, .bool⟩, .eql => .ok True (.v (.bool (a == b)))
    | some ⟨_, _, .bool⟩, .neq => .ok True (.v (.bool (!(a == b))))
    | _, _ => .ask
  | .fn _ _ _, .v .nilFunc =>
    match i, op with
    | some ⟨_, _, .func⟩, .eql => .ok True (.v (.bool false))
    | some ⟨_, _, .func⟩, .neq => .ok True (.v (.bool true))
    | _, _ => .ask
  | .v (.func _ _ _), .v .nilFunc =>
    match i, op with
    | some ⟨_, _, .func⟩, .eql => .ok True (.v (.bool false))
    | some ⟨_, _, .func⟩, .neq => .ok True (.v (.bool true))
    | _, _ => .ask
  | .v .nilFunc, .v .nilFunc =>
    match i, op with
    | some ⟨_, _, .func⟩, .eql => .ok True (.v (.bool true))
    | some ⟨_, _, .func⟩, .neq => .ok True (.v (.bool false))
    | _, _ => .ask
  | x, y =>
    match i, op with
    | some ⟨_, _, .str _ c⟩, .eql => pEq c x y false
    | some ⟨_, _, .str _ c⟩, .neq => pEq c x y true
    | _, _ => .ask

def pUn (op : UnOp) : SV → Eff
  | .v (.int k a) => match op with | .neg => .ok True (.v (.int k (k.wrap (0 - a)))) | _ => .ask
  | .v (.bool b) => match op with | .not => .ok True (.v (.bool (!b))) | _ => .ask
  | _ => .ask

def pConv (i : Option TI) : SV → Eff
  | .v (.int _ n) => match i with | some ⟨_, _, .int k⟩ => .ok True (.v (.int k (k.wrap n))) | _ => .ask
  | .v (.string s) => match i with | some ⟨_, _, .string⟩ => .ok True (.v (.string s)) | _ => .ask
  | _ => .ask

/-- The cells of a value. -/
def SV.cs : SV → Option (List SV)
  | .v (.agg c) => some (c.toList.map .v)
  | .v (.bool b) => some [.v (.bool b)]
  | .v (.int k n) => some [.v (.int k n)]
  | .v (.string s) => some [.v (.string s)]
  | .v (.pointer a) => some [.v (.pointer a)]
  | .v (.slice a n c) => some [.v (.slice a n c)]
  | .v (.map a) => some [.v (.map a)]
  | .v (.func f a b) => some [.v (.func f a b)]
  | .v .nilFunc => some [.v .nilFunc]
  | .v (.iface t x) => some [.v (.iface t x)]
  | .v .nilIface => some [.v .nilIface]
  | .v _ => none
  | .agg l => some l
  | .tup _ => none
  | .unk _ => none
  | .ptr k o => some [.ptr k o]
  | .slc k o n c => some [.slc k o n c]
  | .usl k n => some [.usl k n]
  | .slu k o n => some [.slu k o n]
  | .mp k => some [.mp k]
  | .ifc t x => some [.ifc t x]
  | .fn f a b => some [.fn f a b]

/-- Surely one cell. -/
def SV.one : SV → Bool
  | .v (.bool _) => true
  | .v (.int _ _) => true
  | .v (.string _) => true
  | .v (.pointer _) => true
  | .v (.slice _ _ _) => true
  | .v (.map _) => true
  | .v (.func _ _ _) => true
  | .v .nilFunc => true
  | .v (.iface _ _) => true
  | .v .nilIface => true
  | .v _ => false
  | .agg _ => false
  | .tup _ => false
  | .unk _ => false
  | _ => true

def ones : List SV → Bool
  | [] => true
  | x :: l => x.one && ones l

/-- cs laid over l from o on. -/
def lay : List SV → Nat → List SV → List SV
  | l, _, [] => l
  | l, o, c :: cs => lay (l.set o c) (o + 1) cs

/-- What lies in the memory of the call's beginning at an address, read as a type. -/
def readCells (w : World) (a : Addr) : Nat → Nat → Option (List Value)
  | _, 0 => some []
  | i, n + 1 => match w.cell? (a.add i), readCells w a (i + 1) n with | some v, some l => some (v :: l) | _, _ => none
def memOf (tab : TypeId → Option TI) (w0 : World) (t : TypeId) (a : Addr) : Option Value :=
  if a.block < w0.heap.size then
    match tab t with
    | some i => if i.k.agg then (readCells w0 a 0 i.size).map fun l => .agg l.toArray else w0.cell? a
    | none => none
  else none

def pLoad (m : Addr → Option Value) (i : Option TI) (H : List (Nat × Blk)) : SV → Eff
  | .v (.pointer (some a)) => match m a with | some v => .ok True (.v v) | none => .ask
  | .ptr k o =>
    match i, lk H k with
    | some i, some (.cells l _) =>
      bif i.k.agg then (bif decide ((o + i.size) ≤ l.length) then .ok True (.agg ((l.drop o).take i.size)) else .ask)
      else match l[o]? with | some x => .ok True x | none => .ask
    | some i, some (.pre l _) =>
      bif i.k.agg then (bif decide (o + i.size ≤ l.length) then .ok True (.agg ((l.drop o).take i.size)) else .ask)
      else match l[o]? with | some x => .ok True x | none => .ask
    | _, _ => .ask
  | _ => .ask

def pStore (i : Option TI) (H : List (Nat × Blk)) : SV → SV → Eff
  | .ptr k o, x =>
    match i, lk H k, x.cs with
    | some i, some (.cells l T), some c => bif (c.length == i.size) && decide ((o + c.length) ≤ l.length) && ones c then .upd k (lay l o c) T else .ask
    | _, _, _ => .ask
  | _, _ => .ask

def pFieldAddr (i : Option TI) (f : Nat) (x : SV) : Eff :=
  match i with
  | some ⟨_, _, .str fs _⟩ =>
    match fs[f]? with
    | some d =>
      bif (d.size == 0) then .ask else
      match x with
      | .ptr k o => .ok True (.ptr k (o + d.off))
      | .v (.pointer (some a)) => .ok True (.v (.pointer (some (a.add d.off))))
      | _ => .ask
    | none => .ask
  | _ => .ask

def pField (i : Option TI) (f : Nat) (x : SV) : Eff :=
  match i with
  | some ⟨_, _, .str fs _⟩ =>
    match fs[f]?, x with
    | some d, .agg l =>
      bif d.agg then .ok True (.agg ((l.drop d.off).take d.size))
      else match l[d.off]? with | some y => .ok True y | none => .ask
    | some d, .v (.agg c) =>
      bif d.agg then .ok True (.v (.agg (c.extract d.off (d.off + d.size))))
      else match c.toList[d.off]? with | some y => .ok True (.v y) | none => .ask
    | _, _ => .ask
  | _ => .ask

def pIndexAddr (i : Option TI) (x ix : SV) : Eff :=
  match i, ix with
  | some ⟨_, _, .sl _ es⟩, .v (.int _ n) =>
    match x with
    | .slc k o len _ => .ok (0 ≤ n ∧ n < len) (.ptr k (o + n.toNat * es))
    | .slu k o len => .ok (0 ≤ n ∧ n < len) (.ptr k (o + n.toNat * es))
    | .v (.slice (some a) len _) => .ok (0 ≤ n ∧ n < len) (.v (.pointer (some (a.add (n.toNat * es)))))
    | _ => .ask
  | some ⟨_, _, .arr m _ es _⟩, .v (.int _ n) =>
    match x with
    | .ptr k o => .ok (0 ≤ n ∧ n < m) (.ptr k (o + n.toNat * es))
    | _ => .ask
  | _, _ => .ask

def pIndex (i : Option TI) (x ix : SV) : Eff :=
  match i, x, ix with
  | some ⟨_, _, .string⟩, .v (.string s), .v (.int _ n) => .ok (0 ≤ n ∧ n < s.size) (.v (.int .u8 ((s[n.toNat]?.getD 0).toNat)))
  | some ⟨_, _, .arr m _ es ag⟩, .agg l, .v (.int _ n) =>
    bif ag then .ok (0 ≤ n ∧ n < m) (.agg ((l.drop (n.toNat * es)).take es))
    else match l[n.toNat * es]? with | some y => .ok (0 ≤ n ∧ n < m) y | none => .ask
  | _, _, _ => .ask

def pAssert (i : Option TI) (at_ : TypeId) (ok : Bool) (x : SV) : Eff :=
  match i with
  | some ⟨_, z, k⟩ =>
    match k with
    | .iface => .ask
    | _ =>
      match x, ok with
      | .ifc t y, true => bif (t == at_) then .ok True (.tup [y, .v (.bool true)]) else .ok True (.tup [.v z, .v (.bool false)])
      | .ifc t y, false => bif (t == at_) then .ok True y else .ask
      | .v (.iface t y), true => bif (t == at_) then .ok True (.tup [.v y, .v (.bool true)]) else .ok True (.tup [.v z, .v (.bool false)])
      | .v .nilIface, true => .ok True (.tup [.v z, .v (.bool false)])
      | _, _ => .ask
  | none => .ask

def pMakeIface (i : Option TI) (t : TypeId) (x : SV) : Eff :=
  match i with
  | some ⟨_, _, k⟩ => match k with | .iface => .ask | _ => .ok True (.ifc t x)
  | none => .ask

def pExtract (n : Nat) : SV → Eff
  | .tup l => match l[n]? with | some y => .ok True y | none => .ask
  | .v (.tuple vs) => match vs.toList[n]? with | some y => .ok True (.v y) | none => .ask
  | _ => .ask

def pLen (i : Option TI) (x : SV) : Eff :=
  match i, x with
  | some ⟨_, _, .string⟩, .v (.string s) => .ok True (.v (.int .i64 (s.size : Nat)))
  | some ⟨_, _, .sl _ _⟩, .slc _ _ n _ => .ok True (.v (.int .i64 (n : Nat)))
  | some ⟨_, _, .sl _ _⟩, .usl _ n => .ok True (.v (.int .i64 (n : Nat)))
  | some ⟨_, _, .sl _ _⟩, .slu _ _ n => .ok True (.v (.int .i64 (n : Nat)))
  | some ⟨_, _, .sl _ _⟩, .v (.slice _ n _) => .ok True (.v (.int .i64 (n : Nat)))
  | _, _ => .ask

/-- The parts of a literal laid over its zero cells. -/
def fillS (place : Nat → Option (Nat × Nat)) : List SV → List (Nat × Option SV) → Option (List SV)
  | l, [] => some l
  | l, (i, x) :: r =>
    match place i, x with
    | some (off, size), some x =>
      match x.cs with
      | some c => bif (c.length == size) && decide ((off + c.length) ≤ l.length) then fillS place (lay l off c) r else none
      | none => none
    | _, _ => none

def fdPlace (fs : List Fd) (i : Nat) : Option (Nat × Nat) := match fs[i]? with | some d => some (d.off, d.size) | none => none
def slPlace (es : Nat) (i : Nat) : Option (Nat × Nat) := some (i * es, es)

def initGo (z : Value) : Nat → Nat → List SV
  | _, 0 => []
  | i, n + 1 => .v (z.cells[i % z.cells.size]!) :: initGo z (i + 1) n

def evs (S : St) : List Operand → Option (List SV)
  | [] => some []
  | x :: l => match S.ev x, evs S l with | some y, some r => some (y :: r) | _, _ => none

def evp (S : St) : List (Nat × Operand) → List (Nat × Option SV)
  | [] => []
  | (i, x) :: l => (i, S.ev x) :: evp S l

def pCall (tab : TypeId → Option TI) (c : Go.Call) (args : Option (List SV)) (f : Option SV) : Eff :=
  match c.callee, args with
  | .builtin .len, some [x] => match c.argTypes.toList with | t :: _ => pLen (tab t) x | [] => .ask
  | .value _, some l =>
    match f with
    | some (.fn (.func g) a b) => .call g (a ++ l ++ b)
    | some (.v (.func (.func g) a b)) => .call g (a.toList.map .v ++ l ++ b.toList.map .v)
    | _ => .ask
  | _, _ => .ask

def calleeOp : Callee → Option Operand
  | .value f => some f
  | _ => none

def opt1 (x : Option SV) (f : SV → Eff) : Eff := match x with | some x => f x | none => .ask
def opt2 (x y : Option SV) (f : SV → SV → Eff) : Eff := match x, y with | some x, some y => f x y | _, _ => .ask

def pPick (b : Bool) (x y : SV) : Eff :=
  match x, y with
  | .v (.bool p), .v (.bool q) => .ok True (.v (.bool (bif b then p else q)))
  | x, y => match b with | true => .ok True x | false => .ok True y

def effOf (tab : TypeId → Option TI) (mem : TypeId → Addr → Option Value) (o : Op) (S : St) : Eff :=
  match o with
  | .move x => opt1 (S.ev x) fun y => .ok True y
  | .assign x => opt1 (S.ev x) fun y => .ok True y
  | .pick c x y => match S.ev c with | some (.v (.bool b)) => opt2 (S.ev x) (S.ev y) (pPick b) | _ => .ask
  | .alloc t => match tab t with | some i => (match (SV.v i.zero).cs with | some c => .box c t | none => .ask) | none => .ask
  | .box t x => opt1 (S.ev x) fun y => match y.cs with | some c => .box c t | none => .ask
  | .load t x => opt1 (S.ev x) (pLoad (mem t) (tab t) S.heap)
  | .store t a x => opt2 (S.ev a) (S.ev x) (pStore (tab t) S.heap)
  | .nilCheck x => opt1 (S.ev x) fun y => match y with
    | .ptr _ _ => .ok True y
    | .v (.pointer (some _)) => .ok True y
    | .fn (.func _) _ _ => .ok True y
    | .v (.func (.func _) _ _) => .ok True y
    | _ => .ask
  | .binOp op t x y _ => opt2 (S.ev x) (S.ev y) (pBin (tab t) op)
  | .unOp op _ x => opt1 (S.ev x) (pUn op)
  | .convert s t x => match tab s with | some _ => opt1 (S.ev x) (pConv (tab t)) | none => .ask
  | .makeInterface t x => opt1 (S.ev x) (pMakeIface (tab t) t)
  | .makeFunc f a b => match evs S a.toList, evs S b.toList with | some a, some b => .ok True (.fn f a b) | _, _ => .ask
  | .fieldAddr t x f => opt1 (S.ev x) (pFieldAddr (tab t) f)
  | .field t x f => opt1 (S.ev x) (pField (tab t) f)
  | .indexAddr t x i => opt2 (S.ev x) (S.ev i) (pIndexAddr (tab t))
  | .index t x i => opt2 (S.ev x) (S.ev i) (pIndex (tab t))
  | .typeAssert x _ t ok => opt1 (S.ev x) (pAssert (tab t) t ok)
  | .extract x n => opt1 (S.ev x) (pExtract n)
  | .build t ps => match tab t with
    | some ⟨_, .agg z, .str fs _⟩ => match fillS (fdPlace fs) (z.toList.map .v) (evp S ps.toList) with | some l => .ok True (.agg l) | none => .ask
    | _ => .ask
  | .buildSlice t n ps => match tab t with
    | some ⟨_, _, .sl e es⟩ =>
      match tab e with
      | some ie =>
        bif ((n * es) == 0) || decide (1000 < (n * es)) then .ask else
        match fillS (slPlace es) (initGo ie.zero 0 (n * es)) (evp S ps.toList) with | some l => .row l e n | none => .ask
      | none => .ask
    | _ => .ask
  | .call c => pCall tab c (evs S c.args.toList) ((calleeOp c.callee).bind S.ev)
  | _ => .ask
end Go.Proofs.Ytpoiebkcjehheaa
