/- The table of types that the walks use. -/
import Derived.Test.YtpoiebkcjehheaaSyI
import Derived.Test.YtpoiebkcjehheaaProg
namespace Go.Proofs.Ytpoiebkcjehheaa

def tabL : List (Nat × TI) := [
  (0, ⟨1, (.tuple #[]), .prim⟩),
  (1, ⟨1, .nilFunc, .func⟩),
  (2, ⟨1, (.int .i64 0), (.int .i64)⟩),
  (3, ⟨1, (.int .i64 0), (.int .i64)⟩),
  (4, ⟨1, (.bool false), .bool⟩),
  (5, ⟨1, (.int .u8 0), (.int .u8)⟩),
  (6, ⟨1, (.int .u8 0), (.int .u8)⟩),
  (7, ⟨4, (.agg #[(.int .i64 0), (.int .i64 0), (.bool false), (.int .u8 0)]), (.str [⟨0, 1, false, 2⟩, ⟨1, 1, false, 3⟩, ⟨2, 1, false, 4⟩, ⟨3, 1, false, 6⟩] [1, 1, 2, 1])⟩),
  (8, ⟨4, (.agg #[(.int .i64 0), (.int .i64 0), (.bool false), (.int .u8 0)]), (.str [⟨0, 1, false, 2⟩, ⟨1, 1, false, 3⟩, ⟨2, 1, false, 4⟩, ⟨3, 1, false, 6⟩] [1, 1, 2, 1])⟩),
  (9, ⟨1, (.string ⟨#[]⟩), .string⟩),
  (10, ⟨1, (.string ⟨#[]⟩), .string⟩),
  (11, ⟨1, (.string ⟨#[]⟩), .string⟩),
  (12, ⟨1, (.int .u64 0), (.int .u64)⟩),
  (13, ⟨2, (.agg #[(.string ⟨#[]⟩), (.int .u64 0)]), (.str [⟨0, 1, false, 9⟩, ⟨1, 1, false, 12⟩] [0])⟩),
  (14, ⟨2, (.agg #[(.string ⟨#[]⟩), (.int .u64 0)]), (.str [⟨0, 1, false, 9⟩, ⟨1, 1, false, 12⟩] [0])⟩),
  (15, ⟨1, (.pointer none), .prim⟩),
  (16, ⟨1, (.pointer none), .prim⟩),
  (17, ⟨1, (.pointer none), .prim⟩),
  (18, ⟨1, (.agg #[(.pointer none)]), (.str [⟨0, 1, false, 17⟩] [0])⟩),
  (19, ⟨1, (.agg #[(.pointer none)]), (.str [⟨0, 1, false, 17⟩] [0])⟩),
  (20, ⟨1, .nilIface, .iface⟩),
  (21, ⟨1, (.int .i32 0), (.int .i32)⟩),
  (22, ⟨1, (.slice none 0 0), (.sl 33 4)⟩),
  (23, ⟨1, .nilFunc, .func⟩),
  (24, ⟨1, .nilFunc, .func⟩),
  (25, ⟨3, (.agg #[(.int .i64 0), (.int .i64 0), (.string ⟨#[]⟩)]), (.str [⟨0, 1, false, 3⟩, ⟨1, 1, false, 3⟩, ⟨2, 1, false, 9⟩] [1, 1, 3])⟩),
  (26, ⟨3, (.agg #[(.int .i64 0), (.int .i64 0), (.string ⟨#[]⟩)]), (.str [⟨0, 1, false, 3⟩, ⟨1, 1, false, 3⟩, ⟨2, 1, false, 9⟩] [1, 1, 3])⟩),
  (27, ⟨1, (.tuple #[(.agg #[(.int .i64 0), (.int .i64 0), (.string ⟨#[]⟩)]), (.bool false)]), .prim⟩),
  (28, ⟨1, .nilFunc, .func⟩),
  (29, ⟨1, .nilFunc, .func⟩),
  (30, ⟨1, .nilFunc, .func⟩),
  (31, ⟨1, (.slice none 0 0), (.sl 26 3)⟩),
  (32, ⟨4, (.agg #[(.int .i64 0), (.int .i64 0), (.slice none 0 0), (.bool false)]), (.str [⟨0, 1, false, 3⟩, ⟨1, 1, false, 3⟩, ⟨2, 1, false, 31⟩, ⟨3, 1, false, 4⟩] [0])⟩),
  (33, ⟨4, (.agg #[(.int .i64 0), (.int .i64 0), (.slice none 0 0), (.bool false)]), (.str [⟨0, 1, false, 3⟩, ⟨1, 1, false, 3⟩, ⟨2, 1, false, 31⟩, ⟨3, 1, false, 4⟩] [0])⟩),
  (34, ⟨1, .nilFunc, .func⟩),
  (35, ⟨1, .nilFunc, .func⟩),
  (36, ⟨1, .nilFunc, .func⟩),
  (37, ⟨1, .nilFunc, .func⟩),
  (38, ⟨1, .nilFunc, .func⟩),
  (39, ⟨1, (.tuple #[.nilFunc, (.int .i64 0), (.int .i64 0)]), .prim⟩),
  (40, ⟨1, .nilFunc, .func⟩),
  (41, ⟨1, .nilFunc, .func⟩),
  (42, ⟨1, .nilFunc, .func⟩),
  (43, ⟨1, .nilFunc, .func⟩),
  (44, ⟨1, .nilFunc, .func⟩),
  (45, ⟨4, (.agg #[(.int .i64 0), (.int .i64 0), (.slice none 0 0), (.bool false)]), (.str [⟨0, 4, true, 33⟩] [0])⟩),
  (46, ⟨4, (.agg #[(.int .i64 0), (.int .i64 0), (.slice none 0 0), (.bool false)]), (.str [⟨0, 4, true, 33⟩] [0])⟩),
  (47, ⟨1, .nilFunc, .func⟩),
  (48, ⟨1, .nilFunc, .func⟩),
  (49, ⟨1, .nilFunc, .func⟩),
  (50, ⟨1, (.slice none 0 0), (.sl 46 4)⟩),
  (51, ⟨1, (.tuple #[(.slice none 0 0), (.bool false)]), .prim⟩),
  (52, ⟨1, .nilFunc, .func⟩),
  (53, ⟨1, (.map none), .prim⟩),
  (54, ⟨1, .nilFunc, .func⟩),
  (55, ⟨1, (.tuple #[(.int .i64 0), (.int .i64 0)]), .prim⟩),
  (56, ⟨1, .nilFunc, .func⟩),
  (57, ⟨1, .nilFunc, .func⟩),
  (58, ⟨1, .nilFunc, .func⟩),
  (59, ⟨1, .nilFunc, .func⟩),
  (60, ⟨1, (.tuple #[(.bool false), (.int .i64 0)]), .prim⟩),
  (61, ⟨1, .nilFunc, .func⟩),
  (62, ⟨1, .nilFunc, .func⟩),
  (63, ⟨1, .nilFunc, .func⟩),
  (64, ⟨1, .nilFunc, .func⟩),
  (65, ⟨1, .nilFunc, .func⟩),
  (66, ⟨1, .nilFunc, .func⟩),
  (67, ⟨1, (.tuple #[(.int .i64 0), (.bool false)]), .prim⟩),
  (68, ⟨1, .nilFunc, .func⟩),
  (69, ⟨1, .nilFunc, .func⟩),
  (70, ⟨1, .nilFunc, .func⟩),
  (71, ⟨0, (.agg #[]), (.str [] [])⟩),
  (72, ⟨0, (.agg #[]), (.str [] [])⟩),
  (73, ⟨1, (.int .i64 0), (.int .i64)⟩),
  (74, ⟨1, (.bool false), .bool⟩),
  (75, ⟨1, (.string ⟨#[]⟩), .string⟩),
  (76, ⟨1, (.tuple #[(.bool false), (.bool false)]), .prim⟩),
  (77, ⟨1, .nilFunc, .func⟩),
  (78, ⟨1, (.int .i64 0), (.int .i64)⟩),
  (79, ⟨1, (.slice none 0 0), (.sl 5 1)⟩),
  (80, ⟨1, .nilFunc, .func⟩),
  (81, ⟨1, .nilFunc, .func⟩),
  (82, ⟨1, (.tuple #[(.int .i64 0), (.int .i64 0), (.string ⟨#[]⟩)]), .prim⟩),
  (83, ⟨1, .nilFunc, .func⟩),
  (84, ⟨1, (.tuple #[(.string ⟨#[]⟩), (.bool false)]), .prim⟩),
  (85, ⟨1, .nilFunc, .func⟩),
  (86, ⟨1, (.tuple #[(.string ⟨#[]⟩), (.string ⟨#[]⟩), (.bool false)]), .prim⟩),
  (87, ⟨1, .nilFunc, .func⟩),
  (88, ⟨1, .nilFunc, .func⟩),
  (89, ⟨1, .nilFunc, .func⟩),
  (90, ⟨1, .nilFunc, .func⟩),
  (91, ⟨1, .nilFunc, .func⟩),
  (92, ⟨1, .nilFunc, .func⟩),
  (93, ⟨1, (.int .u64 0), (.int .u64)⟩),
  (94, ⟨1, (.int .u32 0), (.int .u32)⟩),
  (95, ⟨1, (.tuple #[(.int .u32 0), (.int .u32 0)]), .prim⟩),
  (96, ⟨1, .nilFunc, .func⟩),
  (97, ⟨1, .nilFunc, .func⟩),
  (98, ⟨4, (.agg #[(.pointer none), (.pointer none), (.pointer none), (.string ⟨#[]⟩)]), (.str [⟨0, 1, false, 17⟩, ⟨1, 1, false, 17⟩, ⟨2, 1, false, 17⟩, ⟨3, 1, false, 9⟩] [0])⟩),
  (99, ⟨4, (.agg #[(.pointer none), (.pointer none), (.pointer none), (.string ⟨#[]⟩)]), (.str [⟨0, 1, false, 17⟩, ⟨1, 1, false, 17⟩, ⟨2, 1, false, 17⟩, ⟨3, 1, false, 9⟩] [0])⟩),
  (100, ⟨0, (.agg #[]), (.arr 0 16 1 false)⟩),
  (101, ⟨0, (.agg #[]), (.str [⟨0, 0, true, 100⟩] [0])⟩),
  (102, ⟨0, (.agg #[]), (.str [⟨0, 0, true, 100⟩] [0])⟩),
  (103, ⟨1, .nilFunc, .func⟩),
  (104, ⟨1, (.int .u8 0), (.int .u8)⟩),
  (105, ⟨1, (.int .u8 0), (.int .u8)⟩),
  (106, ⟨1, .nilFunc, .func⟩),
  (107, ⟨1, (.pointer none), .prim⟩),
  (108, ⟨1, (.int .i32 0), (.int .i32)⟩),
  (109, ⟨1, (.int .i32 0), (.int .i32)⟩),
  (110, ⟨11, (.agg #[(.int .u64 0), (.int .u64 0), (.int .u32 0), (.int .u8 0), (.int .u8 0), (.int .u8 0), (.int .u8 0), .nilFunc, (.pointer none), (.int .i32 0), (.int .i32 0)]), (.str [⟨0, 1, false, 12⟩, ⟨1, 1, false, 12⟩, ⟨2, 1, false, 94⟩, ⟨3, 1, false, 104⟩, ⟨4, 1, false, 5⟩, ⟨5, 1, false, 5⟩, ⟨6, 1, false, 105⟩, ⟨7, 1, false, 106⟩, ⟨8, 1, false, 107⟩, ⟨9, 1, false, 108⟩, ⟨10, 1, false, 109⟩] [0])⟩),
  (111, ⟨11, (.agg #[(.int .u64 0), (.int .u64 0), (.int .u32 0), (.int .u8 0), (.int .u8 0), (.int .u8 0), (.int .u8 0), .nilFunc, (.pointer none), (.int .i32 0), (.int .i32 0)]), (.str [⟨0, 1, false, 12⟩, ⟨1, 1, false, 12⟩, ⟨2, 1, false, 94⟩, ⟨3, 1, false, 104⟩, ⟨4, 1, false, 5⟩, ⟨5, 1, false, 5⟩, ⟨6, 1, false, 105⟩, ⟨7, 1, false, 106⟩, ⟨8, 1, false, 107⟩, ⟨9, 1, false, 108⟩, ⟨10, 1, false, 109⟩] [0])⟩),
  (112, ⟨1, (.pointer none), .prim⟩)]
def tab (t : TypeId) : Option TI := lk tabL t
theorem lkP {P : Program} : ∀ (l : List (Nat × TI)), (∀ x ∈ l, tiOf P x.1 = some x.2) → ∀ t i, lk l t = some i → tiOf P t = some i
  | [], _, t, i, h => by simp only [lk] at h; cases h
  | (d, x) :: l, hl, t, i, h => by
    rw [lk_cons] at h
    split at h
    · rename_i e; subst e
      simp only [Option.some.injEq] at h; subst h
      exact hl (d, x) (List.mem_cons_self ..)
    · exact lkP l (fun y hy => hl y (List.mem_cons_of_mem _ hy)) t i h
def allP (P : Program) : List (Nat × TI) → Prop
  | [] => True
  | x :: l => tiOf P x.1 = some x.2 ∧ allP P l
theorem allP_mem {P : Program} : ∀ (l : List (Nat × TI)), allP P l → ∀ x ∈ l, tiOf P x.1 = some x.2
  | [], _, x, hx => by cases hx
  | y :: l, h, x, hx => by
    rcases List.mem_cons.1 hx with rfl | hx
    · exact h.1
    · exact allP_mem l h.2 x hx
theorem tf0 : tiOf Try.prog 0 = some (⟨1, (.tuple #[]), .prim⟩ : TI) := by kernel_rfl
theorem tf1 : tiOf Try.prog 1 = some (⟨1, .nilFunc, .func⟩ : TI) := by kernel_rfl
theorem tf2 : tiOf Try.prog 2 = some (⟨1, (.int .i64 0), (.int .i64)⟩ : TI) := by kernel_rfl
theorem tf3 : tiOf Try.prog 3 = some (⟨1, (.int .i64 0), (.int .i64)⟩ : TI) := by kernel_rfl
theorem tf4 : tiOf Try.prog 4 = some (⟨1, (.bool false), .bool⟩ : TI) := by kernel_rfl
theorem tf5 : tiOf Try.prog 5 = some (⟨1, (.int .u8 0), (.int .u8)⟩ : TI) := by kernel_rfl
theorem tf6 : tiOf Try.prog 6 = some (⟨1, (.int .u8 0), (.int .u8)⟩ : TI) := by kernel_rfl
theorem tf7 : tiOf Try.prog 7 = some (⟨4, (.agg #[(.int .i64 0), (.int .i64 0), (.bool false), (.int .u8 0)]), (.str [⟨0, 1, false, 2⟩, ⟨1, 1, false, 3⟩, ⟨2, 1, false, 4⟩, ⟨3, 1, false, 6⟩] [1, 1, 2, 1])⟩ : TI) := by kernel_rfl
theorem tf8 : tiOf Try.prog 8 = some (⟨4, (.agg #[(.int .i64 0), (.int .i64 0), (.bool false), (.int .u8 0)]), (.str [⟨0, 1, false, 2⟩, ⟨1, 1, false, 3⟩, ⟨2, 1, false, 4⟩, ⟨3, 1, false, 6⟩] [1, 1, 2, 1])⟩ : TI) := by kernel_rfl
theorem tf9 : tiOf Try.prog 9 = some (⟨1, (.string ⟨#[]⟩), .string⟩ : TI) := by kernel_rfl
theorem tf10 : tiOf Try.prog 10 = some (⟨1, (.string ⟨#[]⟩), .string⟩ : TI) := by kernel_rfl
theorem tf11 : tiOf Try.prog 11 = some (⟨1, (.string ⟨#[]⟩), .string⟩ : TI) := by kernel_rfl
theorem tf12 : tiOf Try.prog 12 = some (⟨1, (.int .u64 0), (.int .u64)⟩ : TI) := by kernel_rfl
theorem tf13 : tiOf Try.prog 13 = some (⟨2, (.agg #[(.string ⟨#[]⟩), (.int .u64 0)]), (.str [⟨0, 1, false, 9⟩, ⟨1, 1, false, 12⟩] [0])⟩ : TI) := by kernel_rfl
theorem tf14 : tiOf Try.prog 14 = some (⟨2, (.agg #[(.string ⟨#[]⟩), (.int .u64 0)]), (.str [⟨0, 1, false, 9⟩, ⟨1, 1, false, 12⟩] [0])⟩ : TI) := by kernel_rfl
theorem tf15 : tiOf Try.prog 15 = some (⟨1, (.pointer none), .prim⟩ : TI) := by kernel_rfl
theorem tf16 : tiOf Try.prog 16 = some (⟨1, (.pointer none), .prim⟩ : TI) := by kernel_rfl
theorem tf17 : tiOf Try.prog 17 = some (⟨1, (.pointer none), .prim⟩ : TI) := by kernel_rfl
theorem tf18 : tiOf Try.prog 18 = some (⟨1, (.agg #[(.pointer none)]), (.str [⟨0, 1, false, 17⟩] [0])⟩ : TI) := by kernel_rfl
theorem tf19 : tiOf Try.prog 19 = some (⟨1, (.agg #[(.pointer none)]), (.str [⟨0, 1, false, 17⟩] [0])⟩ : TI) := by kernel_rfl
theorem tf20 : tiOf Try.prog 20 = some (⟨1, .nilIface, .iface⟩ : TI) := by kernel_rfl
theorem tf21 : tiOf Try.prog 21 = some (⟨1, (.int .i32 0), (.int .i32)⟩ : TI) := by kernel_rfl
theorem tf22 : tiOf Try.prog 22 = some (⟨1, (.slice none 0 0), (.sl 33 4)⟩ : TI) := by kernel_rfl
theorem tf23 : tiOf Try.prog 23 = some (⟨1, .nilFunc, .func⟩ : TI) := by kernel_rfl
theorem tf24 : tiOf Try.prog 24 = some (⟨1, .nilFunc, .func⟩ : TI) := by kernel_rfl
theorem tf25 : tiOf Try.prog 25 = some (⟨3, (.agg #[(.int .i64 0), (.int .i64 0), (.string ⟨#[]⟩)]), (.str [⟨0, 1, false, 3⟩, ⟨1, 1, false, 3⟩, ⟨2, 1, false, 9⟩] [1, 1, 3])⟩ : TI) := by kernel_rfl
theorem tf26 : tiOf Try.prog 26 = some (⟨3, (.agg #[(.int .i64 0), (.int .i64 0), (.string ⟨#[]⟩)]), (.str [⟨0, 1, false, 3⟩, ⟨1, 1, false, 3⟩, ⟨2, 1, false, 9⟩] [1, 1, 3])⟩ : TI) := by kernel_rfl
theorem tf27 : tiOf Try.prog 27 = some (⟨1, (.tuple #[(.agg #[(.int .i64 0), (.int .i64 0), (.string ⟨#[]⟩)]), (.bool false)]), .prim⟩ : TI) := by kernel_rfl
theorem tf28 : tiOf Try.prog 28 = some (⟨1, .nilFunc, .func⟩ : TI) := by kernel_rfl
theorem tf29 : tiOf Try.prog 29 = some (⟨1, .nilFunc, .func⟩ : TI) := by kernel_rfl
theorem tf30 : tiOf Try.prog 30 = some (⟨1, .nilFunc, .func⟩ : TI) := by kernel_rfl
theorem tf31 : tiOf Try.prog 31 = some (⟨1, (.slice none 0 0), (.sl 26 3)⟩ : TI) := by kernel_rfl
theorem tf32 : tiOf Try.prog 32 = some (⟨4, (.agg #[(.int .i64 0), (.int .i64 0), (.slice none 0 0), (.bool false)]), (.str [⟨0, 1, false, 3⟩, ⟨1, 1, false, 3⟩, ⟨2, 1, false, 31⟩, ⟨3, 1, false, 4⟩] [0])⟩ : TI) := by kernel_rfl
theorem tf33 : tiOf Try.prog 33 = some (⟨4, (.agg #[(.int .i64 0), (.int .i64 0), (.slice none 0 0), (.bool false)]), (.str [⟨0, 1, false, 3⟩, ⟨1, 1, false, 3⟩, ⟨2, 1, false, 31⟩, ⟨3, 1, false, 4⟩] [0])⟩ : TI) := by kernel_rfl
theorem tf34 : tiOf Try.prog 34 = some (⟨1, .nilFunc, .func⟩ : TI) := by kernel_rfl
theorem tf35 : tiOf Try.prog 35 = some (⟨1, .nilFunc, .func⟩ : TI) := by kernel_rfl
theorem tf36 : tiOf Try.prog 36 = some (⟨1, .nilFunc, .func⟩ : TI) := by kernel_rfl
theorem tf37 : tiOf Try.prog 37 = some (⟨1, .nilFunc, .func⟩ : TI) := by kernel_rfl
theorem tf38 : tiOf Try.prog 38 = some (⟨1, .nilFunc, .func⟩ : TI) := by kernel_rfl
theorem tf39 : tiOf Try.prog 39 = some (⟨1, (.tuple #[.nilFunc, (.int .i64 0), (.int .i64 0)]), .prim⟩ : TI) := by kernel_rfl
theorem tf40 : tiOf Try.prog 40 = some (⟨1, .nilFunc, .func⟩ : TI) := by kernel_rfl
theorem tf41 : tiOf Try.prog 41 = some (⟨1, .nilFunc, .func⟩ : TI) := by kernel_rfl
theorem tf42 : tiOf Try.prog 42 = some (⟨1, .nilFunc, .func⟩ : TI) := by kernel_rfl
theorem tf43 : tiOf Try.prog 43 = some (⟨1, .nilFunc, .func⟩ : TI) := by kernel_rfl
theorem tf44 : tiOf Try.prog 44 = some (⟨1, .nilFunc, .func⟩ : TI) := by kernel_rfl
theorem tf45 : tiOf Try.prog 45 = some (⟨4, (.agg #[(.int .i64 0), (.int .i64 0), (.slice none 0 0), (.bool false)]), (.str [⟨0, 4, true, 33⟩] [0])⟩ : TI) := by kernel_rfl
theorem tf46 : tiOf Try.prog 46 = some (⟨4, (.agg #[(.int .i64 0), (.int .i64 0), (.slice none 0 0), (.bool false)]), (.str [⟨0, 4, true, 33⟩] [0])⟩ : TI) := by kernel_rfl
theorem tf47 : tiOf Try.prog 47 = some (⟨1, .nilFunc, .func⟩ : TI) := by kernel_rfl
theorem tf48 : tiOf Try.prog 48 = some (⟨1, .nilFunc, .func⟩ : TI) := by kernel_rfl
theorem tf49 : tiOf Try.prog 49 = some (⟨1, .nilFunc, .func⟩ : TI) := by kernel_rfl
theorem tf50 : tiOf Try.prog 50 = some (⟨1, (.slice none 0 0), (.sl 46 4)⟩ : TI) := by kernel_rfl
theorem tf51 : tiOf Try.prog 51 = some (⟨1, (.tuple #[(.slice none 0 0), (.bool false)]), .prim⟩ : TI) := by kernel_rfl
theorem tf52 : tiOf Try.prog 52 = some (⟨1, .nilFunc, .func⟩ : TI) := by kernel_rfl
theorem tf53 : tiOf Try.prog 53 = some (⟨1, (.map none), .prim⟩ : TI) := by kernel_rfl
theorem tf54 : tiOf Try.prog 54 = some (⟨1, .nilFunc, .func⟩ : TI) := by kernel_rfl
theorem tf55 : tiOf Try.prog 55 = some (⟨1, (.tuple #[(.int .i64 0), (.int .i64 0)]), .prim⟩ : TI) := by kernel_rfl
theorem tf56 : tiOf Try.prog 56 = some (⟨1, .nilFunc, .func⟩ : TI) := by kernel_rfl
theorem tf57 : tiOf Try.prog 57 = some (⟨1, .nilFunc, .func⟩ : TI) := by kernel_rfl
theorem tf58 : tiOf Try.prog 58 = some (⟨1, .nilFunc, .func⟩ : TI) := by kernel_rfl
theorem tf59 : tiOf Try.prog 59 = some (⟨1, .nilFunc, .func⟩ : TI) := by kernel_rfl
theorem tf60 : tiOf Try.prog 60 = some (⟨1, (.tuple #[(.bool false), (.int .i64 0)]), .prim⟩ : TI) := by kernel_rfl
theorem tf61 : tiOf Try.prog 61 = some (⟨1, .nilFunc, .func⟩ : TI) := by kernel_rfl
theorem tf62 : tiOf Try.prog 62 = some (⟨1, .nilFunc, .func⟩ : TI) := by kernel_rfl
theorem tf63 : tiOf Try.prog 63 = some (⟨1, .nilFunc, .func⟩ : TI) := by kernel_rfl
theorem tf64 : tiOf Try.prog 64 = some (⟨1, .nilFunc, .func⟩ : TI) := by kernel_rfl
theorem tf65 : tiOf Try.prog 65 = some (⟨1, .nilFunc, .func⟩ : TI) := by kernel_rfl
theorem tf66 : tiOf Try.prog 66 = some (⟨1, .nilFunc, .func⟩ : TI) := by kernel_rfl
theorem tf67 : tiOf Try.prog 67 = some (⟨1, (.tuple #[(.int .i64 0), (.bool false)]), .prim⟩ : TI) := by kernel_rfl
theorem tf68 : tiOf Try.prog 68 = some (⟨1, .nilFunc, .func⟩ : TI) := by kernel_rfl
theorem tf69 : tiOf Try.prog 69 = some (⟨1, .nilFunc, .func⟩ : TI) := by kernel_rfl
theorem tf70 : tiOf Try.prog 70 = some (⟨1, .nilFunc, .func⟩ : TI) := by kernel_rfl
theorem tf71 : tiOf Try.prog 71 = some (⟨0, (.agg #[]), (.str [] [])⟩ : TI) := by kernel_rfl
theorem tf72 : tiOf Try.prog 72 = some (⟨0, (.agg #[]), (.str [] [])⟩ : TI) := by kernel_rfl
theorem tf73 : tiOf Try.prog 73 = some (⟨1, (.int .i64 0), (.int .i64)⟩ : TI) := by kernel_rfl
theorem tf74 : tiOf Try.prog 74 = some (⟨1, (.bool false), .bool⟩ : TI) := by kernel_rfl
theorem tf75 : tiOf Try.prog 75 = some (⟨1, (.string ⟨#[]⟩), .string⟩ : TI) := by kernel_rfl
theorem tf76 : tiOf Try.prog 76 = some (⟨1, (.tuple #[(.bool false), (.bool false)]), .prim⟩ : TI) := by kernel_rfl
theorem tf77 : tiOf Try.prog 77 = some (⟨1, .nilFunc, .func⟩ : TI) := by kernel_rfl
theorem tf78 : tiOf Try.prog 78 = some (⟨1, (.int .i64 0), (.int .i64)⟩ : TI) := by kernel_rfl
theorem tf79 : tiOf Try.prog 79 = some (⟨1, (.slice none 0 0), (.sl 5 1)⟩ : TI) := by kernel_rfl
theorem tf80 : tiOf Try.prog 80 = some (⟨1, .nilFunc, .func⟩ : TI) := by kernel_rfl
theorem tf81 : tiOf Try.prog 81 = some (⟨1, .nilFunc, .func⟩ : TI) := by kernel_rfl
theorem tf82 : tiOf Try.prog 82 = some (⟨1, (.tuple #[(.int .i64 0), (.int .i64 0), (.string ⟨#[]⟩)]), .prim⟩ : TI) := by kernel_rfl
theorem tf83 : tiOf Try.prog 83 = some (⟨1, .nilFunc, .func⟩ : TI) := by kernel_rfl
theorem tf84 : tiOf Try.prog 84 = some (⟨1, (.tuple #[(.string ⟨#[]⟩), (.bool false)]), .prim⟩ : TI) := by kernel_rfl
theorem tf85 : tiOf Try.prog 85 = some (⟨1, .nilFunc, .func⟩ : TI) := by kernel_rfl
theorem tf86 : tiOf Try.prog 86 = some (⟨1, (.tuple #[(.string ⟨#[]⟩), (.string ⟨#[]⟩), (.bool false)]), .prim⟩ : TI) := by kernel_rfl
theorem tf87 : tiOf Try.prog 87 = some (⟨1, .nilFunc, .func⟩ : TI) := by kernel_rfl
theorem tf88 : tiOf Try.prog 88 = some (⟨1, .nilFunc, .func⟩ : TI) := by kernel_rfl
theorem tf89 : tiOf Try.prog 89 = some (⟨1, .nilFunc, .func⟩ : TI) := by kernel_rfl
theorem tf90 : tiOf Try.prog 90 = some (⟨1, .nilFunc, .func⟩ : TI) := by kernel_rfl
theorem tf91 : tiOf Try.prog 91 = some (⟨1, .nilFunc, .func⟩ : TI) := by kernel_rfl
theorem tf92 : tiOf Try.prog 92 = some (⟨1, .nilFunc, .func⟩ : TI) := by kernel_rfl
theorem tf93 : tiOf Try.prog 93 = some (⟨1, (.int .u64 0), (.int .u64)⟩ : TI) := by kernel_rfl
theorem tf94 : tiOf Try.prog 94 = some (⟨1, (.int .u32 0), (.int .u32)⟩ : TI) := by kernel_rfl
theorem tf95 : tiOf Try.prog 95 = some (⟨1, (.tuple #[(.int .u32 0), (.int .u32 0)]), .prim⟩ : TI) := by kernel_rfl
theorem tf96 : tiOf Try.prog 96 = some (⟨1, .nilFunc, .func⟩ : TI) := by kernel_rfl
theorem tf97 : tiOf Try.prog 97 = some (⟨1, .nilFunc, .func⟩ : TI) := by kernel_rfl
theorem tf98 : tiOf Try.prog 98 = some (⟨4, (.agg #[(.pointer none), (.pointer none), (.pointer none), (.string ⟨#[]⟩)]), (.str [⟨0, 1, false, 17⟩, ⟨1, 1, false, 17⟩, ⟨2, 1, false, 17⟩, ⟨3, 1, false, 9⟩] [0])⟩ : TI) := by kernel_rfl
theorem tf99 : tiOf Try.prog 99 = some (⟨4, (.agg #[(.pointer none), (.pointer none), (.pointer none), (.string ⟨#[]⟩)]), (.str [⟨0, 1, false, 17⟩, ⟨1, 1, false, 17⟩, ⟨2, 1, false, 17⟩, ⟨3, 1, false, 9⟩] [0])⟩ : TI) := by kernel_rfl
theorem tf100 : tiOf Try.prog 100 = some (⟨0, (.agg #[]), (.arr 0 16 1 false)⟩ : TI) := by kernel_rfl
theorem tf101 : tiOf Try.prog 101 = some (⟨0, (.agg #[]), (.str [⟨0, 0, true, 100⟩] [0])⟩ : TI) := by kernel_rfl
theorem tf102 : tiOf Try.prog 102 = some (⟨0, (.agg #[]), (.str [⟨0, 0, true, 100⟩] [0])⟩ : TI) := by kernel_rfl
theorem tf103 : tiOf Try.prog 103 = some (⟨1, .nilFunc, .func⟩ : TI) := by kernel_rfl
theorem tf104 : tiOf Try.prog 104 = some (⟨1, (.int .u8 0), (.int .u8)⟩ : TI) := by kernel_rfl
theorem tf105 : tiOf Try.prog 105 = some (⟨1, (.int .u8 0), (.int .u8)⟩ : TI) := by kernel_rfl
theorem tf106 : tiOf Try.prog 106 = some (⟨1, .nilFunc, .func⟩ : TI) := by kernel_rfl
theorem tf107 : tiOf Try.prog 107 = some (⟨1, (.pointer none), .prim⟩ : TI) := by kernel_rfl
theorem tf108 : tiOf Try.prog 108 = some (⟨1, (.int .i32 0), (.int .i32)⟩ : TI) := by kernel_rfl
theorem tf109 : tiOf Try.prog 109 = some (⟨1, (.int .i32 0), (.int .i32)⟩ : TI) := by kernel_rfl
theorem tf110 : tiOf Try.prog 110 = some (⟨11, (.agg #[(.int .u64 0), (.int .u64 0), (.int .u32 0), (.int .u8 0), (.int .u8 0), (.int .u8 0), (.int .u8 0), .nilFunc, (.pointer none), (.int .i32 0), (.int .i32 0)]), (.str [⟨0, 1, false, 12⟩, ⟨1, 1, false, 12⟩, ⟨2, 1, false, 94⟩, ⟨3, 1, false, 104⟩, ⟨4, 1, false, 5⟩, ⟨5, 1, false, 5⟩, ⟨6, 1, false, 105⟩, ⟨7, 1, false, 106⟩, ⟨8, 1, false, 107⟩, ⟨9, 1, false, 108⟩, ⟨10, 1, false, 109⟩] [0])⟩ : TI) := by kernel_rfl
theorem tf111 : tiOf Try.prog 111 = some (⟨11, (.agg #[(.int .u64 0), (.int .u64 0), (.int .u32 0), (.int .u8 0), (.int .u8 0), (.int .u8 0), (.int .u8 0), .nilFunc, (.pointer none), (.int .i32 0), (.int .i32 0)]), (.str [⟨0, 1, false, 12⟩, ⟨1, 1, false, 12⟩, ⟨2, 1, false, 94⟩, ⟨3, 1, false, 104⟩, ⟨4, 1, false, 5⟩, ⟨5, 1, false, 5⟩, ⟨6, 1, false, 105⟩, ⟨7, 1, false, 106⟩, ⟨8, 1, false, 107⟩, ⟨9, 1, false, 108⟩, ⟨10, 1, false, 109⟩] [0])⟩ : TI) := by kernel_rfl
theorem tf112 : tiOf Try.prog 112 = some (⟨1, (.pointer none), .prim⟩ : TI) := by kernel_rfl
theorem tabOK : TabOK Try.prog tab := fun t i h => lkP tabL (allP_mem tabL ⟨tf0, tf1, tf2, tf3, tf4, tf5, tf6, tf7, tf8, tf9, tf10, tf11, tf12, tf13, tf14, tf15, tf16, tf17, tf18, tf19, tf20, tf21, tf22, tf23, tf24, tf25, tf26, tf27, tf28, tf29, tf30, tf31, tf32, tf33, tf34, tf35, tf36, tf37, tf38, tf39, tf40, tf41, tf42, tf43, tf44, tf45, tf46, tf47, tf48, tf49, tf50, tf51, tf52, tf53, tf54, tf55, tf56, tf57, tf58, tf59, tf60, tf61, tf62, tf63, tf64, tf65, tf66, tf67, tf68, tf69, tf70, tf71, tf72, tf73, tf74, tf75, tf76, tf77, tf78, tf79, tf80, tf81, tf82, tf83, tf84, tf85, tf86, tf87, tf88, tf89, tf90, tf91, tf92, tf93, tf94, tf95, tf96, tf97, tf98, tf99, tf100, tf101, tf102, tf103, tf104, tf105, tf106, tf107, tf108, tf109, tf110, tf111, tf112, trivial⟩) t i h
theorem tabs0 : tab 0 = some (⟨1, (.tuple #[]), .prim⟩ : TI) ∧ tab 1 = some (⟨1, .nilFunc, .func⟩ : TI) ∧ tab 2 = some (⟨1, (.int .i64 0), (.int .i64)⟩ : TI) ∧ tab 3 = some (⟨1, (.int .i64 0), (.int .i64)⟩ : TI) ∧ tab 4 = some (⟨1, (.bool false), .bool⟩ : TI) ∧ tab 5 = some (⟨1, (.int .u8 0), (.int .u8)⟩ : TI) ∧ tab 6 = some (⟨1, (.int .u8 0), (.int .u8)⟩ : TI) ∧ tab 7 = some (⟨4, (.agg #[(.int .i64 0), (.int .i64 0), (.bool false), (.int .u8 0)]), (.str [⟨0, 1, false, 2⟩, ⟨1, 1, false, 3⟩, ⟨2, 1, false, 4⟩, ⟨3, 1, false, 6⟩] [1, 1, 2, 1])⟩ : TI) ∧ tab 8 = some (⟨4, (.agg #[(.int .i64 0), (.int .i64 0), (.bool false), (.int .u8 0)]), (.str [⟨0, 1, false, 2⟩, ⟨1, 1, false, 3⟩, ⟨2, 1, false, 4⟩, ⟨3, 1, false, 6⟩] [1, 1, 2, 1])⟩ : TI) ∧ tab 9 = some (⟨1, (.string ⟨#[]⟩), .string⟩ : TI) ∧ tab 10 = some (⟨1, (.string ⟨#[]⟩), .string⟩ : TI) ∧ tab 11 = some (⟨1, (.string ⟨#[]⟩), .string⟩ : TI) ∧ tab 12 = some (⟨1, (.int .u64 0), (.int .u64)⟩ : TI) ∧ tab 13 = some (⟨2, (.agg #[(.string ⟨#[]⟩), (.int .u64 0)]), (.str [⟨0, 1, false, 9⟩, ⟨1, 1, false, 12⟩] [0])⟩ : TI) ∧ tab 14 = some (⟨2, (.agg #[(.string ⟨#[]⟩), (.int .u64 0)]), (.str [⟨0, 1, false, 9⟩, ⟨1, 1, false, 12⟩] [0])⟩ : TI) := ⟨rfl, rfl, rfl, rfl, rfl, rfl, rfl, rfl, rfl, rfl, rfl, rfl, rfl, rfl, rfl⟩
theorem tabs1 : tab 15 = some (⟨1, (.pointer none), .prim⟩ : TI) ∧ tab 16 = some (⟨1, (.pointer none), .prim⟩ : TI) ∧ tab 17 = some (⟨1, (.pointer none), .prim⟩ : TI) ∧ tab 18 = some (⟨1, (.agg #[(.pointer none)]), (.str [⟨0, 1, false, 17⟩] [0])⟩ : TI) ∧ tab 19 = some (⟨1, (.agg #[(.pointer none)]), (.str [⟨0, 1, false, 17⟩] [0])⟩ : TI) ∧ tab 20 = some (⟨1, .nilIface, .iface⟩ : TI) ∧ tab 21 = some (⟨1, (.int .i32 0), (.int .i32)⟩ : TI) ∧ tab 22 = some (⟨1, (.slice none 0 0), (.sl 33 4)⟩ : TI) ∧ tab 23 = some (⟨1, .nilFunc, .func⟩ : TI) ∧ tab 24 = some (⟨1, .nilFunc, .func⟩ : TI) ∧ tab 25 = some (⟨3, (.agg #[(.int .i64 0), (.int .i64 0), (.string ⟨#[]⟩)]), (.str [⟨0, 1, false, 3⟩, ⟨1, 1, false, 3⟩, ⟨2, 1, false, 9⟩] [1, 1, 3])⟩ : TI) ∧ tab 26 = some (⟨3, (.agg #[(.int .i64 0), (.int .i64 0), (.string ⟨#[]⟩)]), (.str [⟨0, 1, false, 3⟩, ⟨1, 1, false, 3⟩, ⟨2, 1, false, 9⟩] [1, 1, 3])⟩ : TI) ∧ tab 27 = some (⟨1, (.tuple #[(.agg #[(.int .i64 0), (.int .i64 0), (.string ⟨#[]⟩)]), (.bool false)]), .prim⟩ : TI) ∧ tab 28 = some (⟨1, .nilFunc, .func⟩ : TI) ∧ tab 29 = some (⟨1, .nilFunc, .func⟩ : TI) := ⟨rfl, rfl, rfl, rfl, rfl, rfl, rfl, rfl, rfl, rfl, rfl, rfl, rfl, rfl, rfl⟩
theorem tabs2 : tab 30 = some (⟨1, .nilFunc, .func⟩ : TI) ∧ tab 31 = some (⟨1, (.slice none 0 0), (.sl 26 3)⟩ : TI) ∧ tab 32 = some (⟨4, (.agg #[(.int .i64 0), (.int .i64 0), (.slice none 0 0), (.bool false)]), (.str [⟨0, 1, false, 3⟩, ⟨1, 1, false, 3⟩, ⟨2, 1, false, 31⟩, ⟨3, 1, false, 4⟩] [0])⟩ : TI) ∧ tab 33 = some (⟨4, (.agg #[(.int .i64 0), (.int .i64 0), (.slice none 0 0), (.bool false)]), (.str [⟨0, 1, false, 3⟩, ⟨1, 1, false, 3⟩, ⟨2, 1, false, 31⟩, ⟨3, 1, false, 4⟩] [0])⟩ : TI) ∧ tab 34 = some (⟨1, .nilFunc, .func⟩ : TI) ∧ tab 35 = some (⟨1, .nilFunc, .func⟩ : TI) ∧ tab 36 = some (⟨1, .nilFunc, .func⟩ : TI) ∧ tab 37 = some (⟨1, .nilFunc, .func⟩ : TI) ∧ tab 38 = some (⟨1, .nilFunc, .func⟩ : TI) ∧ tab 39 = some (⟨1, (.tuple #[.nilFunc, (.int .i64 0), (.int .i64 0)]), .prim⟩ : TI) ∧ tab 40 = some (⟨1, .nilFunc, .func⟩ : TI) ∧ tab 41 = some (⟨1, .nilFunc, .func⟩ : TI) ∧ tab 42 = some (⟨1, .nilFunc, .func⟩ : TI) ∧ tab 43 = some (⟨1, .nilFunc, .func⟩ : TI) ∧ tab 44 = some (⟨1, .nilFunc, .func⟩ : TI) := ⟨rfl, rfl, rfl, rfl, rfl, rfl, rfl, rfl, rfl, rfl, rfl, rfl, rfl, rfl, rfl⟩
theorem tabs3 : tab 45 = some (⟨4, (.agg #[(.int .i64 0), (.int .i64 0), (.slice none 0 0), (.bool false)]), (.str [⟨0, 4, true, 33⟩] [0])⟩ : TI) ∧ tab 46 = some (⟨4, (.agg #[(.int .i64 0), (.int .i64 0), (.slice none 0 0), (.bool false)]), (.str [⟨0, 4, true, 33⟩] [0])⟩ : TI) ∧ tab 47 = some (⟨1, .nilFunc, .func⟩ : TI) ∧ tab 48 = some (⟨1, .nilFunc, .func⟩ : TI) ∧ tab 49 = some (⟨1, .nilFunc, .func⟩ : TI) ∧ tab 50 = some (⟨1, (.slice none 0 0), (.sl 46 4)⟩ : TI) ∧ tab 51 = some (⟨1, (.tuple #[(.slice none 0 0), (.bool false)]), .prim⟩ : TI) ∧ tab 52 = some (⟨1, .nilFunc, .func⟩ : TI) ∧ tab 53 = some (⟨1, (.map none), .prim⟩ : TI) ∧ tab 54 = some (⟨1, .nilFunc, .func⟩ : TI) ∧ tab 55 = some (⟨1, (.tuple #[(.int .i64 0), (.int .i64 0)]), .prim⟩ : TI) ∧ tab 56 = some (⟨1, .nilFunc, .func⟩ : TI) ∧ tab 57 = some (⟨1, .nilFunc, .func⟩ : TI) ∧ tab 58 = some (⟨1, .nilFunc, .func⟩ : TI) ∧ tab 59 = some (⟨1, .nilFunc, .func⟩ : TI) := ⟨rfl, rfl, rfl, rfl, rfl, rfl, rfl, rfl, rfl, rfl, rfl, rfl, rfl, rfl, rfl⟩
theorem tabs4 : tab 60 = some (⟨1, (.tuple #[(.bool false), (.int .i64 0)]), .prim⟩ : TI) ∧ tab 61 = some (⟨1, .nilFunc, .func⟩ : TI) ∧ tab 62 = some (⟨1, .nilFunc, .func⟩ : TI) ∧ tab 63 = some (⟨1, .nilFunc, .func⟩ : TI) ∧ tab 64 = some (⟨1, .nilFunc, .func⟩ : TI) ∧ tab 65 = some (⟨1, .nilFunc, .func⟩ : TI) ∧ tab 66 = some (⟨1, .nilFunc, .func⟩ : TI) ∧ tab 67 = some (⟨1, (.tuple #[(.int .i64 0), (.bool false)]), .prim⟩ : TI) ∧ tab 68 = some (⟨1, .nilFunc, .func⟩ : TI) ∧ tab 69 = some (⟨1, .nilFunc, .func⟩ : TI) ∧ tab 70 = some (⟨1, .nilFunc, .func⟩ : TI) ∧ tab 71 = some (⟨0, (.agg #[]), (.str [] [])⟩ : TI) ∧ tab 72 = some (⟨0, (.agg #[]), (.str [] [])⟩ : TI) ∧ tab 73 = some (⟨1, (.int .i64 0), (.int .i64)⟩ : TI) ∧ tab 74 = some (⟨1, (.bool false), .bool⟩ : TI) := ⟨rfl, rfl, rfl, rfl, rfl, rfl, rfl, rfl, rfl, rfl, rfl, rfl, rfl, rfl, rfl⟩
theorem tabs5 : tab 75 = some (⟨1, (.string ⟨#[]⟩), .string⟩ : TI) ∧ tab 76 = some (⟨1, (.tuple #[(.bool false), (.bool false)]), .prim⟩ : TI) ∧ tab 77 = some (⟨1, .nilFunc, .func⟩ : TI) ∧ tab 78 = some (⟨1, (.int .i64 0), (.int .i64)⟩ : TI) ∧ tab 79 = some (⟨1, (.slice none 0 0), (.sl 5 1)⟩ : TI) ∧ tab 80 = some (⟨1, .nilFunc, .func⟩ : TI) ∧ tab 81 = some (⟨1, .nilFunc, .func⟩ : TI) ∧ tab 82 = some (⟨1, (.tuple #[(.int .i64 0), (.int .i64 0), (.string ⟨#[]⟩)]), .prim⟩ : TI) ∧ tab 83 = some (⟨1, .nilFunc, .func⟩ : TI) ∧ tab 84 = some (⟨1, (.tuple #[(.string ⟨#[]⟩), (.bool false)]), .prim⟩ : TI) ∧ tab 85 = some (⟨1, .nilFunc, .func⟩ : TI) ∧ tab 86 = some (⟨1, (.tuple #[(.string ⟨#[]⟩), (.string ⟨#[]⟩), (.bool false)]), .prim⟩ : TI) ∧ tab 87 = some (⟨1, .nilFunc, .func⟩ : TI) ∧ tab 88 = some (⟨1, .nilFunc, .func⟩ : TI) ∧ tab 89 = some (⟨1, .nilFunc, .func⟩ : TI) := ⟨rfl, rfl, rfl, rfl, rfl, rfl, rfl, rfl, rfl, rfl, rfl, rfl, rfl, rfl, rfl⟩
theorem tabs6 : tab 90 = some (⟨1, .nilFunc, .func⟩ : TI) ∧ tab 91 = some (⟨1, .nilFunc, .func⟩ : TI) ∧ tab 92 = some (⟨1, .nilFunc, .func⟩ : TI) ∧ tab 93 = some (⟨1, (.int .u64 0), (.int .u64)⟩ : TI) ∧ tab 94 = some (⟨1, (.int .u32 0), (.int .u32)⟩ : TI) ∧ tab 95 = some (⟨1, (.tuple #[(.int .u32 0), (.int .u32 0)]), .prim⟩ : TI) ∧ tab 96 = some (⟨1, .nilFunc, .func⟩ : TI) ∧ tab 97 = some (⟨1, .nilFunc, .func⟩ : TI) ∧ tab 98 = some (⟨4, (.agg #[(.pointer none), (.pointer none), (.pointer none), (.string ⟨#[]⟩)]), (.str [⟨0, 1, false, 17⟩, ⟨1, 1, false, 17⟩, ⟨2, 1, false, 17⟩, ⟨3, 1, false, 9⟩] [0])⟩ : TI) ∧ tab 99 = some (⟨4, (.agg #[(.pointer none), (.pointer none), (.pointer none), (.string ⟨#[]⟩)]), (.str [⟨0, 1, false, 17⟩, ⟨1, 1, false, 17⟩, ⟨2, 1, false, 17⟩, ⟨3, 1, false, 9⟩] [0])⟩ : TI) ∧ tab 100 = some (⟨0, (.agg #[]), (.arr 0 16 1 false)⟩ : TI) ∧ tab 101 = some (⟨0, (.agg #[]), (.str [⟨0, 0, true, 100⟩] [0])⟩ : TI) ∧ tab 102 = some (⟨0, (.agg #[]), (.str [⟨0, 0, true, 100⟩] [0])⟩ : TI) ∧ tab 103 = some (⟨1, .nilFunc, .func⟩ : TI) ∧ tab 104 = some (⟨1, (.int .u8 0), (.int .u8)⟩ : TI) := ⟨rfl, rfl, rfl, rfl, rfl, rfl, rfl, rfl, rfl, rfl, rfl, rfl, rfl, rfl, rfl⟩
theorem tabs7 : tab 105 = some (⟨1, (.int .u8 0), (.int .u8)⟩ : TI) ∧ tab 106 = some (⟨1, .nilFunc, .func⟩ : TI) ∧ tab 107 = some (⟨1, (.pointer none), .prim⟩ : TI) ∧ tab 108 = some (⟨1, (.int .i32 0), (.int .i32)⟩ : TI) ∧ tab 109 = some (⟨1, (.int .i32 0), (.int .i32)⟩ : TI) ∧ tab 110 = some (⟨11, (.agg #[(.int .u64 0), (.int .u64 0), (.int .u32 0), (.int .u8 0), (.int .u8 0), (.int .u8 0), (.int .u8 0), .nilFunc, (.pointer none), (.int .i32 0), (.int .i32 0)]), (.str [⟨0, 1, false, 12⟩, ⟨1, 1, false, 12⟩, ⟨2, 1, false, 94⟩, ⟨3, 1, false, 104⟩, ⟨4, 1, false, 5⟩, ⟨5, 1, false, 5⟩, ⟨6, 1, false, 105⟩, ⟨7, 1, false, 106⟩, ⟨8, 1, false, 107⟩, ⟨9, 1, false, 108⟩, ⟨10, 1, false, 109⟩] [0])⟩ : TI) ∧ tab 111 = some (⟨11, (.agg #[(.int .u64 0), (.int .u64 0), (.int .u32 0), (.int .u8 0), (.int .u8 0), (.int .u8 0), (.int .u8 0), .nilFunc, (.pointer none), (.int .i32 0), (.int .i32 0)]), (.str [⟨0, 1, false, 12⟩, ⟨1, 1, false, 12⟩, ⟨2, 1, false, 94⟩, ⟨3, 1, false, 104⟩, ⟨4, 1, false, 5⟩, ⟨5, 1, false, 5⟩, ⟨6, 1, false, 105⟩, ⟨7, 1, false, 106⟩, ⟨8, 1, false, 107⟩, ⟨9, 1, false, 108⟩, ⟨10, 1, false, 109⟩] [0])⟩ : TI) ∧ tab 112 = some (⟨1, (.pointer none), .prim⟩ : TI) := ⟨rfl, rfl, rfl, rfl, rfl, rfl, rfl, rfl⟩
theorem mixedOK : Try.prog.follows .mixedOrders = true := by kernel_rfl
end Go.Proofs.Ytpoiebkcjehheaa
