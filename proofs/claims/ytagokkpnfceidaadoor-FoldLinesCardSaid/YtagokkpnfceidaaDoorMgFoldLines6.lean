/- The proof's texts, part 6 of 10: the walks by a logic in which data are by value, the plain laws, and at the end the law, for every input. -/
import Derived.Test.YtagokkpnfceidaaDoorMgFoldLines5
import Derived.Test.YtagokkpnfceidaaDoorRows
import Derived.WalkKit
import Derived.WalkSpells
import Derived.RegionTactic
import Derived.ChangeAlike
import Derived.StillTailTactics
import Derived.Deep.QuietTactic
import Derived.BigQuiet
import Derived.Lib.Hide
import Derived.Deep.DeepFit
import Derived.Lib.Strings
import Derived.WalkSmall

section
namespace Go.Proofs.YtagokkpnfceidaaDoor
open Go.RowKit

theorem TblOk.nil (P : Program) : TblOk P [] := fun t ti h => by cases h
theorem TblOk.cons {P : Program} (t : Nat) (ti : TI) (l : Tbl) (h : P.underlying t = some ti.d) (hi : (P.info? t).map (fun i => (i.size, i.bytes, i.zero)) = some (ti.size, ti.bytes, some ti.zero)) (hc : ti.cmp = true → cmpOk P t = true) (hbl : ∀ q ∈ ti.bld, q.2.2 < ti.zero.cells.size ∧ liesAt q.1 q.1.depth t (ti.zero.cells.size / q.1.cellsOf t) q.2.2 q.2.1 1 = true) (hl : TblOk P l) : TblOk P ((t, ti) :: l) := by
  intro t' ti' h'
  rw [List.lookup_cons] at h'
  by_cases ht : t' = t
  · subst ht
    simp only [beq_self_eq_true, Option.some.injEq] at h'
    subst h'
    obtain ⟨i, h1, h2⟩ := Option.map_eq_some_iff.1 hi
    simp only [Prod.mk.injEq] at h2
    exact ⟨h, i, h1, h2.1, h2.2.1, h2.2.2, hc, hbl⟩
  · have hb : (t' == t) = false := by simpa using ht
    rw [hb] at h'
    exact hl t' ti' h'
noncomputable def tb : Tbl := [(1, ⟨.func #[] #[] false, 1, 8, .nilFunc, false, []⟩),
  (2, ⟨.int .i64, 1, 8, .int .i64 0, false, []⟩),
  (3, ⟨.int .i64, 1, 8, .int .i64 0, false, []⟩),
  (4, ⟨.bool, 1, 1, .bool false, false, []⟩),
  (5, ⟨.int .u8, 1, 1, .int .u8 0, false, []⟩),
  (6, ⟨.int .u8, 1, 1, .int .u8 0, false, []⟩),
  (7, ⟨.struct #[⟨ "x", 2, 0, false, "", "runtime", 0⟩, ⟨ "y", 3, 1, false, "", "runtime", 8⟩, ⟨ "signed", 4, 2, false, "", "runtime", 16⟩, ⟨ "code", 6, 3, false, "", "runtime", 17⟩], 4, 24, .agg #[.int .i64 0, .int .i64 0, .bool false, .int .u8 0], false, []⟩),
  (8, ⟨.struct #[⟨ "x", 2, 0, false, "", "runtime", 0⟩, ⟨ "y", 3, 1, false, "", "runtime", 8⟩, ⟨ "signed", 4, 2, false, "", "runtime", 16⟩, ⟨ "code", 6, 3, false, "", "runtime", 17⟩], 4, 24, .agg #[.int .i64 0, .int .i64 0, .bool false, .int .u8 0], false, []⟩),
  (9, ⟨.string, 1, 16, .string ByteArray.empty, false, []⟩),
  (10, ⟨.string, 1, 16, .string ByteArray.empty, false, []⟩),
  (11, ⟨.string, 1, 16, .string ByteArray.empty, false, []⟩),
  (12, ⟨.int .u64, 1, 8, .int .u64 0, false, []⟩),
  (13, ⟨.struct #[⟨ "msg", 9, 0, false, "", "runtime", 0⟩, ⟨ "addr", 12, 1, false, "", "runtime", 16⟩], 2, 24, .agg #[.string ByteArray.empty, .int .u64 0], false, []⟩),
  (14, ⟨.struct #[⟨ "msg", 9, 0, false, "", "runtime", 0⟩, ⟨ "addr", 12, 1, false, "", "runtime", 16⟩], 2, 24, .agg #[.string ByteArray.empty, .int .u64 0], false, []⟩),
  (15, ⟨.pointer 174, 1, 8, .pointer none, false, []⟩),
  (16, ⟨.pointer 177, 1, 8, .pointer none, false, []⟩),
  (17, ⟨.pointer 185, 1, 8, .pointer none, false, []⟩),
  (18, ⟨.struct #[⟨ "typ", 17, 0, false, "", "internal/runtime/maps", 0⟩], 1, 8, .agg #[.pointer none], false, []⟩),
  (19, ⟨.struct #[⟨ "typ", 17, 0, false, "", "internal/runtime/maps", 0⟩], 1, 8, .agg #[.pointer none], false, []⟩),
  (21, ⟨.int .i32, 1, 4, .int .i32 0, false, []⟩),
  (22, ⟨.func #[9] #[9] false, 1, 8, .nilFunc, false, []⟩),
  (23, ⟨.int .i64, 1, 8, .int .i64 0, false, []⟩),
  (25, ⟨.func #[9, 9] #[9, 23] false, 1, 8, .nilFunc, false, []⟩),
  (26, ⟨.func #[9] #[4] false, 1, 8, .nilFunc, false, []⟩),
  (27, ⟨.func #[] #[4] false, 1, 8, .nilFunc, false, []⟩),
  (28, ⟨.func #[9, 9] #[4] false, 1, 8, .nilFunc, false, []⟩),
  (30, ⟨.func #[9] #[9, 9, 23] false, 1, 8, .nilFunc, false, []⟩),
  (31, ⟨.slice 71, 1, 24, .slice none 0 0, false, []⟩),
  (33, ⟨.func #[31, 3, 3] #[31, 3] false, 1, 8, .nilFunc, false, []⟩),
  (35, ⟨.func #[31] #[9, 4] false, 1, 8, .nilFunc, false, []⟩),
  (37, ⟨.func #[9] #[31, 3, 23] false, 1, 8, .nilFunc, false, []⟩),
  (38, ⟨.func #[31, 31] #[4] false, 1, 8, .nilFunc, false, []⟩),
  (39, ⟨.func #[31] #[4] false, 1, 8, .nilFunc, false, []⟩),
  (40, ⟨.slice 5, 1, 24, .slice none 0 0, false, []⟩),
  (41, ⟨.func #[9, 9, 4] #[4] false, 1, 8, .nilFunc, false, []⟩),
  (42, ⟨.pointer 44, 1, 8, .pointer none, false, []⟩),
  (43, ⟨.struct #[⟨ "addr", 42, 0, false, "", "strings", 0⟩, ⟨ "buf", 40, 1, false, "", "strings", 8⟩], 2, 32, .agg #[.pointer none, .slice none 0 0], false, []⟩),
  (44, ⟨.struct #[⟨ "addr", 42, 0, false, "", "strings", 0⟩, ⟨ "buf", 40, 1, false, "", "strings", 8⟩], 2, 32, .agg #[.pointer none, .slice none 0 0], false, [(Tryd.prog, 44, 0)]⟩),
  (45, ⟨.struct #[⟨ "Builder", 44, 0, true, "", "", 0⟩, ⟨ "long", 3, 2, false, "", "nuncio/fold", 32⟩], 3, 40, .agg #[.pointer none, .slice none 0 0, .int .i64 0], false, [(Tryd.prog, 44, 0)]⟩),
  (46, ⟨.struct #[⟨ "Builder", 44, 0, true, "", "", 0⟩, ⟨ "long", 3, 2, false, "", "nuncio/fold", 32⟩], 3, 40, .agg #[.pointer none, .slice none 0 0, .int .i64 0], false, [(Tryd.prog, 44, 0)]⟩),
  (50, ⟨.func #[9] #[3, 48] false, 1, 8, .nilFunc, false, []⟩),
  (51, ⟨.func #[26] #[] false, 1, 8, .nilFunc, false, []⟩),
  (52, ⟨.func #[26] #[] false, 1, 8, .nilFunc, false, []⟩),
  (53, ⟨.func #[9] #[52] false, 1, 8, .nilFunc, false, []⟩),
  (54, ⟨.func #[9] #[] false, 1, 8, .nilFunc, false, []⟩),
  (55, ⟨.func #[] #[9] false, 1, 8, .nilFunc, false, []⟩),
  (56, ⟨.slice 9, 1, 24, .slice none 0 0, false, []⟩),
  (57, ⟨.func #[9] #[56] false, 1, 8, .nilFunc, false, []⟩),
  (58, ⟨.func #[9, 9, 3] #[4] false, 1, 8, .nilFunc, false, []⟩),
  (59, ⟨.func #[9, 5] #[56] false, 1, 8, .nilFunc, false, []⟩),
  (60, ⟨.func #[9] #[9, 4] false, 1, 8, .nilFunc, false, []⟩),
  (62, ⟨.func #[9, 9] #[9, 9, 4] false, 1, 8, .nilFunc, false, []⟩),
  (63, ⟨.func #[9, 9, 9] #[9] false, 1, 8, .nilFunc, false, []⟩),
  (64, ⟨.func #[5] #[48] false, 1, 8, .nilFunc, false, []⟩),
  (65, ⟨.func #[5] #[4] false, 1, 8, .nilFunc, false, []⟩),
  (66, ⟨.slice 3, 1, 24, .slice none 0 0, false, []⟩),
  (67, ⟨.func #[9] #[66] false, 1, 8, .nilFunc, false, []⟩),
  (68, ⟨.func #[3] #[9] false, 1, 8, .nilFunc, false, []⟩),
  (69, ⟨.int .i64, 1, 8, .int .i64 0, false, []⟩),
  (70, ⟨.struct #[⟨ "Kind", 69, 0, false, "", "", 0⟩, ⟨ "Name", 9, 1, false, "", "", 8⟩, ⟨ "Text", 9, 2, false, "", "", 24⟩, ⟨ "N", 3, 3, false, "", "", 40⟩, ⟨ "L", 31, 4, false, "", "", 48⟩, ⟨ "Then", 31, 5, false, "", "", 72⟩, ⟨ "Else", 31, 6, false, "", "", 96⟩], 7, 120, .agg #[.int .i64 0, .string ByteArray.empty, .string ByteArray.empty, .int .i64 0, .slice none 0 0, .slice none 0 0, .slice none 0 0], false, []⟩),
  (71, ⟨.struct #[⟨ "Kind", 69, 0, false, "", "", 0⟩, ⟨ "Name", 9, 1, false, "", "", 8⟩, ⟨ "Text", 9, 2, false, "", "", 24⟩, ⟨ "N", 3, 3, false, "", "", 40⟩, ⟨ "L", 31, 4, false, "", "", 48⟩, ⟨ "Then", 31, 5, false, "", "", 72⟩, ⟨ "Else", 31, 6, false, "", "", 96⟩], 7, 120, .agg #[.int .i64 0, .string ByteArray.empty, .string ByteArray.empty, .int .i64 0, .slice none 0 0, .slice none 0 0, .slice none 0 0], false, []⟩),
  (72, ⟨.func #[31] #[9] false, 1, 8, .nilFunc, false, []⟩),
  (73, ⟨.slice 106, 1, 24, .slice none 0 0, false, []⟩),
  (75, ⟨.func #[9] #[73, 3, 23] false, 1, 8, .nilFunc, false, []⟩),
  (76, ⟨.pointer 78, 1, 8, .pointer none, false, []⟩),
  (77, ⟨.struct #[⟨ "l", 73, 0, false, "", "nuncio/parse", 0⟩, ⟨ "at", 3, 1, false, "", "nuncio/parse", 24⟩], 2, 32, .agg #[.slice none 0 0, .int .i64 0], false, []⟩),
  (78, ⟨.struct #[⟨ "l", 73, 0, false, "", "nuncio/parse", 0⟩, ⟨ "at", 3, 1, false, "", "nuncio/parse", 24⟩], 2, 32, .agg #[.slice none 0 0, .int .i64 0], false, []⟩),
  (79, ⟨.struct #[], 0, 0, .agg #[], false, []⟩),
  (80, ⟨.struct #[], 0, 0, .agg #[], false, []⟩),
  (82, ⟨.func #[9] #[3] false, 1, 8, .nilFunc, false, []⟩),
  (83, ⟨.func #[4, 4] #[31, 3] false, 1, 8, .nilFunc, false, []⟩),
  (84, ⟨.func #[31] #[3] false, 1, 8, .nilFunc, false, []⟩),
  (85, ⟨.slice 21, 1, 24, .slice none 0 0, false, []⟩),
  (86, ⟨.func #[9] #[85] false, 1, 8, .nilFunc, false, []⟩),
  (87, ⟨.func #[21] #[9] false, 1, 8, .nilFunc, false, []⟩),
  (88, ⟨.pointer 46, 1, 8, .pointer none, false, []⟩),
  (89, ⟨.pointer 5, 1, 8, .pointer none, false, []⟩),
  (90, ⟨.func #[9, 9] #[9, 4] false, 1, 8, .nilFunc, false, []⟩),
  (91, ⟨.func #[9, 5] #[52] false, 1, 8, .nilFunc, false, []⟩),
  (92, ⟨.func #[9, 9, 9, 3] #[9] false, 1, 8, .nilFunc, false, []⟩),
  (93, ⟨.func #[9] #[9, 23] false, 1, 8, .nilFunc, false, []⟩),
  (95, ⟨.func #[9, 3] #[3, 3] false, 1, 8, .nilFunc, false, []⟩),
  (96, ⟨.func #[3] #[4] false, 1, 8, .nilFunc, false, []⟩),
  (97, ⟨.func #[31, 4] #[4] false, 1, 8, .nilFunc, false, []⟩),
  (98, ⟨.func #[71] #[9] false, 1, 8, .nilFunc, false, []⟩),
  (99, ⟨.pointer 101, 1, 8, .pointer none, false, []⟩),
  (100, ⟨.struct #[⟨ "s", 9, 0, false, "", "nuncio/lex", 0⟩, ⟨ "at", 3, 1, false, "", "nuncio/lex", 16⟩, ⟨ "out", 73, 2, false, "", "nuncio/lex", 24⟩], 3, 48, .agg #[.string ByteArray.empty, .int .i64 0, .slice none 0 0], false, []⟩),
  (101, ⟨.struct #[⟨ "s", 9, 0, false, "", "nuncio/lex", 0⟩, ⟨ "at", 3, 1, false, "", "nuncio/lex", 16⟩, ⟨ "out", 73, 2, false, "", "nuncio/lex", 24⟩], 3, 48, .agg #[.string ByteArray.empty, .int .i64 0, .slice none 0 0], false, []⟩),
  (102, ⟨.func #[9, 9] #[3] false, 1, 8, .nilFunc, false, []⟩),
  (103, ⟨.func #[104, 9, 3, 3] #[] false, 1, 8, .nilFunc, false, []⟩),
  (104, ⟨.int .i64, 1, 8, .int .i64 0, false, []⟩),
  (105, ⟨.struct #[⟨ "Kind", 104, 0, false, "", "", 0⟩, ⟨ "Text", 9, 1, false, "", "", 8⟩, ⟨ "N", 3, 2, false, "", "", 24⟩, ⟨ "From", 3, 3, false, "", "", 32⟩, ⟨ "To", 3, 4, false, "", "", 40⟩], 5, 48, .agg #[.int .i64 0, .string ByteArray.empty, .int .i64 0, .int .i64 0, .int .i64 0], false, []⟩),
  (106, ⟨.struct #[⟨ "Kind", 104, 0, false, "", "", 0⟩, ⟨ "Text", 9, 1, false, "", "", 8⟩, ⟨ "N", 3, 2, false, "", "", 24⟩, ⟨ "From", 3, 3, false, "", "", 32⟩, ⟨ "To", 3, 4, false, "", "", 40⟩], 5, 48, .agg #[.int .i64 0, .string ByteArray.empty, .int .i64 0, .int .i64 0, .int .i64 0], true, []⟩),
  (107, ⟨.func #[] #[106] false, 1, 8, .nilFunc, false, []⟩),
  (108, ⟨.func #[104] #[4] false, 1, 8, .nilFunc, false, []⟩),
  (109, ⟨.func #[104] #[106] false, 1, 8, .nilFunc, false, []⟩),
  (110, ⟨.func #[] #[71] false, 1, 8, .nilFunc, false, []⟩),
  (111, ⟨.func #[4] #[] false, 1, 8, .nilFunc, false, []⟩),
  (112, ⟨.func #[135] #[] false, 1, 8, .nilFunc, false, []⟩),
  (113, ⟨.func #[135] #[] false, 1, 8, .nilFunc, false, []⟩),
  (114, ⟨.func #[31, 3] #[113] false, 1, 8, .nilFunc, false, []⟩),
  (116, ⟨.func #[115] #[115] false, 1, 8, .nilFunc, false, []⟩),
  (117, ⟨.func #[137] #[] false, 1, 8, .nilFunc, false, []⟩),
  (118, ⟨.func #[137] #[] false, 1, 8, .nilFunc, false, []⟩),
  (119, ⟨.func #[9] #[118] false, 1, 8, .nilFunc, false, []⟩),
  (120, ⟨.func #[21] #[4] false, 1, 8, .nilFunc, false, []⟩),
  (121, ⟨.array 4 5, 4, 4, .agg #[.int .u8 0, .int .u8 0, .int .u8 0, .int .u8 0], false, []⟩),
  (122, ⟨.int .u64, 1, 8, .int .u64 0, false, []⟩),
  (123, ⟨.int .u32, 1, 4, .int .u32 0, false, []⟩),
  (124, ⟨.func #[123] #[5] false, 1, 8, .nilFunc, false, []⟩),
  (125, ⟨.func #[9, 5] #[3] false, 1, 8, .nilFunc, false, []⟩),
  (126, ⟨.func #[3] #[] false, 1, 8, .nilFunc, false, []⟩),
  (128, ⟨.func #[9] #[21, 3] false, 1, 8, .nilFunc, false, []⟩),
  (129, ⟨.func #[9, 4] #[9, 4] false, 1, 8, .nilFunc, false, []⟩),
  (130, ⟨.func #[5] #[3] false, 1, 8, .nilFunc, false, []⟩),
  (131, ⟨.func #[71] #[4] false, 1, 8, .nilFunc, false, []⟩),
  (132, ⟨.func #[56, 9] #[9] false, 1, 8, .nilFunc, false, []⟩),
  (133, ⟨.func #[9, 9] #[9] false, 1, 8, .nilFunc, false, []⟩),
  (134, ⟨.func #[] #[31] false, 1, 8, .nilFunc, false, []⟩),
  (135, ⟨.func #[71, 3] #[4] false, 1, 8, .nilFunc, false, []⟩),
  (136, ⟨.array 3 31, 3, 72, .agg #[.slice none 0 0, .slice none 0 0, .slice none 0 0], false, []⟩),
  (137, ⟨.func #[21, 3] #[4] false, 1, 8, .nilFunc, false, []⟩),
  (138, ⟨.func #[9, 3] #[21, 3] false, 1, 8, .nilFunc, false, []⟩),
  (139, ⟨.array 4 9, 4, 64, .agg #[.string ByteArray.empty, .string ByteArray.empty, .string ByteArray.empty, .string ByteArray.empty], false, []⟩),
  (140, ⟨.func #[66] #[9] false, 1, 8, .nilFunc, false, []⟩),
  (141, ⟨.func #[3] #[3] false, 1, 8, .nilFunc, false, []⟩),
  (143, ⟨.func #[5] #[123, 4] false, 1, 8, .nilFunc, false, []⟩),
  (144, ⟨.func #[71, 4, 4, 4, 4, 4] #[4] false, 1, 8, .nilFunc, false, []⟩),
  (145, ⟨.func #[146] #[9] false, 1, 8, .nilFunc, false, []⟩),
  (146, ⟨.int .u64, 1, 8, .int .u64 0, false, []⟩),
  (147, ⟨.func #[9, 5] #[9] false, 1, 8, .nilFunc, false, []⟩),
  (148, ⟨.array 256 4, 256, 256, .agg #[.bool false, .bool false, .bool false, .bool false, .bool false, .bool false, .bool false, .bool false, .bool false, .bool false, .bool false, .bool false, .bool false, .bool false, .bool false, .bool false, .bool false, .bool false, .bool false, .bool false, .bool false, .bool false, .bool false, .bool false, .bool false, .bool false, .bool false, .bool false, .bool false, .bool false, .bool false, .bool false, .bool false, .bool false, .bool false, .bool false, .bool false, .bool false, .bool false, .bool false, .bool false, .bool false, .bool false, .bool false, .bool false, .bool false, .bool false, .bool false, .bool false, .bool false, .bool false, .bool false, .bool false, .bool false, .bool false, .bool false, .bool false, .bool false, .bool false, .bool false, .bool false, .bool false, .bool false, .bool false, .bool false, .bool false, .bool false, .bool false, .bool false, .bool false, .bool false, .bool false, .bool false, .bool false, .bool false, .bool false, .bool false, .bool false, .bool false, .bool false, .bool false, .bool false, .bool false, .bool false, .bool false, .bool false, .bool false, .bool false, .bool false, .bool false, .bool false, .bool false, .bool false, .bool false, .bool false, .bool false, .bool false, .bool false, .bool false, .bool false, .bool false, .bool false, .bool false, .bool false, .bool false, .bool false, .bool false, .bool false, .bool false, .bool false, .bool false, .bool false, .bool false, .bool false, .bool false, .bool false, .bool false, .bool false, .bool false, .bool false, .bool false, .bool false, .bool false, .bool false, .bool false, .bool false, .bool false, .bool false, .bool false, .bool false, .bool false, .bool false, .bool false, .bool false, .bool false, .bool false, .bool false, .bool false, .bool false, .bool false, .bool false, .bool false, .bool false, .bool false, .bool false, .bool false, .bool false, .bool false, .bool false, .bool false, .bool false, .bool false, .bool false, .bool false, .bool false, .bool false, .bool false, .bool false, .bool false, .bool false, .bool false, .bool false, .bool false, .bool false, .bool false, .bool false, .bool false, .bool false, .bool false, .bool false, .bool false, .bool false, .bool false, .bool false, .bool false, .bool false, .bool false, .bool false, .bool false, .bool false, .bool false, .bool false, .bool false, .bool false, .bool false, .bool false, .bool false, .bool false, .bool false, .bool false, .bool false, .bool false, .bool false, .bool false, .bool false, .bool false, .bool false, .bool false, .bool false, .bool false, .bool false, .bool false, .bool false, .bool false, .bool false, .bool false, .bool false, .bool false, .bool false, .bool false, .bool false, .bool false, .bool false, .bool false, .bool false, .bool false, .bool false, .bool false, .bool false, .bool false, .bool false, .bool false, .bool false, .bool false, .bool false, .bool false, .bool false, .bool false, .bool false, .bool false, .bool false, .bool false, .bool false, .bool false, .bool false, .bool false, .bool false, .bool false, .bool false, .bool false, .bool false, .bool false, .bool false, .bool false, .bool false, .bool false, .bool false, .bool false, .bool false, .bool false, .bool false, .bool false, .bool false, .bool false, .bool false, .bool false], false, []⟩),
  (149, ⟨.array 256 4, 256, 256, .agg #[.bool false, .bool false, .bool false, .bool false, .bool false, .bool false, .bool false, .bool false, .bool false, .bool false, .bool false, .bool false, .bool false, .bool false, .bool false, .bool false, .bool false, .bool false, .bool false, .bool false, .bool false, .bool false, .bool false, .bool false, .bool false, .bool false, .bool false, .bool false, .bool false, .bool false, .bool false, .bool false, .bool false, .bool false, .bool false, .bool false, .bool false, .bool false, .bool false, .bool false, .bool false, .bool false, .bool false, .bool false, .bool false, .bool false, .bool false, .bool false, .bool false, .bool false, .bool false, .bool false, .bool false, .bool false, .bool false, .bool false, .bool false, .bool false, .bool false, .bool false, .bool false, .bool false, .bool false, .bool false, .bool false, .bool false, .bool false, .bool false, .bool false, .bool false, .bool false, .bool false, .bool false, .bool false, .bool false, .bool false, .bool false, .bool false, .bool false, .bool false, .bool false, .bool false, .bool false, .bool false, .bool false, .bool false, .bool false, .bool false, .bool false, .bool false, .bool false, .bool false, .bool false, .bool false, .bool false, .bool false, .bool false, .bool false, .bool false, .bool false, .bool false, .bool false, .bool false, .bool false, .bool false, .bool false, .bool false, .bool false, .bool false, .bool false, .bool false, .bool false, .bool false, .bool false, .bool false, .bool false, .bool false, .bool false, .bool false, .bool false, .bool false, .bool false, .bool false, .bool false, .bool false, .bool false, .bool false, .bool false, .bool false, .bool false, .bool false, .bool false, .bool false, .bool false, .bool false, .bool false, .bool false, .bool false, .bool false, .bool false, .bool false, .bool false, .bool false, .bool false, .bool false, .bool false, .bool false, .bool false, .bool false, .bool false, .bool false, .bool false, .bool false, .bool false, .bool false, .bool false, .bool false, .bool false, .bool false, .bool false, .bool false, .bool false, .bool false, .bool false, .bool false, .bool false, .bool false, .bool false, .bool false, .bool false, .bool false, .bool false, .bool false, .bool false, .bool false, .bool false, .bool false, .bool false, .bool false, .bool false, .bool false, .bool false, .bool false, .bool false, .bool false, .bool false, .bool false, .bool false, .bool false, .bool false, .bool false, .bool false, .bool false, .bool false, .bool false, .bool false, .bool false, .bool false, .bool false, .bool false, .bool false, .bool false, .bool false, .bool false, .bool false, .bool false, .bool false, .bool false, .bool false, .bool false, .bool false, .bool false, .bool false, .bool false, .bool false, .bool false, .bool false, .bool false, .bool false, .bool false, .bool false, .bool false, .bool false, .bool false, .bool false, .bool false, .bool false, .bool false, .bool false, .bool false, .bool false, .bool false, .bool false, .bool false, .bool false, .bool false, .bool false, .bool false, .bool false, .bool false, .bool false, .bool false, .bool false, .bool false, .bool false, .bool false, .bool false, .bool false, .bool false, .bool false, .bool false, .bool false, .bool false, .bool false, .bool false, .bool false], false, []⟩),
  (151, ⟨.func #[9] #[149, 4] false, 1, 8, .nilFunc, false, []⟩),
  (152, ⟨.func #[9, 153] #[9] false, 1, 8, .nilFunc, false, []⟩),
  (153, ⟨.pointer 149, 1, 8, .pointer none, false, []⟩),
  (155, ⟨.func #[5] #[5, 4] false, 1, 8, .nilFunc, false, []⟩),
  (156, ⟨.func #[3, 65] #[9] false, 1, 8, .nilFunc, false, []⟩),
  (158, ⟨.func #[9] #[3, 4] false, 1, 8, .nilFunc, false, []⟩),
  (159, ⟨.struct #[⟨ "c", 5, 0, false, "", "nuncio/lex", 0⟩, ⟨ "k", 104, 1, false, "", "nuncio/lex", 8⟩], 2, 16, .agg #[.int .u8 0, .int .i64 0], false, []⟩),
  (160, ⟨.array 5 159, 10, 80, .agg #[.int .u8 0, .int .i64 0, .int .u8 0, .int .i64 0, .int .u8 0, .int .i64 0, .int .u8 0, .int .i64 0, .int .u8 0, .int .i64 0], false, []⟩),
  (162, ⟨.func #[9, 21, 3] #[21, 4] false, 1, 8, .nilFunc, false, []⟩),
  (164, ⟨.func #[9] #[123, 123] false, 1, 8, .nilFunc, false, []⟩),
  (165, ⟨.func #[3] #[40] false, 1, 8, .nilFunc, false, []⟩),
  (166, ⟨.array 256 5, 256, 256, .agg #[.int .u8 0, .int .u8 0, .int .u8 0, .int .u8 0, .int .u8 0, .int .u8 0, .int .u8 0, .int .u8 0, .int .u8 0, .int .u8 0, .int .u8 0, .int .u8 0, .int .u8 0, .int .u8 0, .int .u8 0, .int .u8 0, .int .u8 0, .int .u8 0, .int .u8 0, .int .u8 0, .int .u8 0, .int .u8 0, .int .u8 0, .int .u8 0, .int .u8 0, .int .u8 0, .int .u8 0, .int .u8 0, .int .u8 0, .int .u8 0, .int .u8 0, .int .u8 0, .int .u8 0, .int .u8 0, .int .u8 0, .int .u8 0, .int .u8 0, .int .u8 0, .int .u8 0, .int .u8 0, .int .u8 0, .int .u8 0, .int .u8 0, .int .u8 0, .int .u8 0, .int .u8 0, .int .u8 0, .int .u8 0, .int .u8 0, .int .u8 0, .int .u8 0, .int .u8 0, .int .u8 0, .int .u8 0, .int .u8 0, .int .u8 0, .int .u8 0, .int .u8 0, .int .u8 0, .int .u8 0, .int .u8 0, .int .u8 0, .int .u8 0, .int .u8 0, .int .u8 0, .int .u8 0, .int .u8 0, .int .u8 0, .int .u8 0, .int .u8 0, .int .u8 0, .int .u8 0, .int .u8 0, .int .u8 0, .int .u8 0, .int .u8 0, .int .u8 0, .int .u8 0, .int .u8 0, .int .u8 0, .int .u8 0, .int .u8 0, .int .u8 0, .int .u8 0, .int .u8 0, .int .u8 0, .int .u8 0, .int .u8 0, .int .u8 0, .int .u8 0, .int .u8 0, .int .u8 0, .int .u8 0, .int .u8 0, .int .u8 0, .int .u8 0, .int .u8 0, .int .u8 0, .int .u8 0, .int .u8 0, .int .u8 0, .int .u8 0, .int .u8 0, .int .u8 0, .int .u8 0, .int .u8 0, .int .u8 0, .int .u8 0, .int .u8 0, .int .u8 0, .int .u8 0, .int .u8 0, .int .u8 0, .int .u8 0, .int .u8 0, .int .u8 0, .int .u8 0, .int .u8 0, .int .u8 0, .int .u8 0, .int .u8 0, .int .u8 0, .int .u8 0, .int .u8 0, .int .u8 0, .int .u8 0, .int .u8 0, .int .u8 0, .int .u8 0, .int .u8 0, .int .u8 0, .int .u8 0, .int .u8 0, .int .u8 0, .int .u8 0, .int .u8 0, .int .u8 0, .int .u8 0, .int .u8 0, .int .u8 0, .int .u8 0, .int .u8 0, .int .u8 0, .int .u8 0, .int .u8 0, .int .u8 0, .int .u8 0, .int .u8 0, .int .u8 0, .int .u8 0, .int .u8 0, .int .u8 0, .int .u8 0, .int .u8 0, .int .u8 0, .int .u8 0, .int .u8 0, .int .u8 0, .int .u8 0, .int .u8 0, .int .u8 0, .int .u8 0, .int .u8 0, .int .u8 0, .int .u8 0, .int .u8 0, .int .u8 0, .int .u8 0, .int .u8 0, .int .u8 0, .int .u8 0, .int .u8 0, .int .u8 0, .int .u8 0, .int .u8 0, .int .u8 0, .int .u8 0, .int .u8 0, .int .u8 0, .int .u8 0, .int .u8 0, .int .u8 0, .int .u8 0, .int .u8 0, .int .u8 0, .int .u8 0, .int .u8 0, .int .u8 0, .int .u8 0, .int .u8 0, .int .u8 0, .int .u8 0, .int .u8 0, .int .u8 0, .int .u8 0, .int .u8 0, .int .u8 0, .int .u8 0, .int .u8 0, .int .u8 0, .int .u8 0, .int .u8 0, .int .u8 0, .int .u8 0, .int .u8 0, .int .u8 0, .int .u8 0, .int .u8 0, .int .u8 0, .int .u8 0, .int .u8 0, .int .u8 0, .int .u8 0, .int .u8 0, .int .u8 0, .int .u8 0, .int .u8 0, .int .u8 0, .int .u8 0, .int .u8 0, .int .u8 0, .int .u8 0, .int .u8 0, .int .u8 0, .int .u8 0, .int .u8 0, .int .u8 0, .int .u8 0, .int .u8 0, .int .u8 0, .int .u8 0, .int .u8 0, .int .u8 0, .int .u8 0, .int .u8 0, .int .u8 0, .int .u8 0, .int .u8 0, .int .u8 0, .int .u8 0, .int .u8 0, .int .u8 0, .int .u8 0, .int .u8 0, .int .u8 0, .int .u8 0, .int .u8 0, .int .u8 0, .int .u8 0, .int .u8 0, .int .u8 0, .int .u8 0, .int .u8 0, .int .u8 0, .int .u8 0, .int .u8 0], false, []⟩),
  (167, ⟨.struct #[⟨ "lo", 5, 0, false, "", "unicode/utf8", 0⟩, ⟨ "hi", 5, 1, false, "", "unicode/utf8", 1⟩], 2, 2, .agg #[.int .u8 0, .int .u8 0], false, []⟩),
  (168, ⟨.struct #[⟨ "lo", 5, 0, false, "", "unicode/utf8", 0⟩, ⟨ "hi", 5, 1, false, "", "unicode/utf8", 1⟩], 2, 2, .agg #[.int .u8 0, .int .u8 0], false, []⟩),
  (169, ⟨.array 16 168, 32, 32, .agg #[.int .u8 0, .int .u8 0, .int .u8 0, .int .u8 0, .int .u8 0, .int .u8 0, .int .u8 0, .int .u8 0, .int .u8 0, .int .u8 0, .int .u8 0, .int .u8 0, .int .u8 0, .int .u8 0, .int .u8 0, .int .u8 0, .int .u8 0, .int .u8 0, .int .u8 0, .int .u8 0, .int .u8 0, .int .u8 0, .int .u8 0, .int .u8 0, .int .u8 0, .int .u8 0, .int .u8 0, .int .u8 0, .int .u8 0, .int .u8 0, .int .u8 0, .int .u8 0], false, []⟩),
  (170, ⟨.func #[] #[56] false, 1, 8, .nilFunc, false, []⟩),
  (171, ⟨.func #[9, 21] #[4] false, 1, 8, .nilFunc, false, []⟩),
  (172, ⟨.func #[9, 21] #[3] false, 1, 8, .nilFunc, false, []⟩),
  (173, ⟨.struct #[⟨ "_interface", 17, 0, false, "", "runtime", 0⟩, ⟨ "concrete", 17, 1, false, "", "runtime", 8⟩, ⟨ "asserted", 17, 2, false, "", "runtime", 16⟩, ⟨ "missingMethod", 9, 3, false, "", "runtime", 24⟩], 4, 40, .agg #[.pointer none, .pointer none, .pointer none, .string ByteArray.empty], false, []⟩),
  (174, ⟨.struct #[⟨ "_interface", 17, 0, false, "", "runtime", 0⟩, ⟨ "concrete", 17, 1, false, "", "runtime", 8⟩, ⟨ "asserted", 17, 2, false, "", "runtime", 16⟩, ⟨ "missingMethod", 9, 3, false, "", "runtime", 24⟩], 4, 40, .agg #[.pointer none, .pointer none, .pointer none, .string ByteArray.empty], false, []⟩),
  (175, ⟨.array 0 16, 0, 0, .agg #[], false, []⟩),
  (176, ⟨.struct #[⟨ "_", 175, 0, false, "", "runtime", 0⟩], 0, 0, .agg #[], false, []⟩),
  (177, ⟨.struct #[⟨ "_", 175, 0, false, "", "runtime", 0⟩], 0, 0, .agg #[], false, []⟩),
  (178, ⟨.func #[] #[3] false, 1, 8, .nilFunc, false, []⟩),
  (179, ⟨.int .u8, 1, 1, .int .u8 0, false, []⟩),
  (180, ⟨.int .u8, 1, 1, .int .u8 0, false, []⟩),
  (181, ⟨.func #[115, 115] #[4] false, 1, 8, .nilFunc, false, []⟩),
  (182, ⟨.int .i32, 1, 4, .int .i32 0, false, []⟩),
  (183, ⟨.int .i32, 1, 4, .int .i32 0, false, []⟩),
  (184, ⟨.struct #[⟨ "Size_", 12, 0, false, "", "", 0⟩, ⟨ "PtrBytes", 12, 1, false, "", "", 8⟩, ⟨ "Hash", 123, 2, false, "", "", 16⟩, ⟨ "TFlag", 179, 3, false, "", "", 20⟩, ⟨ "Align_", 5, 4, false, "", "", 21⟩, ⟨ "FieldAlign_", 5, 5, false, "", "", 22⟩, ⟨ "Kind_", 180, 6, false, "", "", 23⟩, ⟨ "Equal", 181, 7, false, "", "", 24⟩, ⟨ "GCData", 89, 8, false, "", "", 32⟩, ⟨ "Str", 182, 9, false, "", "", 40⟩, ⟨ "PtrToThis", 183, 10, false, "", "", 44⟩], 11, 48, .agg #[.int .u64 0, .int .u64 0, .int .u32 0, .int .u8 0, .int .u8 0, .int .u8 0, .int .u8 0, .nilFunc, .pointer none, .int .i32 0, .int .i32 0], false, []⟩),
  (185, ⟨.struct #[⟨ "Size_", 12, 0, false, "", "", 0⟩, ⟨ "PtrBytes", 12, 1, false, "", "", 8⟩, ⟨ "Hash", 123, 2, false, "", "", 16⟩, ⟨ "TFlag", 179, 3, false, "", "", 20⟩, ⟨ "Align_", 5, 4, false, "", "", 21⟩, ⟨ "FieldAlign_", 5, 5, false, "", "", 22⟩, ⟨ "Kind_", 180, 6, false, "", "", 23⟩, ⟨ "Equal", 181, 7, false, "", "", 24⟩, ⟨ "GCData", 89, 8, false, "", "", 32⟩, ⟨ "Str", 182, 9, false, "", "", 40⟩, ⟨ "PtrToThis", 183, 10, false, "", "", 44⟩], 11, 48, .agg #[.int .u64 0, .int .u64 0, .int .u32 0, .int .u8 0, .int .u8 0, .int .u8 0, .int .u8 0, .nilFunc, .pointer none, .int .i32 0, .int .i32 0], false, []⟩)]
set_option maxRecDepth 100000 in
theorem tbOk : TblOk Tryd.prog tb := by
  unfold tb
  refine .cons 1 _ _ (by kernel_rfl) (by kernel_rfl) (fun h => nomatch h) (fun q hq => nomatch hq) ?_
  refine .cons 2 _ _ (by kernel_rfl) (by kernel_rfl) (fun h => nomatch h) (fun q hq => nomatch hq) ?_
  refine .cons 3 _ _ (by kernel_rfl) (by kernel_rfl) (fun h => nomatch h) (fun q hq => nomatch hq) ?_
  refine .cons 4 _ _ (by kernel_rfl) (by kernel_rfl) (fun h => nomatch h) (fun q hq => nomatch hq) ?_
  refine .cons 5 _ _ (by kernel_rfl) (by kernel_rfl) (fun h => nomatch h) (fun q hq => nomatch hq) ?_
  refine .cons 6 _ _ (by kernel_rfl) (by kernel_rfl) (fun h => nomatch h) (fun q hq => nomatch hq) ?_
  refine .cons 7 _ _ (by kernel_rfl) (by kernel_rfl) (fun h => nomatch h) (fun q hq => nomatch hq) ?_
  refine .cons 8 _ _ (by kernel_rfl) (by kernel_rfl) (fun h => nomatch h) (fun q hq => nomatch hq) ?_
  refine .cons 9 _ _ (by kernel_rfl) (by kernel_rfl) (fun h => nomatch h) (fun q hq => nomatch hq) ?_
  refine .cons 10 _ _ (by kernel_rfl) (by kernel_rfl) (fun h => nomatch h) (fun q hq => nomatch hq) ?_
  refine .cons 11 _ _ (by kernel_rfl) (by kernel_rfl) (fun h => nomatch h) (fun q hq => nomatch hq) ?_
  refine .cons 12 _ _ (by kernel_rfl) (by kernel_rfl) (fun h => nomatch h) (fun q hq => nomatch hq) ?_
  refine .cons 13 _ _ (by kernel_rfl) (by kernel_rfl) (fun h => nomatch h) (fun q hq => nomatch hq) ?_
  refine .cons 14 _ _ (by kernel_rfl) (by kernel_rfl) (fun h => nomatch h) (fun q hq => nomatch hq) ?_
  refine .cons 15 _ _ (by kernel_rfl) (by kernel_rfl) (fun h => nomatch h) (fun q hq => nomatch hq) ?_
  refine .cons 16 _ _ (by kernel_rfl) (by kernel_rfl) (fun h => nomatch h) (fun q hq => nomatch hq) ?_
  refine .cons 17 _ _ (by kernel_rfl) (by kernel_rfl) (fun h => nomatch h) (fun q hq => nomatch hq) ?_
  refine .cons 18 _ _ (by kernel_rfl) (by kernel_rfl) (fun h => nomatch h) (fun q hq => nomatch hq) ?_
  refine .cons 19 _ _ (by kernel_rfl) (by kernel_rfl) (fun h => nomatch h) (fun q hq => nomatch hq) ?_
  refine .cons 21 _ _ (by kernel_rfl) (by kernel_rfl) (fun h => nomatch h) (fun q hq => nomatch hq) ?_
  refine .cons 22 _ _ (by kernel_rfl) (by kernel_rfl) (fun h => nomatch h) (fun q hq => nomatch hq) ?_
  refine .cons 23 _ _ (by kernel_rfl) (by kernel_rfl) (fun h => nomatch h) (fun q hq => nomatch hq) ?_
  refine .cons 25 _ _ (by kernel_rfl) (by kernel_rfl) (fun h => nomatch h) (fun q hq => nomatch hq) ?_
  refine .cons 26 _ _ (by kernel_rfl) (by kernel_rfl) (fun h => nomatch h) (fun q hq => nomatch hq) ?_
  refine .cons 27 _ _ (by kernel_rfl) (by kernel_rfl) (fun h => nomatch h) (fun q hq => nomatch hq) ?_
  refine .cons 28 _ _ (by kernel_rfl) (by kernel_rfl) (fun h => nomatch h) (fun q hq => nomatch hq) ?_
  refine .cons 30 _ _ (by kernel_rfl) (by kernel_rfl) (fun h => nomatch h) (fun q hq => nomatch hq) ?_
  refine .cons 31 _ _ (by kernel_rfl) (by kernel_rfl) (fun h => nomatch h) (fun q hq => nomatch hq) ?_
  refine .cons 33 _ _ (by kernel_rfl) (by kernel_rfl) (fun h => nomatch h) (fun q hq => nomatch hq) ?_
  refine .cons 35 _ _ (by kernel_rfl) (by kernel_rfl) (fun h => nomatch h) (fun q hq => nomatch hq) ?_
  refine .cons 37 _ _ (by kernel_rfl) (by kernel_rfl) (fun h => nomatch h) (fun q hq => nomatch hq) ?_
  refine .cons 38 _ _ (by kernel_rfl) (by kernel_rfl) (fun h => nomatch h) (fun q hq => nomatch hq) ?_
  refine .cons 39 _ _ (by kernel_rfl) (by kernel_rfl) (fun h => nomatch h) (fun q hq => nomatch hq) ?_
  refine .cons 40 _ _ (by kernel_rfl) (by kernel_rfl) (fun h => nomatch h) (fun q hq => nomatch hq) ?_
  refine .cons 41 _ _ (by kernel_rfl) (by kernel_rfl) (fun h => nomatch h) (fun q hq => nomatch hq) ?_
  refine .cons 42 _ _ (by kernel_rfl) (by kernel_rfl) (fun h => nomatch h) (fun q hq => nomatch hq) ?_
  refine .cons 43 _ _ (by kernel_rfl) (by kernel_rfl) (fun h => nomatch h) (fun q hq => nomatch hq) ?_
  refine .cons 44 _ _ (by kernel_rfl) (by kernel_rfl) (fun h => nomatch h) (fun q hq => by simp only [List.mem_singleton] at hq; subst hq; exact ⟨by decide, by kernel_rfl⟩) ?_
  refine .cons 45 _ _ (by kernel_rfl) (by kernel_rfl) (fun h => nomatch h) (fun q hq => by simp only [List.mem_singleton] at hq; subst hq; exact ⟨by decide, by kernel_rfl⟩) ?_
  refine .cons 46 _ _ (by kernel_rfl) (by kernel_rfl) (fun h => nomatch h) (fun q hq => by simp only [List.mem_singleton] at hq; subst hq; exact ⟨by decide, by kernel_rfl⟩) ?_
  refine .cons 50 _ _ (by kernel_rfl) (by kernel_rfl) (fun h => nomatch h) (fun q hq => nomatch hq) ?_
  refine .cons 51 _ _ (by kernel_rfl) (by kernel_rfl) (fun h => nomatch h) (fun q hq => nomatch hq) ?_
  refine .cons 52 _ _ (by kernel_rfl) (by kernel_rfl) (fun h => nomatch h) (fun q hq => nomatch hq) ?_
  refine .cons 53 _ _ (by kernel_rfl) (by kernel_rfl) (fun h => nomatch h) (fun q hq => nomatch hq) ?_
  refine .cons 54 _ _ (by kernel_rfl) (by kernel_rfl) (fun h => nomatch h) (fun q hq => nomatch hq) ?_
  refine .cons 55 _ _ (by kernel_rfl) (by kernel_rfl) (fun h => nomatch h) (fun q hq => nomatch hq) ?_
  refine .cons 56 _ _ (by kernel_rfl) (by kernel_rfl) (fun h => nomatch h) (fun q hq => nomatch hq) ?_
  refine .cons 57 _ _ (by kernel_rfl) (by kernel_rfl) (fun h => nomatch h) (fun q hq => nomatch hq) ?_
  refine .cons 58 _ _ (by kernel_rfl) (by kernel_rfl) (fun h => nomatch h) (fun q hq => nomatch hq) ?_
  refine .cons 59 _ _ (by kernel_rfl) (by kernel_rfl) (fun h => nomatch h) (fun q hq => nomatch hq) ?_
  refine .cons 60 _ _ (by kernel_rfl) (by kernel_rfl) (fun h => nomatch h) (fun q hq => nomatch hq) ?_
  refine .cons 62 _ _ (by kernel_rfl) (by kernel_rfl) (fun h => nomatch h) (fun q hq => nomatch hq) ?_
  refine .cons 63 _ _ (by kernel_rfl) (by kernel_rfl) (fun h => nomatch h) (fun q hq => nomatch hq) ?_
  refine .cons 64 _ _ (by kernel_rfl) (by kernel_rfl) (fun h => nomatch h) (fun q hq => nomatch hq) ?_
  refine .cons 65 _ _ (by kernel_rfl) (by kernel_rfl) (fun h => nomatch h) (fun q hq => nomatch hq) ?_
  refine .cons 66 _ _ (by kernel_rfl) (by kernel_rfl) (fun h => nomatch h) (fun q hq => nomatch hq) ?_
  refine .cons 67 _ _ (by kernel_rfl) (by kernel_rfl) (fun h => nomatch h) (fun q hq => nomatch hq) ?_
  refine .cons 68 _ _ (by kernel_rfl) (by kernel_rfl) (fun h => nomatch h) (fun q hq => nomatch hq) ?_
  refine .cons 69 _ _ (by kernel_rfl) (by kernel_rfl) (fun h => nomatch h) (fun q hq => nomatch hq) ?_
  refine .cons 70 _ _ (by kernel_rfl) (by kernel_rfl) (fun h => nomatch h) (fun q hq => nomatch hq) ?_
  refine .cons 71 _ _ (by kernel_rfl) (by kernel_rfl) (fun h => nomatch h) (fun q hq => nomatch hq) ?_
  refine .cons 72 _ _ (by kernel_rfl) (by kernel_rfl) (fun h => nomatch h) (fun q hq => nomatch hq) ?_
  refine .cons 73 _ _ (by kernel_rfl) (by kernel_rfl) (fun h => nomatch h) (fun q hq => nomatch hq) ?_
  refine .cons 75 _ _ (by kernel_rfl) (by kernel_rfl) (fun h => nomatch h) (fun q hq => nomatch hq) ?_
  refine .cons 76 _ _ (by kernel_rfl) (by kernel_rfl) (fun h => nomatch h) (fun q hq => nomatch hq) ?_
  refine .cons 77 _ _ (by kernel_rfl) (by kernel_rfl) (fun h => nomatch h) (fun q hq => nomatch hq) ?_
  refine .cons 78 _ _ (by kernel_rfl) (by kernel_rfl) (fun h => nomatch h) (fun q hq => nomatch hq) ?_
  refine .cons 79 _ _ (by kernel_rfl) (by kernel_rfl) (fun h => nomatch h) (fun q hq => nomatch hq) ?_
  refine .cons 80 _ _ (by kernel_rfl) (by kernel_rfl) (fun h => nomatch h) (fun q hq => nomatch hq) ?_
  refine .cons 82 _ _ (by kernel_rfl) (by kernel_rfl) (fun h => nomatch h) (fun q hq => nomatch hq) ?_
  refine .cons 83 _ _ (by kernel_rfl) (by kernel_rfl) (fun h => nomatch h) (fun q hq => nomatch hq) ?_
  refine .cons 84 _ _ (by kernel_rfl) (by kernel_rfl) (fun h => nomatch h) (fun q hq => nomatch hq) ?_
  refine .cons 85 _ _ (by kernel_rfl) (by kernel_rfl) (fun h => nomatch h) (fun q hq => nomatch hq) ?_
  refine .cons 86 _ _ (by kernel_rfl) (by kernel_rfl) (fun h => nomatch h) (fun q hq => nomatch hq) ?_
  refine .cons 87 _ _ (by kernel_rfl) (by kernel_rfl) (fun h => nomatch h) (fun q hq => nomatch hq) ?_
  refine .cons 88 _ _ (by kernel_rfl) (by kernel_rfl) (fun h => nomatch h) (fun q hq => nomatch hq) ?_
  refine .cons 89 _ _ (by kernel_rfl) (by kernel_rfl) (fun h => nomatch h) (fun q hq => nomatch hq) ?_
  refine .cons 90 _ _ (by kernel_rfl) (by kernel_rfl) (fun h => nomatch h) (fun q hq => nomatch hq) ?_
  refine .cons 91 _ _ (by kernel_rfl) (by kernel_rfl) (fun h => nomatch h) (fun q hq => nomatch hq) ?_
  refine .cons 92 _ _ (by kernel_rfl) (by kernel_rfl) (fun h => nomatch h) (fun q hq => nomatch hq) ?_
  refine .cons 93 _ _ (by kernel_rfl) (by kernel_rfl) (fun h => nomatch h) (fun q hq => nomatch hq) ?_
  refine .cons 95 _ _ (by kernel_rfl) (by kernel_rfl) (fun h => nomatch h) (fun q hq => nomatch hq) ?_
  refine .cons 96 _ _ (by kernel_rfl) (by kernel_rfl) (fun h => nomatch h) (fun q hq => nomatch hq) ?_
  refine .cons 97 _ _ (by kernel_rfl) (by kernel_rfl) (fun h => nomatch h) (fun q hq => nomatch hq) ?_
  refine .cons 98 _ _ (by kernel_rfl) (by kernel_rfl) (fun h => nomatch h) (fun q hq => nomatch hq) ?_
  refine .cons 99 _ _ (by kernel_rfl) (by kernel_rfl) (fun h => nomatch h) (fun q hq => nomatch hq) ?_
  refine .cons 100 _ _ (by kernel_rfl) (by kernel_rfl) (fun h => nomatch h) (fun q hq => nomatch hq) ?_
  refine .cons 101 _ _ (by kernel_rfl) (by kernel_rfl) (fun h => nomatch h) (fun q hq => nomatch hq) ?_
  refine .cons 102 _ _ (by kernel_rfl) (by kernel_rfl) (fun h => nomatch h) (fun q hq => nomatch hq) ?_
  refine .cons 103 _ _ (by kernel_rfl) (by kernel_rfl) (fun h => nomatch h) (fun q hq => nomatch hq) ?_
  refine .cons 104 _ _ (by kernel_rfl) (by kernel_rfl) (fun h => nomatch h) (fun q hq => nomatch hq) ?_
  refine .cons 105 _ _ (by kernel_rfl) (by kernel_rfl) (fun h => nomatch h) (fun q hq => nomatch hq) ?_
  refine .cons 106 _ _ (by kernel_rfl) (by kernel_rfl) (fun _ => by kernel_rfl) (fun q hq => nomatch hq) ?_
  refine .cons 107 _ _ (by kernel_rfl) (by kernel_rfl) (fun h => nomatch h) (fun q hq => nomatch hq) ?_
  refine .cons 108 _ _ (by kernel_rfl) (by kernel_rfl) (fun h => nomatch h) (fun q hq => nomatch hq) ?_
  refine .cons 109 _ _ (by kernel_rfl) (by kernel_rfl) (fun h => nomatch h) (fun q hq => nomatch hq) ?_
  refine .cons 110 _ _ (by kernel_rfl) (by kernel_rfl) (fun h => nomatch h) (fun q hq => nomatch hq) ?_
  refine .cons 111 _ _ (by kernel_rfl) (by kernel_rfl) (fun h => nomatch h) (fun q hq => nomatch hq) ?_
  refine .cons 112 _ _ (by kernel_rfl) (by kernel_rfl) (fun h => nomatch h) (fun q hq => nomatch hq) ?_
  refine .cons 113 _ _ (by kernel_rfl) (by kernel_rfl) (fun h => nomatch h) (fun q hq => nomatch hq) ?_
  refine .cons 114 _ _ (by kernel_rfl) (by kernel_rfl) (fun h => nomatch h) (fun q hq => nomatch hq) ?_
  refine .cons 116 _ _ (by kernel_rfl) (by kernel_rfl) (fun h => nomatch h) (fun q hq => nomatch hq) ?_
  refine .cons 117 _ _ (by kernel_rfl) (by kernel_rfl) (fun h => nomatch h) (fun q hq => nomatch hq) ?_
  refine .cons 118 _ _ (by kernel_rfl) (by kernel_rfl) (fun h => nomatch h) (fun q hq => nomatch hq) ?_
  refine .cons 119 _ _ (by kernel_rfl) (by kernel_rfl) (fun h => nomatch h) (fun q hq => nomatch hq) ?_
  refine .cons 120 _ _ (by kernel_rfl) (by kernel_rfl) (fun h => nomatch h) (fun q hq => nomatch hq) ?_
  refine .cons 121 _ _ (by kernel_rfl) (by kernel_rfl) (fun h => nomatch h) (fun q hq => nomatch hq) ?_
  refine .cons 122 _ _ (by kernel_rfl) (by kernel_rfl) (fun h => nomatch h) (fun q hq => nomatch hq) ?_
  refine .cons 123 _ _ (by kernel_rfl) (by kernel_rfl) (fun h => nomatch h) (fun q hq => nomatch hq) ?_
  refine .cons 124 _ _ (by kernel_rfl) (by kernel_rfl) (fun h => nomatch h) (fun q hq => nomatch hq) ?_
  refine .cons 125 _ _ (by kernel_rfl) (by kernel_rfl) (fun h => nomatch h) (fun q hq => nomatch hq) ?_
  refine .cons 126 _ _ (by kernel_rfl) (by kernel_rfl) (fun h => nomatch h) (fun q hq => nomatch hq) ?_
  refine .cons 128 _ _ (by kernel_rfl) (by kernel_rfl) (fun h => nomatch h) (fun q hq => nomatch hq) ?_
  refine .cons 129 _ _ (by kernel_rfl) (by kernel_rfl) (fun h => nomatch h) (fun q hq => nomatch hq) ?_
  refine .cons 130 _ _ (by kernel_rfl) (by kernel_rfl) (fun h => nomatch h) (fun q hq => nomatch hq) ?_
  refine .cons 131 _ _ (by kernel_rfl) (by kernel_rfl) (fun h => nomatch h) (fun q hq => nomatch hq) ?_
  refine .cons 132 _ _ (by kernel_rfl) (by kernel_rfl) (fun h => nomatch h) (fun q hq => nomatch hq) ?_
  refine .cons 133 _ _ (by kernel_rfl) (by kernel_rfl) (fun h => nomatch h) (fun q hq => nomatch hq) ?_
  refine .cons 134 _ _ (by kernel_rfl) (by kernel_rfl) (fun h => nomatch h) (fun q hq => nomatch hq) ?_
  refine .cons 135 _ _ (by kernel_rfl) (by kernel_rfl) (fun h => nomatch h) (fun q hq => nomatch hq) ?_
  refine .cons 136 _ _ (by kernel_rfl) (by kernel_rfl) (fun h => nomatch h) (fun q hq => nomatch hq) ?_
  refine .cons 137 _ _ (by kernel_rfl) (by kernel_rfl) (fun h => nomatch h) (fun q hq => nomatch hq) ?_
  refine .cons 138 _ _ (by kernel_rfl) (by kernel_rfl) (fun h => nomatch h) (fun q hq => nomatch hq) ?_
  refine .cons 139 _ _ (by kernel_rfl) (by kernel_rfl) (fun h => nomatch h) (fun q hq => nomatch hq) ?_
  refine .cons 140 _ _ (by kernel_rfl) (by kernel_rfl) (fun h => nomatch h) (fun q hq => nomatch hq) ?_
  refine .cons 141 _ _ (by kernel_rfl) (by kernel_rfl) (fun h => nomatch h) (fun q hq => nomatch hq) ?_
  refine .cons 143 _ _ (by kernel_rfl) (by kernel_rfl) (fun h => nomatch h) (fun q hq => nomatch hq) ?_
  refine .cons 144 _ _ (by kernel_rfl) (by kernel_rfl) (fun h => nomatch h) (fun q hq => nomatch hq) ?_
  refine .cons 145 _ _ (by kernel_rfl) (by kernel_rfl) (fun h => nomatch h) (fun q hq => nomatch hq) ?_
  refine .cons 146 _ _ (by kernel_rfl) (by kernel_rfl) (fun h => nomatch h) (fun q hq => nomatch hq) ?_
  refine .cons 147 _ _ (by kernel_rfl) (by kernel_rfl) (fun h => nomatch h) (fun q hq => nomatch hq) ?_
  refine .cons 148 _ _ (by kernel_rfl) (by kernel_rfl) (fun h => nomatch h) (fun q hq => nomatch hq) ?_
  refine .cons 149 _ _ (by kernel_rfl) (by kernel_rfl) (fun h => nomatch h) (fun q hq => nomatch hq) ?_
  refine .cons 151 _ _ (by kernel_rfl) (by kernel_rfl) (fun h => nomatch h) (fun q hq => nomatch hq) ?_
  refine .cons 152 _ _ (by kernel_rfl) (by kernel_rfl) (fun h => nomatch h) (fun q hq => nomatch hq) ?_
  refine .cons 153 _ _ (by kernel_rfl) (by kernel_rfl) (fun h => nomatch h) (fun q hq => nomatch hq) ?_
  refine .cons 155 _ _ (by kernel_rfl) (by kernel_rfl) (fun h => nomatch h) (fun q hq => nomatch hq) ?_
  refine .cons 156 _ _ (by kernel_rfl) (by kernel_rfl) (fun h => nomatch h) (fun q hq => nomatch hq) ?_
  refine .cons 158 _ _ (by kernel_rfl) (by kernel_rfl) (fun h => nomatch h) (fun q hq => nomatch hq) ?_
  refine .cons 159 _ _ (by kernel_rfl) (by kernel_rfl) (fun h => nomatch h) (fun q hq => nomatch hq) ?_
  refine .cons 160 _ _ (by kernel_rfl) (by kernel_rfl) (fun h => nomatch h) (fun q hq => nomatch hq) ?_
  refine .cons 162 _ _ (by kernel_rfl) (by kernel_rfl) (fun h => nomatch h) (fun q hq => nomatch hq) ?_
  refine .cons 164 _ _ (by kernel_rfl) (by kernel_rfl) (fun h => nomatch h) (fun q hq => nomatch hq) ?_
  refine .cons 165 _ _ (by kernel_rfl) (by kernel_rfl) (fun h => nomatch h) (fun q hq => nomatch hq) ?_
  refine .cons 166 _ _ (by kernel_rfl) (by kernel_rfl) (fun h => nomatch h) (fun q hq => nomatch hq) ?_
  refine .cons 167 _ _ (by kernel_rfl) (by kernel_rfl) (fun h => nomatch h) (fun q hq => nomatch hq) ?_
  refine .cons 168 _ _ (by kernel_rfl) (by kernel_rfl) (fun h => nomatch h) (fun q hq => nomatch hq) ?_
  refine .cons 169 _ _ (by kernel_rfl) (by kernel_rfl) (fun h => nomatch h) (fun q hq => nomatch hq) ?_
  refine .cons 170 _ _ (by kernel_rfl) (by kernel_rfl) (fun h => nomatch h) (fun q hq => nomatch hq) ?_
  refine .cons 171 _ _ (by kernel_rfl) (by kernel_rfl) (fun h => nomatch h) (fun q hq => nomatch hq) ?_
  refine .cons 172 _ _ (by kernel_rfl) (by kernel_rfl) (fun h => nomatch h) (fun q hq => nomatch hq) ?_
  refine .cons 173 _ _ (by kernel_rfl) (by kernel_rfl) (fun h => nomatch h) (fun q hq => nomatch hq) ?_
  refine .cons 174 _ _ (by kernel_rfl) (by kernel_rfl) (fun h => nomatch h) (fun q hq => nomatch hq) ?_
  refine .cons 175 _ _ (by kernel_rfl) (by kernel_rfl) (fun h => nomatch h) (fun q hq => nomatch hq) ?_
  refine .cons 176 _ _ (by kernel_rfl) (by kernel_rfl) (fun h => nomatch h) (fun q hq => nomatch hq) ?_
  refine .cons 177 _ _ (by kernel_rfl) (by kernel_rfl) (fun h => nomatch h) (fun q hq => nomatch hq) ?_
  refine .cons 178 _ _ (by kernel_rfl) (by kernel_rfl) (fun h => nomatch h) (fun q hq => nomatch hq) ?_
  refine .cons 179 _ _ (by kernel_rfl) (by kernel_rfl) (fun h => nomatch h) (fun q hq => nomatch hq) ?_
  refine .cons 180 _ _ (by kernel_rfl) (by kernel_rfl) (fun h => nomatch h) (fun q hq => nomatch hq) ?_
  refine .cons 181 _ _ (by kernel_rfl) (by kernel_rfl) (fun h => nomatch h) (fun q hq => nomatch hq) ?_
  refine .cons 182 _ _ (by kernel_rfl) (by kernel_rfl) (fun h => nomatch h) (fun q hq => nomatch hq) ?_
  refine .cons 183 _ _ (by kernel_rfl) (by kernel_rfl) (fun h => nomatch h) (fun q hq => nomatch hq) ?_
  refine .cons 184 _ _ (by kernel_rfl) (by kernel_rfl) (fun h => nomatch h) (fun q hq => nomatch hq) ?_
  refine .cons 185 _ _ (by kernel_rfl) (by kernel_rfl) (fun h => nomatch h) (fun q hq => nomatch hq) ?_
  exact .nil _
theorem mixed : Tryd.prog.follows .mixedOrders = true := by kernel_rfl
end Go.Proofs.YtagokkpnfceidaaDoor
end

section
namespace Go.Proofs.YtagokkpnfceidaaDoor
open Go.RowKit

theorem conv_out {P : Program} (src dst e : TypeId) (hs : P.underlying src = some (.slice e)) (he : P.underlying e = some (.int .u8)) (hd : P.underlying dst = some .string)
   (a : Addr) (l : List UInt8) (n c : Nat) (hn : n = l.length) (W : World) (h : ∀ j (hj : j < l.length), W.cell? (a.add j) = some (.int .u8 (l[j].toNat : Int))) :
   (convert src dst (.slice (some a) n c)).run P W = .ok (.string ⟨l.toArray⟩) W := by
  subst hn
  exact run_convert_bytes_back (P := P) W src dst e a c l hs he hd h

theorem add_at (b o j : Nat) : (⟨b, o, none⟩ : Addr).add j = ⟨b, o + j, none⟩ := by
  unfold Addr.add; split
  · subst_vars; rfl
  · rfl
theorem size_len (s : ByteArray) : s.size = s.data.toList.length := by simp
/-- In world w the slice value v has n elements whose cells are xs, all in blocks that ok allows. -/
def Sl (w : World) (ok : Nat → Prop) (v : Value) (n : Nat) (xs : List Value) : Prop :=
  ∃ (a : Option Addr) (cap : Nat), v = .slice a n cap ∧ n ≤ cap ∧ cap ≤ maxLen ∧
    ∀ j u, xs[j]? = some u → ∃ b off, a = some ⟨b, off, none⟩ ∧ ok b ∧ w.cell? ⟨b, off + j, none⟩ = some u

theorem cell_lt {w : World} {b o : Nat} {u : Value} (h : w.cell? ⟨b, o, none⟩ = some u) : b < w.heap.size := World.block_lt_of_cell? w ⟨b, o, none⟩ h

theorem Sl.mono {w w' : World} {ok ok' : Nat → Prop} {v : Value} {n : Nat} {xs : List Value} (h : Sl w ok v n xs)
    (hf : ∀ b, ok b → b < w.heap.size → w'.heap[b]? = w.heap[b]?) (hok : ∀ b, ok b → b < w.heap.size → ok' b) : Sl w' ok' v n xs := by
  obtain ⟨a, cap, rfl, h1, h2, h3⟩ := h
  refine ⟨a, cap, rfl, h1, h2, fun j u hj => ?_⟩
  obtain ⟨b, off, rfl, hb, hc⟩ := h3 j u hj
  have hlt := cell_lt hc
  exact ⟨b, off, rfl, hok b hb hlt, (World.cell?_of_block (w := w) (hf b hb hlt)).trans hc⟩

theorem Sl.below {w w' : World} {B : Nat} {ok : Nat → Prop} {v : Value} {n : Nat} {xs : List Value} (h : Sl w ok v n xs) (hb : Below B w w') (hok : ∀ b, ok b → b < B) : Sl w' ok v n xs :=
  h.mono (fun b hb' _ => hb.block b (hok b hb')) (fun _ h _ => h)

theorem Sl.drewN {w : World} {ok : Nat → Prop} {v : Value} {n : Nat} {xs : List Value} (h : Sl w ok v n xs) (k : Nat) : Sl (w.drewN k) ok v n xs :=
  h.mono (fun _ _ _ => rfl) (fun _ h _ => h)

/-- Cells of a list of texts. -/
def strC (l : List (List UInt8)) : List Value := l.map fun x => .string ⟨x.toArray⟩
theorem setCell_row {W : World} {b : Nat} {C : Array Value} {t : TypeId} {fr : Nat × Nat} (h : W.heap[b]? = some (.cells C t fr)) (i : Nat) (v : Value) :
    (W.setCell ⟨b, i, none⟩ v).heap[b]? = some (.cells (C.setIfInBounds i v) t fr) := by
  simp only [World.setCell, Array.getElem?_modify, h]
  simp
theorem setCell_other {W : World} {b k : Nat} (i : Nat) (v : Value) (h : k ≠ b) : (W.setCell ⟨b, i, none⟩ v).heap[k]? = W.heap[k]? := Below.heap_setCell W ⟨b, i, none⟩ v k h
theorem setCell_size (W : World) (a : Addr) (v : Value) : (W.setCell a v).heap.size = W.heap.size := by simp [World.setCell]

theorem heap_alloc_if (w : World) (o : Obj) (k : Nat) : (w.alloc o).heap[k]? = if k = w.heap.size then some o else w.heap[k]? := by
  show (w.heap.push o)[k]? = _
  rw [Array.getElem?_push]

theorem Sl.of_owns' {w : World} {base : Nat} {e : TypeId} {v : Value} {n : Nat} {xs : List Value} (h : w.ownsRow base e 1 v n xs) : Sl w (fun b => v.ownBlock = some b) v n xs := by
  have hl := h.1
  rcases h.2 with ⟨rfl, rfl⟩ | ⟨g, cap, cur, rfl, hg, hh, hn, hc, hs, ht⟩
  · refine ⟨none, 0, rfl, Nat.le_refl _, by unfold maxLen; omega, fun j u hj => ?_⟩
    have : xs = [] := List.eq_nil_of_length_eq_zero (by simpa using hl)
    subst this; simp at hj
  · refine ⟨_, cap, rfl, hn, hc, fun j u hj => ⟨g, 0, rfl, rfl, ?_⟩⟩
    rw [cell_of_row w g _ cur e (0, 0) hh]
    rw [← ht, List.getElem?_take] at hj
    split at hj
    · simpa using hj
    · cases hj

theorem heap_at_new (w : World) (o : Obj) (k : Nat) (h : k = w.heap.size) : (w.alloc o).heap[k]? = some o := by rw [heap_alloc_if, if_pos h]
theorem heap_at_old (w : World) (o : Obj) (k : Nat) (h : k < w.heap.size) : (w.alloc o).heap[k]? = w.heap[k]? := by rw [heap_alloc_if, if_neg (by omega)]

/-- A slice literal that has just been laid. -/
theorem Sl.lit (w : World) (C : Array Value) (t : TypeId) (n : Nat) (xs : List Value) (hx : xs = C.toList) (hn : n ≤ 1000000) : Sl (w.alloc (.cells C t)) (fun b => b = w.heap.size) (.slice (some ⟨w.heap.size, 0, none⟩) n n) n xs := by
  subst hx
  refine ⟨_, n, rfl, Nat.le_refl _, by unfold maxLen; omega, fun j u hj => ⟨w.heap.size, 0, rfl, rfl, ?_⟩⟩
  rw [World.cell?_alloc_mark]
  simpa using hj
theorem Sl.alloc {w : World} {ok : Nat → Prop} {v : Value} {n : Nat} {xs : List Value} (h : Sl w ok v n xs) (o : Obj) : Sl (w.alloc o) ok v n xs :=
  h.mono (fun b _ hlt => heap_at_old w o b hlt) (fun _ h _ => h)

end Go.Proofs.YtagokkpnfceidaaDoor
end

section
namespace Go.Proofs.YtagokkpnfceidaaDoor
open Go.RowKit

def sV (l : List UInt8) : V := .v (strOf l)
def iV (n : Int) : V := .v (.int .i64 n)
def bV (b : Bool) : V := .v (.bool b)
theorem us1 {us : Array Value} (h : us.size = 1) : ∃ a, us = #[a] := by
  match us, h with
  | ⟨[a]⟩, _ => exact ⟨a, rfl⟩
theorem us2 {us : Array Value} (h : us.size = 2) : ∃ a b, us = #[a, b] := by
  match us, h with
  | ⟨[a, b]⟩, _ => exact ⟨a, b, rfl⟩
end Go.Proofs.YtagokkpnfceidaaDoor
end

section
namespace Go.Proofs.YtagokkpnfceidaaDoor
open Go.RowKit

def csize : Code → Nat
  | .seq a b => csize a + csize b + 1
  | .cond _ a b => csize a + csize b + 1
  | .block _ b => csize b + 1
  | .loop b => csize b + 1
  | .rangeFunc _ _ a b => csize a + csize b + 1
  | _ => 1
/-- By what a join behind x is found. -/
def skey : Code → Nat
  | .region id _ _ => 3000000 + id
  | x => 2000000 + 1000 * firstReg x + csize x
/-- The loops' bodies, in the text's order. -/
def loopsOf : Code → List Code
  | .seq a b => loopsOf a ++ loopsOf b
  | .cond _ a b => loopsOf a ++ loopsOf b
  | .block _ b => loopsOf b
  | .loop b => b :: loopsOf b
  | .rangeFunc g ps a b => .rangeFunc g ps a b :: (loopsOf a ++ loopsOf b)
  | .scope b => loopsOf b
  | _ => []
section
variable {P : Program} {tb : Tbl}
/-- Which variables count as made by the region: those behind all; or more, by the table. -/
def baseOf (o : Option (List Nat)) (n : Nat) : Nat := match o with
  | some [b] => if b ≤ n then b else n
  | _ => n
theorem baseOf_le (o : Option (List Nat)) (n : Nat) : baseOf o n ≤ n := by
  unfold baseOf
  split
  · split
    · assumption
    · exact Nat.le_refl _
  · exact Nat.le_refl _
/-- A region. -/
def rwp (P : Program) (tb : Tbl) (N : Nat) (lv : List (Nat × List Nat)) (id : Nat) (ops : Array Oper) (dr : Bool) (Q : St → Prop) (σ : St) : Prop := force σ fun σ => match dr with
    | false => match lv.lookup (9000000 + id) with
      | none => bOps true P tb N ops.toList (List.range ops.toList.length) σ fun σ' => Q (keep (lv.lookup id) σ')
      | some mk => xOps mk P tb N ops.toList (List.range ops.toList.length) σ fun σ' => Q (keep (lv.lookup id) σ')
    | true => match lv.lookup (6000000 + id) with
      | some [j] => tailOk ops.toList j = true ∧ lexOkP ((lv.lookup (5000000 + id)).getD []) ops.toList j = true ∧ (lv.lookup (7000000 + id)).isSome = true ∧ dOps σ.s.heap.length ((lv.lookup (5000000 + id)).getD []) P tb N ops.toList (List.range j) σ fun σ' =>
        ∃ σ2, Apv tb ops.toList j N (keep (lv.lookup (7000000 + id)) σ') σ2 ∧ Q (keep (lv.lookup id) σ2)
      | some [p, _] => lexOkX p (p + 1) ((lv.lookup (5000000 + id)).getD []) ops.toList = true ∧ reachB p ops.toList = true ∧ p + 1 < ops.toList.length ∧ (lv.lookup id).isSome = true ∧
        dOps σ.s.heap.length ((lv.lookup (5000000 + id)).getD []) P tb N ops.toList (List.range p) σ (both σ.s.heap.length ((lv.lookup (5000000 + id)).getD []) P tb N ops.toList p fun σ' => Q (keep (lv.lookup id) σ'))
      | _ => lexOk2 ((lv.lookup (5000000 + id)).getD []) ops.toList = true ∧ (lv.lookup id).isSome = true ∧ dOps (baseOf (lv.lookup (8000000 + id)) σ.s.heap.length) ((lv.lookup (5000000 + id)).getD []) P tb N ops.toList (List.range ops.toList.length) σ fun σ' => Q (keep (lv.lookup id) σ')
def bwp (B : Nat × Nat) (P : Program) (tb : Tbl) (N : Nat) (lv : List (Nat × List Nat)) : Code → (Exit → St → Prop) → St → Prop
  | .skip, Q, σ => Q .normal σ
  | .label _, Q, σ => Q .normal σ
  | .region id ops dr, Q, σ => match lv.lookup (9500000 + id) with
    | none => rwp P tb N lv id ops dr (Q .normal) σ
    | some _ => ∃ τ, Le B N σ τ ∧ rwp P tb N lv id ops dr (Q .normal) τ
  | .seq x y, Q, σ => match lv.lookup (skey x) with
    | none => bwp B P tb N lv x (fun e σ' => match e with | .normal => bwp B P tb N lv y Q σ' | e => Q e σ') σ
    | some _ => ∃ M : Exit → St → Prop, bwp B P tb N lv x M σ ∧ ∀ e σ', M e σ' → ∃ τ, Le B N σ' τ ∧ (match e with | .normal => bwp B P tb N lv y Q τ | e => Q e τ)
  | .cond c x y, Q, σ => match ev σ.env c with
    | some (.p (.v (.bool b))) => (b = true → bwp B P tb N lv x Q σ) ∧ (b = false → bwp B P tb N lv y Q σ)
    | _ => False
  | .block id b, Q, σ => bwp B P tb N lv b (fun e σ' => match e with | .exit i => if i = id then Q .normal σ' else Q (.exit i) σ' | e => Q e σ') σ
  | .exit id, Q, σ => Q (.exit id) σ
  | .ret, Q, σ => Q .ret σ
  | .goto l, Q, σ => Q (.goto l) σ
  | .scope b, Q, σ => ∃ M : Exit → St → Prop, T B P N (.scope b) M σ ∧ ∀ e σ', M e σ' → ∃ τ, Le B N σ' τ ∧ Q e τ
  | .loop b, Q, σ => ∃ M : Exit → St → Prop, T B P N (.loop b) M (keep (lv.lookup (1000000 + firstReg b)) σ) ∧ ∀ e σ', M e σ' → ∃ τ, Le B N σ' τ ∧ Q e τ
  | .rangeFunc g ps x y, Q, σ => ∃ M : Exit → St → Prop, T B P N (.rangeFunc g ps x y) M (keep (lv.lookup (4000000 + firstReg (.rangeFunc g ps x y))) σ) ∧ ∀ e σ', M e σ' → ∃ τ, Le B N σ' τ ∧ Q e τ
  | _, _, _ => False
theorem T_up {B : Nat × Nat} {N : Nat} {c : Code} {M Q : Exit → St → Prop} {σ : St} (h : T B P N c M σ) (k : ∀ e σ', M e σ' → ∃ τ, Le B N σ' τ ∧ Q e τ) : T B P N c Q σ := ⟨fun rd lo G a w hR hF =>
  wpIn_mono (h.out rd lo G a w hR hF) fun e a' w' ⟨G', σ', hE, hR', hF', hq⟩ => by
    obtain ⟨τ, hl, hq⟩ := k e σ' hq
    obtain ⟨G2, e2, r2⟩ := hl.out G' a' w' hR'
    exact ⟨G2, τ, hE.trans e2, r2, hF'.ext e2.ext rfl, hq⟩⟩
theorem T_seq {B : Nat × Nat} {N : Nat} {x y : Code} {M Q : Exit → St → Prop} {σ : St} (h : T B P N x M σ) (k : ∀ e σ', M e σ' → match e with | .normal => T B P N y Q σ' | e => Q e σ') : T B P N (.seq x y) Q σ := ⟨fun rd lo G a w hR hF => by
  refine wpIn_seq (wpIn_mono (h.out rd lo G a w hR hF) fun e a' w' ⟨G', σ', hE, hR', hF', hq⟩ => ?_)
  have hq := k e σ' hq
  cases e with
  | normal => exact wpIn_mono (hq.out rd lo G' a' w' hR' hF') fun e a'' w'' ⟨G'', σ'', hE', hR'', hF'', hq'⟩ => ⟨G'', σ'', hE.trans hE', hR'', hF'', hq'⟩
  | exit id => exact ⟨G', σ', hE, hR', hF', hq⟩
  | goto l => exact ⟨G', σ', hE, hR', hF', hq⟩
  | ret => exact ⟨G', σ', hE, hR', hF', hq⟩
  | panic ch => exact ⟨G', σ', hE, hR', hF', hq⟩
  | outgrown => exact ⟨G', σ', hE, hR', hF', hq⟩⟩
theorem rwp_sound (hm : P.follows .mixedOrders = true) (hT : TblOk P tb) {B : Nat × Nat} {N : Nat} {lv : List (Nat × List Nat)} {id : Nat} {ops : Array Oper} {dr : Bool} {Q : Exit → St → Prop} {σ : St} (h : rwp P tb N lv id ops dr (Q .normal) σ) : T B P N (.region id ops dr) Q σ := .mk fun rd lo G a w hR hF => by
  unfold rwp at h
  rw [force_eq] at h
  have hops : ops.toList.toArray = ops := by simp
  cases dr with
  | false =>
    refine wpIn_region ?_
    simp only at h
    split at h
    · have := bOps_sound hT (rd := rd) (ops := ops.toList) (Q := fun e a' w' => ∃ G' σ', Ex B G w G' w' ∧ Rel N G' σ' a' w' ∧ Fr rd lo G' a' w' ∧ Q e σ') (G0 := G) (w0 := w) (ds := a.defers) (fun a' w' G' σ' hE hR' hd hK => ⟨G', _, hE, keep_rel hR' _, hF.ext hE.ext hd, hK⟩) _ σ a w G (.refl B G w) hR rfl h
      rw [hops] at this
      simpa using this
    · have := xOps_sound hT (rd := rd) (ops := ops.toList) (Q := fun e a' w' => ∃ G' σ', Ex B G w G' w' ∧ Rel N G' σ' a' w' ∧ Fr rd lo G' a' w' ∧ Q e σ') (G0 := G) (w0 := w) (ds := a.defers) (fun a' w' G' σ' hE hR' hd hK => ⟨G', _, hE, keep_rel hR' _, hF.ext hE.ext hd, hK⟩) _ σ a w G (.refl B G w) hR rfl h
      rw [hops] at this
      simpa using this
  | true =>
    simp only at h
    split at h
    · rename_i j hj
      obtain ⟨h1, h2, h3, h4⟩ := h
      have ht := tailOk_spec h1
      obtain ⟨l, hl⟩ := Option.isSome_iff_exists.1 h3
      refine wpIn_region_any hm ?_
      have hsz : ops.size = j + 6 := by have := ht.len; simpa using this
      have hall : ((List.range j).filter fun i => !(Array.replicate ops.size false).getD i true) = List.range j := by
        rw [List.filter_eq_self]
        intro i hi
        have : i < ops.size := by have := List.mem_range.1 hi; omega
        simp [Array.getD_eq_getD_getElem?, this]
      have hd : Stp G w G { w with drawn := w.drawn + 1 } := Stp.drewN G w _
      have := dpre_sound hT (rd := rd) (ops := ops.toList) (j := j) (k := 6) (by rw [ht.len]; omega) h2 (fun i o hi ho x hx => by
          have hi6 : i < j + 6 := by have := (List.getElem?_eq_some_iff.1 ho).1; rw [ht.len] at this; exact this
          have := ht.pre (i - j) (by omega) x hx
          rw [show j + (i - j) = i by omega] at this
          exact (bnds_mem ho).1 this) (ds := a.defers) (Q := fun e a' w' => ∃ G' σ', Ex B G w G' w' ∧ Rel N G' σ' a' w' ∧ Fr rd lo G' a' w' ∧ Q e σ') (K := fun σ' => ∃ σ2, Apv tb ops.toList j N (keep (lv.lookup (7000000 + id)) σ') σ2 ∧ Q .normal (keep (lv.lookup id) σ2)) (fun σ τ he hq => by
          have e : keep (lv.lookup (7000000 + id)) σ = keep (lv.lookup (7000000 + id)) τ := by
            rw [hl]
            simp only [keep, he.2, normE_congr l he.1]
          show ∃ σ2, Apv tb ops.toList j N (keep (lv.lookup (7000000 + id)) τ) σ2 ∧ Q .normal (keep (lv.lookup id) σ2)
          rw [← e]; exact hq) (G0 := G) (w0 := w) (fun a' w' G' σ' L l1 l2 l3 hE hR' hd ⟨σ2, hA, hK⟩ => apv_sound hT ht hA (keep_rel hR' _) (fun a2 w2 G2 e2 r2 d2 => ⟨G2, _, hE.trans (e2.ex B), keep_rel r2 _, hF.ext (hE.trans (e2.ex B)).ext (d2.trans hd), hK⟩) L l1 l2 l3)
        j (Array.replicate ops.size false) σ a { w with drawn := w.drawn + 1 } G (by simp) (fun i o ho hi => by
          have hlt : i < ops.size := by have := (List.getElem?_eq_some_iff.1 ho).1; simpa using this
          simp [Array.getD_eq_getD_getElem?, hlt] at hi) (fun i _ hi => by
          have hlt : i < ops.size := by simpa using hi
          simp [Array.getD_eq_getD_getElem?, hlt]) (by rw [hall]; simp) (hd.ex B) ⟨hR.inv.drewN _, hR.env.mono hd, hR.size⟩ rfl (Nat.le_refl _) (by rw [hall]; exact h4)
      rw [hops, ← hsz] at this
      exact this
    · rename_i p _ hj
      obtain ⟨h1, h2, h3, h4, h5⟩ := h
      obtain ⟨l, hl⟩ := Option.isSome_iff_exists.1 h4
      refine wpIn_region_any hm ?_
      have hsz : ops.size = ops.toList.length := by simp
      have hall : ((List.range p).filter fun i => !(Array.replicate ops.size false).getD i true) = List.range p := by
        rw [List.filter_eq_self]
        intro i hi
        have : i < ops.size := by have := List.mem_range.1 hi; omega
        simp [Array.getD_eq_getD_getElem?, this]
      have hd : Stp G w G { w with drawn := w.drawn + 1 } := Stp.drewN G w _
      have := dtwo_sound hT (rd := rd) (ops := ops.toList) h1 h3 (reachB_spec h2) (ds := a.defers) (Q := fun e a' w' => ∃ G' σ', Ex B G w G' w' ∧ Rel N G' σ' a' w' ∧ Fr rd lo G' a' w' ∧ Q e σ') (K := fun σ' => Q .normal (keep (lv.lookup id) σ')) (fun σ τ he hq => by
          have e : keep (lv.lookup id) σ = keep (lv.lookup id) τ := by
            rw [hl]
            simp only [keep, he.2, normE_congr l he.1]
          show Q .normal (keep (lv.lookup id) τ)
          rw [← e]; exact hq) (G0 := G) (w0 := w) (fun a' w' G' σ' hE hR' hd hK => ⟨G', _, hE, keep_rel hR' _, hF.ext hE.ext hd, hK⟩)
        ops.size (Array.replicate ops.size false) σ a { w with drawn := w.drawn + 1 } G (by simp) (fun i o ho hi => by
          have hlt : i < ops.size := by rw [hsz]; exact (List.getElem?_eq_some_iff.1 ho).1
          simp [Array.getD_eq_getD_getElem?, hlt] at hi) (fun i _ hi => by
          have hlt : i < ops.size := by simpa using hi
          simp [Array.getD_eq_getD_getElem?, hlt]) (by rw [hall]; simp at h3 ⊢; omega) (hd.ex B) ⟨hR.inv.drewN _, hR.env.mono hd, hR.size⟩ rfl (Nat.le_refl _) (by rw [hall]; exact h5)
      rw [hops] at this
      exact this
    · obtain ⟨h1, h2, h3⟩ := h
      obtain ⟨l, hl⟩ := Option.isSome_iff_exists.1 h2
      refine wpIn_region_any hm ?_
      have hsz : ops.size = ops.toList.length := by simp
      have hall : ((List.range ops.toList.length).filter fun i => !(Array.replicate ops.size false).getD i true) = List.range ops.toList.length := by
        rw [List.filter_eq_self]
        intro i hi
        have : i < ops.size := by simpa using hi
        simp [Array.getD_eq_getD_getElem?, this]
      have hd : Stp G w G { w with drawn := w.drawn + 1 } := Stp.drewN G w _
      have := dny_sound hT (rd := rd) (ops := ops.toList) h1 (ds := a.defers) (Q := fun e a' w' => ∃ G' σ', Ex B G w G' w' ∧ Rel N G' σ' a' w' ∧ Fr rd lo G' a' w' ∧ Q e σ') (K := fun σ' => Q .normal (keep (lv.lookup id) σ')) (fun σ τ he hq => by
          have e : keep (lv.lookup id) σ = keep (lv.lookup id) τ := by
            rw [hl]
            simp only [keep, he.2, normE_congr l he.1]
          show Q .normal (keep (lv.lookup id) τ)
          rw [← e]; exact hq) (G0 := G) (w0 := w) (fun a' w' G' σ' hE hR' hd hK => ⟨G', _, hE, keep_rel hR' _, hF.ext hE.ext hd, hK⟩)
        ops.size (Array.replicate ops.size false) σ a { w with drawn := w.drawn + 1 } G (by simp) (fun i o ho hi => by
          have hlt : i < ops.size := by rw [hsz]; exact (List.getElem?_eq_some_iff.1 ho).1
          simp [Array.getD_eq_getD_getElem?, hlt] at hi) (by rw [hall]; simp) (hd.ex B) ⟨hR.inv.drewN _, hR.env.mono hd, hR.size⟩ rfl (baseOf_le _ _) (by rw [hall]; exact h3)
      rw [hops] at this
      exact this
theorem bwp_sound (hm : P.follows .mixedOrders = true) (hT : TblOk P tb) {B : Nat × Nat} {N : Nat} {lv : List (Nat × List Nat)} : ∀ (c : Code) (Q : Exit → St → Prop) (σ : St), bwp B P tb N lv c Q σ → T B P N c Q σ
  | .skip, Q, σ, h => ⟨fun rd lo G a w hR hF => wpIn_skip ⟨G, σ, .refl B G w, hR, hF, h⟩⟩
  | .label l, Q, σ, h => ⟨fun rd lo G a w hR hF => wpIn_label ⟨G, σ, .refl B G w, hR, hF, h⟩⟩
  | .exit id, Q, σ, h => ⟨fun rd lo G a w hR hF => wpIn_exit ⟨G, σ, .refl B G w, hR, hF, h⟩⟩
  | .ret, Q, σ, h => ⟨fun rd lo G a w hR hF => wpIn_ret ⟨G, σ, .refl B G w, hR, hF, h⟩⟩
  | .goto l, Q, σ, h => ⟨fun rd lo G a w hR hF => wpIn_goto ⟨G, σ, .refl B G w, hR, hF, h⟩⟩
  | .scope b, Q, σ, h => by
    obtain ⟨M, h1, h2⟩ := h
    exact T_up h1 h2
  | .region id ops dr, Q, σ, h => by
    unfold bwp at h
    split at h
    · exact rwp_sound hm hT h
    · obtain ⟨τ, hl, h⟩ := h
      exact T_le hl (rwp_sound hm hT h)
  | .seq x y, Q, σ, h => by
    unfold bwp at h
    split at h
    · refine T_seq (bwp_sound hm hT x _ σ h) fun e σ' hq => ?_
      cases e with
      | normal => exact bwp_sound hm hT y Q σ' hq
      | _ => exact hq
    · obtain ⟨M, h1, h2⟩ := h
      refine T_seq (T_up (Q := fun e τ => match e with | .normal => bwp B P tb N lv y Q τ | e => Q e τ) (bwp_sound hm hT x M σ h1) h2) fun e σ' hq => ?_
      cases e with
      | normal => exact bwp_sound hm hT y Q σ' hq
      | _ => exact hq
  | .cond c x y, Q, σ, h => .mk fun rd lo G a w hR hF => by
    unfold bwp at h
    split at h
    · rename_i b hb
      have hc := ev_rel hR.env c _ hb
      have hv : a.eval c = .bool b := by
        generalize a.eval c = q at hc
        cases hc with | p _ _ hc => cases hc; rfl
      exact wpIn_cond_split hv (fun hb => (bwp_sound hm hT x Q σ (h.1 hb)).out rd lo G a w hR hF) (fun hb => (bwp_sound hm hT y Q σ (h.2 hb)).out rd lo G a w hR hF)
    · exact h.elim
  | .block id b, Q, σ, h => .mk fun rd lo G a w hR hF => by
    refine wpIn_block (wpIn_mono ((bwp_sound hm hT b _ σ h).out rd lo G a w hR hF) fun e a' w' ⟨G', σ', hE, hR', hF', hq⟩ => ?_)
    cases e with
    | normal => exact ⟨G', σ', hE, hR', hF', hq⟩
    | exit i =>
      have hq : if i = id then Q .normal σ' else Q (.exit i) σ' := hq
      show if i = id then _ else _
      split
      · rename_i hi; rw [if_pos hi] at hq; exact ⟨G', σ', hE, hR', hF', hq⟩
      · rename_i hi; rw [if_neg hi] at hq; exact ⟨G', σ', hE, hR', hF', hq⟩
    | goto l => exact ⟨G', σ', hE, hR', hF', hq⟩
    | ret => exact ⟨G', σ', hE, hR', hF', hq⟩
    | panic ch => exact ⟨G', σ', hE, hR', hF', hq⟩
    | outgrown => exact ⟨G', σ', hE, hR', hF', hq⟩
  | .loop b, Q, σ, h => by
    obtain ⟨M, h1, h2⟩ := h
    exact T_keep _ (T_up h1 h2)
  | .rangeFunc g ps x y, Q, σ, h => by
    obtain ⟨M, h1, h2⟩ := h
    exact T_keep _ (T_up h1 h2)
  | .refuse _, _, _, h => h.elim
/-- A loop, from within. -/
structure TL (B : Nat × Nat) (P : Program) (N : Nat) (c : Code) (Q : Exit → St → Prop) (σ : St) : Prop where
  out : ∀ rd lo G a w, Rel N G σ a w → Fr rd lo G a w → ∀ (b : Frame) (k : List Item) (cs : List Frame), b.roundOf = rd → ∃ e a' w', (∃ G' σ', Ex B G w G' w' ∧ Rel N G' σ' a' w' ∧ Fr rd lo G' a' w' ∧ Q e σ') ∧
    ArrivesIn (Machine.fenced P (FW rd)) P (lone (b.atR a (.code c :: .inLoop c :: k)) cs w) b k cs e a' w'
theorem TL.loop {B : Nat × Nat} {N : Nat} {c : Code} {Q : Exit → St → Prop} {σ : St} (h : TL B P N c Q σ) : T B P N (.loop c) Q σ := ⟨fun rd lo G a w hR hF b k cs hro hb hr => by
  obtain ⟨e, a', w', hq, harr⟩ := h.out rd lo G a w hR hF b k cs (hro.trans (FW_round rd))
  exact ⟨e, a', w', hq, .of_steps (.one (fenced_calm hb hr rfl) stepR_loop) harr⟩⟩
theorem TL.le {B : Nat × Nat} {N : Nat} {c : Code} {Q : Exit → St → Prop} {σ τ : St} (h : Le B N σ τ) (k : TL B P N c Q τ) : TL B P N c Q σ := ⟨fun rd lo G a w hR hF b ks cs hro => by
  obtain ⟨G1, e1, r1⟩ := h.out G a w hR
  obtain ⟨e, a', w', ⟨G', σ', hE, hR', hF', hq⟩, harr⟩ := k.out rd lo G1 a w r1 (hF.ext e1.ext rfl) b ks cs hro
  exact ⟨e, a', w', ⟨G', σ', e1.trans hE, hR', hF', hq⟩, harr⟩⟩
/-- A loop is a round and the loop anew. -/
theorem TL.round {B : Nat × Nat} {N : Nat} {c : Code} {Q : Exit → St → Prop} {σ : St} (h : T B P N c (fun e σ' => match e with | .normal => TL B P N c Q σ' | e => Q e σ') σ) : TL B P N c Q σ := ⟨fun rd lo G a w hR hF b k cs hro => by
  obtain ⟨e, a₁, w₁, ⟨G₁, σ₁, hE₁, hR₁, hF₁, hq⟩, harr⟩ := h.out rd lo G a w hR hF b (.inLoop c :: k) cs (hro.trans (FW_round rd).symm) (FW_fn _ _) (FW_room _ _)
  cases e with
  | normal =>
    obtain ⟨e₂, a₂, w₂, ⟨G₂, σ₂, hE₂, hR₂, hF₂, hq₂⟩, harr₂⟩ := hq.out rd lo G₁ a₁ w₁ hR₁ hF₁ b k cs hro
    exact ⟨e₂, a₂, w₂, ⟨G₂, σ₂, hE₁.trans hE₂, hR₂, hF₂, hq₂⟩, .of_steps (StepsIn.trans harr (.one (fenced_calm (n := 0) (FW_fn _ _) (FW_room _ _) rfl) stepR_inLoop)) harr₂⟩
  | exit id => exact ⟨_, a₁, w₁, ⟨G₁, σ₁, hE₁, hR₁, hF₁, hq⟩, .pass (x := .inLoop c) rfl (fun _ _ => .inl (by simp)) harr⟩
  | goto l => exact ⟨_, a₁, w₁, ⟨G₁, σ₁, hE₁, hR₁, hF₁, hq⟩, .pass (x := .inLoop c) rfl (fun _ _ => .inl (by simp)) harr⟩
  | ret => exact ⟨_, a₁, w₁, ⟨G₁, σ₁, hE₁, hR₁, hF₁, hq⟩, .pass (x := .inLoop c) rfl (fun _ _ => .inl (by simp)) harr⟩
  | panic ch => exact ⟨_, a₁, w₁, ⟨G₁, σ₁, hE₁, hR₁, hF₁, hq⟩, .pass (x := .inLoop c) rfl (fun _ _ => .inl (by simp)) harr⟩
  | outgrown => exact ⟨_, a₁, w₁, ⟨G₁, σ₁, hE₁, hR₁, hF₁, hq⟩, .pass (x := .inLoop c) rfl (fun _ _ => .inl (by simp)) harr⟩⟩

theorem stepR_scope {b : Frame} {a : Act} {k : List Item} {cs : List Frame} {w : World} {c : Code} : step P (lone (b.atR a (.code (.scope c) :: k)) cs w) = .next (lone (b.atR a (.code c :: .inScope c :: k)) cs w) :=
  step_lone_go (by simp [stepG, stepG.exec, Frame.atR])
theorem stepR_inScope {b : Frame} {a : Act} {k : List Item} {cs : List Frame} {w : World} {c : Code} : step P (lone (b.atR a (.inScope c :: k)) cs w) = .next (lone (b.atR a k) cs w) :=
  step_lone_go (by simp [stepG, stepG.exec, Frame.atR])
/-- Code in a scope, up to the scope's end. -/
structure TG (B : Nat × Nat) (P : Program) (N : Nat) (s c : Code) (Q : Exit → St → Prop) (σ : St) : Prop where
  out : ∀ rd lo G a w, Rel N G σ a w → Fr rd lo G a w → ∀ (b : Frame) (k : List Item) (cs : List Frame), b.roundOf = rd → ∃ e a' w', (∃ G' σ', Ex B G w G' w' ∧ Rel N G' σ' a' w' ∧ Fr rd lo G' a' w' ∧ Q e σ') ∧
    ArrivesIn (Machine.fenced P (FW rd)) P (lone (b.atR a (.code c :: .inScope s :: k)) cs w) b k cs e a' w'
/-- Behind a jump to a label of the scope. -/
def gotoQ (B : Nat × Nat) (P : Program) (N : Nat) (s : Code) (l : Nat) (Q : Exit → St → Prop) (σ : St) : Prop := ∃ rest, findLabel s l = some rest ∧ TG B P N s rest Q σ
theorem TG.scope {B : Nat × Nat} {N : Nat} {s : Code} {Q : Exit → St → Prop} {σ : St} (h : TG B P N s s Q σ) : T B P N (.scope s) Q σ := ⟨fun rd lo G a w hR hF b k cs hro hb hr => by
  obtain ⟨e, a', w', hq, harr⟩ := h.out rd lo G a w hR hF b k cs (hro.trans (FW_round rd))
  exact ⟨e, a', w', hq, .of_steps (.one (fenced_calm hb hr rfl) stepR_scope) harr⟩⟩
theorem TG.le {B : Nat × Nat} {N : Nat} {s c : Code} {Q : Exit → St → Prop} {σ τ : St} (h : Le B N σ τ) (k : TG B P N s c Q τ) : TG B P N s c Q σ := ⟨fun rd lo G a w hR hF b ks cs hro => by
  obtain ⟨G1, e1, r1⟩ := h.out G a w hR
  obtain ⟨e, a', w', ⟨G', σ', hE, hR', hF', hq⟩, harr⟩ := k.out rd lo G1 a w r1 (hF.ext e1.ext rfl) b ks cs hro
  exact ⟨e, a', w', ⟨G', σ', e1.trans hE, hR', hF', hq⟩, harr⟩⟩
theorem arr_scope {rd : Option Nat} {m : Machine} {b : Frame} {s : Code} {k : List Item} {cs : List Frame} {e : Exit} {a : Act} {w : World} (hn : e ≠ .normal) (hg : ∀ l, e ≠ .goto l) (h : ArrivesIn (Machine.fenced P (FW rd)) P m b (.inScope s :: k) cs e a w) : ArrivesIn (Machine.fenced P (FW rd)) P m b k cs e a w := by
  cases e with
  | normal => exact absurd rfl hn
  | exit id => exact ⟨fun k' hk => h.1 k' (by simpa [exitTo] using hk), fun hr hk => h.2 hr (by simpa [exitTo] using hk)⟩
  | goto l => exact absurd rfl (hg l)
  | ret => exact h
  | panic ch => exact h
  | outgrown => exact h
theorem TG.last {B : Nat × Nat} {N : Nat} {s c : Code} {Q : Exit → St → Prop} {σ : St} (h : T B P N c (fun e σ' => match e with | .goto l => gotoQ B P N s l Q σ' | e => Q e σ') σ) : TG B P N s c Q σ := ⟨fun rd lo G a w hR hF b k cs hro => by
  obtain ⟨e, a₁, w₁, ⟨G₁, σ₁, hE₁, hR₁, hF₁, hq⟩, harr⟩ := h.out rd lo G a w hR hF b (.inScope s :: k) cs (hro.trans (FW_round rd).symm) (FW_fn _ _) (FW_room _ _)
  cases e with
  | normal => exact ⟨.normal, a₁, w₁, ⟨G₁, σ₁, hE₁, hR₁, hF₁, hq⟩, StepsIn.trans harr (.one (fenced_calm (n := 0) (FW_fn _ _) (FW_room _ _) rfl) stepR_inScope)⟩
  | goto l =>
    obtain ⟨rest, hf, hq⟩ := hq
    obtain ⟨e₂, a₂, w₂, ⟨G₂, σ₂, hE₂, hR₂, hF₂, hq₂⟩, harr₂⟩ := hq.out rd lo G₁ a₁ w₁ hR₁ hF₁ b k cs hro
    exact ⟨e₂, a₂, w₂, ⟨G₂, σ₂, hE₁.trans hE₂, hR₂, hF₂, hq₂⟩, .of_steps (harr.1 _ (by simp [gotoIn, hf])) harr₂⟩
  | exit id => exact ⟨_, a₁, w₁, ⟨G₁, σ₁, hE₁, hR₁, hF₁, hq⟩, arr_scope (by simp) (by simp) harr⟩
  | ret => exact ⟨_, a₁, w₁, ⟨G₁, σ₁, hE₁, hR₁, hF₁, hq⟩, arr_scope (by simp) (by simp) harr⟩
  | panic ch => exact ⟨_, a₁, w₁, ⟨G₁, σ₁, hE₁, hR₁, hF₁, hq⟩, arr_scope (by simp) (by simp) harr⟩
  | outgrown => exact ⟨_, a₁, w₁, ⟨G₁, σ₁, hE₁, hR₁, hF₁, hq⟩, arr_scope (by simp) (by simp) harr⟩⟩
theorem TG.seq {B : Nat × Nat} {N : Nat} {s x y : Code} {Q : Exit → St → Prop} {σ : St} (h : T B P N x (fun e σ' => match e with | .normal => TG B P N s y Q σ' | .goto l => gotoQ B P N s l Q σ' | e => Q e σ') σ) : TG B P N s (.seq x y) Q σ := ⟨fun rd lo G a w hR hF b k cs hro => by
  obtain ⟨e, a₁, w₁, ⟨G₁, σ₁, hE₁, hR₁, hF₁, hq⟩, harr⟩ := h.out rd lo G a w hR hF b (.code y :: .inScope s :: k) cs (hro.trans (FW_round rd).symm) (FW_fn _ _) (FW_room _ _)
  have h0 : (lone (b.atR a (.code (.seq x y) :: .inScope s :: k)) cs w).fenced P (FW rd) := fenced_calm (n := 0) (FW_fn _ _) (FW_room _ _) rfl
  have pass : ∀ {e}, e ≠ Exit.normal → ArrivesIn (Machine.fenced P (FW rd)) P (lone (b.atR a (.code x :: .code y :: .inScope s :: k)) cs w) b (.code y :: .inScope s :: k) cs e a₁ w₁ → ArrivesIn (Machine.fenced P (FW rd)) P (lone (b.atR a (.code x :: .code y :: .inScope s :: k)) cs w) b (.inScope s :: k) cs e a₁ w₁ := fun he h => .pass (x := .code y) rfl (fun _ _ => .inl he) h
  cases e with
  | normal =>
    obtain ⟨e₂, a₂, w₂, ⟨G₂, σ₂, hE₂, hR₂, hF₂, hq₂⟩, harr₂⟩ := hq.out rd lo G₁ a₁ w₁ hR₁ hF₁ b k cs hro
    exact ⟨e₂, a₂, w₂, ⟨G₂, σ₂, hE₁.trans hE₂, hR₂, hF₂, hq₂⟩, .of_steps (.head h0 stepR_seq harr) harr₂⟩
  | goto l =>
    obtain ⟨rest, hf, hq⟩ := hq
    obtain ⟨e₂, a₂, w₂, ⟨G₂, σ₂, hE₂, hR₂, hF₂, hq₂⟩, harr₂⟩ := hq.out rd lo G₁ a₁ w₁ hR₁ hF₁ b k cs hro
    exact ⟨e₂, a₂, w₂, ⟨G₂, σ₂, hE₁.trans hE₂, hR₂, hF₂, hq₂⟩, .of_steps (.head h0 stepR_seq (harr.1 _ (by simp [gotoIn, hf]))) harr₂⟩
  | exit id => exact ⟨_, a₁, w₁, ⟨G₁, σ₁, hE₁, hR₁, hF₁, hq⟩, .of_steps (.one h0 stepR_seq) (arr_scope (by simp) (by simp) (pass (by simp) harr))⟩
  | ret => exact ⟨_, a₁, w₁, ⟨G₁, σ₁, hE₁, hR₁, hF₁, hq⟩, .of_steps (.one h0 stepR_seq) (arr_scope (by simp) (by simp) (pass (by simp) harr))⟩
  | panic ch => exact ⟨_, a₁, w₁, ⟨G₁, σ₁, hE₁, hR₁, hF₁, hq⟩, .of_steps (.one h0 stepR_seq) (arr_scope (by simp) (by simp) (pass (by simp) harr))⟩
  | outgrown => exact ⟨_, a₁, w₁, ⟨G₁, σ₁, hE₁, hR₁, hF₁, hq⟩, .of_steps (.one h0 stepR_seq) (arr_scope (by simp) (by simp) (pass (by simp) harr))⟩⟩
theorem TG.label {B : Nat × Nat} {N : Nat} {s y : Code} {l : Nat} {Q : Exit → St → Prop} {σ : St} (h : TG B P N s y Q σ) : TG B P N s (.seq (.label l) y) Q σ := .seq ⟨fun rd lo G a w hR hF => wpIn_label ⟨G, σ, .refl B G w, hR, hF, h⟩⟩
theorem TG.skip {B : Nat × Nat} {N : Nat} {s y : Code} {Q : Exit → St → Prop} {σ : St} (h : TG B P N s y Q σ) : TG B P N s (.seq .skip y) Q σ := .seq ⟨fun rd lo G a w hR hF => wpIn_skip ⟨G, σ, .refl B G w, hR, hF, h⟩⟩
inductive LeE (env : Env) : Env → Prop where
  | nil : LeE env []
  | cons {t : Nat} {d d' : D} {r : Env} : env.lookup t = some d → LeD d d' → LeE env r → LeE env ((t, d') :: r)
inductive LeC : List D → List D → Prop where
  | nil : LeC [] []
  | cons {d d' : D} {r r' : List D} : LeD d d' → LeC r r' → LeC (d :: r) (d' :: r')
inductive LeH : List (List D) → List (List D) → Prop where
  | nil : LeH [] []
  | cons {d d' : List D} {r r' : List (List D)} : LeC d d' → LeH r r' → LeH (d :: r) (d' :: r')
theorem LeC.refl : ∀ l, LeC l l
  | [] => .nil
  | d :: r => .cons (.refl d) (LeC.refl r)
theorem LeH.refl : ∀ l, LeH l l
  | [] => .nil
  | d :: r => .cons (.refl d) (LeH.refl r)
theorem LeH.app {a a' b b' : List (List D)} (h : LeH a a') (k : LeH b b') : LeH (a ++ b) (a' ++ b') := by
  induction h with
  | nil => exact k
  | cons h1 _ ih => exact .cons h1 ih
theorem LeE.look {env env' : Env} (h : LeE env env') : ∀ {t : Nat} {d' : D}, env'.lookup t = some d' → ∃ d, env.lookup t = some d ∧ LeD d d' := by
  induction h with
  | nil => intro t d' h; cases h
  | @cons t0 d d0 r hl hd _ ih =>
    intro t d' h
    rw [List.lookup_cons] at h
    by_cases ht : t = t0
    · subst ht
      simp only [beq_self_eq_true, Option.some.injEq] at h
      subst h
      exact ⟨d, hl, hd⟩
    · have hb : (t == t0) = false := by simpa using ht
      rw [hb] at h
      exact ih h
theorem LeC.get {l l' : List D} (h : LeC l l') : l.length = l'.length ∧ ∀ (j : Nat) d', l'[j]? = some d' → ∃ d, l[j]? = some d ∧ LeD d d' := by
  induction h with
  | nil => exact ⟨rfl, fun j d' h => by simp at h⟩
  | @cons d d0 r r' hd _ ih =>
    refine ⟨by simp [ih.1], fun j d' hj => ?_⟩
    cases j with
    | zero => simp at hj; subst hj; exact ⟨d, rfl, hd⟩
    | succ j => exact ih.2 j d' (by simpa using hj)
theorem LeH.get {l l' : List (List D)} (h : LeH l l') : l.length = l'.length ∧ ∀ (j : Nat) d', l'[j]? = some d' → ∃ d, l[j]? = some d ∧ LeC d d' := by
  induction h with
  | nil => exact ⟨rfl, fun j d' h => by simp at h⟩
  | @cons d d0 r r' hd _ ih =>
    refine ⟨by simp [ih.1], fun j d' hj => ?_⟩
    cases j with
    | zero => simp at hj; subst hj; exact ⟨d, rfl, hd⟩
    | succ j => exact ih.2 j d' (by simpa using hj)
theorem MapRows.le {C : Nat → Nat → Prop} {w : World} {ms ms' : List (List V)} {es : Array MapEntry} (h : MapRows C w ms es) (hl : ms.length = ms'.length) (hk : ∀ (i : Nat) e e', ms[i]? = some e → ms'[i]? = some e' → e.length = e'.length)
    (hv : ∀ (i : Nat) e e', ms[i]? = some e → ms'[i]? = some e' → ∀ (k : Nat) c c', e[k]? = some c → e'[k]? = some c' → LeV c c') : MapRows C w ms' es := by
  refine ⟨by rw [← hl]; exact h.1, fun i m' e hm' he => ?_⟩
  obtain ⟨m, hm⟩ := getLen hl hm'
  obtain ⟨k, v, rfl, h1, h2⟩ := h.2 i m e hm he
  have hlen := hk i _ m' hm hm'
  match m', hlen, hm' with
  | [k', v'], _, hm' => exact ⟨k', v', rfl, h1.le (hv i _ _ hm hm' 0 k k' rfl rfl), h2.le (hv i _ _ hm hm' 1 v v' rfl rfl)⟩
theorem VarAt.le {G : Gh} {w : World} {b : Nat} {cs cs' : List D} (h : VarAt G w b cs) (l1 : cs'.length = cs.length) (l2 : ∀ (j : Nat) d', cs'[j]? = some d' → ∃ d, cs[j]? = some d ∧ LeD d d') : VarAt G w b cs' := by
  cases h with
  | cells us ty h1 h2 h3 =>
    refine .cells us ty h1 (by rw [h2]; exact l1.symm) fun j c' u hc' hu => ?_
    obtain ⟨c, hc, hd⟩ := l2 j c' hc'
    obtain ⟨g1, g2⟩ := h3 j c u hc hu
    exact ⟨g1, g2.le hd⟩
  | map fl ms es clock h1 h2 h3 =>
    subst h1
    match cs', l1, l2 with
    | [d'], _, l2 =>
      obtain ⟨d, hd, hle⟩ := l2 0 d' rfl
      have hd : D.tup [.p (.sl fl ms)] = d := Option.some.inj hd
      cases hle with
      | refl => exact .map fl ms es clock (by rw [hd]) h2 h3
      | p => cases hd
      | own => cases hd
      | drop => cases hd
      | @tup xs ys k =>
        injection hd with hd
        obtain ⟨x, rfl, e⟩ := map_one hd.symm
        injection e with e
        subst e
        obtain ⟨k1, k2⟩ := k
        match ys, k1, k2 with
        | [y], _, k2 =>
          have hv := k2 0 _ _ rfl rfl
          cases hv with
          | refl => exact .map fl ms es clock rfl h2 h3
          | sl _ f' _ ms' _ q1 q2 q3 => exact .map f' ms' es clock rfl h2 (h3.le q1 q2 q3)
theorem Inv.le {G : Gh} {h h' : List (List D)} {live : List Nat} {w : World} (hI : Inv G ⟨h, live⟩ w) (k : LeH h h') : Inv G ⟨h', live⟩ w := by
  obtain ⟨k1, k2⟩ := k.get
  refine ⟨hI.com, by rw [hI.names]; exact k1, hI.nodup, fun i b cs' hb hcs' => ?_, hI.live, hI.tok, hI.pro, hI.glob⟩
  obtain ⟨cs, hcs, hle⟩ := k2 i cs' hcs'
  obtain ⟨l1, l2⟩ := hle.get
  exact (hI.var i b cs hb hcs).le l1.symm l2
/-- The state in other words. -/
theorem Le.weak {B : Nat × Nat} {N : Nat} {env env' : Env} {h h' : List (List D)} {live live' : List Nat} (he : LeE env env') (hh : LeH h h') (hl : live = live') : Le B N ⟨env, ⟨h, live⟩⟩ ⟨env', ⟨h', live'⟩⟩ := ⟨fun G a w hR => by
  subst hl
  refine ⟨G, .refl B G w, ⟨hR.inv.le hh, fun t d' hd => ?_, hR.size⟩⟩
  obtain ⟨d, h1, h2⟩ := he.look hd
  obtain ⟨k1, k2⟩ := hR.env t d h1
  exact ⟨k1, k2.le h2⟩⟩
/-- The first k variables and m tokens stay, all else is forgotten; then in other words. -/
theorem Le.tow (k m : Nat) {B : Nat × Nat} {N : Nat} {env env1 env' : Env} {s : S} {h' : List (List D)} {live' : List Nat} (h : keepE k m env = some env1) (he : LeE env1 env') (hh : LeH (s.heap.take k) h') (hlv : s.live.take m = live')
    (h1 : B.1 ≤ k := by exact Nat.le_of_ble_eq_true rfl) (h2 : B.2 ≤ m := by exact Nat.le_of_ble_eq_true rfl)
    (hl : (s.heap.take k).all (fun cs => cs.all (D.lt k m)) = true := by exact rfl) : Le B N ⟨env, s⟩ ⟨env', ⟨h', live'⟩⟩ :=
  (Le.to k m (τ := ⟨env1, ⟨s.heap.take k, s.live.take m⟩⟩) (by rw [h]; rfl) h1 h2 hl).trans (Le.weak he hh hlv)

section
variable {A C E : Type} {B : Nat × Nat} {N : Nat}
def JP1 (B : Nat × Nat) (N : Nat) (o : A) (e1 : Exit) (st1 : A → St) : Exit → St → Prop := fun e σ => e = e1 ∧ Le B N σ (st1 o)
def JP2 (B : Nat × Nat) (N : Nat) (o : A ⊕ C) (e1 : Exit) (st1 : A → St) (e2 : Exit) (st2 : C → St) : Exit → St → Prop := fun e σ => (e = e1 ∧ ∃ y, o = .inl y ∧ Le B N σ (st1 y)) ∨ (e = e2 ∧ ∃ y, o = .inr y ∧ Le B N σ (st2 y))
def JP3 (B : Nat × Nat) (N : Nat) (o : A ⊕ C ⊕ E) (e1 : Exit) (st1 : A → St) (e2 : Exit) (st2 : C → St) (e3 : Exit) (st3 : E → St) : Exit → St → Prop := fun e σ =>
  (e = e1 ∧ ∃ y, o = .inl y ∧ Le B N σ (st1 y)) ∨ (e = e2 ∧ ∃ y, o = .inr (.inl y) ∧ Le B N σ (st2 y)) ∨ (e = e3 ∧ ∃ y, o = .inr (.inr y) ∧ Le B N σ (st3 y))
theorem JP1.a {o y : A} {e1 : Exit} {st1 : A → St} {σ : St} (h : some y = some o) (hl : Le B N σ (st1 y)) : JP1 B N o e1 st1 e1 σ := by cases h; exact ⟨rfl, hl⟩
theorem JP2.a {o : A ⊕ C} {y : A} {e1 e2 : Exit} {st1 : A → St} {st2 : C → St} {σ : St} (h : some (.inl y) = some o) (hl : Le B N σ (st1 y)) : JP2 B N o e1 st1 e2 st2 e1 σ := by cases h; exact .inl ⟨rfl, y, rfl, hl⟩
theorem JP2.b {o : A ⊕ C} {y : C} {e1 e2 : Exit} {st1 : A → St} {st2 : C → St} {σ : St} (h : some (.inr y) = some o) (hl : Le B N σ (st2 y)) : JP2 B N o e1 st1 e2 st2 e2 σ := by cases h; exact .inr ⟨rfl, y, rfl, hl⟩
theorem JP3.a {o : A ⊕ C ⊕ E} {y : A} {e1 e2 e3 : Exit} {st1 : A → St} {st2 : C → St} {st3 : E → St} {σ : St} (h : some (.inl y) = some o) (hl : Le B N σ (st1 y)) : JP3 B N o e1 st1 e2 st2 e3 st3 e1 σ := by cases h; exact .inl ⟨rfl, y, rfl, hl⟩
theorem JP3.b {o : A ⊕ C ⊕ E} {y : C} {e1 e2 e3 : Exit} {st1 : A → St} {st2 : C → St} {st3 : E → St} {σ : St} (h : some (.inr (.inl y)) = some o) (hl : Le B N σ (st2 y)) : JP3 B N o e1 st1 e2 st2 e3 st3 e2 σ := by cases h; exact .inr (.inl ⟨rfl, y, rfl, hl⟩)
theorem JP3.c {o : A ⊕ C ⊕ E} {y : E} {e1 e2 e3 : Exit} {st1 : A → St} {st2 : C → St} {st3 : E → St} {σ : St} (h : some (.inr (.inr y)) = some o) (hl : Le B N σ (st3 y)) : JP3 B N o e1 st1 e2 st2 e3 st3 e3 σ := by cases h; exact .inr (.inr ⟨rfl, y, rfl, hl⟩)
theorem join1 {o : A} {e1 : Exit} {st1 : A → St} {G : Exit → St → Prop} (k : G e1 (st1 o)) : ∀ e σ, JP1 B N o e1 st1 e σ → ∃ τ, Le B N σ τ ∧ G e τ := fun e σ ⟨he, hl⟩ => he ▸ ⟨_, hl, k⟩
theorem join2 {o : A ⊕ C} {e1 e2 : Exit} {st1 : A → St} {st2 : C → St} {G : Exit → St → Prop} (k1 : ∀ y, o = .inl y → G e1 (st1 y)) (k2 : ∀ y, o = .inr y → G e2 (st2 y)) : ∀ e σ, JP2 B N o e1 st1 e2 st2 e σ → ∃ τ, Le B N σ τ ∧ G e τ := fun e σ h => by
  rcases h with ⟨he, y, ho, hl⟩ | ⟨he, y, ho, hl⟩
  · exact he ▸ ⟨_, hl, k1 y ho⟩
  · exact he ▸ ⟨_, hl, k2 y ho⟩
end
theorem bT {φ ψ : Prop} (h : φ) : (true = true → φ) ∧ (true = false → ψ) := And.intro (fun _ => h) (fun e => nomatch e)
theorem bF {φ ψ : Prop} (h : φ) : (false = true → ψ) ∧ (false = false → φ) := And.intro (fun e => nomatch e) (fun _ => h)
theorem sizeNil {sz : Nat} : ∀ x ∈ ([] : List (List V)), x.length = sz := fun x hx => nomatch hx
theorem mapSize {α : Type} {c : α → List V} {l : List α} {sz : Nat} (h : ∀ x, (c x).length = sz) : ∀ x ∈ l.map c, x.length = sz := fun x hx => by
  obtain ⟨z, -, rfl⟩ := List.mem_map.1 hx; exact h z
section
variable {R : Type}
theorem st_test {b : Bool} {X Y : Option R} {r : R} {φ ψ : Prop} (h : (if b = true then X else Y) = some r) (k1 : b = true → X = some r → φ) (k2 : b = false → Y = some r → ψ) : (b = true → φ) ∧ (b = false → ψ) :=
  ⟨fun e => k1 e (by rw [e] at h; exact h), fun e => k2 e (by rw [e] at h; exact h)⟩
theorem st_bind {α : Type} {x : Option α} {f : α → Option R} {r : R} {φ : Prop} (h : (x >>= f) = some r) (k : ∀ y, x = some y → f y = some r → φ) : φ := by
  obtain ⟨y, hy, hf⟩ := Option.bind_eq_some_iff.1 h
  exact k y hy hf
/-- The element at a place. -/
def idx {α : Type} (l : List α) (i : Int) : Option α := if 0 ≤ i then l[i.toNat]? else none
theorem st_idx {α : Type} {l : List α} {i : Int} {c c' : α → List V} {f : α → Option R} {r : R} {sz : Nat} {K : List V → Prop} (h : (idx l i >>= f) = some r) (hc : ∀ x, c x = c' x) (hs : ∀ x, (c' x).length = sz) (hz : 0 < sz) (k : ∀ x, idx l i = some x → f x = some r → K (c' x)) :
    ∃ cell, 0 ≤ i ∧ (l.map c)[i.toNat]? = some cell ∧ cell.length = sz ∧ 0 < sz ∧ K cell := by
  refine st_bind h fun x hx hf => ?_
  have hk := k x hx hf
  unfold idx at hx
  split at hx
  · rename_i hi
    exact ⟨c' x, hi, by rw [List.getElem?_map, hx, Option.map_some, hc], hs x, hz, hk⟩
  · cases hx
theorem st_sidx {l : List UInt8} {i : Int} {f : UInt8 → Option R} {r : R} {K : UInt8 → Prop} (h : (idx l i >>= f) = some r) (k : ∀ x, idx l i = some x → f x = some r → K x) : ∃ c, 0 ≤ i ∧ l[i.toNat]? = some c ∧ K c := by
  refine st_bind h fun x hx hf => ?_
  have hk := k x hx hf
  unfold idx at hx
  split at hx
  · rename_i hi
    exact ⟨x, hi, hx, hk⟩
  · cases hx
/-- What must be so. -/
def need (p : Prop) [Decidable p] : Option Unit := if p then some () else none
theorem st_need {p : Prop} [Decidable p] {f : Unit → Option R} {r : R} {φ : Prop} (h : (need p >>= f) = some r) (k : f () = some r → φ) : p ∧ φ := by
  refine st_bind h fun x hx hf => ?_
  unfold need at hx
  split at hx
  · exact ⟨by assumption, k hf⟩
  · cases hx
/-- From lo to hi. -/
def cutL {α : Type} (l : List α) (lo hi : Int) : Option (List α) := if 0 ≤ lo ∧ lo ≤ hi ∧ hi ≤ l.length then some ((l.take hi.toNat).drop lo.toNat) else none
/-- b behind a, where that fits. -/
def appL {α : Type} (bytes : Nat) (a b : List α) : Option (List α) := if (a.length + b.length) * bytes ≤ 140737488355328 ∧ a.length + b.length ≤ 9223372036854775807 then some (a ++ b) else none
theorem view {d d' : D} {l live : List Nat} {K : D → List Nat → Prop} (h : LeD d d') (hl : live = l) (k : K d' live) : ∃ d' live, LeD d d' ∧ live = l ∧ K d' live := ⟨d', live, h, hl, k⟩
theorem vrfl {d : D} {l : List Nat} {K : D → List Nat → Prop} (k : K d l) : ∃ d' live, LeD d d' ∧ live = l ∧ K d' live := ⟨d, l, .refl d, rfl, k⟩
theorem lenMap {α : Type} (l : List α) (c : α → List V) : LeD (.p (.v (.int .i64 (l.map c).length))) (.p (.v (.int .i64 l.length))) := .eq (by rw [List.length_map])
theorem cutStr {l m : List UInt8} {lo hi : Int} (h : cutL l lo hi = some m) : cutOk (some lo) (some hi) l.length ∧ (l.take hi.toNat).drop lo.toNat = m := by
  unfold cutL at h
  split at h
  · rename_i hc
    cases h
    exact ⟨⟨hc.1, hc.2.1, hc.2.2⟩, rfl⟩
  · cases h
theorem appMap {α : Type} {bytes : Nat} {a b o : List α} {c : α → List V} {fs : List (List V)} {sz : Nat} (h : appL bytes a b = some o) (hf : LeLL fs (b.map c)) (hs : ∀ x, (c x).length = sz) :
    ((∀ x ∈ fs, x.length = sz) ∧ ((a.map c).length + fs.length) * bytes ≤ 140737488355328 ∧ (a.map c).length + fs.length ≤ 9223372036854775807) ∧ LeLL (a.map c ++ fs) (o.map c) ∧ (a.map c ++ fs).length = o.length ∧ ∀ x ∈ a.map c, x.length = sz := by
  unfold appL at h
  split at h
  · rename_i hc
    cases h
    have hl : fs.length = b.length := by rw [hf.1, List.length_map]
    refine ⟨⟨fun x hx => ?_, by rw [List.length_map, hl]; exact hc.1, by rw [List.length_map, hl]; exact hc.2⟩, by rw [List.map_append]; exact .app (.refl _) hf, by simp [hl], fun x hx => ?_⟩
    · obtain ⟨i, hi⟩ := List.getElem?_of_mem hx
      obtain ⟨y, hy⟩ := getLen hf.1.symm hi
      rw [(hf.2 i x y hi hy).1]
      obtain ⟨z, -, rfl⟩ := List.mem_map.1 (List.mem_of_getElem? hy)
      exact hs z
    · obtain ⟨z, -, rfl⟩ := List.mem_map.1 hx
      exact hs z
  · cases h
theorem st_cuts {R : Type} {l : List UInt8} (lo hi : Option Int) {f : List UInt8 → Option R} {r : R} {lv : List Nat} {K : D → List Nat → Prop} (h : (cutL l (lo.getD 0) (hi.getD l.length) >>= f) = some r)
    (k : ∀ m, cutL l (lo.getD 0) (hi.getD l.length) = some m → f m = some r → K (.p (.v (strOf m))) lv) :
    cutOk lo hi l.length ∧ ∃ d' live, LeD (.p (.v (strOf ((l.take (hi.getD l.length).toNat).drop (lo.getD 0).toNat)))) d' ∧ live = lv ∧ K d' live := by
  refine st_bind h fun m hm hf => ?_
  obtain ⟨⟨h1, h2, h3⟩, h4⟩ := cutStr hm
  exact ⟨⟨h1, h2, h3⟩, _, _, .eq (by rw [h4]), rfl, k m hm hf⟩
/-- Append to a slice that token tk may grow. -/
theorem st_appo {α R : Type} {bytes : Nat} {a b : List α} {c : α → List V} {fs : List (List V)} {sz tk e : Nat} {f : List α → Option R} {r : R} {lv : List Nat} {K : D → List Nat → Prop} (h : (appL bytes a b >>= f) = some r) (hf : LeLL fs (b.map c)) (hs : ∀ x, (c x).length = sz)
    (hl : lv[tk]? = some (a.map c).length) (k : ∀ o, appL bytes a b = some o → f o = some r → K (.own tk e sz (o.map c)) (lv.set tk (o.map c).length)) :
    lv[tk]? = some (a.map c).length ∧ ((∀ x ∈ fs, x.length = sz) ∧ ((a.map c).length + fs.length) * bytes ≤ 140737488355328 ∧ (a.map c).length + fs.length ≤ 9223372036854775807) ∧
      ∃ d' live, LeD (.own tk e sz (a.map c ++ fs)) d' ∧ live = lv.set tk (a.map c ++ fs).length ∧ K d' live := by
  refine st_bind h fun o ho hk => ?_
  obtain ⟨h1, h2, h3, -⟩ := appMap ho hf hs
  exact ⟨hl, h1, _, _, .own h2, by rw [h2.1], k o ho hk⟩
end

theorem PCall.weak {f : FuncId} {xs ys : List V} {r : D} (h : PCall P f ys r) (k : LeL xs ys) : PCall P f xs r :=
  ⟨h.fn, fun C w us hgl hl hrel => h.out C w us hgl (by rw [hl]; exact k.1) fun j y u hy hu => by
    obtain ⟨x, hx⟩ := getLen k.1 hy
    exact (hrel j x u hx hu).le (k.2 j x y hx hy)⟩
theorem PCall.to {f : FuncId} {xs : List V} {r r' : D} (h : PCall P f xs r) (k : LeD r r') : PCall P f xs r' :=
  ⟨h.fn, fun C w us hgl hl hrel => (h.out C w us hgl hl hrel).mono fun e w' ⟨u, he, hd, hb⟩ => ⟨u, he, hd.le k, hb⟩⟩
/-- A function out of its walk; the marks of its loops over functions are taken on its way out. -/
theorem calls_of_T {f : FuncId} {fn : Func} {c : Code} {us : Array Value} {G : Gh} {w : World} {B : Nat × Nat} {Q : Exit → St → Prop} {σ0 : St} {R : Ending → World → Prop} (hf : P.funcs[f]? = some fn) (hb : fn.body = some c) (h : T B P fn.ntmps c Q σ0)
    (hR : Rel fn.ntmps G σ0 { tmps := us ++ Array.replicate (fn.ntmps - us.size) undef, defers := [] } w)
    (hQ : ∀ e G' σ' a' w', Ex B G w G' w' → Rel fn.ntmps G' σ' a' w' → Q e σ' → (e = .normal ∨ e = .ret) ∧ ∃ v, (results fn a'.tmps).run P w' = .ok v w' ∧ R (.returned v) w') : Calls P f us w R := by
  refine callsIn_wide.1 (callsIn_of_wp_marks (F := Fence.wide) (n := 0) hf hb trivial (wpIn_mono (h.out none w.heap.size G _ w hR (.none rfl)) ?_))
  rintro e a' w' ⟨G', σ', hE, hR', hF', hq⟩
  have key : ∀ (Ds : List Nat) (w' : World), Ds.Nodup → Ex B G w G' w' → Rel fn.ntmps G' σ' a' w' → (∀ b ∈ Ds, w.heap.size ≤ b ∧ w'.heap[b]? = some (.deferred (some [])) ∧ b ∉ G'.name ∧ ∀ T ∈ G'.tok, ¬ T.has b) → LeavesInM Fence.wide 0 P fn a'.tmps R (Ds.map markOf) .returning w' := by
    intro Ds
    induction Ds with
    | nil => exact fun w' _ hE hR' _ => (hQ e G' σ' a' w' hE hR' hq).2
    | cons b Ds ih =>
      intro w' hnd hE hR' hD
      obtain ⟨d1, d2, d3, d4⟩ := hD b (by simp)
      have hnb : ¬ G'.has b := fun hh => hh.elim d3 fun ⟨T, hT, ht⟩ => d4 T hT ht
      have hk : Kept G'.has G'.com w' (w'.putObj b (.deferred none)) := putObj_kept _ d2 (noCells_def d2) hnb
      refine ⟨by simp, .inl ⟨b, _, rfl, run_takeDeferred d2, ih _ (List.nodup_cons.1 hnd).2 (hE.kept hk fun i hi => World.putObj_heap_other (by omega)) (hR'.kept hk) fun i hi => ?_⟩⟩
      obtain ⟨k1, k2, k3⟩ := hD i (by simp [hi])
      refine ⟨k1, ?_, k3⟩
      rw [World.putObj_heap_other (fun (e : i = b) => (List.nodup_cons.1 hnd).1 (e ▸ hi))]
      exact k2
  obtain ⟨Ds, m1, m2, m3⟩ := hF'.marks
  have hl := key Ds w' m2 hE hR' m3
  rw [← m1] at hl
  rcases (hQ e G' σ' a' w' hE hR' hq).1 with rfl | rfl
  · exact hl
  · exact hl
/-- A function out of its walk, what it hands back in other words. -/
theorem PCall.ofB (hm : P.follows .mixedOrders = true) (hT : TblOk P tb) {f : FuncId} {fn : Func} {c : Code} (lv : List (Nat × List Nat)) (hf : P.funcs[f]? = some fn) (hb : fn.body = some c) (hn : isFn P f = true) {args : List V} (hN : args.length ≤ fn.ntmps) {r : D}
    (h : bwp (0, 0) P tb fn.ntmps lv c (retQ tb fn.results.toList fun d => LeD d r) ⟨args0 args 0, ⟨[], []⟩⟩) : PCall P f args r := by
  refine ⟨hn, fun C w us hgl hl hrel => ?_⟩
  have hR : Rel fn.ntmps ⟨fun b o => C b o ∧ b < w.heap.size, [], []⟩ ⟨args0 args 0, ⟨[], []⟩⟩ { tmps := us ++ Array.replicate (fn.ntmps - us.size) undef, defers := [] } w := by
    refine ⟨⟨fun b o h => ⟨h.2, by simp, by simp⟩, rfl, by simp, fun i b cs h => by simp at h, rfl, fun t T b h => by simp at h, fun T h => by simp at h, hgl.mono fun b o u h1 h2 => ⟨⟨h1, cellLt h2⟩, h2⟩⟩, fun t d hd => ?_, by simp; omega⟩
    obtain ⟨x, h1, h2, rfl⟩ := args0_look args 0 t d hd
    have hlt : t < args.length := (List.getElem?_eq_some_iff.1 h1).1
    have hlt2 : t < us.size := by omega
    refine ⟨by simp; omega, .p x _ (DRel.lt ?_)⟩
    refine hrel t x _ h1 ?_
    simp only [Array.getD_eq_getD_getElem?, Array.getElem?_append_left hlt2, Array.getElem?_eq_getElem hlt2, Option.getD_some]
  refine calls_of_T hf hb (bwp_sound hm hT c _ _ h) hR fun e G' σ' a' w' hE hR' hq => ?_
  have key : ∀ (hq : resAll tb σ' fn.results.toList fun ds => match retD ds with | some d => LeD d r | none => False), ∃ v, (results fn a'.tmps).run P w' = .ok v w' ∧
      ∃ u, Ending.returned v = .returned u ∧ DRel ⟨fun b o => C b o ∨ w.heap.size ≤ b, [], []⟩ w' r u ∧ Below w.heap.size w w' := fun hq => by
    obtain ⟨ds, us', h1, h2, h3, h4⟩ := resAll_sound hT hR' _ _ hq
    split at h4
    · rename_i d hd
      obtain ⟨k1, k2⟩ := retD_rel h2 h3 hd
      refine ⟨if h : us'.toArray.size = 1 then us'.toArray[0] else .tuple us'.toArray, ?_, _, rfl, DRel.le ?_ h4, ⟨hE.ext.os, hE.ext.tape, hE.ext.output, hE.ext.size, fun k hk => hE.ext.old k hk (by simp) (by simp)⟩⟩
      · unfold results
        rw [Sem.run_bind, Array.mapM_eq_mapM_toList, Sem.run_map]
        erw [h1]
        rfl
      · have hcom : ∀ b o, G'.com b o → C b o ∨ w.heap.size ≤ b := fun b o hc => by
          rcases hE.ext.new b o hc with h | h | h | ⟨T, h, _⟩
          · exact .inl h.1
          · exact .inr h
          · simp at h
          · simp at h
        rcases k2 with ⟨x, rfl⟩ | ⟨xs, rfl⟩
        · generalize (if h : us'.toArray.size = 1 then us'.toArray[0] else Value.tuple us'.toArray) = q at k1
          cases k1 with
          | p _ _ k1 => exact .p _ _ (k1.mono (Nat.le_refl _) fun b o u h1 h2 => ⟨hcom b o h1, h2⟩)
        · generalize (if h : us'.toArray.size = 1 then us'.toArray[0] else Value.tuple us'.toArray) = q at k1
          cases k1 with
          | tup _ vs l1 l2 =>
            refine .tup _ _ l1 (fun j c u hc hu => ?_)
            have := l2 j c u hc hu
            rw [List.getElem?_map] at hc
            obtain ⟨x, -, rfl⟩ := Option.map_eq_some_iff.1 hc
            cases this with
            | p _ _ k1 => exact .p _ _ (k1.mono (Nat.le_refl _) fun b o u h1 h2 => ⟨hcom b o h1, h2⟩)
    · exact h4.elim
  cases e with
  | normal => exact ⟨.inl rfl, key hq⟩
  | ret => exact ⟨.inr rfl, key hq⟩
  | _ => exact hq.elim
theorem st_call {α R : Type} {x : Option α} {f : α → Option R} {r : R} {g : FuncId} (xs : List V) (t : α → D) {gn : Bool} {s : S} {K : D → S → Prop} (h : (x >>= f) = some r) (hok : ∀ y, x = some y → PCall P g xs (t y)) (k : ∀ y, x = some y → f y = some r → K (t y) s) :
    ∃ r s', CallC gn P g (xs.map .p) s r s' ∧ K r s' := st_bind h fun y hy hf => ⟨t y, s, (hok y hy).c, k y hy hf⟩
/-- A call that may turn variables. -/
theorem st_callc {α R : Type} {x : Option α} {f : α → Option R} {r : R} {g : FuncId} {args : List D} {s : S} (t : α → D) (s' : α → S) {K : D → S → Prop} (h : (x >>= f) = some r) (hok : ∀ y, x = some y → CallOK P g args s (t y) (s' y)) (k : ∀ y, x = some y → f y = some r → K (t y) (s' y)) :
    ∃ r s', CallC true P g args s r s' ∧ K r s' := st_bind h fun y hy hf => ⟨t y, s' y, (hok y hy).g, k y hy hf⟩
def selOk (m n : Nat) (J : List Nat) : Bool := nodupB J && J.all (Nat.blt · n) && (J.take m == List.range m)
theorem range_get {n i : Nat} (h : i < n) : (List.range n)[i]? = some i := List.getElem?_range h
theorem map_range {α : Type} (A B : List α) (d : α) : (List.range A.length).map ((A ++ B).getD · d) = A := by
  apply List.ext_getElem?
  intro i
  rw [List.getElem?_map]
  by_cases h : i < A.length
  · rw [range_get h]
    simp [List.getD, List.getElem?_append_left h, h]
  · rw [List.getElem?_eq_none (by simpa using Nat.le_of_not_lt h), List.getElem?_eq_none (Nat.le_of_not_lt h)]; rfl
theorem sel_stp {G G' : Gh} {w w' : World} {n m : Nat} {J : List Nat} (hE : Ex (n, m) G w G' w') (hn : G.name.length = n) (hm : G.tok.length = m) (hn' : n ≤ G'.name.length) (hJ : ∀ j ∈ J, j < G'.tok.length) (hid : J.take m = List.range m) : Stp G w (G'.sub (List.range n) J) w' := by
  have hI : ∀ i ∈ List.range n, i < G'.name.length := fun i hi => by have := List.mem_range.1 hi; omega
  refine ⟨⟨hE.ext.os, hE.ext.tape, hE.ext.output, hE.ext.size, hE.ext.com, hE.ext.old, hE.ext.new, fun b hb => ?_, hE.ext.mono, hE.ext.shp⟩, fun nm b hb => ?_, fun t T ht => ?_⟩
  · rcases hb with hb | ⟨T, hT, hb⟩
    · exact hE.ext.mine b (.inl (mem_sub hI hb))
    · exact hE.ext.mine b (.inr ⟨T, mem_sub hJ hT, hb⟩)
  · have hl : nm < n := by rw [← hn]; exact (List.getElem?_eq_some_iff.1 hb).1
    rw [sub_name (range_get hl) (by omega)]
    exact hE.name nm b hl hb
  · have hl : t < m := by rw [← hm]; exact (List.getElem?_eq_some_iff.1 ht).1
    obtain ⟨T', h1, h2⟩ := hE.tok t T hl ht
    have hJt : J[t]? = some t := by
      have := congrArg (·[t]?) hid
      simp only [List.getElem?_take, if_pos hl, range_get hl] at this
      exact this
    exact ⟨T', by rw [sub_tok hJt (hJ t (List.mem_of_getElem? hJt))]; exact h1, h2⟩
/-- What a function that is handed variables ends with. -/
structure EndR (n m : Nat) (s' : S) (r d : D) (t : S) : Prop where
  ex : ∃ J, selOk m t.live.length J = true ∧ LeD d (r.ren (List.range n) J) ∧ LeH (t.heap.take n) (s'.heap.map fun cs => cs.map (D.ren (List.range n) J)) ∧ J.map (t.live.getD · 0) = s'.live
/-- A function that is handed variables, out of its walk. -/
theorem CallOK.ofB (hm : P.follows .mixedOrders = true) (hT : TblOk P tb) {f : FuncId} {fn : Func} {c : Code} (lv : List (Nat × List Nat)) (hf : P.funcs[f]? = some fn) (hb : fn.body = some c) (hn : isFn P f = true) {args : List D} (hN : args.length ≤ fn.ntmps) {s s' : S} {r : D}
    (hr : r.lt s.heap.length s'.live.length = true) (hs : s'.heap.all (fun cs => cs.all (D.lt s.heap.length s'.live.length)) = true)
    (hn' : s'.heap.length = s.heap.length)
    (h : bwp (s.heap.length, s.live.length) P tb fn.ntmps lv c (fun e σ => ∃ τ, Le (s.heap.length, s.live.length) fn.ntmps σ τ ∧ retR tb fn.results.toList (EndR s.heap.length s.live.length s' r) e τ) ⟨argsD args 0, s⟩) : CallOK P f args s r s' := by
  refine ⟨hn, fun G w us hI hl hrel => ?_⟩
  have hR : Rel fn.ntmps G ⟨argsD args 0, s⟩ { tmps := us ++ Array.replicate (fn.ntmps - us.size) undef, defers := [] } w := by
    refine ⟨hI, fun t d hd => ?_, by simp; omega⟩
    obtain ⟨h1, h2⟩ := argsD_look args 0 t d hd
    have hlt : t < args.length := (List.getElem?_eq_some_iff.1 h1).1
    have hlt2 : t < us.size := by omega
    refine ⟨by simp; omega, ?_⟩
    refine hrel t d _ h1 ?_
    simp only [Array.getD_eq_getD_getElem?, Array.getElem?_append_left hlt2, Array.getElem?_eq_getElem hlt2, Option.getD_some]
  have hln : G.name.length = s.heap.length := hI.names
  have hlt : G.tok.length = s.live.length := by rw [← hI.live]; simp
  refine calls_of_T hf hb (T_up (bwp_sound hm hT c _ _ h) fun e σ' hq => hq) hR fun e G' σ' a' w' hE hR' hq => ?_
  have key : ∀ (hq : resAll tb σ' fn.results.toList fun ds => EndR s.heap.length s.live.length s' r (retE ds) σ'.s), ∃ v, (results fn a'.tmps).run P w' = .ok v w' ∧
      ∃ u G', Ending.returned v = .returned u ∧ Stp G w G' w' ∧ Inv G' s' w' ∧ DRel G' w' r u := fun hq => by
    obtain ⟨ds, us', h1, h2, h3, ⟨J, hJ0, h4, h5, h6⟩⟩ := resAll_sound hT hR' _ _ hq
    unfold selOk at hJ0
    simp only [Bool.and_eq_true] at hJ0
    obtain ⟨⟨hJ1, hJ2⟩, hJ3⟩ := hJ0
    have nJ := nodupB_spec J hJ1
    have bJ := all_blt hJ2
    have lT : G'.tok.length = σ'.s.live.length := by have := congrArg List.length hR'.inv.live; simpa using this
    have hd := (retE_rel h2 h3).le h4
    have h7 := LeH.app h5 (LeH.refl (σ'.s.heap.drop s.heap.length))
    rw [List.take_append_drop] at h7
    have hinv1 := Inv.le (h := σ'.s.heap) (live := σ'.s.live) hR'.inv h7
    have hlen : (s'.heap.map fun cs => cs.map (D.ren (List.range s.heap.length) J)).length = s.heap.length := by rw [List.length_map]; exact hn'
    have hlJ : J.length = s'.live.length := by rw [← h6]; simp
    have hnl : s.heap.length ≤ G'.name.length := by rw [hinv1.names]; simp only [List.length_append, hlen]; omega
    have hinv2 : Inv (G'.sub (List.range s.heap.length) J) ⟨s'.heap, s'.live⟩ w' := hinv1.sub (I := List.range s.heap.length) (J := J) List.nodup_range nJ (fun i hi => by have := List.mem_range.1 hi; simp only [List.length_append, hlen]; omega) bJ (by
      have := map_range (s'.heap.map fun cs => cs.map (D.ren (List.range s.heap.length) J)) (σ'.s.heap.drop s.heap.length) []
      rw [hlen] at this
      exact this) h6 (by rw [List.length_range, hlJ]; exact hs)
    have hst : Stp G w (G'.sub (List.range s.heap.length) J) w' := sel_stp hE hln hlt hnl (fun j hj => by rw [lT]; exact bJ j hj) (by simpa using hJ3)
    refine ⟨if h : us'.toArray.size = 1 then us'.toArray[0] else .tuple us'.toArray, ?_, _, _, rfl, hst, hinv2, ren_sub (fun i hi => by have := List.mem_range.1 hi; omega) (fun j hj => by rw [lT]; exact bJ j hj) (by rw [List.length_range, hlJ]; exact hr) hd⟩
    unfold results
    rw [Sem.run_bind, Array.mapM_eq_mapM_toList, Sem.run_map]
    erw [h1]
    rfl
  cases e with
  | normal => exact ⟨.inl rfl, key hq⟩
  | ret => exact ⟨.inr rfl, key hq⟩
  | _ => exact hq.elim
theorem st_retc {α : Type} {x y : α} {d : D} {u : S} {n m : Nat} {t : α → D} {ss : α → S} (h : some x = some y) (k : EndR n m (ss x) (t x) d u) : EndR n m (ss y) (t y) d u := by cases h; exact k
theorem st_ret {α : Type} {x y : α} {d : D} {t : α → D} (h : some x = some y) (k : LeD d (t x)) : LeD d (t y) := by cases h; exact k
end
section
variable {P : Program} {tb : Tbl}
/-- A variable that no one turns any more, as data. -/
def pubC (heap : List (List D)) : D → Option V
  | .ptr nm off => match heap[nm]? with
    | some cs => (unps cs).map fun vs => .ep (vs.drop off)
    | none => none
  | d => unp d
def pubL (heap : List (List D)) : List D → Option (List V)
  | [] => some []
  | d :: r => match pubC heap d, pubL heap r with
    | some x, some y => some (x :: y)
    | _, _ => none
def pubD (heap : List (List D)) : D → Option D
  | .fn f [] cap => (pubL heap cap).map fun vs => .fn f [] (vs.map .p)
  | .agg cs => (pubL heap cs).map fun vs => .p (.agg vs)
  | d => (pubC heap d).map .p
def pubR (heap : List (List D)) : List D → Option D
  | [d] => pubD heap d
  | ds => (pubL heap ds).map fun xs => .tup (xs.map .p)
theorem noMap_unps : ∀ {cs : List D} {vs : List V}, unps cs = some vs → noMap cs = true
  | [], _, _ => rfl
  | d :: r, vs, h => by
    unfold unps at h
    split at h
    · rename_i x y hx hy
      have ih := noMap_unps hy
      cases d with
      | p x => exact ih
      | own t e s es => exact ih
      | _ => cases hx
    · cases h
theorem pubC_rel {G : Gh} {s : S} {w : World} (hI : Inv G s w) {d : D} {x : V} {u : Value} (h : DRel G w d u) (hd : pubC s.heap d = some x) : VRel (fun b o => G.com b o ∨ b ∈ G.name) w x u := by
  have up : ∀ {y : V} {v : Value}, VRel G.com w y v → VRel (fun b o => G.com b o ∨ b ∈ G.name) w y v := fun h => h.mono (Nat.le_refl _) fun b o u h1 h2 => ⟨.inl h1, h2⟩
  unfold pubC at hd
  split at hd
  · rename_i nm off
    cases h with
    | ptr _ _ b hb =>
      split at hd
      · rename_i cs hcs
        obtain ⟨vs, hv, rfl⟩ := Option.map_eq_some_iff.1 hd
        obtain ⟨us, ty, h1, h2, h3⟩ := (hI.var nm b cs hb hcs).row (noMap_unps hv)
        obtain ⟨l1, l2⟩ := unps_rel (G := G) (w := w) cs vs hv
        refine .ep _ b off (fun k => us.getD (off + k) undef) (fun k c hk => ?_) (fun k c hk => ?_)
        all_goals
          rw [List.getElem?_drop] at hk
          obtain ⟨d, hd, hx⟩ := l2 _ c hk
          have hlt : off + k < us.size := by rw [h2]; exact (List.getElem?_eq_some_iff.1 hd).1
          obtain ⟨g1, g2⟩ := h3 _ d us[off + k] hd (Array.getElem?_eq_getElem hlt)
          have hg : us.getD (off + k) undef = us[off + k] := by simp [Array.getD_eq_getD_getElem?, hlt]
        · refine ⟨.inr (List.mem_of_getElem? hb), ?_, by rw [hg]; exact g1⟩
          rw [cell_of_row w b _ us ty (0, 0) h1, hg]
          exact Array.getElem?_eq_getElem hlt
        · show VRel _ w c (us.getD (off + k) undef)
          rw [hg]; exact up (unp_rel g2 hx)
      · cases hd
  · exact up (unp_rel h hd)
theorem pubL_rel {G : Gh} {s : S} {w : World} (hI : Inv G s w) : ∀ (ds : List D) (xs : List V), pubL s.heap ds = some xs → xs.length = ds.length ∧ ∀ (j : Nat) x, xs[j]? = some x → ∃ d, ds[j]? = some d ∧ pubC s.heap d = some x
  | [], xs, h => by simp [pubL] at h; subst h; exact ⟨rfl, fun j x hx => by simp at hx⟩
  | d :: r, xs, h => by
    unfold pubL at h
    split at h
    · rename_i x y hx hy
      cases h
      obtain ⟨h1, h2⟩ := pubL_rel hI r y hy
      refine ⟨by simp [h1], fun j z hz => ?_⟩
      cases j with
      | zero => simp at hz; subst hz; exact ⟨d, rfl, hx⟩
      | succ j => exact h2 j z hz
    · cases h
theorem pubD_rel {G : Gh} {s : S} {w : World} (hI : Inv G s w) {d d' : D} {u : Value} (h : DRel G w d u) (hd : pubD s.heap d = some d') : DRel ⟨fun b o => G.com b o ∨ b ∈ G.name, [], []⟩ w d' u := by
  unfold pubD at hd
  split at hd
  · rename_i f cap
    obtain ⟨vs, hv, rfl⟩ := Option.map_eq_some_iff.1 hd
    obtain ⟨l1, l2⟩ := pubL_rel hI cap vs hv
    cases h with
    | fn _ _ _ us ws k1 k2 k3 k4 =>
      refine .fn f [] _ us ws k1 (by simp [l1, k2]) (fun j c u hc => by simp at hc) (fun j c u hc hu => ?_)
      rw [List.getElem?_map] at hc
      obtain ⟨x, hx, rfl⟩ := Option.map_eq_some_iff.1 hc
      obtain ⟨d, hd, hp⟩ := l2 j x hx
      exact .p _ _ (pubC_rel hI (k4 j d u hd hu) hp)
  · rename_i cs
    obtain ⟨vs, hv, rfl⟩ := Option.map_eq_some_iff.1 hd
    obtain ⟨l1, l2⟩ := pubL_rel hI cs vs hv
    cases h with
    | agg _ us k1 k2 k3 =>
      refine .p _ _ (.agg _ us (by rw [l1, k1]) (fun j c u hc hu => ?_) (fun j c u hc hu => ?_))
      · obtain ⟨d, hd, -⟩ := l2 j c hc
        exact k2 j d u hd hu
      · obtain ⟨d, hd, hp⟩ := l2 j c hc
        exact pubC_rel hI (k3 j d u hd hu) hp
  · obtain ⟨x, hx, rfl⟩ := Option.map_eq_some_iff.1 hd
    exact .p _ _ (pubC_rel hI h hx)
theorem pubR_rel {G : Gh} {s : S} {w : World} (hI : Inv G s w) {ds : List D} {us : List Value} (hl : us.length = ds.length) (h : ∀ (j : Nat) d u, ds[j]? = some d → us[j]? = some u → DRel G w d u) {r : D} (hr : pubR s.heap ds = some r) :
    DRel ⟨fun b o => G.com b o ∨ b ∈ G.name, [], []⟩ w r (if h : us.toArray.size = 1 then us.toArray[0] else .tuple us.toArray) := by
  unfold pubR at hr
  split at hr
  · rename_i d
    match us, hl with
    | [u], _ => exact pubD_rel hI (h 0 d u rfl rfl) hr
  · rename_i hne
    obtain ⟨xs, hx, rfl⟩ := Option.map_eq_some_iff.1 hr
    obtain ⟨u1, u2⟩ := pubL_rel hI ds xs hx
    have hsz : ¬ us.toArray.size = 1 := by
      simp only [List.size_toArray, hl]
      intro h1
      match ds, h1 with
      | [d], _ => exact hne d rfl
    rw [dif_neg hsz]
    refine .tup _ _ (by simp [u1, hl]) (fun j c u hc hu => ?_)
    rw [List.getElem?_map] at hc
    obtain ⟨x, hx', rfl⟩ := Option.map_eq_some_iff.1 hc
    obtain ⟨d, hd, hxd⟩ := u2 j x hx'
    exact .p _ _ (pubC_rel hI (h j d u hd (by simpa using hu)) hxd)
def retM (tb : Tbl) (rs : List ResultVar) (R : D → Prop) (e : Exit) (σ : St) : Prop :=
  match e with
  | .normal => resAll tb σ rs fun ds => match pubR σ.s.heap ds with | some d => R d | none => False
  | .ret => resAll tb σ rs fun ds => match pubR σ.s.heap ds with | some d => R d | none => False
  | _ => False
/-- A function that hands back what points into its own variables: they are turned no more. -/
theorem PCall.ofM (hm : P.follows .mixedOrders = true) (hT : TblOk P tb) {f : FuncId} {fn : Func} {c : Code} (lv : List (Nat × List Nat)) (hf : P.funcs[f]? = some fn) (hb : fn.body = some c) (hn : isFn P f = true) {args : List V} (hN : args.length ≤ fn.ntmps) {r : D}
    (h : bwp (0, 0) P tb fn.ntmps lv c (retM tb fn.results.toList fun d => LeD d r) ⟨args0 args 0, ⟨[], []⟩⟩) : PCall P f args r := by
  refine ⟨hn, fun C w us hgl hl hrel => ?_⟩
  have hR : Rel fn.ntmps ⟨fun b o => C b o ∧ b < w.heap.size, [], []⟩ ⟨args0 args 0, ⟨[], []⟩⟩ { tmps := us ++ Array.replicate (fn.ntmps - us.size) undef, defers := [] } w := by
    refine ⟨⟨fun b o h => ⟨h.2, by simp, by simp⟩, rfl, by simp, fun i b cs h => by simp at h, rfl, fun t T b h => by simp at h, fun T h => by simp at h, hgl.mono fun b o u h1 h2 => ⟨⟨h1, cellLt h2⟩, h2⟩⟩, fun t d hd => ?_, by simp; omega⟩
    obtain ⟨x, h1, h2, rfl⟩ := args0_look args 0 t d hd
    have hlt : t < args.length := (List.getElem?_eq_some_iff.1 h1).1
    have hlt2 : t < us.size := by omega
    refine ⟨by simp; omega, .p x _ (DRel.lt ?_)⟩
    refine hrel t x _ h1 ?_
    simp only [Array.getD_eq_getD_getElem?, Array.getElem?_append_left hlt2, Array.getElem?_eq_getElem hlt2, Option.getD_some]
  refine calls_of_T hf hb (bwp_sound hm hT c _ _ h) hR fun e G' σ' a' w' hE hR' hq => ?_
  have key : ∀ (hq : resAll tb σ' fn.results.toList fun ds => match pubR σ'.s.heap ds with | some d => LeD d r | none => False), ∃ v, (results fn a'.tmps).run P w' = .ok v w' ∧
      ∃ u, Ending.returned v = .returned u ∧ DRel ⟨fun b o => C b o ∨ w.heap.size ≤ b, [], []⟩ w' r u ∧ Below w.heap.size w w' := fun hq => by
    obtain ⟨ds, us', h1, h2, h3, h4⟩ := resAll_sound hT hR' _ _ hq
    split at h4
    · rename_i d hd
      refine ⟨if h : us'.toArray.size = 1 then us'.toArray[0] else .tuple us'.toArray, ?_, _, rfl, DRel.le (DRel.weak (pubR_rel hR'.inv h2 h3 hd) fun b o hc => ?_) h4, ⟨hE.ext.os, hE.ext.tape, hE.ext.output, hE.ext.size, fun k hk => hE.ext.old k hk (by simp) (by simp)⟩⟩
      · unfold results
        rw [Sem.run_bind, Array.mapM_eq_mapM_toList, Sem.run_map]
        erw [h1]
        rfl
      · rcases hc with hc | hc
        · rcases hE.ext.new b o hc with h | h | h | ⟨T, h, _⟩
          · exact .inl h.1
          · exact .inr h
          · simp at h
          · simp at h
        · rcases hE.ext.mine b (.inl hc) with h | h | ⟨T, h, _⟩
          · exact .inr h
          · simp at h
          · simp at h
    · exact h4.elim
  cases e with
  | normal => exact ⟨.inl rfl, key hq⟩
  | ret => exact ⟨.inr rfl, key hq⟩
  | _ => exact hq.elim
/-- How an iterator ends: all is handed over; or the loop has said no. -/
def IEnd (N : Nat) (xs : List (List V)) (e : Exit) (σ : St) : Prop :=
  ((e = .normal ∨ e = .ret) ∧ Le (0, 1) N σ ⟨[], ⟨[], [xs.length]⟩⟩) ∨ ((e = .normal ∨ e = .ret) ∧ Le (0, 1) N σ ⟨[], ⟨[], [xs.length + 1]⟩⟩)
/-- An iterator, out of its walk. -/
theorem IterOK.ofB (hm : P.follows .mixedOrders = true) (hT : TblOk P tb) {f : FuncId} {fn : Func} {c : Code} (lv : List (Nat × List Nat)) (hf : P.funcs[f]? = some fn) (hb : fn.body = some c) (hn : isFn P f = true) {cap : List V} {xs : List (List V)} (hN : cap.length + 1 ≤ fn.ntmps)
    (hres : fn.results.toList = []) (h : bwp (0, 1) P tb fn.ntmps lv c (fun e σ => ∃ τ, Le (0, 1) fn.ntmps σ τ ∧ IEnd fn.ntmps xs e τ) ⟨argsD (.yld P 0 xs :: cap.map .p) 0, ⟨[], [0]⟩⟩) : IterOK P f cap xs := by
  refine ⟨hn, fun G w us hI hl hrel => ?_⟩
  have hlen : (D.yld P 0 xs :: cap.map .p).length = cap.length + 1 := by simp
  have hR : Rel fn.ntmps G ⟨argsD (.yld P 0 xs :: cap.map .p) 0, ⟨[], [0]⟩⟩ { tmps := us ++ Array.replicate (fn.ntmps - us.size) undef, defers := [] } w := by
    refine ⟨hI, fun t d hd => ?_, by simp; omega⟩
    obtain ⟨h1, h2⟩ := argsD_look _ 0 t d hd
    have hlt : t < (D.yld P 0 xs :: cap.map .p).length := (List.getElem?_eq_some_iff.1 h1).1
    have hlt2 : t < us.size := by omega
    refine ⟨by simp; omega, ?_⟩
    refine hrel t d _ h1 ?_
    simp only [Array.getD_eq_getD_getElem?, Array.getElem?_append_left hlt2, Array.getElem?_eq_getElem hlt2, Option.getD_some]
  refine calls_of_T hf hb (T_up (bwp_sound hm hT c _ _ h) fun e σ' hq => hq) hR fun e G' σ' a' w' hE hR' hq => ?_
  have hnm : G.name.length ≤ 0 := by rw [hI.names]; exact Nat.le_refl _
  have htk : G.tok.length ≤ 1 := by have := congrArg List.length hI.live; simp at this; omega
  have hrun : ∃ v, (results fn a'.tmps).run P w' = .ok v w' ∧ ∀ G, DRel G w' (.tup []) v := by
    have e1 : fn.results = #[] := by rw [← Array.toArray_toList (xs := fn.results), hres]
    refine ⟨.tuple #[], ?_, fun G => .tup [] #[] rfl fun j c u hc => by simp at hc⟩
    unfold results
    rw [e1]
    simp
  obtain ⟨v, hv, hvr⟩ := hrun
  rcases hq with ⟨he, hle⟩ | ⟨he, hle⟩
  · obtain ⟨G2, e2, r2⟩ := hle.out G' a' w' hR'
    exact ⟨he, v, hv, v, G2, .tup [], _, rfl, (hE.trans e2).stp hnm htk, r2.inv, hvr _, .inl rfl⟩
  · obtain ⟨G2, e2, r2⟩ := hle.out G' a' w' hR'
    exact ⟨he, v, hv, v, G2, .tup [], _, rfl, (hE.trans e2).stp hnm htk, r2.inv, hvr _, .inr rfl⟩
end
@[reducible] def wr (n : Int) : Int := IntKind.i64.wrap n
def nV (k : IntKind) (n : Int) : V := .v (.int k n)
def cNum (k : IntKind) (n : Int) : List V := [nV k n]
def cStr (l : List UInt8) : List V := [sV l]
end Go.Proofs.YtagokkpnfceidaaDoor
end

section
set_option linter.unusedVariables false
namespace Go.Proofs.YtagokkpnfceidaaDoor
open Go.RowKit
theorem RelL.of_le {xs ys : List V} (h : LeL xs ys) : RelL xs ys := fun C w us hu hr => ⟨hu.trans h.1, fun j y u hy hu => by
  obtain ⟨x, hx⟩ := getLen h.1 hy
  exact (hr j x u hx hu).le (h.2 j x y hx hy)⟩
/-- Bytes as a string. -/
def b2s (l : List Int) : Option (List UInt8) := if l.all (fun n => decide (0 ≤ n ∧ n ≤ 255)) = true then some (l.map fun n => UInt8.ofNat n.toNat) else none
theorem st_b2s {R : Type} {l : List Int} {f : List UInt8 → Option R} {r : R} {lv : List Nat} {K : D → List Nat → Prop} (h : (b2s l >>= f) = some r) (k : ∀ m, b2s l = some m → f m = some r → K (.p (.v (strOf m))) lv) :
    ∃ m : List UInt8, l.map (cNum .u8) = m.map byteV ∧ ∃ d' live, LeD (.p (.v (strOf m))) d' ∧ live = lv ∧ K d' live := by
  refine st_bind h fun m hm hf => ?_
  have hk := k m hm hf
  refine ⟨m, ?_, _, _, .refl _, rfl, hk⟩
  unfold b2s at hm
  split at hm
  · rename_i hl
    cases hm
    rw [List.map_map]
    refine List.map_congr_left fun n hn => ?_
    have := List.all_eq_true.1 hl n hn
    simp only [decide_eq_true_eq] at this
    obtain ⟨N, rfl⟩ : ∃ N : Nat, n = (N : Int) := ⟨n.toNat, by omega⟩
    have hN : N ≤ 255 := by omega
    simp only [Function.comp, cNum, nV, byteV, Int.toNat_natCast, UInt8.toNat_ofNat']
    rw [Nat.mod_eq_of_lt (by omega)]
  · cases hm
/-- A string's bytes as numbers. -/
def s2b (l : List UInt8) : List Int := l.map fun x => (x.toNat : Int)
theorem s2b_cells (a : List Int) (b : List UInt8) : a.map (cNum .u8) ++ b.map byteV = (a ++ s2b b).map (cNum .u8) := by
  rw [List.map_append]
  unfold s2b
  rw [List.map_map]
  rfl
theorem st_appso {R : Type} {bytes : Nat} {a : List Int} {b : List UInt8} {sz tk e : Nat} {f : List Int → Option R} {r : R} {lv : List Nat} {K : D → List Nat → Prop} (h : (appL bytes a (s2b b) >>= f) = some r) (hl : lv[tk]? = some (a.map (cNum .u8)).length)
    (k : ∀ o, appL bytes a (s2b b) = some o → f o = some r → K (.own tk e sz (o.map (cNum .u8))) (lv.set tk (o.map (cNum .u8)).length)) :
    lv[tk]? = some (a.map (cNum .u8)).length ∧ (((a.map (cNum .u8)).length + b.length) * bytes ≤ 140737488355328 ∧ (a.map (cNum .u8)).length + b.length ≤ 9223372036854775807) ∧
      ∃ d' live, LeD (.own tk e sz (a.map (cNum .u8) ++ b.map byteV)) d' ∧ live = lv.set tk (a.map (cNum .u8) ++ b.map byteV).length ∧ K d' live := by
  refine st_bind h fun o ho hf => ?_
  have hk := k o ho hf
  unfold appL at ho
  split at ho
  · rename_i hc
    cases ho
    rw [s2b_cells, List.length_map]
    simp only [s2b, List.length_map] at hc
    exact ⟨by rw [List.length_map] at hl; exact hl, hc, _, _, .refl _, rfl, hk⟩
  · cases ho
theorem st_appsf {R : Type} {bytes : Nat} {a : List Int} {b : List UInt8} {e : Nat} {f : List Int → Option R} {r : R} {lv : List Nat} {K : D → List Nat → Prop} (h : (appL bytes a (s2b b) >>= f) = some r) (hcl : a.length = 0 ∨ 0 < b.length)
    (k : ∀ o, appL bytes a (s2b b) = some o → f o = some r → K (.own lv.length e 1 (o.map (cNum .u8))) (lv ++ [(o.map (cNum .u8)).length])) :
    ((a.map (cNum .u8)).length = 0 ∨ 0 < b.length) ∧ (∀ x ∈ a.map (cNum .u8), x.length = 1) ∧ (((a.map (cNum .u8)).length + b.length) * bytes ≤ 140737488355328 ∧ (a.map (cNum .u8)).length + b.length ≤ 9223372036854775807) ∧
      ∃ d' live, LeD (.own lv.length e 1 (a.map (cNum .u8) ++ b.map byteV)) d' ∧ live = lv ++ [(a.map (cNum .u8) ++ b.map byteV).length] ∧ K d' live := by
  refine st_bind h fun o ho hf => ?_
  have hk := k o ho hf
  unfold appL at ho
  split at ho
  · rename_i hc
    cases ho
    rw [s2b_cells, List.length_map]
    simp only [s2b, List.length_map] at hc
    refine ⟨hcl, fun x hx => ?_, hc, _, _, .refl _, rfl, hk⟩
    obtain ⟨z, -, rfl⟩ := List.mem_map.1 hx
    rfl
  · cases ho
def rgP : Code → List Nat
  | .rangeFunc _ ps _ _ => ps.toList
  | _ => []
def rgA : Code → Code
  | .rangeFunc _ _ a _ => a
  | _ => .skip
def rgB : Code → Code
  | .rangeFunc _ _ _ b => b
  | _ => .skip
section
variable {P : Program}
theorem rl_cons {k m N : Nat} {ps : List Nat} {asn body : Code} {env : Env} {Q : Exit → St → Prop} {α : Type} {c : α → List V} {x : α} {r : List α} {s : S}
    (h : T (k, m) P N asn (fun e σ1 => e = .normal ∧ T (k, m) P N body (fun e σ2 => ∃ s', Le (k, m) N ⟨[], σ2.s⟩ ⟨[], s'⟩ ∧ s'.heap.length = k ∧ s'.live.length = m ∧
      match e with
      | .normal => RL k m P N ps asn body env Q (r.map c) s'
      | .ret => Q .ret ⟨env, s'⟩
      | .exit i => Q (.exit i) ⟨env, s'⟩
      | _ => False) σ1) ⟨putP ps (c x) env, s⟩) : RL k m P N ps asn body env Q ((x :: r).map c) s := h
theorem rl_nil {k m N : Nat} {ps : List Nat} {asn body : Code} {env : Env} {Q : Exit → St → Prop} {α : Type} {c : α → List V} {s : S} (h : Q .normal ⟨env, s⟩) : RL k m P N ps asn body env Q (([] : List α).map c) s := h
/-- The loop has said no. -/
def Stop (B : Nat × Nat) (N : Nat) (xs : List (List V)) (σ : St) : Prop := ∃ s', Le B N σ ⟨[], s'⟩ ∧ s'.heap.length = B.1 ∧ s'.live.length = B.2 ∧ s'.live[0]? = some (xs.length + 1)
def Qs (B : Nat × Nat) (N : Nat) (xs : List (List V)) (J : Exit → St → Prop) (e : Exit) (σ : St) : Prop := J e σ ∨ (e = .ret ∧ Stop B N xs σ)
theorem env0 {B : Nat × Nat} {N : Nat} {env : Env} {s : S} : Le B N ⟨env, s⟩ ⟨[], s⟩ := ⟨fun G a w hR => ⟨G, .refl B G w, ⟨hR.inv, fun t d h => by simp at h, hR.size⟩⟩⟩
theorem le01 {N : Nat} {σ : St} {n : Nat} (h : σ.s.live[0]? = some n) : Le (0, 1) N σ ⟨[], ⟨[], [n]⟩⟩ := by
  obtain ⟨env, s⟩ := σ
  refine env0.trans (Le.tow 0 1 rfl .nil .nil ?_ (Nat.le_refl _) (Nat.le_refl _) rfl)
  cases hs : s.live with
  | nil => simp [hs] at h
  | cons a l => simp [hs] at h; simp [h]
theorem st_istop {N : Nat} {xs : List (List V)} {e : Exit} {σ : St} (he : e = .normal ∨ e = .ret) (h : σ.s.live[0]? = some (xs.length + 1)) : ∃ τ, Le (0, 1) N σ τ ∧ IEnd N xs e τ := ⟨_, le01 h, .inr ⟨he, .refl _ _ _⟩⟩
theorem st_iend {α O : Type} {c : α → List V} {N : Nat} {xs pre : List (List V)} {e : Exit} {σ : St} {l : List α} {y o2 : O} (h : some ([], y) = some (l, o2)) (hx : xs = pre ++ (l.map c ++ [])) (he : e = .normal ∨ e = .ret) (hl : σ.s.live[0]? = some pre.length) : ∃ τ, Le (0, 1) N σ τ ∧ IEnd N xs e τ := by
  cases h
  have : xs.length = pre.length := by rw [hx]; simp
  refine ⟨_, le01 hl, .inl ⟨he, ?_⟩⟩
  rw [this]
  exact .refl _ _ _
theorem sndI {α O : Type} {l : List α} {y o2 : O} (h : some (([] : List α), y) = some (l, o2)) : some y = some o2 := by cases h; rfl
theorem liveQ {α O : Type} {c : α → List V} {xs pre gq post : List (List V)} {l : List α} {y o2 : O} {L L' : List Nat} (h : some ([], y) = some (l, o2)) (hx : xs = pre ++ (l.map c ++ post)) (hq : xs = gq ++ post) (hl : L = pre.length :: L') : L = gq.length :: L' := by
  cases h
  have e1 : xs.length = pre.length + post.length := by rw [hx]; simp
  have e2 : xs.length = gq.length + post.length := by rw [hq]; simp
  rw [hl, show pre.length = gq.length by omega]
theorem joinS {B : Nat × Nat} {N : Nat} {xs : List (List V)} {J G : Exit → St → Prop} (k : ∀ e σ, J e σ → ∃ τ, Le B N σ τ ∧ G e τ) (s : ∀ s' : S, s'.heap.length = B.1 → s'.live.length = B.2 → s'.live[0]? = some (xs.length + 1) → G .ret ⟨[], s'⟩) : ∀ e σ, Qs B N xs J e σ → ∃ τ, Le B N σ τ ∧ G e τ := fun e σ h => by
  rcases h with h | ⟨rfl, s', h1, h2, h3, h4⟩
  · exact k e σ h
  · exact ⟨_, h1, s s' h2 h3 h4⟩
theorem st_yld {α O : Type} {c : α → List V} {xs pre post : List (List V)} {x : α} {m : Option (List α × O)} {l : List α} {o2 : O} {t : Nat} {ds : List D} {vs : List V} {s : S} {K : D → S → Prop}
    (h : (m >>= fun q => some (x :: q.1, q.2)) = some (l, o2)) (hx : xs = pre ++ (l.map c ++ post)) (hl : LeL vs (c x)) (hu : unps ds = some vs) (hlive : s.live[t]? = some pre.length)
    (k1 : ∀ l', m = some (l', o2) → xs = (pre ++ [c x]) ++ (l'.map c ++ post) → K (.p (.v (.bool true))) ⟨s.heap, s.live.set t (pre ++ [c x]).length⟩) (k2 : K (.p (.v (.bool false))) ⟨s.heap, s.live.set t (xs.length + 1)⟩) :
    true = true ∧ P = P ∧ aYield t xs ds s K := by
  obtain ⟨q, hm, hq⟩ := Option.bind_eq_some_iff.1 h
  cases hq
  have e : xs = (pre ++ [c x]) ++ (q.1.map c ++ post) := by rw [hx]; simp
  refine ⟨rfl, rfl, pre.length, c x, vs, hlive, ?_, hu, .of_le hl, ?_, k2⟩
  · rw [hx]; simp
  · have := k1 q.1 hm e
    rw [List.length_append] at this
    exact this
theorem st_bindI {α O R : Type} {c : α → List V} {xs pre post : List (List V)} {m : Option (List α × O)} {f : List α × O → Option (List α × R)} {l : List α} {o2 : R} {φ : Prop}
    (h : (m >>= fun o => f o >>= fun q => some (o.1 ++ q.1, q.2)) = some (l, o2)) (hx : xs = pre ++ (l.map c ++ post))
    (k : ∀ o l2 gq, m = some o → f o = some (l2, o2) → xs = pre ++ (o.1.map c ++ (l2.map c ++ post)) → xs = gq ++ (l2.map c ++ post) → φ) : φ := by
  obtain ⟨o, ho, hf⟩ := Option.bind_eq_some_iff.1 h
  obtain ⟨q, hq, he⟩ := Option.bind_eq_some_iff.1 hf
  cases he
  exact k o q.1 (pre ++ o.1.map c) ho hq (by rw [hx]; simp) (by rw [hx]; simp)
/-- All slots forgotten. -/
theorem Le.env0 {B : Nat × Nat} {N : Nat} (σ : St) : Le B N σ ⟨[], σ.s⟩ := ⟨fun G _ w hR => ⟨G, .refl B G w, ⟨hR.inv, fun t d h => by simp at h, hR.size⟩⟩⟩
end
end Go.Proofs.YtagokkpnfceidaaDoor
end

section
namespace Go.Proofs.YtagokkpnfceidaaDoor
open Go.RowKit

abbrev mx : Nat := 9223372036854775807
@[simp] theorem idx_nat {α : Type} (l : List α) (i : Nat) : idx l (i : Int) = l[i]? := by
  unfold idx
  rw [if_pos (by omega)]
  rfl
theorem idx_lit {α : Type} (l : List α) (n : Nat) : idx l (OfNat.ofNat n : Int) = l[n]? := idx_nat l n
@[simp] theorem idx_0 {α : Type} (l : List α) : idx l 0 = l[0]? := idx_nat l 0
@[simp] theorem idx_1 {α : Type} (l : List α) : idx l 1 = l[1]? := idx_nat l 1
@[simp] theorem bind_some' {α β : Type} (x : α) (f : α → Option β) : (some x >>= f) = f x := rfl
theorem wr_in {n : Int} (h1 : -9223372036854775808 ≤ n) (h2 : n ≤ 9223372036854775807) : wr n = n := w64 h1 h2
theorem wr_succ {i : Nat} (h : i < 9223372036854775807) : wr ((i : Int) + 1) = ((i + 1 : Nat) : Int) := by rw [wr_in (by omega) (by omega)]; rfl
theorem appL_ok {α : Type} {bytes : Nat} {a b : List α} (h : (a.length + b.length) * bytes ≤ 140737488355328) (h2 : a.length + b.length ≤ 9223372036854775807) : appL bytes a b = some (a ++ b) := by
  unfold appL; rw [if_pos ⟨h, h2⟩]
theorem cutL_ok {α : Type} {l : List α} {lo hi : Int} (h1 : 0 ≤ lo) (h2 : lo ≤ hi) (h3 : hi ≤ l.length) : cutL l lo hi = some ((l.take hi.toNat).drop lo.toNat) := by
  unfold cutL; rw [if_pos ⟨h1, h2, h3⟩]
theorem need_ok {p : Prop} [Decidable p] (h : p) : need p = some () := by unfold need; rw [if_pos h]
theorem getE {α : Type} {l : List α} {i : Nat} (h : i < l.length) : l[i]? = some l[i] := List.getElem?_eq_getElem h
theorem ltI (a b : Nat) : decide ((a : Int) < (b : Int)) = decide (a < b) := by
  congr 1; exact propext Int.ofNat_lt
/-- A loop over a list's places: what holds of the tail from i on. -/
theorem upto {α : Type} {l : List α} {φ : Nat → Prop} (h0 : φ l.length) (h : ∀ i, i < l.length → φ (i + 1) → φ i) : ∀ i, i ≤ l.length → φ i := by
  have key : ∀ n i, l.length - i = n → i ≤ l.length → φ i := by
    intro n
    induction n with
    | zero => intro i h1 h2; have : i = l.length := by omega
              subst this; exact h0
    | succ n ih => intro i h1 h2; exact h i (by omega) (ih (i + 1) (by omega) (by omega))
  exact fun i hi => key _ i rfl hi
theorem dropE {α : Type} {l : List α} {i : Nat} (h : i < l.length) : l.drop i = l[i] :: l.drop (i + 1) := List.drop_eq_getElem_cons h
end Go.Proofs.YtagokkpnfceidaaDoor
end

section
namespace Go.Proofs.YtagokkpnfceidaaDoor
open Go.RowKit

def dgP (n : Nat) : UInt8 := UInt8.ofNat (if n < 26 then 65 + n else if n < 52 then 71 + n else if n < 62 then n - 4 else if n = 62 then 43 else 47)
def dvP (c : UInt8) : Option Nat :=
  if 65 ≤ c.toNat ∧ c.toNat ≤ 90 then some (c.toNat - 65) else if 97 ≤ c.toNat ∧ c.toNat ≤ 122 then some (c.toNat - 71)
  else if 48 ≤ c.toNat ∧ c.toNat ≤ 57 then some (c.toNat + 4) else if c.toNat = 43 then some 62 else if c.toNat = 47 then some 63 else none
theorem dvdgF : ∀ n : Fin 64, dvP (dgP n.1) = some n.1 := by decide +kernel
theorem dv_dg {n : Nat} (h : n < 64) : dvP (dgP n) = some n := dvdgF ⟨n, h⟩
theorem dgdvF : ∀ c : Fin 256, (match dvP (UInt8.ofNat c.1) with | some n => decide (n < 64) && (dgP n == UInt8.ofNat c.1) | none => true) = true := by decide +kernel
theorem dg_dv {c : UInt8} {n : Nat} (h : dvP c = some n) : n < 64 ∧ dgP n = c := by
  have := dgdvF ⟨c.toNat, c.toNat_lt⟩
  simp only [UInt8.ofNat_toNat, h, Bool.and_eq_true, decide_eq_true_eq, beq_iff_eq] at this
  exact this
theorem dgF : ∀ n : Fin 64, (dgP n.1 != 61 && decide (33 ≤ (dgP n.1).toNat) && decide ((dgP n.1).toNat ≤ 126)) = true := by decide +kernel
theorem dg_ne {n : Nat} (h : n < 64) : dgP n ≠ 61 := by
  have := dgF ⟨n, h⟩
  simp only [Bool.and_eq_true, bne_iff_ne] at this
  exact this.1.1
theorem dg_shown {n : Nat} (h : n < 64) : 33 ≤ (dgP n).toNat ∧ (dgP n).toNat ≤ 126 := by
  have := dgF ⟨n, h⟩
  simp only [Bool.and_eq_true, decide_eq_true_eq] at this
  exact ⟨this.1.2, this.2⟩
def encP : List UInt8 → List UInt8
  | [] => []
  | [a] => [dgP (a.toNat / 4), dgP (a.toNat % 4 * 16), 61, 61]
  | [a, b] => [dgP (a.toNat / 4), dgP (a.toNat % 4 * 16 + b.toNat / 16), dgP (b.toNat % 16 * 4), 61]
  | a :: b :: c :: r => dgP (a.toNat / 4) :: dgP (a.toNat % 4 * 16 + b.toNat / 16) :: dgP (b.toNat % 16 * 4 + c.toNat / 64) :: dgP (c.toNat % 64) :: encP r
theorem encP_len : ∀ l : List UInt8, (encP l).length = 4 * ((l.length + 2) / 3)
  | [] => rfl
  | [_] => by simp [encP]
  | [_, _] => by simp [encP]
  | a :: b :: c :: r => by
    have := encP_len r
    simp only [encP, List.length_cons]
    omega
theorem encP_shown : ∀ l : List UInt8, ∀ c ∈ encP l, 33 ≤ c.toNat ∧ c.toNat ≤ 126
  | [], c, h => by simp [encP] at h
  | [a], c, h => by
    have ha := a.toNat_lt
    simp only [encP, List.mem_cons, List.not_mem_nil, or_false] at h
    rcases h with rfl | rfl | rfl | rfl
    · exact dg_shown (by omega)
    · exact dg_shown (by omega)
    · decide
    · decide
  | [a, b], c, h => by
    have ha := a.toNat_lt
    have hb := b.toNat_lt
    simp only [encP, List.mem_cons, List.not_mem_nil, or_false] at h
    rcases h with rfl | rfl | rfl | rfl
    · exact dg_shown (by omega)
    · exact dg_shown (by omega)
    · exact dg_shown (by omega)
    · decide
  | a :: b :: d :: r, c, h => by
    have ha := a.toNat_lt
    have hb := b.toNat_lt
    have hd := d.toNat_lt
    simp only [encP, List.mem_cons] at h
    rcases h with rfl | rfl | rfl | rfl | h
    · exact dg_shown (by omega)
    · exact dg_shown (by omega)
    · exact dg_shown (by omega)
    · exact dg_shown (by omega)
    · exact encP_shown r c h

def fourP (w x y z : UInt8) (last : Bool) : Option (List UInt8) :=
  match dvP w, dvP x with
  | some a, some b =>
    if last = true ∧ z = 61 then
      if y = 61 then (if b % 16 = 0 then some [UInt8.ofNat (a * 4 + b / 16)] else none)
      else match dvP y with
        | some c => if c % 4 = 0 then some [UInt8.ofNat (a * 4 + b / 16), UInt8.ofNat (b % 16 * 16 + c / 4)] else none
        | none => none
    else match dvP y, dvP z with
      | some c, some d => some [UInt8.ofNat (a * 4 + b / 16), UInt8.ofNat (b % 16 * 16 + c / 4), UInt8.ofNat (c % 4 * 64 + d)]
      | _, _ => none
  | _, _ => none
def app2 : Option (List UInt8) → Option (List UInt8) → Option (List UInt8)
  | some a, some b => some (a ++ b)
  | _, _ => none
def decP : List UInt8 → Option (List UInt8)
  | [] => some []
  | w :: x :: y :: z :: r => app2 (fourP w x y z r.isEmpty) (decP r)
  | _ => none
theorem ofN {n : Nat} {a : UInt8} (h : n = a.toNat) : UInt8.ofNat n = a := by rw [h, UInt8.ofNat_toNat]
theorem dec_enc : ∀ l : List UInt8, decP (encP l) = some l
  | [] => rfl
  | [a] => by
    have ha := a.toNat_lt
    have e1 : dvP (dgP (a.toNat / 4)) = some (a.toNat / 4) := dv_dg (by omega)
    have e2 : dvP (dgP (a.toNat % 4 * 16)) = some (a.toNat % 4 * 16) := dv_dg (by omega)
    simp only [encP, decP, fourP, e1, e2, List.isEmpty_nil, and_self, if_true]
    rw [if_pos (by omega), ofN (a := a) (by omega)]
    rfl
  | [a, b] => by
    have ha := a.toNat_lt
    have hb := b.toNat_lt
    have e1 : dvP (dgP (a.toNat / 4)) = some (a.toNat / 4) := dv_dg (by omega)
    have e2 : dvP (dgP (a.toNat % 4 * 16 + b.toNat / 16)) = some (a.toNat % 4 * 16 + b.toNat / 16) := dv_dg (by omega)
    have e3 : dvP (dgP (b.toNat % 16 * 4)) = some (b.toNat % 16 * 4) := dv_dg (by omega)
    have n3 : dgP (b.toNat % 16 * 4) ≠ 61 := dg_ne (by omega)
    simp only [encP, decP, fourP, e1, e2, e3, List.isEmpty_nil, and_self, if_true, if_neg n3]
    rw [if_pos (by omega), ofN (a := a) (by omega), ofN (a := b) (by omega)]
    rfl
  | a :: b :: c :: r => by
    have ha := a.toNat_lt
    have hb := b.toNat_lt
    have hc := c.toNat_lt
    have e1 : dvP (dgP (a.toNat / 4)) = some (a.toNat / 4) := dv_dg (by omega)
    have e2 : dvP (dgP (a.toNat % 4 * 16 + b.toNat / 16)) = some (a.toNat % 4 * 16 + b.toNat / 16) := dv_dg (by omega)
    have e3 : dvP (dgP (b.toNat % 16 * 4 + c.toNat / 64)) = some (b.toNat % 16 * 4 + c.toNat / 64) := dv_dg (by omega)
    have e4 : dvP (dgP (c.toNat % 64)) = some (c.toNat % 64) := dv_dg (by omega)
    have n4 : dgP (c.toNat % 64) ≠ 61 := dg_ne (by omega)
    simp only [encP, decP, fourP, e1, e2, e3, e4, if_neg (fun h => n4 h.2 : ¬ ((encP r).isEmpty = true ∧ dgP (c.toNat % 64) = 61))]
    rw [dec_enc r, ofN (a := a) (by omega), ofN (a := b) (by omega), ofN (a := c) (by omega)]
    rfl
theorem u8n {n : Nat} (h : n < 256) : (UInt8.ofNat n).toNat = n := by rw [UInt8.toNat_ofNat', Nat.mod_eq_of_lt h]
theorem enc_dec : ∀ (s t : List UInt8), decP s = some t → encP t = s
  | [], t, h => by simp only [decP, Option.some.injEq] at h; subst h; rfl
  | [_], t, h => by simp [decP] at h
  | [_, _], t, h => by simp [decP] at h
  | [_, _, _], t, h => by simp [decP] at h
  | w :: x :: y :: z :: r, t, h => by
    rw [decP] at h
    cases hf : fourP w x y z r.isEmpty with
    | none => rw [hf] at h; simp [app2] at h
    | some u =>
      cases hr : decP r with
      | none => rw [hf, hr] at h; simp [app2] at h
      | some v =>
        rw [hf, hr] at h
        simp only [app2, Option.some.injEq] at h
        subst h
        have ih := enc_dec r v hr
        rw [fourP] at hf
        cases hw : dvP w with
        | none => rw [hw] at hf; simp at hf
        | some a =>
          cases hx : dvP x with
          | none => rw [hw, hx] at hf; simp at hf
          | some b =>
            obtain ⟨a1, a2⟩ := dg_dv hw
            obtain ⟨b1, b2⟩ := dg_dv hx
            rw [hw, hx] at hf
            simp only at hf
            by_cases hl : r.isEmpty = true ∧ z = 61
            · rw [if_pos hl] at hf
              have hr0 : r = [] := List.isEmpty_iff.1 hl.1
              subst hr0
              simp only [decP, Option.some.injEq] at hr
              subst hr
              by_cases hy : y = 61
              · rw [if_pos hy] at hf
                by_cases hb : b % 16 = 0
                · rw [if_pos hb, Option.some.injEq] at hf
                  subst hf
                  rw [List.append_nil, encP, u8n (by omega), show (a * 4 + b / 16) / 4 = a by omega, show (a * 4 + b / 16) % 4 * 16 = b by omega, a2, b2, hy, hl.2]
                · rw [if_neg hb] at hf; cases hf
              · rw [if_neg hy] at hf
                cases hyy : dvP y with
                | none => rw [hyy] at hf; cases hf
                | some c =>
                  obtain ⟨c1, c2⟩ := dg_dv hyy
                  rw [hyy] at hf
                  simp only at hf
                  by_cases hc : c % 4 = 0
                  · rw [if_pos hc, Option.some.injEq] at hf
                    subst hf
                    rw [List.append_nil, encP, u8n (by omega), u8n (by omega), show (a * 4 + b / 16) / 4 = a by omega, show (a * 4 + b / 16) % 4 * 16 + (b % 16 * 16 + c / 4) / 16 = b by omega, show (b % 16 * 16 + c / 4) % 16 * 4 = c by omega, a2, b2, c2, hl.2]
                  · rw [if_neg hc] at hf; cases hf
            · rw [if_neg hl] at hf
              cases hy : dvP y with
              | none => rw [hy] at hf; simp at hf
              | some c =>
                cases hz : dvP z with
                | none => rw [hy, hz] at hf; simp at hf
                | some d =>
                  obtain ⟨c1, c2⟩ := dg_dv hy
                  obtain ⟨d1, d2⟩ := dg_dv hz
                  rw [hy, hz] at hf
                  simp only [Option.some.injEq] at hf
                  subst hf
                  rw [List.cons_append, List.cons_append, List.cons_append, List.nil_append, encP, u8n (by omega), u8n (by omega), u8n (by omega), show (a * 4 + b / 16) / 4 = a by omega, show (a * 4 + b / 16) % 4 * 16 + (b % 16 * 16 + c / 4) / 16 = b by omega, show (b % 16 * 16 + c / 4) % 16 * 4 + (c % 4 * 64 + d) / 64 = c by omega, show (c % 4 * 64 + d) % 64 = d by omega, a2, b2, c2, d2, ih]

end Go.Proofs.YtagokkpnfceidaaDoor
end
