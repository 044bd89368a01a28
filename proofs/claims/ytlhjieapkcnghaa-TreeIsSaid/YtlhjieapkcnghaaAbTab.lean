/- The abstract layer: the table of this program's types. -/
import Derived.Test.YtlhjieapkcnghaaAbZ
namespace Go.Proofs.Ytlhjieapkcnghaa
open Go.RowKit

theorem TblOk.nil (P : Program) : TblOk P [] := fun t ti h => by cases h
theorem TblOk.cons {P : Program} (t : Nat) (ti : TI) (l : Tbl) (h : P.underlying t = some ti.d) (hi : (P.info? t).map (fun i => (i.size, i.bytes, i.zero)) = some (ti.size, ti.bytes, some ti.zero)) (hc : ti.cmp = true → cmpOk P t = true) (hbl : ∀ q ∈ ti.bld, q.2.2 < ti.zero.cells.size ∧ liesAt q.1 q.1.depth t (ti.zero.cells.size / q.1.cellsOf t) q.2.2 q.2.1 1 = true) (hl : TblOk P l) : TblOk P ((t, ti) :: l) := by
  intro t' ti' h'
  rw [List.lookup_cons] at h'
  by_cases ht : t' = t
  · subst ht
    simp only [beq_self_eq_true, Option.some.injEq] at h'
    subst h'
    obtain ⟨i, h1, h2⟩ := Option.map_eq_some_iff.1 hi
    simp only [Prod.mk.injEq] at h2
    exact ⟨h, i, h1, h2.1, h2.2.1, h2.2.2, hc, hbl⟩
  · have hb : (t' == t) = false := by simpa using ht
    rw [hb] at h'
    exact hl t' ti' h'
noncomputable def tb : Tbl := [(1, ⟨.func #[] #[] false, 1, 8, .nilFunc, false, []⟩),
  (2, ⟨.int .i64, 1, 8, .int .i64 0, false, []⟩),
  (3, ⟨.int .i64, 1, 8, .int .i64 0, false, []⟩),
  (4, ⟨.bool, 1, 1, .bool false, false, []⟩),
  (5, ⟨.int .u8, 1, 1, .int .u8 0, false, []⟩),
  (6, ⟨.int .u8, 1, 1, .int .u8 0, false, []⟩),
  (7, ⟨.struct #[⟨ "x", 2, 0, false, "", "runtime", 0⟩, ⟨ "y", 3, 1, false, "", "runtime", 8⟩, ⟨ "signed", 4, 2, false, "", "runtime", 16⟩, ⟨ "code", 6, 3, false, "", "runtime", 17⟩], 4, 24, .agg #[.int .i64 0, .int .i64 0, .bool false, .int .u8 0], false, []⟩),
  (8, ⟨.struct #[⟨ "x", 2, 0, false, "", "runtime", 0⟩, ⟨ "y", 3, 1, false, "", "runtime", 8⟩, ⟨ "signed", 4, 2, false, "", "runtime", 16⟩, ⟨ "code", 6, 3, false, "", "runtime", 17⟩], 4, 24, .agg #[.int .i64 0, .int .i64 0, .bool false, .int .u8 0], false, []⟩),
  (9, ⟨.string, 1, 16, .string ByteArray.empty, false, []⟩),
  (10, ⟨.string, 1, 16, .string ByteArray.empty, false, []⟩),
  (11, ⟨.string, 1, 16, .string ByteArray.empty, false, []⟩),
  (12, ⟨.int .u64, 1, 8, .int .u64 0, false, []⟩),
  (13, ⟨.struct #[⟨ "msg", 9, 0, false, "", "runtime", 0⟩, ⟨ "addr", 12, 1, false, "", "runtime", 16⟩], 2, 24, .agg #[.string ByteArray.empty, .int .u64 0], false, []⟩),
  (14, ⟨.struct #[⟨ "msg", 9, 0, false, "", "runtime", 0⟩, ⟨ "addr", 12, 1, false, "", "runtime", 16⟩], 2, 24, .agg #[.string ByteArray.empty, .int .u64 0], false, []⟩),
  (15, ⟨.pointer 163, 1, 8, .pointer none, false, []⟩),
  (16, ⟨.pointer 166, 1, 8, .pointer none, false, []⟩),
  (17, ⟨.pointer 173, 1, 8, .pointer none, false, []⟩),
  (18, ⟨.struct #[⟨ "typ", 17, 0, false, "", "internal/runtime/maps", 0⟩], 1, 8, .agg #[.pointer none], false, []⟩),
  (19, ⟨.struct #[⟨ "typ", 17, 0, false, "", "internal/runtime/maps", 0⟩], 1, 8, .agg #[.pointer none], false, []⟩),
  (21, ⟨.int .i32, 1, 4, .int .i32 0, false, []⟩),
  (22, ⟨.func #[9] #[9] false, 1, 8, .nilFunc, false, []⟩),
  (23, ⟨.struct #[⟨ "Scheme", 9, 0, false, "", "", 0⟩, ⟨ "User", 9, 1, false, "", "", 16⟩, ⟨ "Host", 9, 2, false, "", "", 32⟩, ⟨ "Port", 9, 3, false, "", "", 48⟩, ⟨ "Path", 9, 4, false, "", "", 64⟩, ⟨ "Query", 9, 5, false, "", "", 80⟩, ⟨ "Frag", 9, 6, false, "", "", 96⟩, ⟨ "Auth", 4, 7, false, "", "", 112⟩, ⟨ "HasUser", 4, 8, false, "", "", 113⟩, ⟨ "HasPort", 4, 9, false, "", "", 114⟩, ⟨ "HasQuery", 4, 10, false, "", "", 115⟩, ⟨ "HasFrag", 4, 11, false, "", "", 116⟩], 12, 120, .agg #[.string ByteArray.empty, .string ByteArray.empty, .string ByteArray.empty, .string ByteArray.empty, .string ByteArray.empty, .string ByteArray.empty, .string ByteArray.empty, .bool false, .bool false, .bool false, .bool false, .bool false], false, []⟩),
  (24, ⟨.struct #[⟨ "Scheme", 9, 0, false, "", "", 0⟩, ⟨ "User", 9, 1, false, "", "", 16⟩, ⟨ "Host", 9, 2, false, "", "", 32⟩, ⟨ "Port", 9, 3, false, "", "", 48⟩, ⟨ "Path", 9, 4, false, "", "", 64⟩, ⟨ "Query", 9, 5, false, "", "", 80⟩, ⟨ "Frag", 9, 6, false, "", "", 96⟩, ⟨ "Auth", 4, 7, false, "", "", 112⟩, ⟨ "HasUser", 4, 8, false, "", "", 113⟩, ⟨ "HasPort", 4, 9, false, "", "", 114⟩, ⟨ "HasQuery", 4, 10, false, "", "", 115⟩, ⟨ "HasFrag", 4, 11, false, "", "", 116⟩], 12, 120, .agg #[.string ByteArray.empty, .string ByteArray.empty, .string ByteArray.empty, .string ByteArray.empty, .string ByteArray.empty, .string ByteArray.empty, .string ByteArray.empty, .bool false, .bool false, .bool false, .bool false, .bool false], true, []⟩),
  (25, ⟨.int .i64, 1, 8, .int .i64 0, false, []⟩),
  (27, ⟨.func #[9] #[24, 25] false, 1, 8, .nilFunc, false, []⟩),
  (28, ⟨.struct #[⟨ "Scheme", 9, 0, false, "", "", 0⟩, ⟨ "User", 9, 1, false, "", "", 16⟩, ⟨ "Host", 9, 2, false, "", "", 32⟩, ⟨ "Port", 9, 3, false, "", "", 48⟩, ⟨ "Path", 9, 4, false, "", "", 64⟩, ⟨ "Query", 9, 5, false, "", "", 80⟩, ⟨ "Frag", 9, 6, false, "", "", 96⟩, ⟨ "Auth", 4, 7, false, "", "", 112⟩, ⟨ "HasUser", 4, 8, false, "", "", 113⟩, ⟨ "HasPort", 4, 9, false, "", "", 114⟩, ⟨ "HasQuery", 4, 10, false, "", "", 115⟩, ⟨ "HasFrag", 4, 11, false, "", "", 116⟩], 12, 120, .agg #[.string ByteArray.empty, .string ByteArray.empty, .string ByteArray.empty, .string ByteArray.empty, .string ByteArray.empty, .string ByteArray.empty, .string ByteArray.empty, .bool false, .bool false, .bool false, .bool false, .bool false], true, []⟩),
  (30, ⟨.func #[9] #[28, 25] false, 1, 8, .nilFunc, false, []⟩),
  (31, ⟨.func #[24] #[28] false, 1, 8, .nilFunc, false, []⟩),
  (32, ⟨.func #[24] #[9] false, 1, 8, .nilFunc, false, []⟩),
  (33, ⟨.func #[] #[4] false, 1, 8, .nilFunc, false, []⟩),
  (34, ⟨.func #[9] #[4] false, 1, 8, .nilFunc, false, []⟩),
  (35, ⟨.func #[28] #[24] false, 1, 8, .nilFunc, false, []⟩),
  (36, ⟨.func #[28] #[9] false, 1, 8, .nilFunc, false, []⟩),
  (37, ⟨.func #[28] #[4] false, 1, 8, .nilFunc, false, []⟩),
  (38, ⟨.slice 52, 1, 24, .slice none 0 0, false, []⟩),
  (39, ⟨.func #[38] #[38] false, 1, 8, .nilFunc, false, []⟩),
  (40, ⟨.func #[38] #[4] false, 1, 8, .nilFunc, false, []⟩),
  (41, ⟨.func #[38] #[3] false, 1, 8, .nilFunc, false, []⟩),
  (42, ⟨.func #[38, 9] #[4] false, 1, 8, .nilFunc, false, []⟩),
  (44, ⟨.func #[38] #[9, 4] false, 1, 8, .nilFunc, false, []⟩),
  (45, ⟨.slice 91, 1, 24, .slice none 0 0, false, []⟩),
  (47, ⟨.func #[9] #[45, 3, 25] false, 1, 8, .nilFunc, false, []⟩),
  (48, ⟨.int .u16, 1, 2, .int .u16 0, false, []⟩),
  (49, ⟨.slice 5, 1, 24, .slice none 0 0, false, []⟩),
  (50, ⟨.int .i64, 1, 8, .int .i64 0, false, []⟩),
  (51, ⟨.struct #[⟨ "Kind", 50, 0, false, "", "", 0⟩, ⟨ "Name", 9, 1, false, "", "", 8⟩, ⟨ "Text", 9, 2, false, "", "", 24⟩, ⟨ "N", 3, 3, false, "", "", 40⟩, ⟨ "L", 38, 4, false, "", "", 48⟩, ⟨ "Then", 38, 5, false, "", "", 72⟩, ⟨ "Else", 38, 6, false, "", "", 96⟩], 7, 120, .agg #[.int .i64 0, .string ByteArray.empty, .string ByteArray.empty, .int .i64 0, .slice none 0 0, .slice none 0 0, .slice none 0 0], false, []⟩),
  (52, ⟨.struct #[⟨ "Kind", 50, 0, false, "", "", 0⟩, ⟨ "Name", 9, 1, false, "", "", 8⟩, ⟨ "Text", 9, 2, false, "", "", 24⟩, ⟨ "N", 3, 3, false, "", "", 40⟩, ⟨ "L", 38, 4, false, "", "", 48⟩, ⟨ "Then", 38, 5, false, "", "", 72⟩, ⟨ "Else", 38, 6, false, "", "", 96⟩], 7, 120, .agg #[.int .i64 0, .string ByteArray.empty, .string ByteArray.empty, .int .i64 0, .slice none 0 0, .slice none 0 0, .slice none 0 0], false, []⟩),
  (53, ⟨.func #[48, 5, 4] #[4] false, 1, 8, .nilFunc, false, []⟩),
  (54, ⟨.func #[5, 48, 4] #[4] false, 1, 8, .nilFunc, false, []⟩),
  (55, ⟨.func #[38, 38] #[4] false, 1, 8, .nilFunc, false, []⟩),
  (56, ⟨.pointer 58, 1, 8, .pointer none, false, []⟩),
  (57, ⟨.struct #[⟨ "s", 9, 0, false, "", "nuncio/uri", 0⟩, ⟨ "u", 24, 1, false, "", "nuncio/uri", 16⟩], 13, 136, .agg #[.string ByteArray.empty, .string ByteArray.empty, .string ByteArray.empty, .string ByteArray.empty, .string ByteArray.empty, .string ByteArray.empty, .string ByteArray.empty, .string ByteArray.empty, .bool false, .bool false, .bool false, .bool false, .bool false], false, []⟩),
  (58, ⟨.struct #[⟨ "s", 9, 0, false, "", "nuncio/uri", 0⟩, ⟨ "u", 24, 1, false, "", "nuncio/uri", 16⟩], 13, 136, .agg #[.string ByteArray.empty, .string ByteArray.empty, .string ByteArray.empty, .string ByteArray.empty, .string ByteArray.empty, .string ByteArray.empty, .string ByteArray.empty, .string ByteArray.empty, .bool false, .bool false, .bool false, .bool false, .bool false], false, []⟩),
  (59, ⟨.slice 33, 1, 24, .slice none 0 0, false, []⟩),
  (60, ⟨.func #[9, 9] #[3] false, 1, 8, .nilFunc, false, []⟩),
  (61, ⟨.func #[9, 9, 3] #[4] false, 1, 8, .nilFunc, false, []⟩),
  (63, ⟨.func #[28, 9] #[28, 4] false, 1, 8, .nilFunc, false, []⟩),
  (64, ⟨.func #[9, 9, 9] #[4] false, 1, 8, .nilFunc, false, []⟩),
  (65, ⟨.pointer 67, 1, 8, .pointer none, false, []⟩),
  (66, ⟨.struct #[⟨ "addr", 65, 0, false, "", "strings", 0⟩, ⟨ "buf", 49, 1, false, "", "strings", 8⟩], 2, 32, .agg #[.pointer none, .slice none 0 0], false, []⟩),
  (67, ⟨.struct #[⟨ "addr", 65, 0, false, "", "strings", 0⟩, ⟨ "buf", 49, 1, false, "", "strings", 8⟩], 2, 32, .agg #[.pointer none, .slice none 0 0], false, [(Try.prog, 67, 0)]⟩),
  (68, ⟨.slice 9, 1, 24, .slice none 0 0, false, []⟩),
  (72, ⟨.func #[9] #[3, 70] false, 1, 8, .nilFunc, false, []⟩),
  (73, ⟨.func #[4, 68] #[] true, 1, 8, .nilFunc, false, []⟩),
  (74, ⟨.func #[] #[9] false, 1, 8, .nilFunc, false, []⟩),
  (76, ⟨.func #[38, 3, 3] #[38, 3] false, 1, 8, .nilFunc, false, []⟩),
  (77, ⟨.func #[38, 4] #[4] false, 1, 8, .nilFunc, false, []⟩),
  (78, ⟨.func #[111] #[] false, 1, 8, .nilFunc, false, []⟩),
  (79, ⟨.func #[111] #[] false, 1, 8, .nilFunc, false, []⟩),
  (80, ⟨.func #[38, 3] #[79] false, 1, 8, .nilFunc, false, []⟩),
  (81, ⟨.func #[] #[68] false, 1, 8, .nilFunc, false, []⟩),
  (82, ⟨.pointer 84, 1, 8, .pointer none, false, []⟩),
  (83, ⟨.struct #[⟨ "b", 67, 0, false, "", "nuncio/tree", 0⟩], 2, 32, .agg #[.pointer none, .slice none 0 0], false, [(Try.prog, 67, 0)]⟩),
  (84, ⟨.struct #[⟨ "b", 67, 0, false, "", "nuncio/tree", 0⟩], 2, 32, .agg #[.pointer none, .slice none 0 0], false, [(Try.prog, 67, 0)]⟩),
  (85, ⟨.func #[38] #[] false, 1, 8, .nilFunc, false, []⟩),
  (86, ⟨.func #[] #[3] false, 1, 8, .nilFunc, false, []⟩),
  (87, ⟨.func #[38] #[9] false, 1, 8, .nilFunc, false, []⟩),
  (88, ⟨.func #[9, 9, 3] #[3] false, 1, 8, .nilFunc, false, []⟩),
  (89, ⟨.int .i64, 1, 8, .int .i64 0, false, []⟩),
  (90, ⟨.struct #[⟨ "Kind", 89, 0, false, "", "", 0⟩, ⟨ "Text", 9, 1, false, "", "", 8⟩, ⟨ "N", 3, 2, false, "", "", 24⟩, ⟨ "From", 3, 3, false, "", "", 32⟩, ⟨ "To", 3, 4, false, "", "", 40⟩], 5, 48, .agg #[.int .i64 0, .string ByteArray.empty, .int .i64 0, .int .i64 0, .int .i64 0], false, []⟩),
  (91, ⟨.struct #[⟨ "Kind", 89, 0, false, "", "", 0⟩, ⟨ "Text", 9, 1, false, "", "", 8⟩, ⟨ "N", 3, 2, false, "", "", 24⟩, ⟨ "From", 3, 3, false, "", "", 32⟩, ⟨ "To", 3, 4, false, "", "", 40⟩], 5, 48, .agg #[.int .i64 0, .string ByteArray.empty, .int .i64 0, .int .i64 0, .int .i64 0], true, []⟩),
  (92, ⟨.func #[9, 3] #[3] false, 1, 8, .nilFunc, false, []⟩),
  (94, ⟨.func #[9, 3] #[91, 4] false, 1, 8, .nilFunc, false, []⟩),
  (95, ⟨.func #[38, 38, 96] #[4] false, 1, 8, .nilFunc, false, []⟩),
  (96, ⟨.func #[52, 52] #[4] false, 1, 8, .nilFunc, false, []⟩),
  (97, ⟨.func #[5] #[4] false, 1, 8, .nilFunc, false, []⟩),
  (98, ⟨.func #[9, 5] #[3] false, 1, 8, .nilFunc, false, []⟩),
  (99, ⟨.func #[9, 9] #[4] false, 1, 8, .nilFunc, false, []⟩),
  (100, ⟨.pointer 24, 1, 8, .pointer none, false, []⟩),
  (102, ⟨.func #[9, 9] #[9, 9, 4] false, 1, 8, .nilFunc, false, []⟩),
  (103, ⟨.func #[9, 97] #[4] false, 1, 8, .nilFunc, false, []⟩),
  (104, ⟨.func #[9] #[97] false, 1, 8, .nilFunc, false, []⟩),
  (105, ⟨.func #[9, 9] #[9, 4] false, 1, 8, .nilFunc, false, []⟩),
  (106, ⟨.func #[9, 5] #[4] false, 1, 8, .nilFunc, false, []⟩),
  (108, ⟨.func #[9, 3] #[5, 4] false, 1, 8, .nilFunc, false, []⟩),
  (109, ⟨.pointer 5, 1, 8, .pointer none, false, []⟩),
  (110, ⟨.func #[52] #[4] false, 1, 8, .nilFunc, false, []⟩),
  (111, ⟨.func #[52, 3] #[4] false, 1, 8, .nilFunc, false, []⟩),
  (112, ⟨.array 3 38, 3, 72, .agg #[.slice none 0 0, .slice none 0 0, .slice none 0 0], false, []⟩),
  (113, ⟨.func #[68] #[] true, 1, 8, .nilFunc, false, []⟩),
  (114, ⟨.func #[9, 52] #[] false, 1, 8, .nilFunc, false, []⟩),
  (115, ⟨.func #[52] #[9] false, 1, 8, .nilFunc, false, []⟩),
  (116, ⟨.slice 89, 1, 24, .slice none 0 0, false, []⟩),
  (118, ⟨.func #[9, 3] #[9, 3] false, 1, 8, .nilFunc, false, []⟩),
  (120, ⟨.func #[9] #[3, 4] false, 1, 8, .nilFunc, false, []⟩),
  (121, ⟨.func #[9, 21] #[3] false, 1, 8, .nilFunc, false, []⟩),
  (122, ⟨.func #[3] #[4] false, 1, 8, .nilFunc, false, []⟩),
  (123, ⟨.array 256 4, 256, 256, .agg #[.bool false, .bool false, .bool false, .bool false, .bool false, .bool false, .bool false, .bool false, .bool false, .bool false, .bool false, .bool false, .bool false, .bool false, .bool false, .bool false, .bool false, .bool false, .bool false, .bool false, .bool false, .bool false, .bool false, .bool false, .bool false, .bool false, .bool false, .bool false, .bool false, .bool false, .bool false, .bool false, .bool false, .bool false, .bool false, .bool false, .bool false, .bool false, .bool false, .bool false, .bool false, .bool false, .bool false, .bool false, .bool false, .bool false, .bool false, .bool false, .bool false, .bool false, .bool false, .bool false, .bool false, .bool false, .bool false, .bool false, .bool false, .bool false, .bool false, .bool false, .bool false, .bool false, .bool false, .bool false, .bool false, .bool false, .bool false, .bool false, .bool false, .bool false, .bool false, .bool false, .bool false, .bool false, .bool false, .bool false, .bool false, .bool false, .bool false, .bool false, .bool false, .bool false, .bool false, .bool false, .bool false, .bool false, .bool false, .bool false, .bool false, .bool false, .bool false, .bool false, .bool false, .bool false, .bool false, .bool false, .bool false, .bool false, .bool false, .bool false, .bool false, .bool false, .bool false, .bool false, .bool false, .bool false, .bool false, .bool false, .bool false, .bool false, .bool false, .bool false, .bool false, .bool false, .bool false, .bool false, .bool false, .bool false, .bool false, .bool false, .bool false, .bool false, .bool false, .bool false, .bool false, .bool false, .bool false, .bool false, .bool false, .bool false, .bool false, .bool false, .bool false, .bool false, .bool false, .bool false, .bool false, .bool false, .bool false, .bool false, .bool false, .bool false, .bool false, .bool false, .bool false, .bool false, .bool false, .bool false, .bool false, .bool false, .bool false, .bool false, .bool false, .bool false, .bool false, .bool false, .bool false, .bool false, .bool false, .bool false, .bool false, .bool false, .bool false, .bool false, .bool false, .bool false, .bool false, .bool false, .bool false, .bool false, .bool false, .bool false, .bool false, .bool false, .bool false, .bool false, .bool false, .bool false, .bool false, .bool false, .bool false, .bool false, .bool false, .bool false, .bool false, .bool false, .bool false, .bool false, .bool false, .bool false, .bool false, .bool false, .bool false, .bool false, .bool false, .bool false, .bool false, .bool false, .bool false, .bool false, .bool false, .bool false, .bool false, .bool false, .bool false, .bool false, .bool false, .bool false, .bool false, .bool false, .bool false, .bool false, .bool false, .bool false, .bool false, .bool false, .bool false, .bool false, .bool false, .bool false, .bool false, .bool false, .bool false, .bool false, .bool false, .bool false, .bool false, .bool false, .bool false, .bool false, .bool false, .bool false, .bool false, .bool false, .bool false, .bool false, .bool false, .bool false, .bool false, .bool false, .bool false, .bool false, .bool false, .bool false, .bool false, .bool false, .bool false, .bool false, .bool false, .bool false, .bool false, .bool false, .bool false, .bool false, .bool false, .bool false], false, []⟩),
  (124, ⟨.array 256 4, 256, 256, .agg #[.bool false, .bool false, .bool false, .bool false, .bool false, .bool false, .bool false, .bool false, .bool false, .bool false, .bool false, .bool false, .bool false, .bool false, .bool false, .bool false, .bool false, .bool false, .bool false, .bool false, .bool false, .bool false, .bool false, .bool false, .bool false, .bool false, .bool false, .bool false, .bool false, .bool false, .bool false, .bool false, .bool false, .bool false, .bool false, .bool false, .bool false, .bool false, .bool false, .bool false, .bool false, .bool false, .bool false, .bool false, .bool false, .bool false, .bool false, .bool false, .bool false, .bool false, .bool false, .bool false, .bool false, .bool false, .bool false, .bool false, .bool false, .bool false, .bool false, .bool false, .bool false, .bool false, .bool false, .bool false, .bool false, .bool false, .bool false, .bool false, .bool false, .bool false, .bool false, .bool false, .bool false, .bool false, .bool false, .bool false, .bool false, .bool false, .bool false, .bool false, .bool false, .bool false, .bool false, .bool false, .bool false, .bool false, .bool false, .bool false, .bool false, .bool false, .bool false, .bool false, .bool false, .bool false, .bool false, .bool false, .bool false, .bool false, .bool false, .bool false, .bool false, .bool false, .bool false, .bool false, .bool false, .bool false, .bool false, .bool false, .bool false, .bool false, .bool false, .bool false, .bool false, .bool false, .bool false, .bool false, .bool false, .bool false, .bool false, .bool false, .bool false, .bool false, .bool false, .bool false, .bool false, .bool false, .bool false, .bool false, .bool false, .bool false, .bool false, .bool false, .bool false, .bool false, .bool false, .bool false, .bool false, .bool false, .bool false, .bool false, .bool false, .bool false, .bool false, .bool false, .bool false, .bool false, .bool false, .bool false, .bool false, .bool false, .bool false, .bool false, .bool false, .bool false, .bool false, .bool false, .bool false, .bool false, .bool false, .bool false, .bool false, .bool false, .bool false, .bool false, .bool false, .bool false, .bool false, .bool false, .bool false, .bool false, .bool false, .bool false, .bool false, .bool false, .bool false, .bool false, .bool false, .bool false, .bool false, .bool false, .bool false, .bool false, .bool false, .bool false, .bool false, .bool false, .bool false, .bool false, .bool false, .bool false, .bool false, .bool false, .bool false, .bool false, .bool false, .bool false, .bool false, .bool false, .bool false, .bool false, .bool false, .bool false, .bool false, .bool false, .bool false, .bool false, .bool false, .bool false, .bool false, .bool false, .bool false, .bool false, .bool false, .bool false, .bool false, .bool false, .bool false, .bool false, .bool false, .bool false, .bool false, .bool false, .bool false, .bool false, .bool false, .bool false, .bool false, .bool false, .bool false, .bool false, .bool false, .bool false, .bool false, .bool false, .bool false, .bool false, .bool false, .bool false, .bool false, .bool false, .bool false, .bool false, .bool false, .bool false, .bool false, .bool false, .bool false, .bool false, .bool false, .bool false, .bool false, .bool false, .bool false, .bool false, .bool false, .bool false], false, []⟩),
  (126, ⟨.func #[9] #[124, 4] false, 1, 8, .nilFunc, false, []⟩),
  (127, ⟨.func #[5] #[3] false, 1, 8, .nilFunc, false, []⟩),
  (129, ⟨.func #[128] #[128] false, 1, 8, .nilFunc, false, []⟩),
  (130, ⟨.struct #[⟨ "name", 4, 0, false, "", "nuncio/tree", 0⟩, ⟨ "text", 4, 1, false, "", "nuncio/tree", 1⟩, ⟨ "num", 4, 2, false, "", "nuncio/tree", 2⟩, ⟨ "then", 4, 3, false, "", "nuncio/tree", 3⟩, ⟨ "other", 4, 4, false, "", "nuncio/tree", 4⟩, ⟨ "l", 3, 5, false, "", "nuncio/tree", 8⟩], 6, 16, .agg #[.bool false, .bool false, .bool false, .bool false, .bool false, .int .i64 0], false, []⟩),
  (131, ⟨.struct #[⟨ "name", 4, 0, false, "", "nuncio/tree", 0⟩, ⟨ "text", 4, 1, false, "", "nuncio/tree", 1⟩, ⟨ "num", 4, 2, false, "", "nuncio/tree", 2⟩, ⟨ "then", 4, 3, false, "", "nuncio/tree", 3⟩, ⟨ "other", 4, 4, false, "", "nuncio/tree", 4⟩, ⟨ "l", 3, 5, false, "", "nuncio/tree", 8⟩], 6, 16, .agg #[.bool false, .bool false, .bool false, .bool false, .bool false, .int .i64 0], true, []⟩),
  (132, ⟨.func #[52] #[131] false, 1, 8, .nilFunc, false, []⟩),
  (133, ⟨.func #[52, 4, 4, 4, 4, 4] #[4] false, 1, 8, .nilFunc, false, []⟩),
  (134, ⟨.func #[52] #[] false, 1, 8, .nilFunc, false, []⟩),
  (135, ⟨.func #[9] #[9, 4] false, 1, 8, .nilFunc, false, []⟩),
  (136, ⟨.func #[3] #[9] false, 1, 8, .nilFunc, false, []⟩),
  (137, ⟨.func #[68, 9] #[9] false, 1, 8, .nilFunc, false, []⟩),
  (139, ⟨.func #[9, 3] #[3, 3] false, 1, 8, .nilFunc, false, []⟩),
  (140, ⟨.func #[21] #[4] false, 1, 8, .nilFunc, false, []⟩),
  (141, ⟨.func #[3] #[3] false, 1, 8, .nilFunc, false, []⟩),
  (142, ⟨.int .u64, 1, 8, .int .u64 0, false, []⟩),
  (143, ⟨.pointer 124, 1, 8, .pointer none, false, []⟩),
  (144, ⟨.func #[5] #[5, 4] false, 1, 8, .nilFunc, false, []⟩),
  (145, ⟨.func #[38, 110] #[4] false, 1, 8, .nilFunc, false, []⟩),
  (146, ⟨.func #[147] #[9] false, 1, 8, .nilFunc, false, []⟩),
  (147, ⟨.int .u64, 1, 8, .int .u64 0, false, []⟩),
  (148, ⟨.slice 3, 1, 24, .slice none 0 0, false, []⟩),
  (149, ⟨.func #[38, 110] #[3] false, 1, 8, .nilFunc, false, []⟩),
  (150, ⟨.array 20 5, 20, 20, .agg #[.int .u8 0, .int .u8 0, .int .u8 0, .int .u8 0, .int .u8 0, .int .u8 0, .int .u8 0, .int .u8 0, .int .u8 0, .int .u8 0, .int .u8 0, .int .u8 0, .int .u8 0, .int .u8 0, .int .u8 0, .int .u8 0, .int .u8 0, .int .u8 0, .int .u8 0, .int .u8 0], false, []⟩),
  (151, ⟨.int .u32, 1, 4, .int .u32 0, false, []⟩),
  (153, ⟨.func #[9] #[151, 151] false, 1, 8, .nilFunc, false, []⟩),
  (154, ⟨.func #[157] #[] false, 1, 8, .nilFunc, false, []⟩),
  (155, ⟨.func #[157] #[] false, 1, 8, .nilFunc, false, []⟩),
  (156, ⟨.func #[9] #[155] false, 1, 8, .nilFunc, false, []⟩),
  (157, ⟨.func #[21, 3] #[4] false, 1, 8, .nilFunc, false, []⟩),
  (159, ⟨.func #[9, 3] #[21, 3] false, 1, 8, .nilFunc, false, []⟩),
  (161, ⟨.func #[9, 21, 3] #[21, 4] false, 1, 8, .nilFunc, false, []⟩),
  (162, ⟨.struct #[⟨ "_interface", 17, 0, false, "", "runtime", 0⟩, ⟨ "concrete", 17, 1, false, "", "runtime", 8⟩, ⟨ "asserted", 17, 2, false, "", "runtime", 16⟩, ⟨ "missingMethod", 9, 3, false, "", "runtime", 24⟩], 4, 40, .agg #[.pointer none, .pointer none, .pointer none, .string ByteArray.empty], false, []⟩),
  (163, ⟨.struct #[⟨ "_interface", 17, 0, false, "", "runtime", 0⟩, ⟨ "concrete", 17, 1, false, "", "runtime", 8⟩, ⟨ "asserted", 17, 2, false, "", "runtime", 16⟩, ⟨ "missingMethod", 9, 3, false, "", "runtime", 24⟩], 4, 40, .agg #[.pointer none, .pointer none, .pointer none, .string ByteArray.empty], false, []⟩),
  (164, ⟨.array 0 16, 0, 0, .agg #[], false, []⟩),
  (165, ⟨.struct #[⟨ "_", 164, 0, false, "", "runtime", 0⟩], 0, 0, .agg #[], false, []⟩),
  (166, ⟨.struct #[⟨ "_", 164, 0, false, "", "runtime", 0⟩], 0, 0, .agg #[], false, []⟩),
  (167, ⟨.int .u8, 1, 1, .int .u8 0, false, []⟩),
  (168, ⟨.int .u8, 1, 1, .int .u8 0, false, []⟩),
  (169, ⟨.func #[128, 128] #[4] false, 1, 8, .nilFunc, false, []⟩),
  (170, ⟨.int .i32, 1, 4, .int .i32 0, false, []⟩),
  (171, ⟨.int .i32, 1, 4, .int .i32 0, false, []⟩),
  (172, ⟨.struct #[⟨ "Size_", 12, 0, false, "", "", 0⟩, ⟨ "PtrBytes", 12, 1, false, "", "", 8⟩, ⟨ "Hash", 151, 2, false, "", "", 16⟩, ⟨ "TFlag", 167, 3, false, "", "", 20⟩, ⟨ "Align_", 5, 4, false, "", "", 21⟩, ⟨ "FieldAlign_", 5, 5, false, "", "", 22⟩, ⟨ "Kind_", 168, 6, false, "", "", 23⟩, ⟨ "Equal", 169, 7, false, "", "", 24⟩, ⟨ "GCData", 109, 8, false, "", "", 32⟩, ⟨ "Str", 170, 9, false, "", "", 40⟩, ⟨ "PtrToThis", 171, 10, false, "", "", 44⟩], 11, 48, .agg #[.int .u64 0, .int .u64 0, .int .u32 0, .int .u8 0, .int .u8 0, .int .u8 0, .int .u8 0, .nilFunc, .pointer none, .int .i32 0, .int .i32 0], false, []⟩),
  (173, ⟨.struct #[⟨ "Size_", 12, 0, false, "", "", 0⟩, ⟨ "PtrBytes", 12, 1, false, "", "", 8⟩, ⟨ "Hash", 151, 2, false, "", "", 16⟩, ⟨ "TFlag", 167, 3, false, "", "", 20⟩, ⟨ "Align_", 5, 4, false, "", "", 21⟩, ⟨ "FieldAlign_", 5, 5, false, "", "", 22⟩, ⟨ "Kind_", 168, 6, false, "", "", 23⟩, ⟨ "Equal", 169, 7, false, "", "", 24⟩, ⟨ "GCData", 109, 8, false, "", "", 32⟩, ⟨ "Str", 170, 9, false, "", "", 40⟩, ⟨ "PtrToThis", 171, 10, false, "", "", 44⟩], 11, 48, .agg #[.int .u64 0, .int .u64 0, .int .u32 0, .int .u8 0, .int .u8 0, .int .u8 0, .int .u8 0, .nilFunc, .pointer none, .int .i32 0, .int .i32 0], false, []⟩)]
set_option maxRecDepth 100000 in
theorem tbOk : TblOk Try.prog tb := by
  unfold tb
  refine .cons 1 _ _ (by kernel_rfl) (by kernel_rfl) (fun h => nomatch h) (fun q hq => nomatch hq) ?_
  refine .cons 2 _ _ (by kernel_rfl) (by kernel_rfl) (fun h => nomatch h) (fun q hq => nomatch hq) ?_
  refine .cons 3 _ _ (by kernel_rfl) (by kernel_rfl) (fun h => nomatch h) (fun q hq => nomatch hq) ?_
  refine .cons 4 _ _ (by kernel_rfl) (by kernel_rfl) (fun h => nomatch h) (fun q hq => nomatch hq) ?_
  refine .cons 5 _ _ (by kernel_rfl) (by kernel_rfl) (fun h => nomatch h) (fun q hq => nomatch hq) ?_
  refine .cons 6 _ _ (by kernel_rfl) (by kernel_rfl) (fun h => nomatch h) (fun q hq => nomatch hq) ?_
  refine .cons 7 _ _ (by kernel_rfl) (by kernel_rfl) (fun h => nomatch h) (fun q hq => nomatch hq) ?_
  refine .cons 8 _ _ (by kernel_rfl) (by kernel_rfl) (fun h => nomatch h) (fun q hq => nomatch hq) ?_
  refine .cons 9 _ _ (by kernel_rfl) (by kernel_rfl) (fun h => nomatch h) (fun q hq => nomatch hq) ?_
  refine .cons 10 _ _ (by kernel_rfl) (by kernel_rfl) (fun h => nomatch h) (fun q hq => nomatch hq) ?_
  refine .cons 11 _ _ (by kernel_rfl) (by kernel_rfl) (fun h => nomatch h) (fun q hq => nomatch hq) ?_
  refine .cons 12 _ _ (by kernel_rfl) (by kernel_rfl) (fun h => nomatch h) (fun q hq => nomatch hq) ?_
  refine .cons 13 _ _ (by kernel_rfl) (by kernel_rfl) (fun h => nomatch h) (fun q hq => nomatch hq) ?_
  refine .cons 14 _ _ (by kernel_rfl) (by kernel_rfl) (fun h => nomatch h) (fun q hq => nomatch hq) ?_
  refine .cons 15 _ _ (by kernel_rfl) (by kernel_rfl) (fun h => nomatch h) (fun q hq => nomatch hq) ?_
  refine .cons 16 _ _ (by kernel_rfl) (by kernel_rfl) (fun h => nomatch h) (fun q hq => nomatch hq) ?_
  refine .cons 17 _ _ (by kernel_rfl) (by kernel_rfl) (fun h => nomatch h) (fun q hq => nomatch hq) ?_
  refine .cons 18 _ _ (by kernel_rfl) (by kernel_rfl) (fun h => nomatch h) (fun q hq => nomatch hq) ?_
  refine .cons 19 _ _ (by kernel_rfl) (by kernel_rfl) (fun h => nomatch h) (fun q hq => nomatch hq) ?_
  refine .cons 21 _ _ (by kernel_rfl) (by kernel_rfl) (fun h => nomatch h) (fun q hq => nomatch hq) ?_
  refine .cons 22 _ _ (by kernel_rfl) (by kernel_rfl) (fun h => nomatch h) (fun q hq => nomatch hq) ?_
  refine .cons 23 _ _ (by kernel_rfl) (by kernel_rfl) (fun h => nomatch h) (fun q hq => nomatch hq) ?_
  refine .cons 24 _ _ (by kernel_rfl) (by kernel_rfl) (fun _ => by kernel_rfl) (fun q hq => nomatch hq) ?_
  refine .cons 25 _ _ (by kernel_rfl) (by kernel_rfl) (fun h => nomatch h) (fun q hq => nomatch hq) ?_
  refine .cons 27 _ _ (by kernel_rfl) (by kernel_rfl) (fun h => nomatch h) (fun q hq => nomatch hq) ?_
  refine .cons 28 _ _ (by kernel_rfl) (by kernel_rfl) (fun _ => by kernel_rfl) (fun q hq => nomatch hq) ?_
  refine .cons 30 _ _ (by kernel_rfl) (by kernel_rfl) (fun h => nomatch h) (fun q hq => nomatch hq) ?_
  refine .cons 31 _ _ (by kernel_rfl) (by kernel_rfl) (fun h => nomatch h) (fun q hq => nomatch hq) ?_
  refine .cons 32 _ _ (by kernel_rfl) (by kernel_rfl) (fun h => nomatch h) (fun q hq => nomatch hq) ?_
  refine .cons 33 _ _ (by kernel_rfl) (by kernel_rfl) (fun h => nomatch h) (fun q hq => nomatch hq) ?_
  refine .cons 34 _ _ (by kernel_rfl) (by kernel_rfl) (fun h => nomatch h) (fun q hq => nomatch hq) ?_
  refine .cons 35 _ _ (by kernel_rfl) (by kernel_rfl) (fun h => nomatch h) (fun q hq => nomatch hq) ?_
  refine .cons 36 _ _ (by kernel_rfl) (by kernel_rfl) (fun h => nomatch h) (fun q hq => nomatch hq) ?_
  refine .cons 37 _ _ (by kernel_rfl) (by kernel_rfl) (fun h => nomatch h) (fun q hq => nomatch hq) ?_
  refine .cons 38 _ _ (by kernel_rfl) (by kernel_rfl) (fun h => nomatch h) (fun q hq => nomatch hq) ?_
  refine .cons 39 _ _ (by kernel_rfl) (by kernel_rfl) (fun h => nomatch h) (fun q hq => nomatch hq) ?_
  refine .cons 40 _ _ (by kernel_rfl) (by kernel_rfl) (fun h => nomatch h) (fun q hq => nomatch hq) ?_
  refine .cons 41 _ _ (by kernel_rfl) (by kernel_rfl) (fun h => nomatch h) (fun q hq => nomatch hq) ?_
  refine .cons 42 _ _ (by kernel_rfl) (by kernel_rfl) (fun h => nomatch h) (fun q hq => nomatch hq) ?_
  refine .cons 44 _ _ (by kernel_rfl) (by kernel_rfl) (fun h => nomatch h) (fun q hq => nomatch hq) ?_
  refine .cons 45 _ _ (by kernel_rfl) (by kernel_rfl) (fun h => nomatch h) (fun q hq => nomatch hq) ?_
  refine .cons 47 _ _ (by kernel_rfl) (by kernel_rfl) (fun h => nomatch h) (fun q hq => nomatch hq) ?_
  refine .cons 48 _ _ (by kernel_rfl) (by kernel_rfl) (fun h => nomatch h) (fun q hq => nomatch hq) ?_
  refine .cons 49 _ _ (by kernel_rfl) (by kernel_rfl) (fun h => nomatch h) (fun q hq => nomatch hq) ?_
  refine .cons 50 _ _ (by kernel_rfl) (by kernel_rfl) (fun h => nomatch h) (fun q hq => nomatch hq) ?_
  refine .cons 51 _ _ (by kernel_rfl) (by kernel_rfl) (fun h => nomatch h) (fun q hq => nomatch hq) ?_
  refine .cons 52 _ _ (by kernel_rfl) (by kernel_rfl) (fun h => nomatch h) (fun q hq => nomatch hq) ?_
  refine .cons 53 _ _ (by kernel_rfl) (by kernel_rfl) (fun h => nomatch h) (fun q hq => nomatch hq) ?_
  refine .cons 54 _ _ (by kernel_rfl) (by kernel_rfl) (fun h => nomatch h) (fun q hq => nomatch hq) ?_
  refine .cons 55 _ _ (by kernel_rfl) (by kernel_rfl) (fun h => nomatch h) (fun q hq => nomatch hq) ?_
  refine .cons 56 _ _ (by kernel_rfl) (by kernel_rfl) (fun h => nomatch h) (fun q hq => nomatch hq) ?_
  refine .cons 57 _ _ (by kernel_rfl) (by kernel_rfl) (fun h => nomatch h) (fun q hq => nomatch hq) ?_
  refine .cons 58 _ _ (by kernel_rfl) (by kernel_rfl) (fun h => nomatch h) (fun q hq => nomatch hq) ?_
  refine .cons 59 _ _ (by kernel_rfl) (by kernel_rfl) (fun h => nomatch h) (fun q hq => nomatch hq) ?_
  refine .cons 60 _ _ (by kernel_rfl) (by kernel_rfl) (fun h => nomatch h) (fun q hq => nomatch hq) ?_
  refine .cons 61 _ _ (by kernel_rfl) (by kernel_rfl) (fun h => nomatch h) (fun q hq => nomatch hq) ?_
  refine .cons 63 _ _ (by kernel_rfl) (by kernel_rfl) (fun h => nomatch h) (fun q hq => nomatch hq) ?_
  refine .cons 64 _ _ (by kernel_rfl) (by kernel_rfl) (fun h => nomatch h) (fun q hq => nomatch hq) ?_
  refine .cons 65 _ _ (by kernel_rfl) (by kernel_rfl) (fun h => nomatch h) (fun q hq => nomatch hq) ?_
  refine .cons 66 _ _ (by kernel_rfl) (by kernel_rfl) (fun h => nomatch h) (fun q hq => nomatch hq) ?_
  refine .cons 67 _ _ (by kernel_rfl) (by kernel_rfl) (fun h => nomatch h) (fun q hq => by simp only [List.mem_singleton] at hq; subst hq; exact ⟨by decide, by kernel_rfl⟩) ?_
  refine .cons 68 _ _ (by kernel_rfl) (by kernel_rfl) (fun h => nomatch h) (fun q hq => nomatch hq) ?_
  refine .cons 72 _ _ (by kernel_rfl) (by kernel_rfl) (fun h => nomatch h) (fun q hq => nomatch hq) ?_
  refine .cons 73 _ _ (by kernel_rfl) (by kernel_rfl) (fun h => nomatch h) (fun q hq => nomatch hq) ?_
  refine .cons 74 _ _ (by kernel_rfl) (by kernel_rfl) (fun h => nomatch h) (fun q hq => nomatch hq) ?_
  refine .cons 76 _ _ (by kernel_rfl) (by kernel_rfl) (fun h => nomatch h) (fun q hq => nomatch hq) ?_
  refine .cons 77 _ _ (by kernel_rfl) (by kernel_rfl) (fun h => nomatch h) (fun q hq => nomatch hq) ?_
  refine .cons 78 _ _ (by kernel_rfl) (by kernel_rfl) (fun h => nomatch h) (fun q hq => nomatch hq) ?_
  refine .cons 79 _ _ (by kernel_rfl) (by kernel_rfl) (fun h => nomatch h) (fun q hq => nomatch hq) ?_
  refine .cons 80 _ _ (by kernel_rfl) (by kernel_rfl) (fun h => nomatch h) (fun q hq => nomatch hq) ?_
  refine .cons 81 _ _ (by kernel_rfl) (by kernel_rfl) (fun h => nomatch h) (fun q hq => nomatch hq) ?_
  refine .cons 82 _ _ (by kernel_rfl) (by kernel_rfl) (fun h => nomatch h) (fun q hq => nomatch hq) ?_
  refine .cons 83 _ _ (by kernel_rfl) (by kernel_rfl) (fun h => nomatch h) (fun q hq => by simp only [List.mem_singleton] at hq; subst hq; exact ⟨by decide, by kernel_rfl⟩) ?_
  refine .cons 84 _ _ (by kernel_rfl) (by kernel_rfl) (fun h => nomatch h) (fun q hq => by simp only [List.mem_singleton] at hq; subst hq; exact ⟨by decide, by kernel_rfl⟩) ?_
  refine .cons 85 _ _ (by kernel_rfl) (by kernel_rfl) (fun h => nomatch h) (fun q hq => nomatch hq) ?_
  refine .cons 86 _ _ (by kernel_rfl) (by kernel_rfl) (fun h => nomatch h) (fun q hq => nomatch hq) ?_
  refine .cons 87 _ _ (by kernel_rfl) (by kernel_rfl) (fun h => nomatch h) (fun q hq => nomatch hq) ?_
  refine .cons 88 _ _ (by kernel_rfl) (by kernel_rfl) (fun h => nomatch h) (fun q hq => nomatch hq) ?_
  refine .cons 89 _ _ (by kernel_rfl) (by kernel_rfl) (fun h => nomatch h) (fun q hq => nomatch hq) ?_
  refine .cons 90 _ _ (by kernel_rfl) (by kernel_rfl) (fun h => nomatch h) (fun q hq => nomatch hq) ?_
  refine .cons 91 _ _ (by kernel_rfl) (by kernel_rfl) (fun _ => by kernel_rfl) (fun q hq => nomatch hq) ?_
  refine .cons 92 _ _ (by kernel_rfl) (by kernel_rfl) (fun h => nomatch h) (fun q hq => nomatch hq) ?_
  refine .cons 94 _ _ (by kernel_rfl) (by kernel_rfl) (fun h => nomatch h) (fun q hq => nomatch hq) ?_
  refine .cons 95 _ _ (by kernel_rfl) (by kernel_rfl) (fun h => nomatch h) (fun q hq => nomatch hq) ?_
  refine .cons 96 _ _ (by kernel_rfl) (by kernel_rfl) (fun h => nomatch h) (fun q hq => nomatch hq) ?_
  refine .cons 97 _ _ (by kernel_rfl) (by kernel_rfl) (fun h => nomatch h) (fun q hq => nomatch hq) ?_
  refine .cons 98 _ _ (by kernel_rfl) (by kernel_rfl) (fun h => nomatch h) (fun q hq => nomatch hq) ?_
  refine .cons 99 _ _ (by kernel_rfl) (by kernel_rfl) (fun h => nomatch h) (fun q hq => nomatch hq) ?_
  refine .cons 100 _ _ (by kernel_rfl) (by kernel_rfl) (fun h => nomatch h) (fun q hq => nomatch hq) ?_
  refine .cons 102 _ _ (by kernel_rfl) (by kernel_rfl) (fun h => nomatch h) (fun q hq => nomatch hq) ?_
  refine .cons 103 _ _ (by kernel_rfl) (by kernel_rfl) (fun h => nomatch h) (fun q hq => nomatch hq) ?_
  refine .cons 104 _ _ (by kernel_rfl) (by kernel_rfl) (fun h => nomatch h) (fun q hq => nomatch hq) ?_
  refine .cons 105 _ _ (by kernel_rfl) (by kernel_rfl) (fun h => nomatch h) (fun q hq => nomatch hq) ?_
  refine .cons 106 _ _ (by kernel_rfl) (by kernel_rfl) (fun h => nomatch h) (fun q hq => nomatch hq) ?_
  refine .cons 108 _ _ (by kernel_rfl) (by kernel_rfl) (fun h => nomatch h) (fun q hq => nomatch hq) ?_
  refine .cons 109 _ _ (by kernel_rfl) (by kernel_rfl) (fun h => nomatch h) (fun q hq => nomatch hq) ?_
  refine .cons 110 _ _ (by kernel_rfl) (by kernel_rfl) (fun h => nomatch h) (fun q hq => nomatch hq) ?_
  refine .cons 111 _ _ (by kernel_rfl) (by kernel_rfl) (fun h => nomatch h) (fun q hq => nomatch hq) ?_
  refine .cons 112 _ _ (by kernel_rfl) (by kernel_rfl) (fun h => nomatch h) (fun q hq => nomatch hq) ?_
  refine .cons 113 _ _ (by kernel_rfl) (by kernel_rfl) (fun h => nomatch h) (fun q hq => nomatch hq) ?_
  refine .cons 114 _ _ (by kernel_rfl) (by kernel_rfl) (fun h => nomatch h) (fun q hq => nomatch hq) ?_
  refine .cons 115 _ _ (by kernel_rfl) (by kernel_rfl) (fun h => nomatch h) (fun q hq => nomatch hq) ?_
  refine .cons 116 _ _ (by kernel_rfl) (by kernel_rfl) (fun h => nomatch h) (fun q hq => nomatch hq) ?_
  refine .cons 118 _ _ (by kernel_rfl) (by kernel_rfl) (fun h => nomatch h) (fun q hq => nomatch hq) ?_
  refine .cons 120 _ _ (by kernel_rfl) (by kernel_rfl) (fun h => nomatch h) (fun q hq => nomatch hq) ?_
  refine .cons 121 _ _ (by kernel_rfl) (by kernel_rfl) (fun h => nomatch h) (fun q hq => nomatch hq) ?_
  refine .cons 122 _ _ (by kernel_rfl) (by kernel_rfl) (fun h => nomatch h) (fun q hq => nomatch hq) ?_
  refine .cons 123 _ _ (by kernel_rfl) (by kernel_rfl) (fun h => nomatch h) (fun q hq => nomatch hq) ?_
  refine .cons 124 _ _ (by kernel_rfl) (by kernel_rfl) (fun h => nomatch h) (fun q hq => nomatch hq) ?_
  refine .cons 126 _ _ (by kernel_rfl) (by kernel_rfl) (fun h => nomatch h) (fun q hq => nomatch hq) ?_
  refine .cons 127 _ _ (by kernel_rfl) (by kernel_rfl) (fun h => nomatch h) (fun q hq => nomatch hq) ?_
  refine .cons 129 _ _ (by kernel_rfl) (by kernel_rfl) (fun h => nomatch h) (fun q hq => nomatch hq) ?_
  refine .cons 130 _ _ (by kernel_rfl) (by kernel_rfl) (fun h => nomatch h) (fun q hq => nomatch hq) ?_
  refine .cons 131 _ _ (by kernel_rfl) (by kernel_rfl) (fun _ => by kernel_rfl) (fun q hq => nomatch hq) ?_
  refine .cons 132 _ _ (by kernel_rfl) (by kernel_rfl) (fun h => nomatch h) (fun q hq => nomatch hq) ?_
  refine .cons 133 _ _ (by kernel_rfl) (by kernel_rfl) (fun h => nomatch h) (fun q hq => nomatch hq) ?_
  refine .cons 134 _ _ (by kernel_rfl) (by kernel_rfl) (fun h => nomatch h) (fun q hq => nomatch hq) ?_
  refine .cons 135 _ _ (by kernel_rfl) (by kernel_rfl) (fun h => nomatch h) (fun q hq => nomatch hq) ?_
  refine .cons 136 _ _ (by kernel_rfl) (by kernel_rfl) (fun h => nomatch h) (fun q hq => nomatch hq) ?_
  refine .cons 137 _ _ (by kernel_rfl) (by kernel_rfl) (fun h => nomatch h) (fun q hq => nomatch hq) ?_
  refine .cons 139 _ _ (by kernel_rfl) (by kernel_rfl) (fun h => nomatch h) (fun q hq => nomatch hq) ?_
  refine .cons 140 _ _ (by kernel_rfl) (by kernel_rfl) (fun h => nomatch h) (fun q hq => nomatch hq) ?_
  refine .cons 141 _ _ (by kernel_rfl) (by kernel_rfl) (fun h => nomatch h) (fun q hq => nomatch hq) ?_
  refine .cons 142 _ _ (by kernel_rfl) (by kernel_rfl) (fun h => nomatch h) (fun q hq => nomatch hq) ?_
  refine .cons 143 _ _ (by kernel_rfl) (by kernel_rfl) (fun h => nomatch h) (fun q hq => nomatch hq) ?_
  refine .cons 144 _ _ (by kernel_rfl) (by kernel_rfl) (fun h => nomatch h) (fun q hq => nomatch hq) ?_
  refine .cons 145 _ _ (by kernel_rfl) (by kernel_rfl) (fun h => nomatch h) (fun q hq => nomatch hq) ?_
  refine .cons 146 _ _ (by kernel_rfl) (by kernel_rfl) (fun h => nomatch h) (fun q hq => nomatch hq) ?_
  refine .cons 147 _ _ (by kernel_rfl) (by kernel_rfl) (fun h => nomatch h) (fun q hq => nomatch hq) ?_
  refine .cons 148 _ _ (by kernel_rfl) (by kernel_rfl) (fun h => nomatch h) (fun q hq => nomatch hq) ?_
  refine .cons 149 _ _ (by kernel_rfl) (by kernel_rfl) (fun h => nomatch h) (fun q hq => nomatch hq) ?_
  refine .cons 150 _ _ (by kernel_rfl) (by kernel_rfl) (fun h => nomatch h) (fun q hq => nomatch hq) ?_
  refine .cons 151 _ _ (by kernel_rfl) (by kernel_rfl) (fun h => nomatch h) (fun q hq => nomatch hq) ?_
  refine .cons 153 _ _ (by kernel_rfl) (by kernel_rfl) (fun h => nomatch h) (fun q hq => nomatch hq) ?_
  refine .cons 154 _ _ (by kernel_rfl) (by kernel_rfl) (fun h => nomatch h) (fun q hq => nomatch hq) ?_
  refine .cons 155 _ _ (by kernel_rfl) (by kernel_rfl) (fun h => nomatch h) (fun q hq => nomatch hq) ?_
  refine .cons 156 _ _ (by kernel_rfl) (by kernel_rfl) (fun h => nomatch h) (fun q hq => nomatch hq) ?_
  refine .cons 157 _ _ (by kernel_rfl) (by kernel_rfl) (fun h => nomatch h) (fun q hq => nomatch hq) ?_
  refine .cons 159 _ _ (by kernel_rfl) (by kernel_rfl) (fun h => nomatch h) (fun q hq => nomatch hq) ?_
  refine .cons 161 _ _ (by kernel_rfl) (by kernel_rfl) (fun h => nomatch h) (fun q hq => nomatch hq) ?_
  refine .cons 162 _ _ (by kernel_rfl) (by kernel_rfl) (fun h => nomatch h) (fun q hq => nomatch hq) ?_
  refine .cons 163 _ _ (by kernel_rfl) (by kernel_rfl) (fun h => nomatch h) (fun q hq => nomatch hq) ?_
  refine .cons 164 _ _ (by kernel_rfl) (by kernel_rfl) (fun h => nomatch h) (fun q hq => nomatch hq) ?_
  refine .cons 165 _ _ (by kernel_rfl) (by kernel_rfl) (fun h => nomatch h) (fun q hq => nomatch hq) ?_
  refine .cons 166 _ _ (by kernel_rfl) (by kernel_rfl) (fun h => nomatch h) (fun q hq => nomatch hq) ?_
  refine .cons 167 _ _ (by kernel_rfl) (by kernel_rfl) (fun h => nomatch h) (fun q hq => nomatch hq) ?_
  refine .cons 168 _ _ (by kernel_rfl) (by kernel_rfl) (fun h => nomatch h) (fun q hq => nomatch hq) ?_
  refine .cons 169 _ _ (by kernel_rfl) (by kernel_rfl) (fun h => nomatch h) (fun q hq => nomatch hq) ?_
  refine .cons 170 _ _ (by kernel_rfl) (by kernel_rfl) (fun h => nomatch h) (fun q hq => nomatch hq) ?_
  refine .cons 171 _ _ (by kernel_rfl) (by kernel_rfl) (fun h => nomatch h) (fun q hq => nomatch hq) ?_
  refine .cons 172 _ _ (by kernel_rfl) (by kernel_rfl) (fun h => nomatch h) (fun q hq => nomatch hq) ?_
  refine .cons 173 _ _ (by kernel_rfl) (by kernel_rfl) (fun h => nomatch h) (fun q hq => nomatch hq) ?_
  exact .nil _
theorem mixed : Try.prog.follows .mixedOrders = true := by kernel_rfl
end Go.Proofs.Ytlhjieapkcnghaa
