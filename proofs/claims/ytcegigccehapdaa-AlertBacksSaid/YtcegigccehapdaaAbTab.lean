/- The abstract layer: the table of this program's types. -/
import Derived.Test.YtcegigccehapdaaAbZ
namespace Go.Proofs.Ytcegigccehapdaa
open Go.RowKit

theorem TblOk.nil (P : Program) : TblOk P [] := fun t ti h => by cases h
theorem TblOk.cons {P : Program} (t : Nat) (ti : TI) (l : Tbl) (h : P.underlying t = some ti.d) (hi : (P.info? t).map (fun i => (i.size, i.bytes, i.zero)) = some (ti.size, ti.bytes, some ti.zero)) (hc : ti.cmp = true → cmpOk P t = true) (hl : TblOk P l) : TblOk P ((t, ti) :: l) := by
  intro t' ti' h'
  rw [List.lookup_cons] at h'
  by_cases ht : t' = t
  · subst ht
    simp only [beq_self_eq_true, Option.some.injEq] at h'
    subst h'
    obtain ⟨i, h1, h2⟩ := Option.map_eq_some_iff.1 hi
    simp only [Prod.mk.injEq] at h2
    exact ⟨h, i, h1, h2.1, h2.2.1, h2.2.2, hc⟩
  · have hb : (t' == t) = false := by simpa using ht
    rw [hb] at h'
    exact hl t' ti' h'
def tb : Tbl := [(2, ⟨.int .i64, 1, 8, .int .i64 0, false⟩),
  (3, ⟨.int .i64, 1, 8, .int .i64 0, false⟩),
  (4, ⟨.bool, 1, 1, .bool false, false⟩),
  (5, ⟨.int .u8, 1, 1, .int .u8 0, false⟩),
  (6, ⟨.int .u8, 1, 1, .int .u8 0, false⟩),
  (7, ⟨.struct #[⟨ "x", 2, 0, false, "", "runtime", 0⟩, ⟨ "y", 3, 1, false, "", "runtime", 8⟩, ⟨ "signed", 4, 2, false, "", "runtime", 16⟩, ⟨ "code", 6, 3, false, "", "runtime", 17⟩], 4, 24, .agg #[.int .i64 0, .int .i64 0, .bool false, .int .u8 0], false⟩),
  (8, ⟨.struct #[⟨ "x", 2, 0, false, "", "runtime", 0⟩, ⟨ "y", 3, 1, false, "", "runtime", 8⟩, ⟨ "signed", 4, 2, false, "", "runtime", 16⟩, ⟨ "code", 6, 3, false, "", "runtime", 17⟩], 4, 24, .agg #[.int .i64 0, .int .i64 0, .bool false, .int .u8 0], false⟩),
  (9, ⟨.string, 1, 16, .string ByteArray.empty, false⟩),
  (10, ⟨.string, 1, 16, .string ByteArray.empty, false⟩),
  (11, ⟨.string, 1, 16, .string ByteArray.empty, false⟩),
  (12, ⟨.int .u64, 1, 8, .int .u64 0, false⟩),
  (13, ⟨.struct #[⟨ "msg", 9, 0, false, "", "runtime", 0⟩, ⟨ "addr", 12, 1, false, "", "runtime", 16⟩], 2, 24, .agg #[.string ByteArray.empty, .int .u64 0], false⟩),
  (14, ⟨.struct #[⟨ "msg", 9, 0, false, "", "runtime", 0⟩, ⟨ "addr", 12, 1, false, "", "runtime", 16⟩], 2, 24, .agg #[.string ByteArray.empty, .int .u64 0], false⟩),
  (15, ⟨.pointer 142, 1, 8, .pointer none, false⟩),
  (16, ⟨.pointer 145, 1, 8, .pointer none, false⟩),
  (17, ⟨.pointer 154, 1, 8, .pointer none, false⟩),
  (18, ⟨.struct #[⟨ "typ", 17, 0, false, "", "internal/runtime/maps", 0⟩], 1, 8, .agg #[.pointer none], false⟩),
  (19, ⟨.struct #[⟨ "typ", 17, 0, false, "", "internal/runtime/maps", 0⟩], 1, 8, .agg #[.pointer none], false⟩),
  (21, ⟨.int .i32, 1, 4, .int .i32 0, false⟩),
  (22, ⟨.slice 4, 1, 24, .slice none 0 0, false⟩),
  (23, ⟨.slice 29, 1, 24, .slice none 0 0, false⟩),
  (24, ⟨.int .i64, 1, 8, .int .i64 0, false⟩),
  (25, ⟨.slice 27, 1, 24, .slice none 0 0, false⟩),
  (26, ⟨.struct #[⟨ "K", 24, 0, false, "", "", 0⟩, ⟨ "S", 9, 1, false, "", "", 8⟩, ⟨ "N", 3, 2, false, "", "", 24⟩, ⟨ "B", 4, 3, false, "", "", 32⟩, ⟨ "L", 25, 4, false, "", "", 40⟩], 5, 64, .agg #[.int .i64 0, .string ByteArray.empty, .int .i64 0, .bool false, .slice none 0 0], false⟩),
  (27, ⟨.struct #[⟨ "K", 24, 0, false, "", "", 0⟩, ⟨ "S", 9, 1, false, "", "", 8⟩, ⟨ "N", 3, 2, false, "", "", 24⟩, ⟨ "B", 4, 3, false, "", "", 32⟩, ⟨ "L", 25, 4, false, "", "", 40⟩], 5, 64, .agg #[.int .i64 0, .string ByteArray.empty, .int .i64 0, .bool false, .slice none 0 0], false⟩),
  (28, ⟨.struct #[⟨ "V", 27, 0, false, "", "", 0⟩, ⟨ "Secret", 4, 5, false, "", "", 64⟩], 6, 72, .agg #[.int .i64 0, .string ByteArray.empty, .int .i64 0, .bool false, .slice none 0 0, .bool false], false⟩),
  (29, ⟨.struct #[⟨ "V", 27, 0, false, "", "", 0⟩, ⟨ "Secret", 4, 5, false, "", "", 64⟩], 6, 72, .agg #[.int .i64 0, .string ByteArray.empty, .int .i64 0, .bool false, .slice none 0 0, .bool false], false⟩),
  (40, ⟨.int .u16, 1, 2, .int .u16 0, false⟩),
  (53, ⟨.struct #[⟨ "V", 27, 0, false, "", "", 0⟩, ⟨ "Secret", 4, 5, false, "", "", 64⟩], 6, 72, .agg #[.int .i64 0, .string ByteArray.empty, .int .i64 0, .bool false, .slice none 0 0, .bool false], false⟩),
  (60, ⟨.slice 53, 1, 24, .slice none 0 0, false⟩),
  (66, ⟨.slice 73, 1, 24, .slice none 0 0, false⟩),
  (67, ⟨.slice 71, 1, 24, .slice none 0 0, false⟩),
  (68, ⟨.struct #[⟨ "Receiver", 9, 0, false, "", "", 0⟩, ⟨ "Firing", 4, 1, false, "", "", 16⟩, ⟨ "Common", 66, 2, false, "", "", 24⟩, ⟨ "Link", 9, 3, false, "", "", 48⟩, ⟨ "Alerts", 67, 4, false, "", "", 64⟩], 5, 88, .agg #[.string ByteArray.empty, .bool false, .slice none 0 0, .string ByteArray.empty, .slice none 0 0], false⟩),
  (69, ⟨.struct #[⟨ "Receiver", 9, 0, false, "", "", 0⟩, ⟨ "Firing", 4, 1, false, "", "", 16⟩, ⟨ "Common", 66, 2, false, "", "", 24⟩, ⟨ "Link", 9, 3, false, "", "", 48⟩, ⟨ "Alerts", 67, 4, false, "", "", 64⟩], 5, 88, .agg #[.string ByteArray.empty, .bool false, .slice none 0 0, .string ByteArray.empty, .slice none 0 0], false⟩),
  (70, ⟨.struct #[⟨ "Firing", 4, 0, false, "", "", 0⟩, ⟨ "Starts", 3, 1, false, "", "", 8⟩, ⟨ "Value", 3, 2, false, "", "", 16⟩, ⟨ "Labels", 66, 3, false, "", "", 24⟩, ⟨ "Notes", 66, 4, false, "", "", 48⟩, ⟨ "Link", 9, 5, false, "", "", 72⟩], 6, 88, .agg #[.bool false, .int .i64 0, .int .i64 0, .slice none 0 0, .slice none 0 0, .string ByteArray.empty], false⟩),
  (71, ⟨.struct #[⟨ "Firing", 4, 0, false, "", "", 0⟩, ⟨ "Starts", 3, 1, false, "", "", 8⟩, ⟨ "Value", 3, 2, false, "", "", 16⟩, ⟨ "Labels", 66, 3, false, "", "", 24⟩, ⟨ "Notes", 66, 4, false, "", "", 48⟩, ⟨ "Link", 9, 5, false, "", "", 72⟩], 6, 88, .agg #[.bool false, .int .i64 0, .int .i64 0, .slice none 0 0, .slice none 0 0, .string ByteArray.empty], false⟩),
  (72, ⟨.struct #[⟨ "Key", 9, 0, false, "", "", 0⟩, ⟨ "Val", 9, 1, false, "", "", 16⟩], 2, 32, .agg #[.string ByteArray.empty, .string ByteArray.empty], false⟩),
  (73, ⟨.struct #[⟨ "Key", 9, 0, false, "", "", 0⟩, ⟨ "Val", 9, 1, false, "", "", 16⟩], 2, 32, .agg #[.string ByteArray.empty, .string ByteArray.empty], true⟩),
  (74, ⟨.slice 5, 1, 24, .slice none 0 0, false⟩),
  (75, ⟨.int .i64, 1, 8, .int .i64 0, false⟩),
  (87, ⟨.pointer 127, 1, 8, .pointer none, false⟩),
  (88, ⟨.struct #[⟨ "last", 87, 0, false, "", "nuncio/taint", 0⟩, ⟨ "many", 3, 1, false, "", "nuncio/taint", 8⟩], 2, 16, .agg #[.pointer none, .int .i64 0], false⟩),
  (89, ⟨.struct #[⟨ "last", 87, 0, false, "", "nuncio/taint", 0⟩, ⟨ "many", 3, 1, false, "", "nuncio/taint", 8⟩], 2, 16, .agg #[.pointer none, .int .i64 0], false⟩),
  (97, ⟨.slice 9, 1, 24, .slice none 0 0, false⟩),
  (100, ⟨.slice 24, 1, 24, .slice none 0 0, false⟩),
  (105, ⟨.slice 66, 1, 24, .slice none 0 0, false⟩),
  (112, ⟨.pointer 116, 1, 8, .pointer none, false⟩),
  (113, ⟨.struct #[⟨ "l", 25, 0, false, "", "nuncio/alert", 0⟩], 1, 24, .agg #[.slice none 0 0], false⟩),
  (114, ⟨.struct #[⟨ "l", 25, 0, false, "", "nuncio/alert", 0⟩], 1, 24, .agg #[.slice none 0 0], false⟩),
  (115, ⟨.struct #[⟨ "record", 114, 0, true, "", "nuncio/alert", 0⟩], 1, 24, .agg #[.slice none 0 0], false⟩),
  (116, ⟨.struct #[⟨ "record", 114, 0, true, "", "nuncio/alert", 0⟩], 1, 24, .agg #[.slice none 0 0], false⟩),
  (126, ⟨.struct #[⟨ "name", 9, 0, false, "", "nuncio/taint", 0⟩, ⟨ "t", 29, 1, false, "", "nuncio/taint", 16⟩, ⟨ "ahead", 87, 7, false, "", "nuncio/taint", 88⟩], 8, 96, .agg #[.string ByteArray.empty, .int .i64 0, .string ByteArray.empty, .int .i64 0, .bool false, .slice none 0 0, .bool false, .pointer none], false⟩),
  (127, ⟨.struct #[⟨ "name", 9, 0, false, "", "nuncio/taint", 0⟩, ⟨ "t", 29, 1, false, "", "nuncio/taint", 16⟩, ⟨ "ahead", 87, 7, false, "", "nuncio/taint", 88⟩], 8, 96, .agg #[.string ByteArray.empty, .int .i64 0, .string ByteArray.empty, .int .i64 0, .bool false, .slice none 0 0, .bool false, .pointer none], false⟩),
  (132, ⟨.slice 135, 1, 24, .slice none 0 0, false⟩),
  (134, ⟨.struct #[⟨ "of", 24, 0, false, "", "nuncio/kind", 0⟩, ⟨ "name", 9, 1, false, "", "nuncio/kind", 8⟩, ⟨ "is", 24, 2, false, "", "nuncio/kind", 24⟩], 3, 32, .agg #[.int .i64 0, .string ByteArray.empty, .int .i64 0], false⟩),
  (135, ⟨.struct #[⟨ "of", 24, 0, false, "", "nuncio/kind", 0⟩, ⟨ "name", 9, 1, false, "", "nuncio/kind", 8⟩, ⟨ "is", 24, 2, false, "", "nuncio/kind", 24⟩], 3, 32, .agg #[.int .i64 0, .string ByteArray.empty, .int .i64 0], true⟩),
  (138, ⟨.pointer 114, 1, 8, .pointer none, false⟩),
  (141, ⟨.struct #[⟨ "_interface", 17, 0, false, "", "runtime", 0⟩, ⟨ "concrete", 17, 1, false, "", "runtime", 8⟩, ⟨ "asserted", 17, 2, false, "", "runtime", 16⟩, ⟨ "missingMethod", 9, 3, false, "", "runtime", 24⟩], 4, 40, .agg #[.pointer none, .pointer none, .pointer none, .string ByteArray.empty], false⟩),
  (142, ⟨.struct #[⟨ "_interface", 17, 0, false, "", "runtime", 0⟩, ⟨ "concrete", 17, 1, false, "", "runtime", 8⟩, ⟨ "asserted", 17, 2, false, "", "runtime", 16⟩, ⟨ "missingMethod", 9, 3, false, "", "runtime", 24⟩], 4, 40, .agg #[.pointer none, .pointer none, .pointer none, .string ByteArray.empty], false⟩),
  (143, ⟨.array 0 16, 0, 0, .agg #[], false⟩),
  (144, ⟨.struct #[⟨ "_", 143, 0, false, "", "runtime", 0⟩], 0, 0, .agg #[], false⟩),
  (145, ⟨.struct #[⟨ "_", 143, 0, false, "", "runtime", 0⟩], 0, 0, .agg #[], false⟩),
  (146, ⟨.int .u32, 1, 4, .int .u32 0, false⟩),
  (147, ⟨.int .u8, 1, 1, .int .u8 0, false⟩),
  (148, ⟨.int .u8, 1, 1, .int .u8 0, false⟩),
  (150, ⟨.pointer 5, 1, 8, .pointer none, false⟩),
  (151, ⟨.int .i32, 1, 4, .int .i32 0, false⟩),
  (152, ⟨.int .i32, 1, 4, .int .i32 0, false⟩),
  (153, ⟨.struct #[⟨ "Size_", 12, 0, false, "", "", 0⟩, ⟨ "PtrBytes", 12, 1, false, "", "", 8⟩, ⟨ "Hash", 146, 2, false, "", "", 16⟩, ⟨ "TFlag", 147, 3, false, "", "", 20⟩, ⟨ "Align_", 5, 4, false, "", "", 21⟩, ⟨ "FieldAlign_", 5, 5, false, "", "", 22⟩, ⟨ "Kind_", 148, 6, false, "", "", 23⟩, ⟨ "Equal", 149, 7, false, "", "", 24⟩, ⟨ "GCData", 150, 8, false, "", "", 32⟩, ⟨ "Str", 151, 9, false, "", "", 40⟩, ⟨ "PtrToThis", 152, 10, false, "", "", 44⟩], 11, 48, .agg #[.int .u64 0, .int .u64 0, .int .u32 0, .int .u8 0, .int .u8 0, .int .u8 0, .int .u8 0, .nilFunc, .pointer none, .int .i32 0, .int .i32 0], false⟩),
  (154, ⟨.struct #[⟨ "Size_", 12, 0, false, "", "", 0⟩, ⟨ "PtrBytes", 12, 1, false, "", "", 8⟩, ⟨ "Hash", 146, 2, false, "", "", 16⟩, ⟨ "TFlag", 147, 3, false, "", "", 20⟩, ⟨ "Align_", 5, 4, false, "", "", 21⟩, ⟨ "FieldAlign_", 5, 5, false, "", "", 22⟩, ⟨ "Kind_", 148, 6, false, "", "", 23⟩, ⟨ "Equal", 149, 7, false, "", "", 24⟩, ⟨ "GCData", 150, 8, false, "", "", 32⟩, ⟨ "Str", 151, 9, false, "", "", 40⟩, ⟨ "PtrToThis", 152, 10, false, "", "", 44⟩], 11, 48, .agg #[.int .u64 0, .int .u64 0, .int .u32 0, .int .u8 0, .int .u8 0, .int .u8 0, .int .u8 0, .nilFunc, .pointer none, .int .i32 0, .int .i32 0], false⟩)]
set_option maxRecDepth 100000 in
theorem tbOk : TblOk Try.prog tb := by
  unfold tb
  refine .cons 2 _ _ (by kernel_rfl) (by kernel_rfl) (fun h => nomatch h) ?_
  refine .cons 3 _ _ (by kernel_rfl) (by kernel_rfl) (fun h => nomatch h) ?_
  refine .cons 4 _ _ (by kernel_rfl) (by kernel_rfl) (fun h => nomatch h) ?_
  refine .cons 5 _ _ (by kernel_rfl) (by kernel_rfl) (fun h => nomatch h) ?_
  refine .cons 6 _ _ (by kernel_rfl) (by kernel_rfl) (fun h => nomatch h) ?_
  refine .cons 7 _ _ (by kernel_rfl) (by kernel_rfl) (fun h => nomatch h) ?_
  refine .cons 8 _ _ (by kernel_rfl) (by kernel_rfl) (fun h => nomatch h) ?_
  refine .cons 9 _ _ (by kernel_rfl) (by kernel_rfl) (fun h => nomatch h) ?_
  refine .cons 10 _ _ (by kernel_rfl) (by kernel_rfl) (fun h => nomatch h) ?_
  refine .cons 11 _ _ (by kernel_rfl) (by kernel_rfl) (fun h => nomatch h) ?_
  refine .cons 12 _ _ (by kernel_rfl) (by kernel_rfl) (fun h => nomatch h) ?_
  refine .cons 13 _ _ (by kernel_rfl) (by kernel_rfl) (fun h => nomatch h) ?_
  refine .cons 14 _ _ (by kernel_rfl) (by kernel_rfl) (fun h => nomatch h) ?_
  refine .cons 15 _ _ (by kernel_rfl) (by kernel_rfl) (fun h => nomatch h) ?_
  refine .cons 16 _ _ (by kernel_rfl) (by kernel_rfl) (fun h => nomatch h) ?_
  refine .cons 17 _ _ (by kernel_rfl) (by kernel_rfl) (fun h => nomatch h) ?_
  refine .cons 18 _ _ (by kernel_rfl) (by kernel_rfl) (fun h => nomatch h) ?_
  refine .cons 19 _ _ (by kernel_rfl) (by kernel_rfl) (fun h => nomatch h) ?_
  refine .cons 21 _ _ (by kernel_rfl) (by kernel_rfl) (fun h => nomatch h) ?_
  refine .cons 22 _ _ (by kernel_rfl) (by kernel_rfl) (fun h => nomatch h) ?_
  refine .cons 23 _ _ (by kernel_rfl) (by kernel_rfl) (fun h => nomatch h) ?_
  refine .cons 24 _ _ (by kernel_rfl) (by kernel_rfl) (fun h => nomatch h) ?_
  refine .cons 25 _ _ (by kernel_rfl) (by kernel_rfl) (fun h => nomatch h) ?_
  refine .cons 26 _ _ (by kernel_rfl) (by kernel_rfl) (fun h => nomatch h) ?_
  refine .cons 27 _ _ (by kernel_rfl) (by kernel_rfl) (fun h => nomatch h) ?_
  refine .cons 28 _ _ (by kernel_rfl) (by kernel_rfl) (fun h => nomatch h) ?_
  refine .cons 29 _ _ (by kernel_rfl) (by kernel_rfl) (fun h => nomatch h) ?_
  refine .cons 40 _ _ (by kernel_rfl) (by kernel_rfl) (fun h => nomatch h) ?_
  refine .cons 53 _ _ (by kernel_rfl) (by kernel_rfl) (fun h => nomatch h) ?_
  refine .cons 60 _ _ (by kernel_rfl) (by kernel_rfl) (fun h => nomatch h) ?_
  refine .cons 66 _ _ (by kernel_rfl) (by kernel_rfl) (fun h => nomatch h) ?_
  refine .cons 67 _ _ (by kernel_rfl) (by kernel_rfl) (fun h => nomatch h) ?_
  refine .cons 68 _ _ (by kernel_rfl) (by kernel_rfl) (fun h => nomatch h) ?_
  refine .cons 69 _ _ (by kernel_rfl) (by kernel_rfl) (fun h => nomatch h) ?_
  refine .cons 70 _ _ (by kernel_rfl) (by kernel_rfl) (fun h => nomatch h) ?_
  refine .cons 71 _ _ (by kernel_rfl) (by kernel_rfl) (fun h => nomatch h) ?_
  refine .cons 72 _ _ (by kernel_rfl) (by kernel_rfl) (fun h => nomatch h) ?_
  refine .cons 73 _ _ (by kernel_rfl) (by kernel_rfl) (fun _ => by kernel_rfl) ?_
  refine .cons 74 _ _ (by kernel_rfl) (by kernel_rfl) (fun h => nomatch h) ?_
  refine .cons 75 _ _ (by kernel_rfl) (by kernel_rfl) (fun h => nomatch h) ?_
  refine .cons 87 _ _ (by kernel_rfl) (by kernel_rfl) (fun h => nomatch h) ?_
  refine .cons 88 _ _ (by kernel_rfl) (by kernel_rfl) (fun h => nomatch h) ?_
  refine .cons 89 _ _ (by kernel_rfl) (by kernel_rfl) (fun h => nomatch h) ?_
  refine .cons 97 _ _ (by kernel_rfl) (by kernel_rfl) (fun h => nomatch h) ?_
  refine .cons 100 _ _ (by kernel_rfl) (by kernel_rfl) (fun h => nomatch h) ?_
  refine .cons 105 _ _ (by kernel_rfl) (by kernel_rfl) (fun h => nomatch h) ?_
  refine .cons 112 _ _ (by kernel_rfl) (by kernel_rfl) (fun h => nomatch h) ?_
  refine .cons 113 _ _ (by kernel_rfl) (by kernel_rfl) (fun h => nomatch h) ?_
  refine .cons 114 _ _ (by kernel_rfl) (by kernel_rfl) (fun h => nomatch h) ?_
  refine .cons 115 _ _ (by kernel_rfl) (by kernel_rfl) (fun h => nomatch h) ?_
  refine .cons 116 _ _ (by kernel_rfl) (by kernel_rfl) (fun h => nomatch h) ?_
  refine .cons 126 _ _ (by kernel_rfl) (by kernel_rfl) (fun h => nomatch h) ?_
  refine .cons 127 _ _ (by kernel_rfl) (by kernel_rfl) (fun h => nomatch h) ?_
  refine .cons 132 _ _ (by kernel_rfl) (by kernel_rfl) (fun h => nomatch h) ?_
  refine .cons 134 _ _ (by kernel_rfl) (by kernel_rfl) (fun h => nomatch h) ?_
  refine .cons 135 _ _ (by kernel_rfl) (by kernel_rfl) (fun _ => by kernel_rfl) ?_
  refine .cons 138 _ _ (by kernel_rfl) (by kernel_rfl) (fun h => nomatch h) ?_
  refine .cons 141 _ _ (by kernel_rfl) (by kernel_rfl) (fun h => nomatch h) ?_
  refine .cons 142 _ _ (by kernel_rfl) (by kernel_rfl) (fun h => nomatch h) ?_
  refine .cons 143 _ _ (by kernel_rfl) (by kernel_rfl) (fun h => nomatch h) ?_
  refine .cons 144 _ _ (by kernel_rfl) (by kernel_rfl) (fun h => nomatch h) ?_
  refine .cons 145 _ _ (by kernel_rfl) (by kernel_rfl) (fun h => nomatch h) ?_
  refine .cons 146 _ _ (by kernel_rfl) (by kernel_rfl) (fun h => nomatch h) ?_
  refine .cons 147 _ _ (by kernel_rfl) (by kernel_rfl) (fun h => nomatch h) ?_
  refine .cons 148 _ _ (by kernel_rfl) (by kernel_rfl) (fun h => nomatch h) ?_
  refine .cons 150 _ _ (by kernel_rfl) (by kernel_rfl) (fun h => nomatch h) ?_
  refine .cons 151 _ _ (by kernel_rfl) (by kernel_rfl) (fun h => nomatch h) ?_
  refine .cons 152 _ _ (by kernel_rfl) (by kernel_rfl) (fun h => nomatch h) ?_
  refine .cons 153 _ _ (by kernel_rfl) (by kernel_rfl) (fun h => nomatch h) ?_
  refine .cons 154 _ _ (by kernel_rfl) (by kernel_rfl) (fun h => nomatch h) ?_
  exact .nil _
theorem mixed : Try.prog.follows .mixedOrders = true := by kernel_rfl
end Go.Proofs.Ytcegigccehapdaa
