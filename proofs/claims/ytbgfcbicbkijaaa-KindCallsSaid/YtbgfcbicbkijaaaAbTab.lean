/- The abstract layer: the table of this program's types. -/
import Derived.Test.YtbgfcbicbkijaaaAbZ
namespace Go.Proofs.Ytbgfcbicbkijaaa
open Go.RowKit

theorem TblOk.nil (P : Program) : TblOk P [] := fun t ti h => by cases h
theorem TblOk.cons {P : Program} (t : Nat) (ti : TI) (l : Tbl) (h : P.underlying t = some ti.d) (hi : (P.info? t).map (fun i => (i.size, i.bytes, i.zero)) = some (ti.size, ti.bytes, some ti.zero)) (hl : TblOk P l) : TblOk P ((t, ti) :: l) := by
  intro t' ti' h'
  rw [List.lookup_cons] at h'
  by_cases ht : t' = t
  · subst ht
    simp only [beq_self_eq_true, Option.some.injEq] at h'
    subst h'
    obtain ⟨i, h1, h2⟩ := Option.map_eq_some_iff.1 hi
    simp only [Prod.mk.injEq] at h2
    exact ⟨h, i, h1, h2.1, h2.2.1, h2.2.2⟩
  · have hb : (t' == t) = false := by simpa using ht
    rw [hb] at h'
    exact hl t' ti' h'
def tb : Tbl := [(2, ⟨.int .i64, 1, 8, .int .i64 0⟩),
  (3, ⟨.int .i64, 1, 8, .int .i64 0⟩),
  (4, ⟨.bool, 1, 1, .bool false⟩),
  (5, ⟨.int .u8, 1, 1, .int .u8 0⟩),
  (6, ⟨.int .u8, 1, 1, .int .u8 0⟩),
  (7, ⟨.struct #[⟨ "x", 2, 0, false, "", "runtime", 0⟩, ⟨ "y", 3, 1, false, "", "runtime", 8⟩, ⟨ "signed", 4, 2, false, "", "runtime", 16⟩, ⟨ "code", 6, 3, false, "", "runtime", 17⟩], 4, 24, .agg #[.int .i64 0, .int .i64 0, .bool false, .int .u8 0]⟩),
  (8, ⟨.struct #[⟨ "x", 2, 0, false, "", "runtime", 0⟩, ⟨ "y", 3, 1, false, "", "runtime", 8⟩, ⟨ "signed", 4, 2, false, "", "runtime", 16⟩, ⟨ "code", 6, 3, false, "", "runtime", 17⟩], 4, 24, .agg #[.int .i64 0, .int .i64 0, .bool false, .int .u8 0]⟩),
  (9, ⟨.string, 1, 16, .string ByteArray.empty⟩),
  (10, ⟨.string, 1, 16, .string ByteArray.empty⟩),
  (11, ⟨.string, 1, 16, .string ByteArray.empty⟩),
  (12, ⟨.int .u64, 1, 8, .int .u64 0⟩),
  (13, ⟨.struct #[⟨ "msg", 9, 0, false, "", "runtime", 0⟩, ⟨ "addr", 12, 1, false, "", "runtime", 16⟩], 2, 24, .agg #[.string ByteArray.empty, .int .u64 0]⟩),
  (14, ⟨.struct #[⟨ "msg", 9, 0, false, "", "runtime", 0⟩, ⟨ "addr", 12, 1, false, "", "runtime", 16⟩], 2, 24, .agg #[.string ByteArray.empty, .int .u64 0]⟩),
  (15, ⟨.pointer 93, 1, 8, .pointer none⟩),
  (16, ⟨.pointer 96, 1, 8, .pointer none⟩),
  (17, ⟨.pointer 105, 1, 8, .pointer none⟩),
  (18, ⟨.struct #[⟨ "typ", 17, 0, false, "", "internal/runtime/maps", 0⟩], 1, 8, .agg #[.pointer none]⟩),
  (19, ⟨.struct #[⟨ "typ", 17, 0, false, "", "internal/runtime/maps", 0⟩], 1, 8, .agg #[.pointer none]⟩),
  (21, ⟨.int .i32, 1, 4, .int .i32 0⟩),
  (29, ⟨.slice 3, 1, 24, .slice none 0 0⟩),
  (30, ⟨.slice 31, 1, 24, .slice none 0 0⟩),
  (31, ⟨.int .i64, 1, 8, .int .i64 0⟩),
  (35, ⟨.slice 9, 1, 24, .slice none 0 0⟩),
  (51, ⟨.slice 5, 1, 24, .slice none 0 0⟩),
  (54, ⟨.int .u64, 1, 8, .int .u64 0⟩),
  (58, ⟨.slice 61, 1, 24, .slice none 0 0⟩),
  (60, ⟨.struct #[⟨ "Name", 9, 0, false, "", "", 0⟩, ⟨ "In", 30, 1, false, "", "", 16⟩, ⟨ "Gives", 31, 2, false, "", "", 40⟩], 3, 48, .agg #[.string ByteArray.empty, .slice none 0 0, .int .i64 0]⟩),
  (61, ⟨.struct #[⟨ "Name", 9, 0, false, "", "", 0⟩, ⟨ "In", 30, 1, false, "", "", 16⟩, ⟨ "Gives", 31, 2, false, "", "", 40⟩], 3, 48, .agg #[.string ByteArray.empty, .slice none 0 0, .int .i64 0]⟩),
  (62, ⟨.slice 65, 1, 24, .slice none 0 0⟩),
  (64, ⟨.struct #[⟨ "of", 31, 0, false, "", "nuncio/kind", 0⟩, ⟨ "name", 9, 1, false, "", "nuncio/kind", 8⟩, ⟨ "is", 31, 2, false, "", "nuncio/kind", 24⟩], 3, 32, .agg #[.int .i64 0, .string ByteArray.empty, .int .i64 0]⟩),
  (65, ⟨.struct #[⟨ "of", 31, 0, false, "", "nuncio/kind", 0⟩, ⟨ "name", 9, 1, false, "", "nuncio/kind", 8⟩, ⟨ "is", 31, 2, false, "", "nuncio/kind", 24⟩], 3, 32, .agg #[.int .i64 0, .string ByteArray.empty, .int .i64 0]⟩),
  (68, ⟨.array 10 9, 10, 160, .agg #[.string ByteArray.empty, .string ByteArray.empty, .string ByteArray.empty, .string ByteArray.empty, .string ByteArray.empty, .string ByteArray.empty, .string ByteArray.empty, .string ByteArray.empty, .string ByteArray.empty, .string ByteArray.empty]⟩),
  (71, ⟨.int .u64, 1, 8, .int .u64 0⟩),
  (72, ⟨.array 20 5, 20, 20, .agg #[.int .u8 0, .int .u8 0, .int .u8 0, .int .u8 0, .int .u8 0, .int .u8 0, .int .u8 0, .int .u8 0, .int .u8 0, .int .u8 0, .int .u8 0, .int .u8 0, .int .u8 0, .int .u8 0, .int .u8 0, .int .u8 0, .int .u8 0, .int .u8 0, .int .u8 0, .int .u8 0]⟩),
  (79, ⟨.pointer 81, 1, 8, .pointer none⟩),
  (80, ⟨.struct #[⟨ "addr", 79, 0, false, "", "strings", 0⟩, ⟨ "buf", 51, 1, false, "", "strings", 8⟩], 2, 32, .agg #[.pointer none, .slice none 0 0]⟩),
  (81, ⟨.struct #[⟨ "addr", 79, 0, false, "", "strings", 0⟩, ⟨ "buf", 51, 1, false, "", "strings", 8⟩], 2, 32, .agg #[.pointer none, .slice none 0 0]⟩),
  (88, ⟨.pointer 5, 1, 8, .pointer none⟩),
  (92, ⟨.struct #[⟨ "_interface", 17, 0, false, "", "runtime", 0⟩, ⟨ "concrete", 17, 1, false, "", "runtime", 8⟩, ⟨ "asserted", 17, 2, false, "", "runtime", 16⟩, ⟨ "missingMethod", 9, 3, false, "", "runtime", 24⟩], 4, 40, .agg #[.pointer none, .pointer none, .pointer none, .string ByteArray.empty]⟩),
  (93, ⟨.struct #[⟨ "_interface", 17, 0, false, "", "runtime", 0⟩, ⟨ "concrete", 17, 1, false, "", "runtime", 8⟩, ⟨ "asserted", 17, 2, false, "", "runtime", 16⟩, ⟨ "missingMethod", 9, 3, false, "", "runtime", 24⟩], 4, 40, .agg #[.pointer none, .pointer none, .pointer none, .string ByteArray.empty]⟩),
  (94, ⟨.array 0 16, 0, 0, .agg #[]⟩),
  (95, ⟨.struct #[⟨ "_", 94, 0, false, "", "runtime", 0⟩], 0, 0, .agg #[]⟩),
  (96, ⟨.struct #[⟨ "_", 94, 0, false, "", "runtime", 0⟩], 0, 0, .agg #[]⟩),
  (98, ⟨.int .u32, 1, 4, .int .u32 0⟩),
  (99, ⟨.int .u8, 1, 1, .int .u8 0⟩),
  (100, ⟨.int .u8, 1, 1, .int .u8 0⟩),
  (102, ⟨.int .i32, 1, 4, .int .i32 0⟩),
  (103, ⟨.int .i32, 1, 4, .int .i32 0⟩),
  (104, ⟨.struct #[⟨ "Size_", 12, 0, false, "", "", 0⟩, ⟨ "PtrBytes", 12, 1, false, "", "", 8⟩, ⟨ "Hash", 98, 2, false, "", "", 16⟩, ⟨ "TFlag", 99, 3, false, "", "", 20⟩, ⟨ "Align_", 5, 4, false, "", "", 21⟩, ⟨ "FieldAlign_", 5, 5, false, "", "", 22⟩, ⟨ "Kind_", 100, 6, false, "", "", 23⟩, ⟨ "Equal", 101, 7, false, "", "", 24⟩, ⟨ "GCData", 88, 8, false, "", "", 32⟩, ⟨ "Str", 102, 9, false, "", "", 40⟩, ⟨ "PtrToThis", 103, 10, false, "", "", 44⟩], 11, 48, .agg #[.int .u64 0, .int .u64 0, .int .u32 0, .int .u8 0, .int .u8 0, .int .u8 0, .int .u8 0, .nilFunc, .pointer none, .int .i32 0, .int .i32 0]⟩),
  (105, ⟨.struct #[⟨ "Size_", 12, 0, false, "", "", 0⟩, ⟨ "PtrBytes", 12, 1, false, "", "", 8⟩, ⟨ "Hash", 98, 2, false, "", "", 16⟩, ⟨ "TFlag", 99, 3, false, "", "", 20⟩, ⟨ "Align_", 5, 4, false, "", "", 21⟩, ⟨ "FieldAlign_", 5, 5, false, "", "", 22⟩, ⟨ "Kind_", 100, 6, false, "", "", 23⟩, ⟨ "Equal", 101, 7, false, "", "", 24⟩, ⟨ "GCData", 88, 8, false, "", "", 32⟩, ⟨ "Str", 102, 9, false, "", "", 40⟩, ⟨ "PtrToThis", 103, 10, false, "", "", 44⟩], 11, 48, .agg #[.int .u64 0, .int .u64 0, .int .u32 0, .int .u8 0, .int .u8 0, .int .u8 0, .int .u8 0, .nilFunc, .pointer none, .int .i32 0, .int .i32 0]⟩)]
set_option maxRecDepth 100000 in
theorem tbOk : TblOk Try.prog tb := by
  unfold tb
  refine .cons 2 _ _ (by kernel_rfl) (by kernel_rfl) ?_
  refine .cons 3 _ _ (by kernel_rfl) (by kernel_rfl) ?_
  refine .cons 4 _ _ (by kernel_rfl) (by kernel_rfl) ?_
  refine .cons 5 _ _ (by kernel_rfl) (by kernel_rfl) ?_
  refine .cons 6 _ _ (by kernel_rfl) (by kernel_rfl) ?_
  refine .cons 7 _ _ (by kernel_rfl) (by kernel_rfl) ?_
  refine .cons 8 _ _ (by kernel_rfl) (by kernel_rfl) ?_
  refine .cons 9 _ _ (by kernel_rfl) (by kernel_rfl) ?_
  refine .cons 10 _ _ (by kernel_rfl) (by kernel_rfl) ?_
  refine .cons 11 _ _ (by kernel_rfl) (by kernel_rfl) ?_
  refine .cons 12 _ _ (by kernel_rfl) (by kernel_rfl) ?_
  refine .cons 13 _ _ (by kernel_rfl) (by kernel_rfl) ?_
  refine .cons 14 _ _ (by kernel_rfl) (by kernel_rfl) ?_
  refine .cons 15 _ _ (by kernel_rfl) (by kernel_rfl) ?_
  refine .cons 16 _ _ (by kernel_rfl) (by kernel_rfl) ?_
  refine .cons 17 _ _ (by kernel_rfl) (by kernel_rfl) ?_
  refine .cons 18 _ _ (by kernel_rfl) (by kernel_rfl) ?_
  refine .cons 19 _ _ (by kernel_rfl) (by kernel_rfl) ?_
  refine .cons 21 _ _ (by kernel_rfl) (by kernel_rfl) ?_
  refine .cons 29 _ _ (by kernel_rfl) (by kernel_rfl) ?_
  refine .cons 30 _ _ (by kernel_rfl) (by kernel_rfl) ?_
  refine .cons 31 _ _ (by kernel_rfl) (by kernel_rfl) ?_
  refine .cons 35 _ _ (by kernel_rfl) (by kernel_rfl) ?_
  refine .cons 51 _ _ (by kernel_rfl) (by kernel_rfl) ?_
  refine .cons 54 _ _ (by kernel_rfl) (by kernel_rfl) ?_
  refine .cons 58 _ _ (by kernel_rfl) (by kernel_rfl) ?_
  refine .cons 60 _ _ (by kernel_rfl) (by kernel_rfl) ?_
  refine .cons 61 _ _ (by kernel_rfl) (by kernel_rfl) ?_
  refine .cons 62 _ _ (by kernel_rfl) (by kernel_rfl) ?_
  refine .cons 64 _ _ (by kernel_rfl) (by kernel_rfl) ?_
  refine .cons 65 _ _ (by kernel_rfl) (by kernel_rfl) ?_
  refine .cons 68 _ _ (by kernel_rfl) (by kernel_rfl) ?_
  refine .cons 71 _ _ (by kernel_rfl) (by kernel_rfl) ?_
  refine .cons 72 _ _ (by kernel_rfl) (by kernel_rfl) ?_
  refine .cons 79 _ _ (by kernel_rfl) (by kernel_rfl) ?_
  refine .cons 80 _ _ (by kernel_rfl) (by kernel_rfl) ?_
  refine .cons 81 _ _ (by kernel_rfl) (by kernel_rfl) ?_
  refine .cons 88 _ _ (by kernel_rfl) (by kernel_rfl) ?_
  refine .cons 92 _ _ (by kernel_rfl) (by kernel_rfl) ?_
  refine .cons 93 _ _ (by kernel_rfl) (by kernel_rfl) ?_
  refine .cons 94 _ _ (by kernel_rfl) (by kernel_rfl) ?_
  refine .cons 95 _ _ (by kernel_rfl) (by kernel_rfl) ?_
  refine .cons 96 _ _ (by kernel_rfl) (by kernel_rfl) ?_
  refine .cons 98 _ _ (by kernel_rfl) (by kernel_rfl) ?_
  refine .cons 99 _ _ (by kernel_rfl) (by kernel_rfl) ?_
  refine .cons 100 _ _ (by kernel_rfl) (by kernel_rfl) ?_
  refine .cons 102 _ _ (by kernel_rfl) (by kernel_rfl) ?_
  refine .cons 103 _ _ (by kernel_rfl) (by kernel_rfl) ?_
  refine .cons 104 _ _ (by kernel_rfl) (by kernel_rfl) ?_
  refine .cons 105 _ _ (by kernel_rfl) (by kernel_rfl) ?_
  exact .nil _
theorem mixed : Try.prog.follows .mixedOrders = true := by kernel_rfl
end Go.Proofs.Ytbgfcbicbkijaaa
