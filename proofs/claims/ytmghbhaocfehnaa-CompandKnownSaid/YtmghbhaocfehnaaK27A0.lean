/-
  The types of the program as the executor knows them.
-/
import Derived.Test.YtmghbhaocfehnaaEvOpen
import Derived.Test.YtmghbhaocfehnaaChecked
namespace Go.Proofs.Ytmghbhaocfehnaa
open Go Go.Ev
set_option linter.unusedVariables false
set_option linter.unusedSimpArgs false
def E : Env := envL [(1, TyI.mk TV.func 1 8 [Value.nilFunc]),
  (2, TyI.mk (TV.int IntKind.i64) 1 8 [Value.int IntKind.i64 0]),
  (3, TyI.mk (TV.int IntKind.i64) 1 8 [Value.int IntKind.i64 0]),
  (4, TyI.mk TV.bool 1 1 [Value.bool false]),
  (5, TyI.mk (TV.int IntKind.u8) 1 1 [Value.int IntKind.u8 0]),
  (6, TyI.mk (TV.int IntKind.u8) 1 1 [Value.int IntKind.u8 0]),
  (7, TyI.mk (TV.struct [(false, 2, 0), (false, 3, 1), (false, 4, 2), (false, 6, 3)]) 4 24 [Value.int IntKind.i64 0, Value.int IntKind.i64 0, Value.bool false, Value.int IntKind.u8 0]),
  (8, TyI.mk (TV.struct [(false, 2, 0), (false, 3, 1), (false, 4, 2), (false, 6, 3)]) 4 24 [Value.int IntKind.i64 0, Value.int IntKind.i64 0, Value.bool false, Value.int IntKind.u8 0]),
  (9, TyI.mk TV.str 1 16 [Value.string (ByteArray.mk (Array.mk []))]),
  (10, TyI.mk TV.str 1 16 [Value.string (ByteArray.mk (Array.mk []))]),
  (11, TyI.mk TV.str 1 16 [Value.string (ByteArray.mk (Array.mk []))]),
  (12, TyI.mk (TV.int IntKind.u64) 1 8 [Value.int IntKind.u64 0]),
  (15, TyI.mk (TV.ptr 51) 1 8 [Value.pointer none]),
  (16, TyI.mk (TV.ptr 54) 1 8 [Value.pointer none]),
  (17, TyI.mk (TV.ptr 64) 1 8 [Value.pointer none]),
  (20, TyI.mk TV.iface 1 16 [Value.nilIface]),
  (21, TyI.mk (TV.int IntKind.i32) 1 4 [Value.int IntKind.i32 0]),
  (22, TyI.mk (TV.int IntKind.i16) 1 2 [Value.int IntKind.i16 0]),
  (23, TyI.mk TV.func 1 8 [Value.nilFunc]),
  (24, TyI.mk TV.func 1 8 [Value.nilFunc]),
  (25, TyI.mk TV.func 1 8 [Value.nilFunc]),
  (26, TyI.mk TV.func 1 8 [Value.nilFunc]),
  (27, TyI.mk TV.func 1 8 [Value.nilFunc]),
  (28, TyI.mk TV.func 1 8 [Value.nilFunc]),
  (29, TyI.mk TV.func 1 8 [Value.nilFunc]),
  (30, TyI.mk TV.func 1 8 [Value.nilFunc]),
  (31, TyI.mk (TV.slice 22) 1 24 [Value.slice none 0 0]),
  (32, TyI.mk (TV.slice 5) 1 24 [Value.slice none 0 0]),
  (33, TyI.mk (TV.int IntKind.u8) 1 1 [Value.int IntKind.u8 0]),
  (35, TyI.mk TV.func 1 8 [Value.nilFunc]),
  (37, TyI.mk TV.func 1 8 [Value.nilFunc]),
  (38, TyI.mk TV.func 1 8 [Value.nilFunc]),
  (39, TyI.mk TV.func 1 8 [Value.nilFunc]),
  (40, TyI.mk TV.func 1 8 [Value.nilFunc]),
  (41, TyI.mk (TV.struct []) 0 0 []),
  (42, TyI.mk (TV.struct []) 0 0 []),
  (43, TyI.mk (TV.struct []) 0 0 []),
  (44, TyI.mk TV.iface 1 16 [Value.nilIface]),
  (45, TyI.mk TV.iface 1 16 [Value.nilIface]),
  (47, TyI.mk TV.func 1 8 [Value.nilFunc]),
  (48, TyI.mk (TV.int IntKind.u64) 1 8 [Value.int IntKind.u64 0]),
  (49, TyI.mk TV.func 1 8 [Value.nilFunc])]
theorem E_ok : EnvOK Try.prog E := (.cons (by kernel_rfl) (.cons (by kernel_rfl) (.cons (by kernel_rfl) (.cons (by kernel_rfl) (.cons (by kernel_rfl) (.cons (by kernel_rfl) (.cons (by kernel_rfl) (.cons (by kernel_rfl) (.cons (by kernel_rfl) (.cons (by kernel_rfl) (.cons (by kernel_rfl) (.cons (by kernel_rfl) (.cons (by kernel_rfl) (.cons (by kernel_rfl) (.cons (by kernel_rfl) (.cons (by kernel_rfl) (.cons (by kernel_rfl) (.cons (by kernel_rfl) (.cons (by kernel_rfl) (.cons (by kernel_rfl) (.cons (by kernel_rfl) (.cons (by kernel_rfl) (.cons (by kernel_rfl) (.cons (by kernel_rfl) (.cons (by kernel_rfl) (.cons (by kernel_rfl) (.cons (by kernel_rfl) (.cons (by kernel_rfl) (.cons (by kernel_rfl) (.cons (by kernel_rfl) (.cons (by kernel_rfl) (.cons (by kernel_rfl) (.cons (by kernel_rfl) (.cons (by kernel_rfl) (.cons (by kernel_rfl) (.cons (by kernel_rfl) (.cons (by kernel_rfl) (.cons (by kernel_rfl) (.cons (by kernel_rfl) (.cons (by kernel_rfl) (.cons (by kernel_rfl) (.cons (by kernel_rfl) (.nil)))))))))))))))))))))))))))))))))))))))))))
theorem mixed : Try.prog.follows .mixedOrders = true := by kernel_rfl
theorem own : ownKnob Try.prog.godebug = none := by kernel_rfl
theorem laidOut : laidOutB Try.prog = true := by kernel_rfl
end Go.Proofs.Ytmghbhaocfehnaa
