/- The types of this program. -/
import Derived.Test.YtpmigkbcldffeaaGreatDoorProg
import Derived.Test.YtpmigkbcldffeaaGreatDoorC3
import Derived.KernelRfl
import Derived.ChangeKeysEq
import Derived.Laws.StructEq
import Derived.WalkKit
import Derived.IntWalk
set_option linter.unusedVariables false
set_option linter.unusedSimpArgs false
set_option linter.unusedSectionVars false
namespace Go.Proofs.YtpmigkbcldffeaaGreatDoor
namespace Ab
/-- () -/
def ty0 : TyI := { d := TypeDesc.tuple #[], size := 1, bytes := 0, zv := zAV ((Value.tuple #[])), eq := [] }
theorem one0 : TyOne Tryz.prog 0 ty0 := .plain (z := (Value.tuple #[])) ⟨by kernel_rfl, by kernel_rfl⟩ rfl (by kernel_rfl) rfl
/-- func() -/
def ty1 : TyI := { d := TypeDesc.func #[] #[] false, size := 1, bytes := 8, zv := zAV (Value.nilFunc), eq := [] }
theorem one1 : TyOne Tryz.prog 1 ty1 := .plain (z := Value.nilFunc) ⟨by kernel_rfl, by kernel_rfl⟩ rfl (by kernel_rfl) rfl
/-- int64 -/
def ty2 : TyI := { d := TypeDesc.int IntKind.i64, size := 1, bytes := 8, zv := zAV ((Value.int IntKind.i64 0)), eq := [] }
theorem one2 : TyOne Tryz.prog 2 ty2 := .plain (z := (Value.int IntKind.i64 0)) ⟨by kernel_rfl, by kernel_rfl⟩ rfl (by kernel_rfl) rfl
/-- int -/
def ty3 : TyI := { d := TypeDesc.int IntKind.i64, size := 1, bytes := 8, zv := zAV ((Value.int IntKind.i64 0)), eq := [] }
theorem one3 : TyOne Tryz.prog 3 ty3 := .plain (z := (Value.int IntKind.i64 0)) ⟨by kernel_rfl, by kernel_rfl⟩ rfl (by kernel_rfl) rfl
/-- bool -/
def ty4 : TyI := { d := TypeDesc.bool, size := 1, bytes := 1, zv := zAV ((Value.bool false)), eq := [] }
theorem one4 : TyOne Tryz.prog 4 ty4 := .plain (z := (Value.bool false)) ⟨by kernel_rfl, by kernel_rfl⟩ rfl (by kernel_rfl) rfl
/-- uint8 -/
def ty5 : TyI := { d := TypeDesc.int IntKind.u8, size := 1, bytes := 1, zv := zAV ((Value.int IntKind.u8 0)), eq := [] }
theorem one5 : TyOne Tryz.prog 5 ty5 := .plain (z := (Value.int IntKind.u8 0)) ⟨by kernel_rfl, by kernel_rfl⟩ rfl (by kernel_rfl) rfl
/-- abi.BoundsErrorCode -/
def ty6 : TyI := { d := TypeDesc.int IntKind.u8, size := 1, bytes := 1, zv := zAV ((Value.int IntKind.u8 0)), eq := [] }
theorem one6 : TyOne Tryz.prog 6 ty6 := .plain (z := (Value.int IntKind.u8 0)) ⟨by kernel_rfl, by kernel_rfl⟩ rfl (by kernel_rfl) rfl
/-- struct { x int64; y int; signed bool; code abi.BoundsErrorCode } -/
def ty7 : TyI := { d := TypeDesc.struct #[{ name := "x", type := 2, offset := 0, embedded := false, tag := "", pkgPath := "runtime", byteOffset := 0 }, { name := "y", type := 3, offset := 1, embedded := false, tag := "", pkgPath := "runtime", byteOffset := 8 }, { name := "signed", type := 4, offset := 2, embedded := false, tag := "", pkgPath := "runtime", byteOffset := 16 }, { name := "code", type := 6, offset := 3, embedded := false, tag := "", pkgPath := "runtime", byteOffset := 17 }], size := 4, bytes := 24, zv := zAV ((Value.agg #[Value.int IntKind.i64 0, Value.int IntKind.i64 0, Value.bool false, Value.int IntKind.u8 0])), eq := [] }
theorem one7 : TyOne Tryz.prog 7 ty7 := .plain (z := (Value.agg #[Value.int IntKind.i64 0, Value.int IntKind.i64 0, Value.bool false, Value.int IntKind.u8 0])) ⟨by kernel_rfl, by kernel_rfl⟩ rfl (by kernel_rfl) rfl
/-- runtime.boundsError -/
def ty8 : TyI := { d := TypeDesc.struct #[{ name := "x", type := 2, offset := 0, embedded := false, tag := "", pkgPath := "runtime", byteOffset := 0 }, { name := "y", type := 3, offset := 1, embedded := false, tag := "", pkgPath := "runtime", byteOffset := 8 }, { name := "signed", type := 4, offset := 2, embedded := false, tag := "", pkgPath := "runtime", byteOffset := 16 }, { name := "code", type := 6, offset := 3, embedded := false, tag := "", pkgPath := "runtime", byteOffset := 17 }], size := 4, bytes := 24, zv := zAV ((Value.agg #[Value.int IntKind.i64 0, Value.int IntKind.i64 0, Value.bool false, Value.int IntKind.u8 0])), eq := [] }
theorem one8 : TyOne Tryz.prog 8 ty8 := .plain (z := (Value.agg #[Value.int IntKind.i64 0, Value.int IntKind.i64 0, Value.bool false, Value.int IntKind.u8 0])) ⟨by kernel_rfl, by kernel_rfl⟩ rfl (by kernel_rfl) rfl
/-- string -/
def ty9 : TyI := { d := TypeDesc.string, size := 1, bytes := 16, zv := zAV ((Value.string { data := #[] })), eq := [] }
theorem one9 : TyOne Tryz.prog 9 ty9 := .plain (z := (Value.string { data := #[] })) ⟨by kernel_rfl, by kernel_rfl⟩ rfl (by kernel_rfl) rfl
/-- runtime.errorString -/
def ty10 : TyI := { d := TypeDesc.string, size := 1, bytes := 16, zv := zAV ((Value.string { data := #[] })), eq := [] }
theorem one10 : TyOne Tryz.prog 10 ty10 := .plain (z := (Value.string { data := #[] })) ⟨by kernel_rfl, by kernel_rfl⟩ rfl (by kernel_rfl) rfl
/-- runtime.plainError -/
def ty11 : TyI := { d := TypeDesc.string, size := 1, bytes := 16, zv := zAV ((Value.string { data := #[] })), eq := [] }
theorem one11 : TyOne Tryz.prog 11 ty11 := .plain (z := (Value.string { data := #[] })) ⟨by kernel_rfl, by kernel_rfl⟩ rfl (by kernel_rfl) rfl
/-- uintptr -/
def ty12 : TyI := { d := TypeDesc.int IntKind.u64, size := 1, bytes := 8, zv := zAV ((Value.int IntKind.u64 0)), eq := [] }
theorem one12 : TyOne Tryz.prog 12 ty12 := .plain (z := (Value.int IntKind.u64 0)) ⟨by kernel_rfl, by kernel_rfl⟩ rfl (by kernel_rfl) rfl
/-- struct { msg string; addr uintptr } -/
def ty13 : TyI := { d := TypeDesc.struct #[{ name := "msg", type := 9, offset := 0, embedded := false, tag := "", pkgPath := "runtime", byteOffset := 0 }, { name := "addr", type := 12, offset := 1, embedded := false, tag := "", pkgPath := "runtime", byteOffset := 16 }], size := 2, bytes := 24, zv := zAV ((Value.agg #[Value.string { data := #[] }, Value.int IntKind.u64 0])), eq := [] }
theorem one13 : TyOne Tryz.prog 13 ty13 := .plain (z := (Value.agg #[Value.string { data := #[] }, Value.int IntKind.u64 0])) ⟨by kernel_rfl, by kernel_rfl⟩ rfl (by kernel_rfl) rfl
/-- runtime.errorAddressString -/
def ty14 : TyI := { d := TypeDesc.struct #[{ name := "msg", type := 9, offset := 0, embedded := false, tag := "", pkgPath := "runtime", byteOffset := 0 }, { name := "addr", type := 12, offset := 1, embedded := false, tag := "", pkgPath := "runtime", byteOffset := 16 }], size := 2, bytes := 24, zv := zAV ((Value.agg #[Value.string { data := #[] }, Value.int IntKind.u64 0])), eq := [] }
theorem one14 : TyOne Tryz.prog 14 ty14 := .plain (z := (Value.agg #[Value.string { data := #[] }, Value.int IntKind.u64 0])) ⟨by kernel_rfl, by kernel_rfl⟩ rfl (by kernel_rfl) rfl
/-- *runtime.TypeAssertionError -/
def ty15 : TyI := { d := TypeDesc.pointer 207, size := 1, bytes := 8, zv := zAV ((Value.pointer none)), eq := [] }
theorem one15 : TyOne Tryz.prog 15 ty15 := .plain (z := (Value.pointer none)) ⟨by kernel_rfl, by kernel_rfl⟩ rfl (by kernel_rfl) rfl
/-- *runtime.PanicNilError -/
def ty16 : TyI := { d := TypeDesc.pointer 210, size := 1, bytes := 8, zv := zAV ((Value.pointer none)), eq := [] }
theorem one16 : TyOne Tryz.prog 16 ty16 := .plain (z := (Value.pointer none)) ⟨by kernel_rfl, by kernel_rfl⟩ rfl (by kernel_rfl) rfl
/-- *abi.Type -/
def ty17 : TyI := { d := TypeDesc.pointer 217, size := 1, bytes := 8, zv := zAV ((Value.pointer none)), eq := [] }
theorem one17 : TyOne Tryz.prog 17 ty17 := .plain (z := (Value.pointer none)) ⟨by kernel_rfl, by kernel_rfl⟩ rfl (by kernel_rfl) rfl
/-- struct { typ *abi.Type } -/
def ty18 : TyI := { d := TypeDesc.struct #[{ name := "typ", type := 17, offset := 0, embedded := false, tag := "", pkgPath := "internal/runtime/maps", byteOffset := 0 }], size := 1, bytes := 8, zv := zAV ((Value.agg #[Value.pointer none])), eq := [] }
theorem one18 : TyOne Tryz.prog 18 ty18 := .plain (z := (Value.agg #[Value.pointer none])) ⟨by kernel_rfl, by kernel_rfl⟩ rfl (by kernel_rfl) rfl
/-- maps.unhashableTypeError -/
def ty19 : TyI := { d := TypeDesc.struct #[{ name := "typ", type := 17, offset := 0, embedded := false, tag := "", pkgPath := "internal/runtime/maps", byteOffset := 0 }], size := 1, bytes := 8, zv := zAV ((Value.agg #[Value.pointer none])), eq := [] }
theorem one19 : TyOne Tryz.prog 19 ty19 := .plain (z := (Value.agg #[Value.pointer none])) ⟨by kernel_rfl, by kernel_rfl⟩ rfl (by kernel_rfl) rfl
/-- interface {} -/
def ty20 : TyI := { d := TypeDesc.interface #[], size := 1, bytes := 16, zv := zAV (Value.nilIface), eq := [] }
theorem one20 : TyOne Tryz.prog 20 ty20 := .plain (z := Value.nilIface) ⟨by kernel_rfl, by kernel_rfl⟩ rfl (by kernel_rfl) rfl
/-- int32 -/
def ty21 : TyI := { d := TypeDesc.int IntKind.i32, size := 1, bytes := 4, zv := zAV ((Value.int IntKind.i32 0)), eq := [] }
theorem one21 : TyOne Tryz.prog 21 ty21 := .plain (z := (Value.int IntKind.i32 0)) ⟨by kernel_rfl, by kernel_rfl⟩ rfl (by kernel_rfl) rfl
/-- []api.Record -/
def ty22 : TyI := { d := TypeDesc.slice 49, size := 1, bytes := 24, zv := zAV ((Value.slice none 0 0)), eq := [] }
theorem one22 : TyOne Tryz.prog 22 ty22 := .plain (z := (Value.slice none 0 0)) ⟨by kernel_rfl, by kernel_rfl⟩ rfl (by kernel_rfl) rfl
/-- []api.Object -/
def ty23 : TyI := { d := TypeDesc.slice 63, size := 1, bytes := 24, zv := zAV ((Value.slice none 0 0)), eq := [] }
theorem one23 : TyOne Tryz.prog 23 ty23 := .plain (z := (Value.slice none 0 0)) ⟨by kernel_rfl, by kernel_rfl⟩ rfl (by kernel_rfl) rfl
/-- struct { Objects []api.Object } -/
def ty24 : TyI := { d := TypeDesc.struct #[{ name := "Objects", type := 23, offset := 0, embedded := false, tag := "", pkgPath := "", byteOffset := 0 }], size := 1, bytes := 24, zv := zAV ((Value.agg #[Value.slice none 0 0])), eq := [] }
theorem one24 : TyOne Tryz.prog 24 ty24 := .plain (z := (Value.agg #[Value.slice none 0 0])) ⟨by kernel_rfl, by kernel_rfl⟩ rfl (by kernel_rfl) rfl
/-- api.Map -/
def ty25 : TyI := { d := TypeDesc.struct #[{ name := "Objects", type := 23, offset := 0, embedded := false, tag := "", pkgPath := "", byteOffset := 0 }], size := 1, bytes := 24, zv := zAV ((Value.agg #[Value.slice none 0 0])), eq := [] }
theorem one25 : TyOne Tryz.prog 25 ty25 := .plain (z := (Value.agg #[Value.slice none 0 0])) ⟨by kernel_rfl, by kernel_rfl⟩ rfl (by kernel_rfl) rfl
/-- []string -/
def ty26 : TyI := { d := TypeDesc.slice 9, size := 1, bytes := 24, zv := zAV ((Value.slice none 0 0)), eq := [] }
theorem one26 : TyOne Tryz.prog 26 ty26 := .plain (z := (Value.slice none 0 0)) ⟨by kernel_rfl, by kernel_rfl⟩ rfl (by kernel_rfl) rfl
/-- []int -/
def ty27 : TyI := { d := TypeDesc.slice 3, size := 1, bytes := 24, zv := zAV ((Value.slice none 0 0)), eq := [] }
theorem one27 : TyOne Tryz.prog 27 ty27 := .plain (z := (Value.slice none 0 0)) ⟨by kernel_rfl, by kernel_rfl⟩ rfl (by kernel_rfl) rfl
/-- []api.Rule -/
def ty28 : TyI := { d := TypeDesc.slice 219, size := 1, bytes := 24, zv := zAV ((Value.slice none 0 0)), eq := [] }
theorem one28 : TyOne Tryz.prog 28 ty28 := .plain (z := (Value.slice none 0 0)) ⟨by kernel_rfl, by kernel_rfl⟩ rfl (by kernel_rfl) rfl
/-- struct { Start api.Map; Keys []string; Moderators []int; Need int; Views []string; Rules []api.Rule } -/
def ty29 : TyI := { d := TypeDesc.struct #[{ name := "Start", type := 25, offset := 0, embedded := false, tag := "", pkgPath := "", byteOffset := 0 }, { name := "Keys", type := 26, offset := 1, embedded := false, tag := "", pkgPath := "", byteOffset := 24 }, { name := "Moderators", type := 27, offset := 2, embedded := false, tag := "", pkgPath := "", byteOffset := 48 }, { name := "Need", type := 3, offset := 3, embedded := false, tag := "", pkgPath := "", byteOffset := 72 }, { name := "Views", type := 26, offset := 4, embedded := false, tag := "", pkgPath := "", byteOffset := 80 }, { name := "Rules", type := 28, offset := 5, embedded := false, tag := "", pkgPath := "", byteOffset := 104 }], size := 6, bytes := 128, zv := zAV ((Value.agg #[Value.slice none 0 0, Value.slice none 0 0, Value.slice none 0 0, Value.int IntKind.i64 0, Value.slice none 0 0, Value.slice none 0 0])), eq := [] }
theorem one29 : TyOne Tryz.prog 29 ty29 := .plain (z := (Value.agg #[Value.slice none 0 0, Value.slice none 0 0, Value.slice none 0 0, Value.int IntKind.i64 0, Value.slice none 0 0, Value.slice none 0 0])) ⟨by kernel_rfl, by kernel_rfl⟩ rfl (by kernel_rfl) rfl
/-- api.World -/
def ty30 : TyI := { d := TypeDesc.struct #[{ name := "Start", type := 25, offset := 0, embedded := false, tag := "", pkgPath := "", byteOffset := 0 }, { name := "Keys", type := 26, offset := 1, embedded := false, tag := "", pkgPath := "", byteOffset := 24 }, { name := "Moderators", type := 27, offset := 2, embedded := false, tag := "", pkgPath := "", byteOffset := 48 }, { name := "Need", type := 3, offset := 3, embedded := false, tag := "", pkgPath := "", byteOffset := 72 }, { name := "Views", type := 26, offset := 4, embedded := false, tag := "", pkgPath := "", byteOffset := 80 }, { name := "Rules", type := 28, offset := 5, embedded := false, tag := "", pkgPath := "", byteOffset := 104 }], size := 6, bytes := 128, zv := zAV ((Value.agg #[Value.slice none 0 0, Value.slice none 0 0, Value.slice none 0 0, Value.int IntKind.i64 0, Value.slice none 0 0, Value.slice none 0 0])), eq := [] }
theorem one30 : TyOne Tryz.prog 30 ty30 := .plain (z := (Value.agg #[Value.slice none 0 0, Value.slice none 0 0, Value.slice none 0 0, Value.int IntKind.i64 0, Value.slice none 0 0, Value.slice none 0 0])) ⟨by kernel_rfl, by kernel_rfl⟩ rfl (by kernel_rfl) rfl
/-- func() bool -/
def ty31 : TyI := { d := TypeDesc.func #[] #[4] false, size := 1, bytes := 8, zv := zAV (Value.nilFunc), eq := [] }
theorem one31 : TyOne Tryz.prog 31 ty31 := .plain (z := Value.nilFunc) ⟨by kernel_rfl, by kernel_rfl⟩ rfl (by kernel_rfl) rfl
/-- func([]api.Record, api.World) bool -/
def ty32 : TyI := { d := TypeDesc.func #[22, 30] #[4] false, size := 1, bytes := 8, zv := zAV (Value.nilFunc), eq := [] }
theorem one32 : TyOne Tryz.prog 32 ty32 := .plain (z := Value.nilFunc) ⟨by kernel_rfl, by kernel_rfl⟩ rfl (by kernel_rfl) rfl
/-- []api.Edit -/
def ty33 : TyI := { d := TypeDesc.slice 65, size := 1, bytes := 24, zv := zAV ((Value.slice none 0 0)), eq := [] }
theorem one33 : TyOne Tryz.prog 33 ty33 := .plain (z := (Value.slice none 0 0)) ⟨by kernel_rfl, by kernel_rfl⟩ rfl (by kernel_rfl) rfl
/-- struct { Id string; State int; By string; Edits []api.Edit } -/
def ty34 : TyI := { d := TypeDesc.struct #[{ name := "Id", type := 9, offset := 0, embedded := false, tag := "", pkgPath := "", byteOffset := 0 }, { name := "State", type := 3, offset := 1, embedded := false, tag := "", pkgPath := "", byteOffset := 16 }, { name := "By", type := 9, offset := 2, embedded := false, tag := "", pkgPath := "", byteOffset := 24 }, { name := "Edits", type := 33, offset := 3, embedded := false, tag := "", pkgPath := "", byteOffset := 40 }], size := 4, bytes := 64, zv := zAV ((Value.agg #[Value.string { data := #[] }, Value.int IntKind.i64 0, Value.string { data := #[] }, Value.slice none 0 0])), eq := [] }
theorem one34 : TyOne Tryz.prog 34 ty34 := .plain (z := (Value.agg #[Value.string { data := #[] }, Value.int IntKind.i64 0, Value.string { data := #[] }, Value.slice none 0 0])) ⟨by kernel_rfl, by kernel_rfl⟩ rfl (by kernel_rfl) rfl
/-- api.Status -/
def ty35 : TyI := { d := TypeDesc.struct #[{ name := "Id", type := 9, offset := 0, embedded := false, tag := "", pkgPath := "", byteOffset := 0 }, { name := "State", type := 3, offset := 1, embedded := false, tag := "", pkgPath := "", byteOffset := 16 }, { name := "By", type := 9, offset := 2, embedded := false, tag := "", pkgPath := "", byteOffset := 24 }, { name := "Edits", type := 33, offset := 3, embedded := false, tag := "", pkgPath := "", byteOffset := 40 }], size := 4, bytes := 64, zv := zAV ((Value.agg #[Value.string { data := #[] }, Value.int IntKind.i64 0, Value.string { data := #[] }, Value.slice none 0 0])), eq := [] }
theorem one35 : TyOne Tryz.prog 35 ty35 := .plain (z := (Value.agg #[Value.string { data := #[] }, Value.int IntKind.i64 0, Value.string { data := #[] }, Value.slice none 0 0])) ⟨by kernel_rfl, by kernel_rfl⟩ rfl (by kernel_rfl) rfl
/-- (api.Status, bool) -/
def ty36 : TyI := { d := TypeDesc.tuple #[35, 4], size := 1, bytes := 0, zv := zAV ((Value.tuple #[Value.agg #[Value.string { data := #[] }, Value.int IntKind.i64 0, Value.string { data := #[] }, Value.slice none 0 0], Value.bool false])), eq := [] }
theorem one36 : TyOne Tryz.prog 36 ty36 := .plain (z := (Value.tuple #[Value.agg #[Value.string { data := #[] }, Value.int IntKind.i64 0, Value.string { data := #[] }, Value.slice none 0 0], Value.bool false])) ⟨by kernel_rfl, by kernel_rfl⟩ rfl (by kernel_rfl) rfl
/-- func([]api.Record, api.World, string) (api.Status, bool) -/
def ty37 : TyI := { d := TypeDesc.func #[22, 30, 9] #[35, 4] false, size := 1, bytes := 8, zv := zAV (Value.nilFunc), eq := [] }
theorem one37 : TyOne Tryz.prog 37 ty37 := .plain (z := Value.nilFunc) ⟨by kernel_rfl, by kernel_rfl⟩ rfl (by kernel_rfl) rfl
/-- func([]api.Status, []api.Status) bool -/
def ty38 : TyI := { d := TypeDesc.func #[39, 39] #[4] false, size := 1, bytes := 8, zv := zAV (Value.nilFunc), eq := [] }
theorem one38 : TyOne Tryz.prog 38 ty38 := .plain (z := Value.nilFunc) ⟨by kernel_rfl, by kernel_rfl⟩ rfl (by kernel_rfl) rfl
/-- []api.Status -/
def ty39 : TyI := { d := TypeDesc.slice 35, size := 1, bytes := 24, zv := zAV ((Value.slice none 0 0)), eq := [] }
theorem one39 : TyOne Tryz.prog 39 ty39 := .plain (z := (Value.slice none 0 0)) ⟨by kernel_rfl, by kernel_rfl⟩ rfl (by kernel_rfl) rfl
/-- func([]api.Record, api.World) []api.Status -/
def ty40 : TyI := { d := TypeDesc.func #[22, 30] #[39] false, size := 1, bytes := 8, zv := zAV (Value.nilFunc), eq := [] }
theorem one40 : TyOne Tryz.prog 40 ty40 := .plain (z := Value.nilFunc) ⟨by kernel_rfl, by kernel_rfl⟩ rfl (by kernel_rfl) rfl
/-- func(api.Status, api.Status) bool -/
def ty41 : TyI := { d := TypeDesc.func #[35, 35] #[4] false, size := 1, bytes := 8, zv := zAV (Value.nilFunc), eq := [] }
theorem one41 : TyOne Tryz.prog 41 ty41 := .plain (z := Value.nilFunc) ⟨by kernel_rfl, by kernel_rfl⟩ rfl (by kernel_rfl) rfl
/-- func([]api.Record, api.World, string) bool -/
def ty42 : TyI := { d := TypeDesc.func #[22, 30, 9] #[4] false, size := 1, bytes := 8, zv := zAV (Value.nilFunc), eq := [] }
theorem one42 : TyOne Tryz.prog 42 ty42 := .plain (z := Value.nilFunc) ⟨by kernel_rfl, by kernel_rfl⟩ rfl (by kernel_rfl) rfl
/-- struct { Index int; Sig []string; Path []string } -/
def ty43 : TyI := { d := TypeDesc.struct #[{ name := "Index", type := 3, offset := 0, embedded := false, tag := "", pkgPath := "", byteOffset := 0 }, { name := "Sig", type := 26, offset := 1, embedded := false, tag := "", pkgPath := "", byteOffset := 8 }, { name := "Path", type := 26, offset := 2, embedded := false, tag := "", pkgPath := "", byteOffset := 32 }], size := 3, bytes := 56, zv := zAV ((Value.agg #[Value.int IntKind.i64 0, Value.slice none 0 0, Value.slice none 0 0])), eq := [] }
theorem one43 : TyOne Tryz.prog 43 ty43 := .plain (z := (Value.agg #[Value.int IntKind.i64 0, Value.slice none 0 0, Value.slice none 0 0])) ⟨by kernel_rfl, by kernel_rfl⟩ rfl (by kernel_rfl) rfl
/-- api.Seal -/
def ty44 : TyI := { d := TypeDesc.struct #[{ name := "Index", type := 3, offset := 0, embedded := false, tag := "", pkgPath := "", byteOffset := 0 }, { name := "Sig", type := 26, offset := 1, embedded := false, tag := "", pkgPath := "", byteOffset := 8 }, { name := "Path", type := 26, offset := 2, embedded := false, tag := "", pkgPath := "", byteOffset := 32 }], size := 3, bytes := 56, zv := zAV ((Value.agg #[Value.int IntKind.i64 0, Value.slice none 0 0, Value.slice none 0 0])), eq := [] }
theorem one44 : TyOne Tryz.prog 44 ty44 := .plain (z := (Value.agg #[Value.int IntKind.i64 0, Value.slice none 0 0, Value.slice none 0 0])) ⟨by kernel_rfl, by kernel_rfl⟩ rfl (by kernel_rfl) rfl
/-- []api.Point -/
def ty45 : TyI := { d := TypeDesc.slice 60, size := 1, bytes := 24, zv := zAV ((Value.slice none 0 0)), eq := [] }
theorem one45 : TyOne Tryz.prog 45 ty45 := .plain (z := (Value.slice none 0 0)) ⟨by kernel_rfl, by kernel_rfl⟩ rfl (by kernel_rfl) rfl
/-- struct { Name string; Reason string; Sources []string; Trace []api.Point; Seal api.Seal } -/
def ty46 : TyI := { d := TypeDesc.struct #[{ name := "Name", type := 9, offset := 0, embedded := false, tag := "", pkgPath := "", byteOffset := 0 }, { name := "Reason", type := 9, offset := 1, embedded := false, tag := "", pkgPath := "", byteOffset := 16 }, { name := "Sources", type := 26, offset := 2, embedded := false, tag := "", pkgPath := "", byteOffset := 32 }, { name := "Trace", type := 45, offset := 3, embedded := false, tag := "", pkgPath := "", byteOffset := 56 }, { name := "Seal", type := 44, offset := 4, embedded := false, tag := "", pkgPath := "", byteOffset := 80 }], size := 7, bytes := 136, zv := zAV ((Value.agg #[Value.string { data := #[] }, Value.string { data := #[] }, Value.slice none 0 0, Value.slice none 0 0, Value.int IntKind.i64 0, Value.slice none 0 0, Value.slice none 0 0])), eq := [] }
theorem one46 : TyOne Tryz.prog 46 ty46 := .plain (z := (Value.agg #[Value.string { data := #[] }, Value.string { data := #[] }, Value.slice none 0 0, Value.slice none 0 0, Value.int IntKind.i64 0, Value.slice none 0 0, Value.slice none 0 0])) ⟨by kernel_rfl, by kernel_rfl⟩ rfl (by kernel_rfl) rfl
/-- api.Private -/
def ty47 : TyI := { d := TypeDesc.struct #[{ name := "Name", type := 9, offset := 0, embedded := false, tag := "", pkgPath := "", byteOffset := 0 }, { name := "Reason", type := 9, offset := 1, embedded := false, tag := "", pkgPath := "", byteOffset := 16 }, { name := "Sources", type := 26, offset := 2, embedded := false, tag := "", pkgPath := "", byteOffset := 32 }, { name := "Trace", type := 45, offset := 3, embedded := false, tag := "", pkgPath := "", byteOffset := 56 }, { name := "Seal", type := 44, offset := 4, embedded := false, tag := "", pkgPath := "", byteOffset := 80 }], size := 7, bytes := 136, zv := zAV ((Value.agg #[Value.string { data := #[] }, Value.string { data := #[] }, Value.slice none 0 0, Value.slice none 0 0, Value.int IntKind.i64 0, Value.slice none 0 0, Value.slice none 0 0])), eq := [] }
theorem one47 : TyOne Tryz.prog 47 ty47 := .plain (z := (Value.agg #[Value.string { data := #[] }, Value.string { data := #[] }, Value.slice none 0 0, Value.slice none 0 0, Value.int IntKind.i64 0, Value.slice none 0 0, Value.slice none 0 0])) ⟨by kernel_rfl, by kernel_rfl⟩ rfl (by kernel_rfl) rfl
/-- struct { Kind int; Author int; Number int; Clock int; Branch string; Parents []string; Edits []api.Edit; Target string;  -/
def ty48 : TyI := { d := TypeDesc.struct #[{ name := "Kind", type := 3, offset := 0, embedded := false, tag := "", pkgPath := "", byteOffset := 0 }, { name := "Author", type := 3, offset := 1, embedded := false, tag := "", pkgPath := "", byteOffset := 8 }, { name := "Number", type := 3, offset := 2, embedded := false, tag := "", pkgPath := "", byteOffset := 16 }, { name := "Clock", type := 3, offset := 3, embedded := false, tag := "", pkgPath := "", byteOffset := 24 }, { name := "Branch", type := 9, offset := 4, embedded := false, tag := "", pkgPath := "", byteOffset := 32 }, { name := "Parents", type := 26, offset := 5, embedded := false, tag := "", pkgPath := "", byteOffset := 48 }, { name := "Edits", type := 33, offset := 6, embedded := false, tag := "", pkgPath := "", byteOffset := 72 }, { name := "Target", type := 9, offset := 7, embedded := false, tag := "", pkgPath := "", byteOffset := 96 }, { name := "Yes", type := 4, offset := 8, embedded := false, tag := "", pkgPath := "", byteOffset := 112 }, { name := "Order", type := 3, offset := 9, embedded := false, tag := "", pkgPath := "", byteOffset := 120 }, { name := "From", type := 9, offset := 10, embedded := false, tag := "", pkgPath := "", byteOffset := 128 }, { name := "Seal", type := 44, offset := 11, embedded := false, tag := "", pkgPath := "", byteOffset := 144 }, { name := "Private", type := 47, offset := 14, embedded := false, tag := "", pkgPath := "", byteOffset := 200 }], size := 21, bytes := 336, zv := zAV ((Value.agg #[Value.int IntKind.i64 0, Value.int IntKind.i64 0, Value.int IntKind.i64 0, Value.int IntKind.i64 0, Value.string { data := #[] }, Value.slice none 0 0, Value.slice none 0 0, Value.string { data := #[] }, Value.bool false, Value.int IntKind.i64 0, Value.string { data := #[] }, Value.int IntKind.i64 0, Value.slice none 0 0, Value.slice none 0 0, Value.string { data := #[] }, Value.string { data := #[] }, Value.slice none 0 0, Value.slice none 0 0, Value.int IntKind.i64 0, Value.slice none 0 0, Value.slice none 0 0])), eq := [] }
theorem one48 : TyOne Tryz.prog 48 ty48 := .plain (z := (Value.agg #[Value.int IntKind.i64 0, Value.int IntKind.i64 0, Value.int IntKind.i64 0, Value.int IntKind.i64 0, Value.string { data := #[] }, Value.slice none 0 0, Value.slice none 0 0, Value.string { data := #[] }, Value.bool false, Value.int IntKind.i64 0, Value.string { data := #[] }, Value.int IntKind.i64 0, Value.slice none 0 0, Value.slice none 0 0, Value.string { data := #[] }, Value.string { data := #[] }, Value.slice none 0 0, Value.slice none 0 0, Value.int IntKind.i64 0, Value.slice none 0 0, Value.slice none 0 0])) ⟨by kernel_rfl, by kernel_rfl⟩ rfl (by kernel_rfl) rfl
/-- api.Record -/
def ty49 : TyI := { d := TypeDesc.struct #[{ name := "Kind", type := 3, offset := 0, embedded := false, tag := "", pkgPath := "", byteOffset := 0 }, { name := "Author", type := 3, offset := 1, embedded := false, tag := "", pkgPath := "", byteOffset := 8 }, { name := "Number", type := 3, offset := 2, embedded := false, tag := "", pkgPath := "", byteOffset := 16 }, { name := "Clock", type := 3, offset := 3, embedded := false, tag := "", pkgPath := "", byteOffset := 24 }, { name := "Branch", type := 9, offset := 4, embedded := false, tag := "", pkgPath := "", byteOffset := 32 }, { name := "Parents", type := 26, offset := 5, embedded := false, tag := "", pkgPath := "", byteOffset := 48 }, { name := "Edits", type := 33, offset := 6, embedded := false, tag := "", pkgPath := "", byteOffset := 72 }, { name := "Target", type := 9, offset := 7, embedded := false, tag := "", pkgPath := "", byteOffset := 96 }, { name := "Yes", type := 4, offset := 8, embedded := false, tag := "", pkgPath := "", byteOffset := 112 }, { name := "Order", type := 3, offset := 9, embedded := false, tag := "", pkgPath := "", byteOffset := 120 }, { name := "From", type := 9, offset := 10, embedded := false, tag := "", pkgPath := "", byteOffset := 128 }, { name := "Seal", type := 44, offset := 11, embedded := false, tag := "", pkgPath := "", byteOffset := 144 }, { name := "Private", type := 47, offset := 14, embedded := false, tag := "", pkgPath := "", byteOffset := 200 }], size := 21, bytes := 336, zv := zAV ((Value.agg #[Value.int IntKind.i64 0, Value.int IntKind.i64 0, Value.int IntKind.i64 0, Value.int IntKind.i64 0, Value.string { data := #[] }, Value.slice none 0 0, Value.slice none 0 0, Value.string { data := #[] }, Value.bool false, Value.int IntKind.i64 0, Value.string { data := #[] }, Value.int IntKind.i64 0, Value.slice none 0 0, Value.slice none 0 0, Value.string { data := #[] }, Value.string { data := #[] }, Value.slice none 0 0, Value.slice none 0 0, Value.int IntKind.i64 0, Value.slice none 0 0, Value.slice none 0 0])), eq := [] }
theorem one49 : TyOne Tryz.prog 49 ty49 := .plain (z := (Value.agg #[Value.int IntKind.i64 0, Value.int IntKind.i64 0, Value.int IntKind.i64 0, Value.int IntKind.i64 0, Value.string { data := #[] }, Value.slice none 0 0, Value.slice none 0 0, Value.string { data := #[] }, Value.bool false, Value.int IntKind.i64 0, Value.string { data := #[] }, Value.int IntKind.i64 0, Value.slice none 0 0, Value.slice none 0 0, Value.string { data := #[] }, Value.string { data := #[] }, Value.slice none 0 0, Value.slice none 0 0, Value.int IntKind.i64 0, Value.slice none 0 0, Value.slice none 0 0])) ⟨by kernel_rfl, by kernel_rfl⟩ rfl (by kernel_rfl) rfl
/-- func(api.World, int) bool -/
def ty50 : TyI := { d := TypeDesc.func #[30, 3] #[4] false, size := 1, bytes := 8, zv := zAV (Value.nilFunc), eq := [] }
theorem one50 : TyOne Tryz.prog 50 ty50 := .plain (z := Value.nilFunc) ⟨by kernel_rfl, by kernel_rfl⟩ rfl (by kernel_rfl) rfl
/-- func([]api.Record) []int -/
def ty51 : TyI := { d := TypeDesc.func #[22] #[27] false, size := 1, bytes := 8, zv := zAV (Value.nilFunc), eq := [] }
theorem one51 : TyOne Tryz.prog 51 ty51 := .plain (z := Value.nilFunc) ⟨by kernel_rfl, by kernel_rfl⟩ rfl (by kernel_rfl) rfl
/-- func(api.Record) string -/
def ty52 : TyI := { d := TypeDesc.func #[49] #[9] false, size := 1, bytes := 8, zv := zAV (Value.nilFunc), eq := [] }
theorem one52 : TyOne Tryz.prog 52 ty52 := .plain (z := Value.nilFunc) ⟨by kernel_rfl, by kernel_rfl⟩ rfl (by kernel_rfl) rfl
/-- func([]api.Edit, []api.Edit) bool -/
def ty53 : TyI := { d := TypeDesc.func #[33, 33] #[4] false, size := 1, bytes := 8, zv := zAV (Value.nilFunc), eq := [] }
theorem one53 : TyOne Tryz.prog 53 ty53 := .plain (z := Value.nilFunc) ⟨by kernel_rfl, by kernel_rfl⟩ rfl (by kernel_rfl) rfl
/-- func([]api.Record, api.World, api.Record) bool -/
def ty54 : TyI := { d := TypeDesc.func #[22, 30, 49] #[4] false, size := 1, bytes := 8, zv := zAV (Value.nilFunc), eq := [] }
theorem one54 : TyOne Tryz.prog 54 ty54 := .plain (z := Value.nilFunc) ⟨by kernel_rfl, by kernel_rfl⟩ rfl (by kernel_rfl) rfl
/-- func([]api.Record, api.World, api.Record, uint8) bool -/
def ty55 : TyI := { d := TypeDesc.func #[22, 30, 49, 5] #[4] false, size := 1, bytes := 8, zv := zAV (Value.nilFunc), eq := [] }
theorem one55 : TyOne Tryz.prog 55 ty55 := .plain (z := Value.nilFunc) ⟨by kernel_rfl, by kernel_rfl⟩ rfl (by kernel_rfl) rfl
/-- map[string]bool -/
def ty56 : TyI := { d := TypeDesc.map 9 4, size := 1, bytes := 8, zv := zAV ((Value.map none)), eq := [] }
theorem one56 : TyOne Tryz.prog 56 ty56 := .plain (z := (Value.map none)) ⟨by kernel_rfl, by kernel_rfl⟩ rfl (by kernel_rfl) rfl
/-- func(string) api.Record -/
def ty57 : TyI := { d := TypeDesc.func #[9] #[49] false, size := 1, bytes := 8, zv := zAV (Value.nilFunc), eq := [] }
theorem one57 : TyOne Tryz.prog 57 ty57 := .plain (z := Value.nilFunc) ⟨by kernel_rfl, by kernel_rfl⟩ rfl (by kernel_rfl) rfl
/-- func(int, int, int, api.Record, ...api.Edit) api.Record -/
def ty58 : TyI := { d := TypeDesc.func #[3, 3, 3, 49, 33] #[49] true, size := 1, bytes := 8, zv := zAV (Value.nilFunc), eq := [] }
theorem one58 : TyOne Tryz.prog 58 ty58 := .plain (z := Value.nilFunc) ⟨by kernel_rfl, by kernel_rfl⟩ rfl (by kernel_rfl) rfl
/-- struct { X int; Y int } -/
def ty59 : TyI := { d := TypeDesc.struct #[{ name := "X", type := 3, offset := 0, embedded := false, tag := "", pkgPath := "", byteOffset := 0 }, { name := "Y", type := 3, offset := 1, embedded := false, tag := "", pkgPath := "", byteOffset := 8 }], size := 2, bytes := 16, zv := zAV ((Value.agg #[Value.int IntKind.i64 0, Value.int IntKind.i64 0])), eq := [] }
theorem one59 : TyOne Tryz.prog 59 ty59 := .plain (z := (Value.agg #[Value.int IntKind.i64 0, Value.int IntKind.i64 0])) ⟨by kernel_rfl, by kernel_rfl⟩ rfl (by kernel_rfl) rfl
/-- api.Point -/
def ty60 : TyI := { d := TypeDesc.struct #[{ name := "X", type := 3, offset := 0, embedded := false, tag := "", pkgPath := "", byteOffset := 0 }, { name := "Y", type := 3, offset := 1, embedded := false, tag := "", pkgPath := "", byteOffset := 8 }], size := 2, bytes := 16, zv := zAV ((Value.agg #[Value.int IntKind.i64 0, Value.int IntKind.i64 0])), eq := [0, 0] }
set_option maxRecDepth 100000 in
theorem one60 : TyOne Tryz.prog 60 ty60 := .flat (z := (Value.agg #[Value.int IntKind.i64 0, Value.int IntKind.i64 0])) (fs := #[{ name := "X", type := 3, offset := 0, embedded := false, tag := "", pkgPath := "", byteOffset := 0 }, { name := "Y", type := 3, offset := 1, embedded := false, tag := "", pkgPath := "", byteOffset := 8 }]) ⟨by kernel_rfl, by kernel_rfl⟩ rfl (by kernel_rfl) (by kernel_rfl) (by kernel_rfl) (by kernel_rfl) ⟨rfl, by decide, ⟨IntKind.i64, by kernel_rfl⟩, ⟨rfl, by decide, ⟨IntKind.i64, by kernel_rfl⟩, trivial⟩⟩
/-- []api.Tag -/
def ty61 : TyI := { d := TypeDesc.slice 139, size := 1, bytes := 24, zv := zAV ((Value.slice none 0 0)), eq := [] }
theorem one61 : TyOne Tryz.prog 61 ty61 := .plain (z := (Value.slice none 0 0)) ⟨by kernel_rfl, by kernel_rfl⟩ rfl (by kernel_rfl) rfl
/-- struct { Id string; Kind int; At api.Point; Refs []string; Tags []api.Tag } -/
def ty62 : TyI := { d := TypeDesc.struct #[{ name := "Id", type := 9, offset := 0, embedded := false, tag := "", pkgPath := "", byteOffset := 0 }, { name := "Kind", type := 3, offset := 1, embedded := false, tag := "", pkgPath := "", byteOffset := 16 }, { name := "At", type := 60, offset := 2, embedded := false, tag := "", pkgPath := "", byteOffset := 24 }, { name := "Refs", type := 26, offset := 4, embedded := false, tag := "", pkgPath := "", byteOffset := 40 }, { name := "Tags", type := 61, offset := 5, embedded := false, tag := "", pkgPath := "", byteOffset := 64 }], size := 6, bytes := 88, zv := zAV ((Value.agg #[Value.string { data := #[] }, Value.int IntKind.i64 0, Value.int IntKind.i64 0, Value.int IntKind.i64 0, Value.slice none 0 0, Value.slice none 0 0])), eq := [] }
theorem one62 : TyOne Tryz.prog 62 ty62 := .plain (z := (Value.agg #[Value.string { data := #[] }, Value.int IntKind.i64 0, Value.int IntKind.i64 0, Value.int IntKind.i64 0, Value.slice none 0 0, Value.slice none 0 0])) ⟨by kernel_rfl, by kernel_rfl⟩ rfl (by kernel_rfl) rfl
/-- api.Object -/
def ty63 : TyI := { d := TypeDesc.struct #[{ name := "Id", type := 9, offset := 0, embedded := false, tag := "", pkgPath := "", byteOffset := 0 }, { name := "Kind", type := 3, offset := 1, embedded := false, tag := "", pkgPath := "", byteOffset := 16 }, { name := "At", type := 60, offset := 2, embedded := false, tag := "", pkgPath := "", byteOffset := 24 }, { name := "Refs", type := 26, offset := 4, embedded := false, tag := "", pkgPath := "", byteOffset := 40 }, { name := "Tags", type := 61, offset := 5, embedded := false, tag := "", pkgPath := "", byteOffset := 64 }], size := 6, bytes := 88, zv := zAV ((Value.agg #[Value.string { data := #[] }, Value.int IntKind.i64 0, Value.int IntKind.i64 0, Value.int IntKind.i64 0, Value.slice none 0 0, Value.slice none 0 0])), eq := [] }
theorem one63 : TyOne Tryz.prog 63 ty63 := .plain (z := (Value.agg #[Value.string { data := #[] }, Value.int IntKind.i64 0, Value.int IntKind.i64 0, Value.int IntKind.i64 0, Value.slice none 0 0, Value.slice none 0 0])) ⟨by kernel_rfl, by kernel_rfl⟩ rfl (by kernel_rfl) rfl
/-- struct { Op int; Id string; Other string; Node string; At api.Point; Key string; Value string; Refs []string; Object api -/
def ty64 : TyI := { d := TypeDesc.struct #[{ name := "Op", type := 3, offset := 0, embedded := false, tag := "", pkgPath := "", byteOffset := 0 }, { name := "Id", type := 9, offset := 1, embedded := false, tag := "", pkgPath := "", byteOffset := 8 }, { name := "Other", type := 9, offset := 2, embedded := false, tag := "", pkgPath := "", byteOffset := 24 }, { name := "Node", type := 9, offset := 3, embedded := false, tag := "", pkgPath := "", byteOffset := 40 }, { name := "At", type := 60, offset := 4, embedded := false, tag := "", pkgPath := "", byteOffset := 56 }, { name := "Key", type := 9, offset := 6, embedded := false, tag := "", pkgPath := "", byteOffset := 72 }, { name := "Value", type := 9, offset := 7, embedded := false, tag := "", pkgPath := "", byteOffset := 88 }, { name := "Refs", type := 26, offset := 8, embedded := false, tag := "", pkgPath := "", byteOffset := 104 }, { name := "Object", type := 63, offset := 9, embedded := false, tag := "", pkgPath := "", byteOffset := 128 }], size := 15, bytes := 216, zv := zAV ((Value.agg #[Value.int IntKind.i64 0, Value.string { data := #[] }, Value.string { data := #[] }, Value.string { data := #[] }, Value.int IntKind.i64 0, Value.int IntKind.i64 0, Value.string { data := #[] }, Value.string { data := #[] }, Value.slice none 0 0, Value.string { data := #[] }, Value.int IntKind.i64 0, Value.int IntKind.i64 0, Value.int IntKind.i64 0, Value.slice none 0 0, Value.slice none 0 0])), eq := [] }
theorem one64 : TyOne Tryz.prog 64 ty64 := .plain (z := (Value.agg #[Value.int IntKind.i64 0, Value.string { data := #[] }, Value.string { data := #[] }, Value.string { data := #[] }, Value.int IntKind.i64 0, Value.int IntKind.i64 0, Value.string { data := #[] }, Value.string { data := #[] }, Value.slice none 0 0, Value.string { data := #[] }, Value.int IntKind.i64 0, Value.int IntKind.i64 0, Value.int IntKind.i64 0, Value.slice none 0 0, Value.slice none 0 0])) ⟨by kernel_rfl, by kernel_rfl⟩ rfl (by kernel_rfl) rfl
/-- api.Edit -/
def ty65 : TyI := { d := TypeDesc.struct #[{ name := "Op", type := 3, offset := 0, embedded := false, tag := "", pkgPath := "", byteOffset := 0 }, { name := "Id", type := 9, offset := 1, embedded := false, tag := "", pkgPath := "", byteOffset := 8 }, { name := "Other", type := 9, offset := 2, embedded := false, tag := "", pkgPath := "", byteOffset := 24 }, { name := "Node", type := 9, offset := 3, embedded := false, tag := "", pkgPath := "", byteOffset := 40 }, { name := "At", type := 60, offset := 4, embedded := false, tag := "", pkgPath := "", byteOffset := 56 }, { name := "Key", type := 9, offset := 6, embedded := false, tag := "", pkgPath := "", byteOffset := 72 }, { name := "Value", type := 9, offset := 7, embedded := false, tag := "", pkgPath := "", byteOffset := 88 }, { name := "Refs", type := 26, offset := 8, embedded := false, tag := "", pkgPath := "", byteOffset := 104 }, { name := "Object", type := 63, offset := 9, embedded := false, tag := "", pkgPath := "", byteOffset := 128 }], size := 15, bytes := 216, zv := zAV ((Value.agg #[Value.int IntKind.i64 0, Value.string { data := #[] }, Value.string { data := #[] }, Value.string { data := #[] }, Value.int IntKind.i64 0, Value.int IntKind.i64 0, Value.string { data := #[] }, Value.string { data := #[] }, Value.slice none 0 0, Value.string { data := #[] }, Value.int IntKind.i64 0, Value.int IntKind.i64 0, Value.int IntKind.i64 0, Value.slice none 0 0, Value.slice none 0 0])), eq := [] }
theorem one65 : TyOne Tryz.prog 65 ty65 := .plain (z := (Value.agg #[Value.int IntKind.i64 0, Value.string { data := #[] }, Value.string { data := #[] }, Value.string { data := #[] }, Value.int IntKind.i64 0, Value.int IntKind.i64 0, Value.string { data := #[] }, Value.string { data := #[] }, Value.slice none 0 0, Value.string { data := #[] }, Value.int IntKind.i64 0, Value.int IntKind.i64 0, Value.int IntKind.i64 0, Value.slice none 0 0, Value.slice none 0 0])) ⟨by kernel_rfl, by kernel_rfl⟩ rfl (by kernel_rfl) rfl
/-- func([]api.Record, int) bool -/
def ty66 : TyI := { d := TypeDesc.func #[22, 3] #[4] false, size := 1, bytes := 8, zv := zAV (Value.nilFunc), eq := [] }
theorem one66 : TyOne Tryz.prog 66 ty66 := .plain (z := Value.nilFunc) ⟨by kernel_rfl, by kernel_rfl⟩ rfl (by kernel_rfl) rfl
/-- []*moderate.entry -/
def ty67 : TyI := { d := TypeDesc.slice 71, size := 1, bytes := 24, zv := zAV ((Value.slice none 0 0)), eq := [] }
theorem one67 : TyOne Tryz.prog 67 ty67 := .plain (z := (Value.slice none 0 0)) ⟨by kernel_rfl, by kernel_rfl⟩ rfl (by kernel_rfl) rfl
/-- map[string]*moderate.entry -/
def ty68 : TyI := { d := TypeDesc.map 9 71, size := 1, bytes := 8, zv := zAV ((Value.map none)), eq := [] }
theorem one68 : TyOne Tryz.prog 68 ty68 := .plain (z := (Value.map none)) ⟨by kernel_rfl, by kernel_rfl⟩ rfl (by kernel_rfl) rfl
/-- ([]*moderate.entry, map[string]*moderate.entry) -/
def ty69 : TyI := { d := TypeDesc.tuple #[67, 68], size := 1, bytes := 0, zv := zAV ((Value.tuple #[Value.slice none 0 0, Value.map none])), eq := [] }
theorem one69 : TyOne Tryz.prog 69 ty69 := .plain (z := (Value.tuple #[Value.slice none 0 0, Value.map none])) ⟨by kernel_rfl, by kernel_rfl⟩ rfl (by kernel_rfl) rfl
/-- func([]api.Record, api.World) ([]*moderate.entry, map[string]*moderate.entry) -/
def ty70 : TyI := { d := TypeDesc.func #[22, 30] #[67, 68] false, size := 1, bytes := 8, zv := zAV (Value.nilFunc), eq := [] }
theorem one70 : TyOne Tryz.prog 70 ty70 := .plain (z := Value.nilFunc) ⟨by kernel_rfl, by kernel_rfl⟩ rfl (by kernel_rfl) rfl
/-- *moderate.entry -/
def ty71 : TyI := { d := TypeDesc.pointer 73, size := 1, bytes := 8, zv := zAV ((Value.pointer none)), eq := [] }
theorem one71 : TyOne Tryz.prog 71 ty71 := .plain (z := (Value.pointer none)) ⟨by kernel_rfl, by kernel_rfl⟩ rfl (by kernel_rfl) rfl
/-- struct { own []api.Edit; status api.Status } -/
def ty72 : TyI := { d := TypeDesc.struct #[{ name := "own", type := 33, offset := 0, embedded := false, tag := "", pkgPath := "planisphere/moderate", byteOffset := 0 }, { name := "status", type := 35, offset := 1, embedded := false, tag := "", pkgPath := "planisphere/moderate", byteOffset := 24 }], size := 5, bytes := 88, zv := zAV ((Value.agg #[Value.slice none 0 0, Value.string { data := #[] }, Value.int IntKind.i64 0, Value.string { data := #[] }, Value.slice none 0 0])), eq := [] }
theorem one72 : TyOne Tryz.prog 72 ty72 := .plain (z := (Value.agg #[Value.slice none 0 0, Value.string { data := #[] }, Value.int IntKind.i64 0, Value.string { data := #[] }, Value.slice none 0 0])) ⟨by kernel_rfl, by kernel_rfl⟩ rfl (by kernel_rfl) rfl
/-- moderate.entry -/
def ty73 : TyI := { d := TypeDesc.struct #[{ name := "own", type := 33, offset := 0, embedded := false, tag := "", pkgPath := "planisphere/moderate", byteOffset := 0 }, { name := "status", type := 35, offset := 1, embedded := false, tag := "", pkgPath := "planisphere/moderate", byteOffset := 24 }], size := 5, bytes := 88, zv := zAV ((Value.agg #[Value.slice none 0 0, Value.string { data := #[] }, Value.int IntKind.i64 0, Value.string { data := #[] }, Value.slice none 0 0])), eq := [] }
theorem one73 : TyOne Tryz.prog 73 ty73 := .plain (z := (Value.agg #[Value.slice none 0 0, Value.string { data := #[] }, Value.int IntKind.i64 0, Value.string { data := #[] }, Value.slice none 0 0])) ⟨by kernel_rfl, by kernel_rfl⟩ rfl (by kernel_rfl) rfl
/-- func([]api.Record, api.World, int) api.Status -/
def ty74 : TyI := { d := TypeDesc.func #[22, 30, 3] #[35] false, size := 1, bytes := 8, zv := zAV (Value.nilFunc), eq := [] }
theorem one74 : TyOne Tryz.prog 74 ty74 := .plain (z := Value.nilFunc) ⟨by kernel_rfl, by kernel_rfl⟩ rfl (by kernel_rfl) rfl
/-- func(api.Record) bool -/
def ty75 : TyI := { d := TypeDesc.func #[49] #[4] false, size := 1, bytes := 8, zv := zAV (Value.nilFunc), eq := [] }
theorem one75 : TyOne Tryz.prog 75 ty75 := .plain (z := Value.nilFunc) ⟨by kernel_rfl, by kernel_rfl⟩ rfl (by kernel_rfl) rfl
/-- func(string) string -/
def ty76 : TyI := { d := TypeDesc.func #[9] #[9] false, size := 1, bytes := 8, zv := zAV (Value.nilFunc), eq := [] }
theorem one76 : TyOne Tryz.prog 76 ty76 := .plain (z := Value.nilFunc) ⟨by kernel_rfl, by kernel_rfl⟩ rfl (by kernel_rfl) rfl
/-- record.fields -/
def ty77 : TyI := { d := TypeDesc.slice 9, size := 1, bytes := 24, zv := zAV ((Value.slice none 0 0)), eq := [] }
theorem one77 : TyOne Tryz.prog 77 ty77 := .plain (z := (Value.slice none 0 0)) ⟨by kernel_rfl, by kernel_rfl⟩ rfl (by kernel_rfl) rfl
/-- func(api.Record) record.fields -/
def ty78 : TyI := { d := TypeDesc.func #[49] #[77] false, size := 1, bytes := 8, zv := zAV (Value.nilFunc), eq := [] }
theorem one78 : TyOne Tryz.prog 78 ty78 := .plain (z := Value.nilFunc) ⟨by kernel_rfl, by kernel_rfl⟩ rfl (by kernel_rfl) rfl
/-- func() string -/
def ty79 : TyI := { d := TypeDesc.func #[] #[9] false, size := 1, bytes := 8, zv := zAV (Value.nilFunc), eq := [] }
theorem one79 : TyOne Tryz.prog 79 ty79 := .plain (z := Value.nilFunc) ⟨by kernel_rfl, by kernel_rfl⟩ rfl (by kernel_rfl) rfl
/-- func(...[]string) bool -/
def ty80 : TyI := { d := TypeDesc.func #[116] #[4] true, size := 1, bytes := 8, zv := zAV (Value.nilFunc), eq := [] }
theorem one80 : TyOne Tryz.prog 80 ty80 := .plain (z := Value.nilFunc) ⟨by kernel_rfl, by kernel_rfl⟩ rfl (by kernel_rfl) rfl
/-- func([]api.Edit, int) bool -/
def ty81 : TyI := { d := TypeDesc.func #[33, 3] #[4] false, size := 1, bytes := 8, zv := zAV (Value.nilFunc), eq := [] }
theorem one81 : TyOne Tryz.prog 81 ty81 := .plain (z := Value.nilFunc) ⟨by kernel_rfl, by kernel_rfl⟩ rfl (by kernel_rfl) rfl
/-- func([]int, int) bool -/
def ty82 : TyI := { d := TypeDesc.func #[27, 3] #[4] false, size := 1, bytes := 8, zv := zAV (Value.nilFunc), eq := [] }
theorem one82 : TyOne Tryz.prog 82 ty82 := .plain (z := Value.nilFunc) ⟨by kernel_rfl, by kernel_rfl⟩ rfl (by kernel_rfl) rfl
/-- func(api.Record) -/
def ty83 : TyI := { d := TypeDesc.func #[49] #[] false, size := 1, bytes := 8, zv := zAV (Value.nilFunc), eq := [] }
theorem one83 : TyOne Tryz.prog 83 ty83 := .plain (z := Value.nilFunc) ⟨by kernel_rfl, by kernel_rfl⟩ rfl (by kernel_rfl) rfl
/-- func([]string) string -/
def ty84 : TyI := { d := TypeDesc.func #[26] #[9] false, size := 1, bytes := 8, zv := zAV (Value.nilFunc), eq := [] }
theorem one84 : TyOne Tryz.prog 84 ty84 := .plain (z := Value.nilFunc) ⟨by kernel_rfl, by kernel_rfl⟩ rfl (by kernel_rfl) rfl
/-- func(api.Record) []string -/
def ty85 : TyI := { d := TypeDesc.func #[49] #[26] false, size := 1, bytes := 8, zv := zAV (Value.nilFunc), eq := [] }
theorem one85 : TyOne Tryz.prog 85 ty85 := .plain (z := Value.nilFunc) ⟨by kernel_rfl, by kernel_rfl⟩ rfl (by kernel_rfl) rfl
/-- func(int, int, int) bool -/
def ty86 : TyI := { d := TypeDesc.func #[3, 3, 3] #[4] false, size := 1, bytes := 8, zv := zAV (Value.nilFunc), eq := [] }
theorem one86 : TyOne Tryz.prog 86 ty86 := .plain (z := Value.nilFunc) ⟨by kernel_rfl, by kernel_rfl⟩ rfl (by kernel_rfl) rfl
/-- func([]string, func(string) bool) bool -/
def ty87 : TyI := { d := TypeDesc.func #[26, 88] #[4] false, size := 1, bytes := 8, zv := zAV (Value.nilFunc), eq := [] }
theorem one87 : TyOne Tryz.prog 87 ty87 := .plain (z := Value.nilFunc) ⟨by kernel_rfl, by kernel_rfl⟩ rfl (by kernel_rfl) rfl
/-- func(string) bool -/
def ty88 : TyI := { d := TypeDesc.func #[9] #[4] false, size := 1, bytes := 8, zv := zAV (Value.nilFunc), eq := [] }
theorem one88 : TyOne Tryz.prog 88 ty88 := .plain (z := Value.nilFunc) ⟨by kernel_rfl, by kernel_rfl⟩ rfl (by kernel_rfl) rfl
/-- func(...string) bool -/
def ty89 : TyI := { d := TypeDesc.func #[26] #[4] true, size := 1, bytes := 8, zv := zAV (Value.nilFunc), eq := [] }
theorem one89 : TyOne Tryz.prog 89 ty89 := .plain (z := Value.nilFunc) ⟨by kernel_rfl, by kernel_rfl⟩ rfl (by kernel_rfl) rfl
/-- func([]api.Point, func(api.Point) bool) bool -/
def ty90 : TyI := { d := TypeDesc.func #[45, 91] #[4] false, size := 1, bytes := 8, zv := zAV (Value.nilFunc), eq := [] }
theorem one90 : TyOne Tryz.prog 90 ty90 := .plain (z := Value.nilFunc) ⟨by kernel_rfl, by kernel_rfl⟩ rfl (by kernel_rfl) rfl
/-- func(api.Point) bool -/
def ty91 : TyI := { d := TypeDesc.func #[60] #[4] false, size := 1, bytes := 8, zv := zAV (Value.nilFunc), eq := [] }
theorem one91 : TyOne Tryz.prog 91 ty91 := .plain (z := Value.nilFunc) ⟨by kernel_rfl, by kernel_rfl⟩ rfl (by kernel_rfl) rfl
/-- func(api.Seal) bool -/
def ty92 : TyI := { d := TypeDesc.func #[44] #[4] false, size := 1, bytes := 8, zv := zAV (Value.nilFunc), eq := [] }
theorem one92 : TyOne Tryz.prog 92 ty92 := .plain (z := Value.nilFunc) ⟨by kernel_rfl, by kernel_rfl⟩ rfl (by kernel_rfl) rfl
/-- func([]string) bool -/
def ty93 : TyI := { d := TypeDesc.func #[26] #[4] false, size := 1, bytes := 8, zv := zAV (Value.nilFunc), eq := [] }
theorem one93 : TyOne Tryz.prog 93 ty93 := .plain (z := Value.nilFunc) ⟨by kernel_rfl, by kernel_rfl⟩ rfl (by kernel_rfl) rfl
/-- func([]string) []string -/
def ty94 : TyI := { d := TypeDesc.func #[26] #[26] false, size := 1, bytes := 8, zv := zAV (Value.nilFunc), eq := [] }
theorem one94 : TyOne Tryz.prog 94 ty94 := .plain (z := Value.nilFunc) ⟨by kernel_rfl, by kernel_rfl⟩ rfl (by kernel_rfl) rfl
/-- (string, bool) -/
def ty95 : TyI := { d := TypeDesc.tuple #[9, 4], size := 1, bytes := 0, zv := zAV ((Value.tuple #[Value.string { data := #[] }, Value.bool false])), eq := [] }
theorem one95 : TyOne Tryz.prog 95 ty95 := .plain (z := (Value.tuple #[Value.string { data := #[] }, Value.bool false])) ⟨by kernel_rfl, by kernel_rfl⟩ rfl (by kernel_rfl) rfl
/-- func([]api.Edit) (string, bool) -/
def ty96 : TyI := { d := TypeDesc.func #[33] #[9, 4] false, size := 1, bytes := 8, zv := zAV (Value.nilFunc), eq := [] }
theorem one96 : TyOne Tryz.prog 96 ty96 := .plain (z := Value.nilFunc) ⟨by kernel_rfl, by kernel_rfl⟩ rfl (by kernel_rfl) rfl
/-- uint64 -/
def ty97 : TyI := { d := TypeDesc.int IntKind.u64, size := 1, bytes := 8, zv := zAV ((Value.int IntKind.u64 0)), eq := [] }
theorem one97 : TyOne Tryz.prog 97 ty97 := .plain (z := (Value.int IntKind.u64 0)) ⟨by kernel_rfl, by kernel_rfl⟩ rfl (by kernel_rfl) rfl
/-- [8]uint8 -/
def ty98 : TyI := { d := TypeDesc.array 8 5, size := 8, bytes := 8, zv := zAV ((Value.agg #[Value.int IntKind.u8 0, Value.int IntKind.u8 0, Value.int IntKind.u8 0, Value.int IntKind.u8 0, Value.int IntKind.u8 0, Value.int IntKind.u8 0, Value.int IntKind.u8 0, Value.int IntKind.u8 0])), eq := [] }
theorem one98 : TyOne Tryz.prog 98 ty98 := .plain (z := (Value.agg #[Value.int IntKind.u8 0, Value.int IntKind.u8 0, Value.int IntKind.u8 0, Value.int IntKind.u8 0, Value.int IntKind.u8 0, Value.int IntKind.u8 0, Value.int IntKind.u8 0, Value.int IntKind.u8 0])) ⟨by kernel_rfl, by kernel_rfl⟩ rfl (by kernel_rfl) rfl
/-- []uint8 -/
def ty99 : TyI := { d := TypeDesc.slice 5, size := 1, bytes := 24, zv := zAV ((Value.slice none 0 0)), eq := [] }
theorem one99 : TyOne Tryz.prog 99 ty99 := .plain (z := (Value.slice none 0 0)) ⟨by kernel_rfl, by kernel_rfl⟩ rfl (by kernel_rfl) rfl
/-- uint -/
def ty100 : TyI := { d := TypeDesc.int IntKind.u64, size := 1, bytes := 8, zv := zAV ((Value.int IntKind.u64 0)), eq := [] }
theorem one100 : TyOne Tryz.prog 100 ty100 := .plain (z := (Value.int IntKind.u64 0)) ⟨by kernel_rfl, by kernel_rfl⟩ rfl (by kernel_rfl) rfl
/-- func(uint64) uint64 -/
def ty101 : TyI := { d := TypeDesc.func #[97] #[97] false, size := 1, bytes := 8, zv := zAV (Value.nilFunc), eq := [] }
theorem one101 : TyOne Tryz.prog 101 ty101 := .plain (z := Value.nilFunc) ⟨by kernel_rfl, by kernel_rfl⟩ rfl (by kernel_rfl) rfl
/-- func(string) -/
def ty102 : TyI := { d := TypeDesc.func #[9] #[] false, size := 1, bytes := 8, zv := zAV (Value.nilFunc), eq := [] }
theorem one102 : TyOne Tryz.prog 102 ty102 := .plain (z := Value.nilFunc) ⟨by kernel_rfl, by kernel_rfl⟩ rfl (by kernel_rfl) rfl
/-- [16]uint8 -/
def ty103 : TyI := { d := TypeDesc.array 16 5, size := 16, bytes := 16, zv := zAV ((Value.agg #[Value.int IntKind.u8 0, Value.int IntKind.u8 0, Value.int IntKind.u8 0, Value.int IntKind.u8 0, Value.int IntKind.u8 0, Value.int IntKind.u8 0, Value.int IntKind.u8 0, Value.int IntKind.u8 0, Value.int IntKind.u8 0, Value.int IntKind.u8 0, Value.int IntKind.u8 0, Value.int IntKind.u8 0, Value.int IntKind.u8 0, Value.int IntKind.u8 0, Value.int IntKind.u8 0, Value.int IntKind.u8 0])), eq := [] }
theorem one103 : TyOne Tryz.prog 103 ty103 := .plain (z := (Value.agg #[Value.int IntKind.u8 0, Value.int IntKind.u8 0, Value.int IntKind.u8 0, Value.int IntKind.u8 0, Value.int IntKind.u8 0, Value.int IntKind.u8 0, Value.int IntKind.u8 0, Value.int IntKind.u8 0, Value.int IntKind.u8 0, Value.int IntKind.u8 0, Value.int IntKind.u8 0, Value.int IntKind.u8 0, Value.int IntKind.u8 0, Value.int IntKind.u8 0, Value.int IntKind.u8 0, Value.int IntKind.u8 0])) ⟨by kernel_rfl, by kernel_rfl⟩ rfl (by kernel_rfl) rfl
/-- func() [16]uint8 -/
def ty104 : TyI := { d := TypeDesc.func #[] #[103] false, size := 1, bytes := 8, zv := zAV (Value.nilFunc), eq := [] }
theorem one104 : TyOne Tryz.prog 104 ty104 := .plain (z := Value.nilFunc) ⟨by kernel_rfl, by kernel_rfl⟩ rfl (by kernel_rfl) rfl
/-- func(...interface {}) -/
def ty105 : TyI := { d := TypeDesc.func #[134] #[] true, size := 1, bytes := 8, zv := zAV (Value.nilFunc), eq := [] }
theorem one105 : TyOne Tryz.prog 105 ty105 := .plain (z := Value.nilFunc) ⟨by kernel_rfl, by kernel_rfl⟩ rfl (by kernel_rfl) rfl
/-- *strings.Builder -/
def ty106 : TyI := { d := TypeDesc.pointer 108, size := 1, bytes := 8, zv := zAV ((Value.pointer none)), eq := [] }
theorem one106 : TyOne Tryz.prog 106 ty106 := .plain (z := (Value.pointer none)) ⟨by kernel_rfl, by kernel_rfl⟩ rfl (by kernel_rfl) rfl
/-- struct { addr *strings.Builder; buf []uint8 } -/
def ty107 : TyI := { d := TypeDesc.struct #[{ name := "addr", type := 106, offset := 0, embedded := false, tag := "", pkgPath := "strings", byteOffset := 0 }, { name := "buf", type := 99, offset := 1, embedded := false, tag := "", pkgPath := "strings", byteOffset := 8 }], size := 2, bytes := 32, zv := zAV ((Value.agg #[Value.pointer none, Value.slice none 0 0])), eq := [] }
theorem one107 : TyOne Tryz.prog 107 ty107 := .plain (z := (Value.agg #[Value.pointer none, Value.slice none 0 0])) ⟨by kernel_rfl, by kernel_rfl⟩ rfl (by kernel_rfl) rfl
/-- strings.Builder -/
def ty108 : TyI := { d := TypeDesc.struct #[{ name := "addr", type := 106, offset := 0, embedded := false, tag := "", pkgPath := "strings", byteOffset := 0 }, { name := "buf", type := 99, offset := 1, embedded := false, tag := "", pkgPath := "strings", byteOffset := 8 }], size := 2, bytes := 32, zv := zAV ((Value.agg #[Value.pointer none, Value.slice none 0 0])), eq := [] }
theorem one108 : TyOne Tryz.prog 108 ty108 := .plain (z := (Value.agg #[Value.pointer none, Value.slice none 0 0])) ⟨by kernel_rfl, by kernel_rfl⟩ rfl (by kernel_rfl) rfl
/-- interface { Error() string } -/
def ty109 : TyI := { d := TypeDesc.interface #[("Error", 79)], size := 1, bytes := 16, zv := zAV (Value.nilIface), eq := [] }
theorem one109 : TyOne Tryz.prog 109 ty109 := .plain (z := Value.nilIface) ⟨by kernel_rfl, by kernel_rfl⟩ rfl (by kernel_rfl) rfl
/-- error -/
def ty110 : TyI := { d := TypeDesc.interface #[("Error", 79)], size := 1, bytes := 16, zv := zAV (Value.nilIface), eq := [] }
theorem one110 : TyOne Tryz.prog 110 ty110 := .plain (z := Value.nilIface) ⟨by kernel_rfl, by kernel_rfl⟩ rfl (by kernel_rfl) rfl
/-- (int, error) -/
def ty111 : TyI := { d := TypeDesc.tuple #[3, 110], size := 1, bytes := 0, zv := zAV ((Value.tuple #[Value.int IntKind.i64 0, Value.nilIface])), eq := [] }
theorem one111 : TyOne Tryz.prog 111 ty111 := .plain (z := (Value.tuple #[Value.int IntKind.i64 0, Value.nilIface])) ⟨by kernel_rfl, by kernel_rfl⟩ rfl (by kernel_rfl) rfl
/-- func(string) (int, error) -/
def ty112 : TyI := { d := TypeDesc.func #[9] #[3, 110] false, size := 1, bytes := 8, zv := zAV (Value.nilFunc), eq := [] }
theorem one112 : TyOne Tryz.prog 112 ty112 := .plain (z := Value.nilFunc) ⟨by kernel_rfl, by kernel_rfl⟩ rfl (by kernel_rfl) rfl
/-- func(int) string -/
def ty113 : TyI := { d := TypeDesc.func #[3] #[9] false, size := 1, bytes := 8, zv := zAV (Value.nilFunc), eq := [] }
theorem one113 : TyOne Tryz.prog 113 ty113 := .plain (z := Value.nilFunc) ⟨by kernel_rfl, by kernel_rfl⟩ rfl (by kernel_rfl) rfl
/-- func(uint8) error -/
def ty114 : TyI := { d := TypeDesc.func #[5] #[110] false, size := 1, bytes := 8, zv := zAV (Value.nilFunc), eq := [] }
theorem one114 : TyOne Tryz.prog 114 ty114 := .plain (z := Value.nilFunc) ⟨by kernel_rfl, by kernel_rfl⟩ rfl (by kernel_rfl) rfl
/-- func(api.Edit, api.Edit) bool -/
def ty115 : TyI := { d := TypeDesc.func #[65, 65] #[4] false, size := 1, bytes := 8, zv := zAV (Value.nilFunc), eq := [] }
theorem one115 : TyOne Tryz.prog 115 ty115 := .plain (z := Value.nilFunc) ⟨by kernel_rfl, by kernel_rfl⟩ rfl (by kernel_rfl) rfl
/-- [][]string -/
def ty116 : TyI := { d := TypeDesc.slice 26, size := 1, bytes := 24, zv := zAV ((Value.slice none 0 0)), eq := [] }
theorem one116 : TyOne Tryz.prog 116 ty116 := .plain (z := (Value.slice none 0 0)) ⟨by kernel_rfl, by kernel_rfl⟩ rfl (by kernel_rfl) rfl
/-- func(api.Object, int) bool -/
def ty117 : TyI := { d := TypeDesc.func #[63, 3] #[4] false, size := 1, bytes := 8, zv := zAV (Value.nilFunc), eq := [] }
theorem one117 : TyOne Tryz.prog 117 ty117 := .plain (z := Value.nilFunc) ⟨by kernel_rfl, by kernel_rfl⟩ rfl (by kernel_rfl) rfl
/-- func([]int, int) int -/
def ty118 : TyI := { d := TypeDesc.func #[27, 3] #[3] false, size := 1, bytes := 8, zv := zAV (Value.nilFunc), eq := [] }
theorem one118 : TyOne Tryz.prog 118 ty118 := .plain (z := Value.nilFunc) ⟨by kernel_rfl, by kernel_rfl⟩ rfl (by kernel_rfl) rfl
/-- (int, bool) -/
def ty119 : TyI := { d := TypeDesc.tuple #[3, 4], size := 1, bytes := 0, zv := zAV ((Value.tuple #[Value.int IntKind.i64 0, Value.bool false])), eq := [] }
theorem one119 : TyOne Tryz.prog 119 ty119 := .plain (z := (Value.tuple #[Value.int IntKind.i64 0, Value.bool false])) ⟨by kernel_rfl, by kernel_rfl⟩ rfl (by kernel_rfl) rfl
/-- func(int) (int, bool) -/
def ty120 : TyI := { d := TypeDesc.func #[3] #[3, 4] false, size := 1, bytes := 8, zv := zAV (Value.nilFunc), eq := [] }
theorem one120 : TyOne Tryz.prog 120 ty120 := .plain (z := Value.nilFunc) ⟨by kernel_rfl, by kernel_rfl⟩ rfl (by kernel_rfl) rfl
/-- func(api.Private) bool -/
def ty121 : TyI := { d := TypeDesc.func #[47] #[4] false, size := 1, bytes := 8, zv := zAV (Value.nilFunc), eq := [] }
theorem one121 : TyOne Tryz.prog 121 ty121 := .plain (z := Value.nilFunc) ⟨by kernel_rfl, by kernel_rfl⟩ rfl (by kernel_rfl) rfl
/-- api.Errno -/
def ty122 : TyI := { d := TypeDesc.int IntKind.i64, size := 1, bytes := 8, zv := zAV ((Value.int IntKind.i64 0)), eq := [] }
theorem one122 : TyOne Tryz.prog 122 ty122 := .plain (z := (Value.int IntKind.i64 0)) ⟨by kernel_rfl, by kernel_rfl⟩ rfl (by kernel_rfl) rfl
/-- (string, api.Errno) -/
def ty123 : TyI := { d := TypeDesc.tuple #[9, 122], size := 1, bytes := 0, zv := zAV ((Value.tuple #[Value.string { data := #[] }, Value.int IntKind.i64 0])), eq := [] }
theorem one123 : TyOne Tryz.prog 123 ty123 := .plain (z := (Value.tuple #[Value.string { data := #[] }, Value.int IntKind.i64 0])) ⟨by kernel_rfl, by kernel_rfl⟩ rfl (by kernel_rfl) rfl
/-- func([]api.Edit) (string, api.Errno) -/
def ty124 : TyI := { d := TypeDesc.func #[33] #[9, 122] false, size := 1, bytes := 8, zv := zAV (Value.nilFunc), eq := [] }
theorem one124 : TyOne Tryz.prog 124 ty124 := .plain (z := Value.nilFunc) ⟨by kernel_rfl, by kernel_rfl⟩ rfl (by kernel_rfl) rfl
/-- func([]string, func(string) bool) int -/
def ty125 : TyI := { d := TypeDesc.func #[26, 88] #[3] false, size := 1, bytes := 8, zv := zAV (Value.nilFunc), eq := [] }
theorem one125 : TyOne Tryz.prog 125 ty125 := .plain (z := Value.nilFunc) ⟨by kernel_rfl, by kernel_rfl⟩ rfl (by kernel_rfl) rfl
/-- func([]api.Point, func(api.Point) bool) int -/
def ty126 : TyI := { d := TypeDesc.func #[45, 91] #[3] false, size := 1, bytes := 8, zv := zAV (Value.nilFunc), eq := [] }
theorem one126 : TyOne Tryz.prog 126 ty126 := .plain (z := Value.nilFunc) ⟨by kernel_rfl, by kernel_rfl⟩ rfl (by kernel_rfl) rfl
/-- func(string, string) bool -/
def ty127 : TyI := { d := TypeDesc.func #[9, 9] #[4] false, size := 1, bytes := 8, zv := zAV (Value.nilFunc), eq := [] }
theorem one127 : TyOne Tryz.prog 127 ty127 := .plain (z := Value.nilFunc) ⟨by kernel_rfl, by kernel_rfl⟩ rfl (by kernel_rfl) rfl
/-- [256]uint8 -/
def ty128 : TyI := { d := TypeDesc.array 256 5, size := 256, bytes := 256, zv := zAV ((Value.agg (([Value.int IntKind.u8 0, Value.int IntKind.u8 0, Value.int IntKind.u8 0, Value.int IntKind.u8 0, Value.int IntKind.u8 0, Value.int IntKind.u8 0, Value.int IntKind.u8 0, Value.int IntKind.u8 0, Value.int IntKind.u8 0, Value.int IntKind.u8 0, Value.int IntKind.u8 0, Value.int IntKind.u8 0, Value.int IntKind.u8 0, Value.int IntKind.u8 0, Value.int IntKind.u8 0, Value.int IntKind.u8 0, Value.int IntKind.u8 0, Value.int IntKind.u8 0, Value.int IntKind.u8 0, Value.int IntKind.u8 0, Value.int IntKind.u8 0, Value.int IntKind.u8 0, Value.int IntKind.u8 0, Value.int IntKind.u8 0, Value.int IntKind.u8 0, Value.int IntKind.u8 0, Value.int IntKind.u8 0, Value.int IntKind.u8 0, Value.int IntKind.u8 0, Value.int IntKind.u8 0, Value.int IntKind.u8 0, Value.int IntKind.u8 0, Value.int IntKind.u8 0, Value.int IntKind.u8 0, Value.int IntKind.u8 0, Value.int IntKind.u8 0, Value.int IntKind.u8 0, Value.int IntKind.u8 0, Value.int IntKind.u8 0, Value.int IntKind.u8 0, Value.int IntKind.u8 0, Value.int IntKind.u8 0, Value.int IntKind.u8 0, Value.int IntKind.u8 0, Value.int IntKind.u8 0, Value.int IntKind.u8 0, Value.int IntKind.u8 0, Value.int IntKind.u8 0, Value.int IntKind.u8 0, Value.int IntKind.u8 0, Value.int IntKind.u8 0, Value.int IntKind.u8 0, Value.int IntKind.u8 0, Value.int IntKind.u8 0, Value.int IntKind.u8 0, Value.int IntKind.u8 0, Value.int IntKind.u8 0, Value.int IntKind.u8 0, Value.int IntKind.u8 0, Value.int IntKind.u8 0, Value.int IntKind.u8 0, Value.int IntKind.u8 0, Value.int IntKind.u8 0, Value.int IntKind.u8 0].append [Value.int IntKind.u8 0, Value.int IntKind.u8 0, Value.int IntKind.u8 0, Value.int IntKind.u8 0, Value.int IntKind.u8 0, Value.int IntKind.u8 0, Value.int IntKind.u8 0, Value.int IntKind.u8 0, Value.int IntKind.u8 0, Value.int IntKind.u8 0, Value.int IntKind.u8 0, Value.int IntKind.u8 0, Value.int IntKind.u8 0, Value.int IntKind.u8 0, Value.int IntKind.u8 0, Value.int IntKind.u8 0, Value.int IntKind.u8 0, Value.int IntKind.u8 0, Value.int IntKind.u8 0, Value.int IntKind.u8 0, Value.int IntKind.u8 0, Value.int IntKind.u8 0, Value.int IntKind.u8 0, Value.int IntKind.u8 0, Value.int IntKind.u8 0, Value.int IntKind.u8 0, Value.int IntKind.u8 0, Value.int IntKind.u8 0, Value.int IntKind.u8 0, Value.int IntKind.u8 0, Value.int IntKind.u8 0, Value.int IntKind.u8 0, Value.int IntKind.u8 0, Value.int IntKind.u8 0, Value.int IntKind.u8 0, Value.int IntKind.u8 0, Value.int IntKind.u8 0, Value.int IntKind.u8 0, Value.int IntKind.u8 0, Value.int IntKind.u8 0, Value.int IntKind.u8 0, Value.int IntKind.u8 0, Value.int IntKind.u8 0, Value.int IntKind.u8 0, Value.int IntKind.u8 0, Value.int IntKind.u8 0, Value.int IntKind.u8 0, Value.int IntKind.u8 0, Value.int IntKind.u8 0, Value.int IntKind.u8 0, Value.int IntKind.u8 0, Value.int IntKind.u8 0, Value.int IntKind.u8 0, Value.int IntKind.u8 0, Value.int IntKind.u8 0, Value.int IntKind.u8 0, Value.int IntKind.u8 0, Value.int IntKind.u8 0, Value.int IntKind.u8 0, Value.int IntKind.u8 0, Value.int IntKind.u8 0, Value.int IntKind.u8 0, Value.int IntKind.u8 0, Value.int IntKind.u8 0]).append ([Value.int IntKind.u8 0, Value.int IntKind.u8 0, Value.int IntKind.u8 0, Value.int IntKind.u8 0, Value.int IntKind.u8 0, Value.int IntKind.u8 0, Value.int IntKind.u8 0, Value.int IntKind.u8 0, Value.int IntKind.u8 0, Value.int IntKind.u8 0, Value.int IntKind.u8 0, Value.int IntKind.u8 0, Value.int IntKind.u8 0, Value.int IntKind.u8 0, Value.int IntKind.u8 0, Value.int IntKind.u8 0, Value.int IntKind.u8 0, Value.int IntKind.u8 0, Value.int IntKind.u8 0, Value.int IntKind.u8 0, Value.int IntKind.u8 0, Value.int IntKind.u8 0, Value.int IntKind.u8 0, Value.int IntKind.u8 0, Value.int IntKind.u8 0, Value.int IntKind.u8 0, Value.int IntKind.u8 0, Value.int IntKind.u8 0, Value.int IntKind.u8 0, Value.int IntKind.u8 0, Value.int IntKind.u8 0, Value.int IntKind.u8 0, Value.int IntKind.u8 0, Value.int IntKind.u8 0, Value.int IntKind.u8 0, Value.int IntKind.u8 0, Value.int IntKind.u8 0, Value.int IntKind.u8 0, Value.int IntKind.u8 0, Value.int IntKind.u8 0, Value.int IntKind.u8 0, Value.int IntKind.u8 0, Value.int IntKind.u8 0, Value.int IntKind.u8 0, Value.int IntKind.u8 0, Value.int IntKind.u8 0, Value.int IntKind.u8 0, Value.int IntKind.u8 0, Value.int IntKind.u8 0, Value.int IntKind.u8 0, Value.int IntKind.u8 0, Value.int IntKind.u8 0, Value.int IntKind.u8 0, Value.int IntKind.u8 0, Value.int IntKind.u8 0, Value.int IntKind.u8 0, Value.int IntKind.u8 0, Value.int IntKind.u8 0, Value.int IntKind.u8 0, Value.int IntKind.u8 0, Value.int IntKind.u8 0, Value.int IntKind.u8 0, Value.int IntKind.u8 0, Value.int IntKind.u8 0].append [Value.int IntKind.u8 0, Value.int IntKind.u8 0, Value.int IntKind.u8 0, Value.int IntKind.u8 0, Value.int IntKind.u8 0, Value.int IntKind.u8 0, Value.int IntKind.u8 0, Value.int IntKind.u8 0, Value.int IntKind.u8 0, Value.int IntKind.u8 0, Value.int IntKind.u8 0, Value.int IntKind.u8 0, Value.int IntKind.u8 0, Value.int IntKind.u8 0, Value.int IntKind.u8 0, Value.int IntKind.u8 0, Value.int IntKind.u8 0, Value.int IntKind.u8 0, Value.int IntKind.u8 0, Value.int IntKind.u8 0, Value.int IntKind.u8 0, Value.int IntKind.u8 0, Value.int IntKind.u8 0, Value.int IntKind.u8 0, Value.int IntKind.u8 0, Value.int IntKind.u8 0, Value.int IntKind.u8 0, Value.int IntKind.u8 0, Value.int IntKind.u8 0, Value.int IntKind.u8 0, Value.int IntKind.u8 0, Value.int IntKind.u8 0, Value.int IntKind.u8 0, Value.int IntKind.u8 0, Value.int IntKind.u8 0, Value.int IntKind.u8 0, Value.int IntKind.u8 0, Value.int IntKind.u8 0, Value.int IntKind.u8 0, Value.int IntKind.u8 0, Value.int IntKind.u8 0, Value.int IntKind.u8 0, Value.int IntKind.u8 0, Value.int IntKind.u8 0, Value.int IntKind.u8 0, Value.int IntKind.u8 0, Value.int IntKind.u8 0, Value.int IntKind.u8 0, Value.int IntKind.u8 0, Value.int IntKind.u8 0, Value.int IntKind.u8 0, Value.int IntKind.u8 0, Value.int IntKind.u8 0, Value.int IntKind.u8 0, Value.int IntKind.u8 0, Value.int IntKind.u8 0, Value.int IntKind.u8 0, Value.int IntKind.u8 0, Value.int IntKind.u8 0, Value.int IntKind.u8 0, Value.int IntKind.u8 0, Value.int IntKind.u8 0, Value.int IntKind.u8 0, Value.int IntKind.u8 0])).toArray)), eq := [] }
theorem one128 : TyOne Tryz.prog 128 ty128 := .plain (z := (Value.agg (([Value.int IntKind.u8 0, Value.int IntKind.u8 0, Value.int IntKind.u8 0, Value.int IntKind.u8 0, Value.int IntKind.u8 0, Value.int IntKind.u8 0, Value.int IntKind.u8 0, Value.int IntKind.u8 0, Value.int IntKind.u8 0, Value.int IntKind.u8 0, Value.int IntKind.u8 0, Value.int IntKind.u8 0, Value.int IntKind.u8 0, Value.int IntKind.u8 0, Value.int IntKind.u8 0, Value.int IntKind.u8 0, Value.int IntKind.u8 0, Value.int IntKind.u8 0, Value.int IntKind.u8 0, Value.int IntKind.u8 0, Value.int IntKind.u8 0, Value.int IntKind.u8 0, Value.int IntKind.u8 0, Value.int IntKind.u8 0, Value.int IntKind.u8 0, Value.int IntKind.u8 0, Value.int IntKind.u8 0, Value.int IntKind.u8 0, Value.int IntKind.u8 0, Value.int IntKind.u8 0, Value.int IntKind.u8 0, Value.int IntKind.u8 0, Value.int IntKind.u8 0, Value.int IntKind.u8 0, Value.int IntKind.u8 0, Value.int IntKind.u8 0, Value.int IntKind.u8 0, Value.int IntKind.u8 0, Value.int IntKind.u8 0, Value.int IntKind.u8 0, Value.int IntKind.u8 0, Value.int IntKind.u8 0, Value.int IntKind.u8 0, Value.int IntKind.u8 0, Value.int IntKind.u8 0, Value.int IntKind.u8 0, Value.int IntKind.u8 0, Value.int IntKind.u8 0, Value.int IntKind.u8 0, Value.int IntKind.u8 0, Value.int IntKind.u8 0, Value.int IntKind.u8 0, Value.int IntKind.u8 0, Value.int IntKind.u8 0, Value.int IntKind.u8 0, Value.int IntKind.u8 0, Value.int IntKind.u8 0, Value.int IntKind.u8 0, Value.int IntKind.u8 0, Value.int IntKind.u8 0, Value.int IntKind.u8 0, Value.int IntKind.u8 0, Value.int IntKind.u8 0, Value.int IntKind.u8 0].append [Value.int IntKind.u8 0, Value.int IntKind.u8 0, Value.int IntKind.u8 0, Value.int IntKind.u8 0, Value.int IntKind.u8 0, Value.int IntKind.u8 0, Value.int IntKind.u8 0, Value.int IntKind.u8 0, Value.int IntKind.u8 0, Value.int IntKind.u8 0, Value.int IntKind.u8 0, Value.int IntKind.u8 0, Value.int IntKind.u8 0, Value.int IntKind.u8 0, Value.int IntKind.u8 0, Value.int IntKind.u8 0, Value.int IntKind.u8 0, Value.int IntKind.u8 0, Value.int IntKind.u8 0, Value.int IntKind.u8 0, Value.int IntKind.u8 0, Value.int IntKind.u8 0, Value.int IntKind.u8 0, Value.int IntKind.u8 0, Value.int IntKind.u8 0, Value.int IntKind.u8 0, Value.int IntKind.u8 0, Value.int IntKind.u8 0, Value.int IntKind.u8 0, Value.int IntKind.u8 0, Value.int IntKind.u8 0, Value.int IntKind.u8 0, Value.int IntKind.u8 0, Value.int IntKind.u8 0, Value.int IntKind.u8 0, Value.int IntKind.u8 0, Value.int IntKind.u8 0, Value.int IntKind.u8 0, Value.int IntKind.u8 0, Value.int IntKind.u8 0, Value.int IntKind.u8 0, Value.int IntKind.u8 0, Value.int IntKind.u8 0, Value.int IntKind.u8 0, Value.int IntKind.u8 0, Value.int IntKind.u8 0, Value.int IntKind.u8 0, Value.int IntKind.u8 0, Value.int IntKind.u8 0, Value.int IntKind.u8 0, Value.int IntKind.u8 0, Value.int IntKind.u8 0, Value.int IntKind.u8 0, Value.int IntKind.u8 0, Value.int IntKind.u8 0, Value.int IntKind.u8 0, Value.int IntKind.u8 0, Value.int IntKind.u8 0, Value.int IntKind.u8 0, Value.int IntKind.u8 0, Value.int IntKind.u8 0, Value.int IntKind.u8 0, Value.int IntKind.u8 0, Value.int IntKind.u8 0]).append ([Value.int IntKind.u8 0, Value.int IntKind.u8 0, Value.int IntKind.u8 0, Value.int IntKind.u8 0, Value.int IntKind.u8 0, Value.int IntKind.u8 0, Value.int IntKind.u8 0, Value.int IntKind.u8 0, Value.int IntKind.u8 0, Value.int IntKind.u8 0, Value.int IntKind.u8 0, Value.int IntKind.u8 0, Value.int IntKind.u8 0, Value.int IntKind.u8 0, Value.int IntKind.u8 0, Value.int IntKind.u8 0, Value.int IntKind.u8 0, Value.int IntKind.u8 0, Value.int IntKind.u8 0, Value.int IntKind.u8 0, Value.int IntKind.u8 0, Value.int IntKind.u8 0, Value.int IntKind.u8 0, Value.int IntKind.u8 0, Value.int IntKind.u8 0, Value.int IntKind.u8 0, Value.int IntKind.u8 0, Value.int IntKind.u8 0, Value.int IntKind.u8 0, Value.int IntKind.u8 0, Value.int IntKind.u8 0, Value.int IntKind.u8 0, Value.int IntKind.u8 0, Value.int IntKind.u8 0, Value.int IntKind.u8 0, Value.int IntKind.u8 0, Value.int IntKind.u8 0, Value.int IntKind.u8 0, Value.int IntKind.u8 0, Value.int IntKind.u8 0, Value.int IntKind.u8 0, Value.int IntKind.u8 0, Value.int IntKind.u8 0, Value.int IntKind.u8 0, Value.int IntKind.u8 0, Value.int IntKind.u8 0, Value.int IntKind.u8 0, Value.int IntKind.u8 0, Value.int IntKind.u8 0, Value.int IntKind.u8 0, Value.int IntKind.u8 0, Value.int IntKind.u8 0, Value.int IntKind.u8 0, Value.int IntKind.u8 0, Value.int IntKind.u8 0, Value.int IntKind.u8 0, Value.int IntKind.u8 0, Value.int IntKind.u8 0, Value.int IntKind.u8 0, Value.int IntKind.u8 0, Value.int IntKind.u8 0, Value.int IntKind.u8 0, Value.int IntKind.u8 0, Value.int IntKind.u8 0].append [Value.int IntKind.u8 0, Value.int IntKind.u8 0, Value.int IntKind.u8 0, Value.int IntKind.u8 0, Value.int IntKind.u8 0, Value.int IntKind.u8 0, Value.int IntKind.u8 0, Value.int IntKind.u8 0, Value.int IntKind.u8 0, Value.int IntKind.u8 0, Value.int IntKind.u8 0, Value.int IntKind.u8 0, Value.int IntKind.u8 0, Value.int IntKind.u8 0, Value.int IntKind.u8 0, Value.int IntKind.u8 0, Value.int IntKind.u8 0, Value.int IntKind.u8 0, Value.int IntKind.u8 0, Value.int IntKind.u8 0, Value.int IntKind.u8 0, Value.int IntKind.u8 0, Value.int IntKind.u8 0, Value.int IntKind.u8 0, Value.int IntKind.u8 0, Value.int IntKind.u8 0, Value.int IntKind.u8 0, Value.int IntKind.u8 0, Value.int IntKind.u8 0, Value.int IntKind.u8 0, Value.int IntKind.u8 0, Value.int IntKind.u8 0, Value.int IntKind.u8 0, Value.int IntKind.u8 0, Value.int IntKind.u8 0, Value.int IntKind.u8 0, Value.int IntKind.u8 0, Value.int IntKind.u8 0, Value.int IntKind.u8 0, Value.int IntKind.u8 0, Value.int IntKind.u8 0, Value.int IntKind.u8 0, Value.int IntKind.u8 0, Value.int IntKind.u8 0, Value.int IntKind.u8 0, Value.int IntKind.u8 0, Value.int IntKind.u8 0, Value.int IntKind.u8 0, Value.int IntKind.u8 0, Value.int IntKind.u8 0, Value.int IntKind.u8 0, Value.int IntKind.u8 0, Value.int IntKind.u8 0, Value.int IntKind.u8 0, Value.int IntKind.u8 0, Value.int IntKind.u8 0, Value.int IntKind.u8 0, Value.int IntKind.u8 0, Value.int IntKind.u8 0, Value.int IntKind.u8 0, Value.int IntKind.u8 0, Value.int IntKind.u8 0, Value.int IntKind.u8 0, Value.int IntKind.u8 0])).toArray)) ⟨by kernel_rfl, by kernel_rfl⟩ rfl (by kernel_rfl) rfl
/-- func() [256]uint8 -/
def ty129 : TyI := { d := TypeDesc.func #[] #[128] false, size := 1, bytes := 8, zv := zAV (Value.nilFunc), eq := [] }
theorem one129 : TyOne Tryz.prog 129 ty129 := .plain (z := Value.nilFunc) ⟨by kernel_rfl, by kernel_rfl⟩ rfl (by kernel_rfl) rfl
/-- func(string, string) string -/
def ty130 : TyI := { d := TypeDesc.func #[9, 9] #[9] false, size := 1, bytes := 8, zv := zAV (Value.nilFunc), eq := [] }
theorem one130 : TyOne Tryz.prog 130 ty130 := .plain (z := Value.nilFunc) ⟨by kernel_rfl, by kernel_rfl⟩ rfl (by kernel_rfl) rfl
/-- (uint64, uint64) -/
def ty131 : TyI := { d := TypeDesc.tuple #[97, 97], size := 1, bytes := 0, zv := zAV ((Value.tuple #[Value.int IntKind.u64 0, Value.int IntKind.u64 0])), eq := [] }
theorem one131 : TyOne Tryz.prog 131 ty131 := .plain (z := (Value.tuple #[Value.int IntKind.u64 0, Value.int IntKind.u64 0])) ⟨by kernel_rfl, by kernel_rfl⟩ rfl (by kernel_rfl) rfl
/-- func(uint64, uint64) (uint64, uint64) -/
def ty132 : TyI := { d := TypeDesc.func #[97, 97] #[97, 97] false, size := 1, bytes := 8, zv := zAV (Value.nilFunc), eq := [] }
theorem one132 : TyOne Tryz.prog 132 ty132 := .plain (z := Value.nilFunc) ⟨by kernel_rfl, by kernel_rfl⟩ rfl (by kernel_rfl) rfl
/-- *record.fields -/
def ty133 : TyI := { d := TypeDesc.pointer 77, size := 1, bytes := 8, zv := zAV ((Value.pointer none)), eq := [] }
theorem one133 : TyOne Tryz.prog 133 ty133 := .plain (z := (Value.pointer none)) ⟨by kernel_rfl, by kernel_rfl⟩ rfl (by kernel_rfl) rfl
/-- []interface {} -/
def ty134 : TyI := { d := TypeDesc.slice 20, size := 1, bytes := 24, zv := zAV ((Value.slice none 0 0)), eq := [] }
theorem one134 : TyOne Tryz.prog 134 ty134 := .plain (z := (Value.slice none 0 0)) ⟨by kernel_rfl, by kernel_rfl⟩ rfl (by kernel_rfl) rfl
/-- map[bool]int -/
def ty135 : TyI := { d := TypeDesc.map 4 3, size := 1, bytes := 8, zv := zAV ((Value.map none)), eq := [] }
theorem one135 : TyOne Tryz.prog 135 ty135 := .plain (z := (Value.map none)) ⟨by kernel_rfl, by kernel_rfl⟩ rfl (by kernel_rfl) rfl
/-- *uint8 -/
def ty136 : TyI := { d := TypeDesc.pointer 5, size := 1, bytes := 8, zv := zAV ((Value.pointer none)), eq := [] }
theorem one136 : TyOne Tryz.prog 136 ty136 := .plain (z := (Value.pointer none)) ⟨by kernel_rfl, by kernel_rfl⟩ rfl (by kernel_rfl) rfl
/-- func(api.Object, api.Object) bool -/
def ty137 : TyI := { d := TypeDesc.func #[63, 63] #[4] false, size := 1, bytes := 8, zv := zAV (Value.nilFunc), eq := [] }
theorem one137 : TyOne Tryz.prog 137 ty137 := .plain (z := Value.nilFunc) ⟨by kernel_rfl, by kernel_rfl⟩ rfl (by kernel_rfl) rfl
/-- struct { Key string; Value string } -/
def ty138 : TyI := { d := TypeDesc.struct #[{ name := "Key", type := 9, offset := 0, embedded := false, tag := "", pkgPath := "", byteOffset := 0 }, { name := "Value", type := 9, offset := 1, embedded := false, tag := "", pkgPath := "", byteOffset := 16 }], size := 2, bytes := 32, zv := zAV ((Value.agg #[Value.string { data := #[] }, Value.string { data := #[] }])), eq := [] }
theorem one138 : TyOne Tryz.prog 138 ty138 := .plain (z := (Value.agg #[Value.string { data := #[] }, Value.string { data := #[] }])) ⟨by kernel_rfl, by kernel_rfl⟩ rfl (by kernel_rfl) rfl
/-- api.Tag -/
def ty139 : TyI := { d := TypeDesc.struct #[{ name := "Key", type := 9, offset := 0, embedded := false, tag := "", pkgPath := "", byteOffset := 0 }, { name := "Value", type := 9, offset := 1, embedded := false, tag := "", pkgPath := "", byteOffset := 16 }], size := 2, bytes := 32, zv := zAV ((Value.agg #[Value.string { data := #[] }, Value.string { data := #[] }])), eq := [2, 2] }
set_option maxRecDepth 100000 in
theorem one139 : TyOne Tryz.prog 139 ty139 := .flat (z := (Value.agg #[Value.string { data := #[] }, Value.string { data := #[] }])) (fs := #[{ name := "Key", type := 9, offset := 0, embedded := false, tag := "", pkgPath := "", byteOffset := 0 }, { name := "Value", type := 9, offset := 1, embedded := false, tag := "", pkgPath := "", byteOffset := 16 }]) ⟨by kernel_rfl, by kernel_rfl⟩ rfl (by kernel_rfl) (by kernel_rfl) (by kernel_rfl) (by kernel_rfl) ⟨rfl, by decide, (show Tryz.prog.underlying 9 = some .string by kernel_rfl), ⟨rfl, by decide, (show Tryz.prog.underlying 9 = some .string by kernel_rfl), trivial⟩⟩
/-- [5]int -/
def ty140 : TyI := { d := TypeDesc.array 5 3, size := 5, bytes := 40, zv := zAV ((Value.agg #[Value.int IntKind.i64 0, Value.int IntKind.i64 0, Value.int IntKind.i64 0, Value.int IntKind.i64 0, Value.int IntKind.i64 0])), eq := [] }
theorem one140 : TyOne Tryz.prog 140 ty140 := .plain (z := (Value.agg #[Value.int IntKind.i64 0, Value.int IntKind.i64 0, Value.int IntKind.i64 0, Value.int IntKind.i64 0, Value.int IntKind.i64 0])) ⟨by kernel_rfl, by kernel_rfl⟩ rfl (by kernel_rfl) rfl
/-- func(uint8) bool -/
def ty141 : TyI := { d := TypeDesc.func #[5] #[4] false, size := 1, bytes := 8, zv := zAV (Value.nilFunc), eq := [] }
theorem one141 : TyOne Tryz.prog 141 ty141 := .plain (z := Value.nilFunc) ⟨by kernel_rfl, by kernel_rfl⟩ rfl (by kernel_rfl) rfl
/-- func(uint64) string -/
def ty142 : TyI := { d := TypeDesc.func #[97] #[9] false, size := 1, bytes := 8, zv := zAV (Value.nilFunc), eq := [] }
theorem one142 : TyOne Tryz.prog 142 ty142 := .plain (z := Value.nilFunc) ⟨by kernel_rfl, by kernel_rfl⟩ rfl (by kernel_rfl) rfl
/-- func([]api.Edit) bool -/
def ty143 : TyI := { d := TypeDesc.func #[33] #[4] false, size := 1, bytes := 8, zv := zAV (Value.nilFunc), eq := [] }
theorem one143 : TyOne Tryz.prog 143 ty143 := .plain (z := Value.nilFunc) ⟨by kernel_rfl, by kernel_rfl⟩ rfl (by kernel_rfl) rfl
/-- func(api.Edit) (string, bool) -/
def ty144 : TyI := { d := TypeDesc.func #[65] #[9, 4] false, size := 1, bytes := 8, zv := zAV (Value.nilFunc), eq := [] }
theorem one144 : TyOne Tryz.prog 144 ty144 := .plain (z := Value.nilFunc) ⟨by kernel_rfl, by kernel_rfl⟩ rfl (by kernel_rfl) rfl
/-- func(string, uint8) int -/
def ty145 : TyI := { d := TypeDesc.func #[9, 5] #[3] false, size := 1, bytes := 8, zv := zAV (Value.nilFunc), eq := [] }
theorem one145 : TyOne Tryz.prog 145 ty145 := .plain (z := Value.nilFunc) ⟨by kernel_rfl, by kernel_rfl⟩ rfl (by kernel_rfl) rfl
/-- func(api.Edit) (string, api.Errno) -/
def ty146 : TyI := { d := TypeDesc.func #[65] #[9, 122] false, size := 1, bytes := 8, zv := zAV (Value.nilFunc), eq := [] }
theorem one146 : TyOne Tryz.prog 146 ty146 := .plain (z := Value.nilFunc) ⟨by kernel_rfl, by kernel_rfl⟩ rfl (by kernel_rfl) rfl
/-- func() int -/
def ty147 : TyI := { d := TypeDesc.func #[] #[3] false, size := 1, bytes := 8, zv := zAV (Value.nilFunc), eq := [] }
theorem one147 : TyOne Tryz.prog 147 ty147 := .plain (z := Value.nilFunc) ⟨by kernel_rfl, by kernel_rfl⟩ rfl (by kernel_rfl) rfl
/-- func(string, uint8) string -/
def ty148 : TyI := { d := TypeDesc.func #[9, 5] #[9] false, size := 1, bytes := 8, zv := zAV (Value.nilFunc), eq := [] }
theorem one148 : TyOne Tryz.prog 148 ty148 := .plain (z := Value.nilFunc) ⟨by kernel_rfl, by kernel_rfl⟩ rfl (by kernel_rfl) rfl
/-- [256]bool -/
def ty149 : TyI := { d := TypeDesc.array 256 4, size := 256, bytes := 256, zv := zAV ((Value.agg (([Value.bool false, Value.bool false, Value.bool false, Value.bool false, Value.bool false, Value.bool false, Value.bool false, Value.bool false, Value.bool false, Value.bool false, Value.bool false, Value.bool false, Value.bool false, Value.bool false, Value.bool false, Value.bool false, Value.bool false, Value.bool false, Value.bool false, Value.bool false, Value.bool false, Value.bool false, Value.bool false, Value.bool false, Value.bool false, Value.bool false, Value.bool false, Value.bool false, Value.bool false, Value.bool false, Value.bool false, Value.bool false, Value.bool false, Value.bool false, Value.bool false, Value.bool false, Value.bool false, Value.bool false, Value.bool false, Value.bool false, Value.bool false, Value.bool false, Value.bool false, Value.bool false, Value.bool false, Value.bool false, Value.bool false, Value.bool false, Value.bool false, Value.bool false, Value.bool false, Value.bool false, Value.bool false, Value.bool false, Value.bool false, Value.bool false, Value.bool false, Value.bool false, Value.bool false, Value.bool false, Value.bool false, Value.bool false, Value.bool false, Value.bool false].append [Value.bool false, Value.bool false, Value.bool false, Value.bool false, Value.bool false, Value.bool false, Value.bool false, Value.bool false, Value.bool false, Value.bool false, Value.bool false, Value.bool false, Value.bool false, Value.bool false, Value.bool false, Value.bool false, Value.bool false, Value.bool false, Value.bool false, Value.bool false, Value.bool false, Value.bool false, Value.bool false, Value.bool false, Value.bool false, Value.bool false, Value.bool false, Value.bool false, Value.bool false, Value.bool false, Value.bool false, Value.bool false, Value.bool false, Value.bool false, Value.bool false, Value.bool false, Value.bool false, Value.bool false, Value.bool false, Value.bool false, Value.bool false, Value.bool false, Value.bool false, Value.bool false, Value.bool false, Value.bool false, Value.bool false, Value.bool false, Value.bool false, Value.bool false, Value.bool false, Value.bool false, Value.bool false, Value.bool false, Value.bool false, Value.bool false, Value.bool false, Value.bool false, Value.bool false, Value.bool false, Value.bool false, Value.bool false, Value.bool false, Value.bool false]).append ([Value.bool false, Value.bool false, Value.bool false, Value.bool false, Value.bool false, Value.bool false, Value.bool false, Value.bool false, Value.bool false, Value.bool false, Value.bool false, Value.bool false, Value.bool false, Value.bool false, Value.bool false, Value.bool false, Value.bool false, Value.bool false, Value.bool false, Value.bool false, Value.bool false, Value.bool false, Value.bool false, Value.bool false, Value.bool false, Value.bool false, Value.bool false, Value.bool false, Value.bool false, Value.bool false, Value.bool false, Value.bool false, Value.bool false, Value.bool false, Value.bool false, Value.bool false, Value.bool false, Value.bool false, Value.bool false, Value.bool false, Value.bool false, Value.bool false, Value.bool false, Value.bool false, Value.bool false, Value.bool false, Value.bool false, Value.bool false, Value.bool false, Value.bool false, Value.bool false, Value.bool false, Value.bool false, Value.bool false, Value.bool false, Value.bool false, Value.bool false, Value.bool false, Value.bool false, Value.bool false, Value.bool false, Value.bool false, Value.bool false, Value.bool false].append [Value.bool false, Value.bool false, Value.bool false, Value.bool false, Value.bool false, Value.bool false, Value.bool false, Value.bool false, Value.bool false, Value.bool false, Value.bool false, Value.bool false, Value.bool false, Value.bool false, Value.bool false, Value.bool false, Value.bool false, Value.bool false, Value.bool false, Value.bool false, Value.bool false, Value.bool false, Value.bool false, Value.bool false, Value.bool false, Value.bool false, Value.bool false, Value.bool false, Value.bool false, Value.bool false, Value.bool false, Value.bool false, Value.bool false, Value.bool false, Value.bool false, Value.bool false, Value.bool false, Value.bool false, Value.bool false, Value.bool false, Value.bool false, Value.bool false, Value.bool false, Value.bool false, Value.bool false, Value.bool false, Value.bool false, Value.bool false, Value.bool false, Value.bool false, Value.bool false, Value.bool false, Value.bool false, Value.bool false, Value.bool false, Value.bool false, Value.bool false, Value.bool false, Value.bool false, Value.bool false, Value.bool false, Value.bool false, Value.bool false, Value.bool false])).toArray)), eq := [] }
theorem one149 : TyOne Tryz.prog 149 ty149 := .plain (z := (Value.agg (([Value.bool false, Value.bool false, Value.bool false, Value.bool false, Value.bool false, Value.bool false, Value.bool false, Value.bool false, Value.bool false, Value.bool false, Value.bool false, Value.bool false, Value.bool false, Value.bool false, Value.bool false, Value.bool false, Value.bool false, Value.bool false, Value.bool false, Value.bool false, Value.bool false, Value.bool false, Value.bool false, Value.bool false, Value.bool false, Value.bool false, Value.bool false, Value.bool false, Value.bool false, Value.bool false, Value.bool false, Value.bool false, Value.bool false, Value.bool false, Value.bool false, Value.bool false, Value.bool false, Value.bool false, Value.bool false, Value.bool false, Value.bool false, Value.bool false, Value.bool false, Value.bool false, Value.bool false, Value.bool false, Value.bool false, Value.bool false, Value.bool false, Value.bool false, Value.bool false, Value.bool false, Value.bool false, Value.bool false, Value.bool false, Value.bool false, Value.bool false, Value.bool false, Value.bool false, Value.bool false, Value.bool false, Value.bool false, Value.bool false, Value.bool false].append [Value.bool false, Value.bool false, Value.bool false, Value.bool false, Value.bool false, Value.bool false, Value.bool false, Value.bool false, Value.bool false, Value.bool false, Value.bool false, Value.bool false, Value.bool false, Value.bool false, Value.bool false, Value.bool false, Value.bool false, Value.bool false, Value.bool false, Value.bool false, Value.bool false, Value.bool false, Value.bool false, Value.bool false, Value.bool false, Value.bool false, Value.bool false, Value.bool false, Value.bool false, Value.bool false, Value.bool false, Value.bool false, Value.bool false, Value.bool false, Value.bool false, Value.bool false, Value.bool false, Value.bool false, Value.bool false, Value.bool false, Value.bool false, Value.bool false, Value.bool false, Value.bool false, Value.bool false, Value.bool false, Value.bool false, Value.bool false, Value.bool false, Value.bool false, Value.bool false, Value.bool false, Value.bool false, Value.bool false, Value.bool false, Value.bool false, Value.bool false, Value.bool false, Value.bool false, Value.bool false, Value.bool false, Value.bool false, Value.bool false, Value.bool false]).append ([Value.bool false, Value.bool false, Value.bool false, Value.bool false, Value.bool false, Value.bool false, Value.bool false, Value.bool false, Value.bool false, Value.bool false, Value.bool false, Value.bool false, Value.bool false, Value.bool false, Value.bool false, Value.bool false, Value.bool false, Value.bool false, Value.bool false, Value.bool false, Value.bool false, Value.bool false, Value.bool false, Value.bool false, Value.bool false, Value.bool false, Value.bool false, Value.bool false, Value.bool false, Value.bool false, Value.bool false, Value.bool false, Value.bool false, Value.bool false, Value.bool false, Value.bool false, Value.bool false, Value.bool false, Value.bool false, Value.bool false, Value.bool false, Value.bool false, Value.bool false, Value.bool false, Value.bool false, Value.bool false, Value.bool false, Value.bool false, Value.bool false, Value.bool false, Value.bool false, Value.bool false, Value.bool false, Value.bool false, Value.bool false, Value.bool false, Value.bool false, Value.bool false, Value.bool false, Value.bool false, Value.bool false, Value.bool false, Value.bool false, Value.bool false].append [Value.bool false, Value.bool false, Value.bool false, Value.bool false, Value.bool false, Value.bool false, Value.bool false, Value.bool false, Value.bool false, Value.bool false, Value.bool false, Value.bool false, Value.bool false, Value.bool false, Value.bool false, Value.bool false, Value.bool false, Value.bool false, Value.bool false, Value.bool false, Value.bool false, Value.bool false, Value.bool false, Value.bool false, Value.bool false, Value.bool false, Value.bool false, Value.bool false, Value.bool false, Value.bool false, Value.bool false, Value.bool false, Value.bool false, Value.bool false, Value.bool false, Value.bool false, Value.bool false, Value.bool false, Value.bool false, Value.bool false, Value.bool false, Value.bool false, Value.bool false, Value.bool false, Value.bool false, Value.bool false, Value.bool false, Value.bool false, Value.bool false, Value.bool false, Value.bool false, Value.bool false, Value.bool false, Value.bool false, Value.bool false, Value.bool false, Value.bool false, Value.bool false, Value.bool false, Value.bool false, Value.bool false, Value.bool false, Value.bool false, Value.bool false])).toArray)) ⟨by kernel_rfl, by kernel_rfl⟩ rfl (by kernel_rfl) rfl
/-- strings.asciiSet -/
def ty150 : TyI := { d := TypeDesc.array 256 4, size := 256, bytes := 256, zv := zAV ((Value.agg (([Value.bool false, Value.bool false, Value.bool false, Value.bool false, Value.bool false, Value.bool false, Value.bool false, Value.bool false, Value.bool false, Value.bool false, Value.bool false, Value.bool false, Value.bool false, Value.bool false, Value.bool false, Value.bool false, Value.bool false, Value.bool false, Value.bool false, Value.bool false, Value.bool false, Value.bool false, Value.bool false, Value.bool false, Value.bool false, Value.bool false, Value.bool false, Value.bool false, Value.bool false, Value.bool false, Value.bool false, Value.bool false, Value.bool false, Value.bool false, Value.bool false, Value.bool false, Value.bool false, Value.bool false, Value.bool false, Value.bool false, Value.bool false, Value.bool false, Value.bool false, Value.bool false, Value.bool false, Value.bool false, Value.bool false, Value.bool false, Value.bool false, Value.bool false, Value.bool false, Value.bool false, Value.bool false, Value.bool false, Value.bool false, Value.bool false, Value.bool false, Value.bool false, Value.bool false, Value.bool false, Value.bool false, Value.bool false, Value.bool false, Value.bool false].append [Value.bool false, Value.bool false, Value.bool false, Value.bool false, Value.bool false, Value.bool false, Value.bool false, Value.bool false, Value.bool false, Value.bool false, Value.bool false, Value.bool false, Value.bool false, Value.bool false, Value.bool false, Value.bool false, Value.bool false, Value.bool false, Value.bool false, Value.bool false, Value.bool false, Value.bool false, Value.bool false, Value.bool false, Value.bool false, Value.bool false, Value.bool false, Value.bool false, Value.bool false, Value.bool false, Value.bool false, Value.bool false, Value.bool false, Value.bool false, Value.bool false, Value.bool false, Value.bool false, Value.bool false, Value.bool false, Value.bool false, Value.bool false, Value.bool false, Value.bool false, Value.bool false, Value.bool false, Value.bool false, Value.bool false, Value.bool false, Value.bool false, Value.bool false, Value.bool false, Value.bool false, Value.bool false, Value.bool false, Value.bool false, Value.bool false, Value.bool false, Value.bool false, Value.bool false, Value.bool false, Value.bool false, Value.bool false, Value.bool false, Value.bool false]).append ([Value.bool false, Value.bool false, Value.bool false, Value.bool false, Value.bool false, Value.bool false, Value.bool false, Value.bool false, Value.bool false, Value.bool false, Value.bool false, Value.bool false, Value.bool false, Value.bool false, Value.bool false, Value.bool false, Value.bool false, Value.bool false, Value.bool false, Value.bool false, Value.bool false, Value.bool false, Value.bool false, Value.bool false, Value.bool false, Value.bool false, Value.bool false, Value.bool false, Value.bool false, Value.bool false, Value.bool false, Value.bool false, Value.bool false, Value.bool false, Value.bool false, Value.bool false, Value.bool false, Value.bool false, Value.bool false, Value.bool false, Value.bool false, Value.bool false, Value.bool false, Value.bool false, Value.bool false, Value.bool false, Value.bool false, Value.bool false, Value.bool false, Value.bool false, Value.bool false, Value.bool false, Value.bool false, Value.bool false, Value.bool false, Value.bool false, Value.bool false, Value.bool false, Value.bool false, Value.bool false, Value.bool false, Value.bool false, Value.bool false, Value.bool false].append [Value.bool false, Value.bool false, Value.bool false, Value.bool false, Value.bool false, Value.bool false, Value.bool false, Value.bool false, Value.bool false, Value.bool false, Value.bool false, Value.bool false, Value.bool false, Value.bool false, Value.bool false, Value.bool false, Value.bool false, Value.bool false, Value.bool false, Value.bool false, Value.bool false, Value.bool false, Value.bool false, Value.bool false, Value.bool false, Value.bool false, Value.bool false, Value.bool false, Value.bool false, Value.bool false, Value.bool false, Value.bool false, Value.bool false, Value.bool false, Value.bool false, Value.bool false, Value.bool false, Value.bool false, Value.bool false, Value.bool false, Value.bool false, Value.bool false, Value.bool false, Value.bool false, Value.bool false, Value.bool false, Value.bool false, Value.bool false, Value.bool false, Value.bool false, Value.bool false, Value.bool false, Value.bool false, Value.bool false, Value.bool false, Value.bool false, Value.bool false, Value.bool false, Value.bool false, Value.bool false, Value.bool false, Value.bool false, Value.bool false, Value.bool false])).toArray)), eq := [] }
theorem one150 : TyOne Tryz.prog 150 ty150 := .plain (z := (Value.agg (([Value.bool false, Value.bool false, Value.bool false, Value.bool false, Value.bool false, Value.bool false, Value.bool false, Value.bool false, Value.bool false, Value.bool false, Value.bool false, Value.bool false, Value.bool false, Value.bool false, Value.bool false, Value.bool false, Value.bool false, Value.bool false, Value.bool false, Value.bool false, Value.bool false, Value.bool false, Value.bool false, Value.bool false, Value.bool false, Value.bool false, Value.bool false, Value.bool false, Value.bool false, Value.bool false, Value.bool false, Value.bool false, Value.bool false, Value.bool false, Value.bool false, Value.bool false, Value.bool false, Value.bool false, Value.bool false, Value.bool false, Value.bool false, Value.bool false, Value.bool false, Value.bool false, Value.bool false, Value.bool false, Value.bool false, Value.bool false, Value.bool false, Value.bool false, Value.bool false, Value.bool false, Value.bool false, Value.bool false, Value.bool false, Value.bool false, Value.bool false, Value.bool false, Value.bool false, Value.bool false, Value.bool false, Value.bool false, Value.bool false, Value.bool false].append [Value.bool false, Value.bool false, Value.bool false, Value.bool false, Value.bool false, Value.bool false, Value.bool false, Value.bool false, Value.bool false, Value.bool false, Value.bool false, Value.bool false, Value.bool false, Value.bool false, Value.bool false, Value.bool false, Value.bool false, Value.bool false, Value.bool false, Value.bool false, Value.bool false, Value.bool false, Value.bool false, Value.bool false, Value.bool false, Value.bool false, Value.bool false, Value.bool false, Value.bool false, Value.bool false, Value.bool false, Value.bool false, Value.bool false, Value.bool false, Value.bool false, Value.bool false, Value.bool false, Value.bool false, Value.bool false, Value.bool false, Value.bool false, Value.bool false, Value.bool false, Value.bool false, Value.bool false, Value.bool false, Value.bool false, Value.bool false, Value.bool false, Value.bool false, Value.bool false, Value.bool false, Value.bool false, Value.bool false, Value.bool false, Value.bool false, Value.bool false, Value.bool false, Value.bool false, Value.bool false, Value.bool false, Value.bool false, Value.bool false, Value.bool false]).append ([Value.bool false, Value.bool false, Value.bool false, Value.bool false, Value.bool false, Value.bool false, Value.bool false, Value.bool false, Value.bool false, Value.bool false, Value.bool false, Value.bool false, Value.bool false, Value.bool false, Value.bool false, Value.bool false, Value.bool false, Value.bool false, Value.bool false, Value.bool false, Value.bool false, Value.bool false, Value.bool false, Value.bool false, Value.bool false, Value.bool false, Value.bool false, Value.bool false, Value.bool false, Value.bool false, Value.bool false, Value.bool false, Value.bool false, Value.bool false, Value.bool false, Value.bool false, Value.bool false, Value.bool false, Value.bool false, Value.bool false, Value.bool false, Value.bool false, Value.bool false, Value.bool false, Value.bool false, Value.bool false, Value.bool false, Value.bool false, Value.bool false, Value.bool false, Value.bool false, Value.bool false, Value.bool false, Value.bool false, Value.bool false, Value.bool false, Value.bool false, Value.bool false, Value.bool false, Value.bool false, Value.bool false, Value.bool false, Value.bool false, Value.bool false].append [Value.bool false, Value.bool false, Value.bool false, Value.bool false, Value.bool false, Value.bool false, Value.bool false, Value.bool false, Value.bool false, Value.bool false, Value.bool false, Value.bool false, Value.bool false, Value.bool false, Value.bool false, Value.bool false, Value.bool false, Value.bool false, Value.bool false, Value.bool false, Value.bool false, Value.bool false, Value.bool false, Value.bool false, Value.bool false, Value.bool false, Value.bool false, Value.bool false, Value.bool false, Value.bool false, Value.bool false, Value.bool false, Value.bool false, Value.bool false, Value.bool false, Value.bool false, Value.bool false, Value.bool false, Value.bool false, Value.bool false, Value.bool false, Value.bool false, Value.bool false, Value.bool false, Value.bool false, Value.bool false, Value.bool false, Value.bool false, Value.bool false, Value.bool false, Value.bool false, Value.bool false, Value.bool false, Value.bool false, Value.bool false, Value.bool false, Value.bool false, Value.bool false, Value.bool false, Value.bool false, Value.bool false, Value.bool false, Value.bool false, Value.bool false])).toArray)) ⟨by kernel_rfl, by kernel_rfl⟩ rfl (by kernel_rfl) rfl
/-- (strings.asciiSet, bool) -/
def ty151 : TyI := { d := TypeDesc.tuple #[150, 4], size := 1, bytes := 0, zv := zAV ((Value.tuple #[Value.agg (([Value.bool false, Value.bool false, Value.bool false, Value.bool false, Value.bool false, Value.bool false, Value.bool false, Value.bool false, Value.bool false, Value.bool false, Value.bool false, Value.bool false, Value.bool false, Value.bool false, Value.bool false, Value.bool false, Value.bool false, Value.bool false, Value.bool false, Value.bool false, Value.bool false, Value.bool false, Value.bool false, Value.bool false, Value.bool false, Value.bool false, Value.bool false, Value.bool false, Value.bool false, Value.bool false, Value.bool false, Value.bool false, Value.bool false, Value.bool false, Value.bool false, Value.bool false, Value.bool false, Value.bool false, Value.bool false, Value.bool false, Value.bool false, Value.bool false, Value.bool false, Value.bool false, Value.bool false, Value.bool false, Value.bool false, Value.bool false, Value.bool false, Value.bool false, Value.bool false, Value.bool false, Value.bool false, Value.bool false, Value.bool false, Value.bool false, Value.bool false, Value.bool false, Value.bool false, Value.bool false, Value.bool false, Value.bool false, Value.bool false, Value.bool false].append [Value.bool false, Value.bool false, Value.bool false, Value.bool false, Value.bool false, Value.bool false, Value.bool false, Value.bool false, Value.bool false, Value.bool false, Value.bool false, Value.bool false, Value.bool false, Value.bool false, Value.bool false, Value.bool false, Value.bool false, Value.bool false, Value.bool false, Value.bool false, Value.bool false, Value.bool false, Value.bool false, Value.bool false, Value.bool false, Value.bool false, Value.bool false, Value.bool false, Value.bool false, Value.bool false, Value.bool false, Value.bool false, Value.bool false, Value.bool false, Value.bool false, Value.bool false, Value.bool false, Value.bool false, Value.bool false, Value.bool false, Value.bool false, Value.bool false, Value.bool false, Value.bool false, Value.bool false, Value.bool false, Value.bool false, Value.bool false, Value.bool false, Value.bool false, Value.bool false, Value.bool false, Value.bool false, Value.bool false, Value.bool false, Value.bool false, Value.bool false, Value.bool false, Value.bool false, Value.bool false, Value.bool false, Value.bool false, Value.bool false, Value.bool false]).append ([Value.bool false, Value.bool false, Value.bool false, Value.bool false, Value.bool false, Value.bool false, Value.bool false, Value.bool false, Value.bool false, Value.bool false, Value.bool false, Value.bool false, Value.bool false, Value.bool false, Value.bool false, Value.bool false, Value.bool false, Value.bool false, Value.bool false, Value.bool false, Value.bool false, Value.bool false, Value.bool false, Value.bool false, Value.bool false, Value.bool false, Value.bool false, Value.bool false, Value.bool false, Value.bool false, Value.bool false, Value.bool false, Value.bool false, Value.bool false, Value.bool false, Value.bool false, Value.bool false, Value.bool false, Value.bool false, Value.bool false, Value.bool false, Value.bool false, Value.bool false, Value.bool false, Value.bool false, Value.bool false, Value.bool false, Value.bool false, Value.bool false, Value.bool false, Value.bool false, Value.bool false, Value.bool false, Value.bool false, Value.bool false, Value.bool false, Value.bool false, Value.bool false, Value.bool false, Value.bool false, Value.bool false, Value.bool false, Value.bool false, Value.bool false].append [Value.bool false, Value.bool false, Value.bool false, Value.bool false, Value.bool false, Value.bool false, Value.bool false, Value.bool false, Value.bool false, Value.bool false, Value.bool false, Value.bool false, Value.bool false, Value.bool false, Value.bool false, Value.bool false, Value.bool false, Value.bool false, Value.bool false, Value.bool false, Value.bool false, Value.bool false, Value.bool false, Value.bool false, Value.bool false, Value.bool false, Value.bool false, Value.bool false, Value.bool false, Value.bool false, Value.bool false, Value.bool false, Value.bool false, Value.bool false, Value.bool false, Value.bool false, Value.bool false, Value.bool false, Value.bool false, Value.bool false, Value.bool false, Value.bool false, Value.bool false, Value.bool false, Value.bool false, Value.bool false, Value.bool false, Value.bool false, Value.bool false, Value.bool false, Value.bool false, Value.bool false, Value.bool false, Value.bool false, Value.bool false, Value.bool false, Value.bool false, Value.bool false, Value.bool false, Value.bool false, Value.bool false, Value.bool false, Value.bool false, Value.bool false])).toArray, Value.bool false])), eq := [] }
theorem one151 : TyOne Tryz.prog 151 ty151 := .plain (z := (Value.tuple #[Value.agg (([Value.bool false, Value.bool false, Value.bool false, Value.bool false, Value.bool false, Value.bool false, Value.bool false, Value.bool false, Value.bool false, Value.bool false, Value.bool false, Value.bool false, Value.bool false, Value.bool false, Value.bool false, Value.bool false, Value.bool false, Value.bool false, Value.bool false, Value.bool false, Value.bool false, Value.bool false, Value.bool false, Value.bool false, Value.bool false, Value.bool false, Value.bool false, Value.bool false, Value.bool false, Value.bool false, Value.bool false, Value.bool false, Value.bool false, Value.bool false, Value.bool false, Value.bool false, Value.bool false, Value.bool false, Value.bool false, Value.bool false, Value.bool false, Value.bool false, Value.bool false, Value.bool false, Value.bool false, Value.bool false, Value.bool false, Value.bool false, Value.bool false, Value.bool false, Value.bool false, Value.bool false, Value.bool false, Value.bool false, Value.bool false, Value.bool false, Value.bool false, Value.bool false, Value.bool false, Value.bool false, Value.bool false, Value.bool false, Value.bool false, Value.bool false].append [Value.bool false, Value.bool false, Value.bool false, Value.bool false, Value.bool false, Value.bool false, Value.bool false, Value.bool false, Value.bool false, Value.bool false, Value.bool false, Value.bool false, Value.bool false, Value.bool false, Value.bool false, Value.bool false, Value.bool false, Value.bool false, Value.bool false, Value.bool false, Value.bool false, Value.bool false, Value.bool false, Value.bool false, Value.bool false, Value.bool false, Value.bool false, Value.bool false, Value.bool false, Value.bool false, Value.bool false, Value.bool false, Value.bool false, Value.bool false, Value.bool false, Value.bool false, Value.bool false, Value.bool false, Value.bool false, Value.bool false, Value.bool false, Value.bool false, Value.bool false, Value.bool false, Value.bool false, Value.bool false, Value.bool false, Value.bool false, Value.bool false, Value.bool false, Value.bool false, Value.bool false, Value.bool false, Value.bool false, Value.bool false, Value.bool false, Value.bool false, Value.bool false, Value.bool false, Value.bool false, Value.bool false, Value.bool false, Value.bool false, Value.bool false]).append ([Value.bool false, Value.bool false, Value.bool false, Value.bool false, Value.bool false, Value.bool false, Value.bool false, Value.bool false, Value.bool false, Value.bool false, Value.bool false, Value.bool false, Value.bool false, Value.bool false, Value.bool false, Value.bool false, Value.bool false, Value.bool false, Value.bool false, Value.bool false, Value.bool false, Value.bool false, Value.bool false, Value.bool false, Value.bool false, Value.bool false, Value.bool false, Value.bool false, Value.bool false, Value.bool false, Value.bool false, Value.bool false, Value.bool false, Value.bool false, Value.bool false, Value.bool false, Value.bool false, Value.bool false, Value.bool false, Value.bool false, Value.bool false, Value.bool false, Value.bool false, Value.bool false, Value.bool false, Value.bool false, Value.bool false, Value.bool false, Value.bool false, Value.bool false, Value.bool false, Value.bool false, Value.bool false, Value.bool false, Value.bool false, Value.bool false, Value.bool false, Value.bool false, Value.bool false, Value.bool false, Value.bool false, Value.bool false, Value.bool false, Value.bool false].append [Value.bool false, Value.bool false, Value.bool false, Value.bool false, Value.bool false, Value.bool false, Value.bool false, Value.bool false, Value.bool false, Value.bool false, Value.bool false, Value.bool false, Value.bool false, Value.bool false, Value.bool false, Value.bool false, Value.bool false, Value.bool false, Value.bool false, Value.bool false, Value.bool false, Value.bool false, Value.bool false, Value.bool false, Value.bool false, Value.bool false, Value.bool false, Value.bool false, Value.bool false, Value.bool false, Value.bool false, Value.bool false, Value.bool false, Value.bool false, Value.bool false, Value.bool false, Value.bool false, Value.bool false, Value.bool false, Value.bool false, Value.bool false, Value.bool false, Value.bool false, Value.bool false, Value.bool false, Value.bool false, Value.bool false, Value.bool false, Value.bool false, Value.bool false, Value.bool false, Value.bool false, Value.bool false, Value.bool false, Value.bool false, Value.bool false, Value.bool false, Value.bool false, Value.bool false, Value.bool false, Value.bool false, Value.bool false, Value.bool false, Value.bool false])).toArray, Value.bool false])) ⟨by kernel_rfl, by kernel_rfl⟩ rfl (by kernel_rfl) rfl
/-- func(string) (strings.asciiSet, bool) -/
def ty152 : TyI := { d := TypeDesc.func #[9] #[150, 4] false, size := 1, bytes := 8, zv := zAV (Value.nilFunc), eq := [] }
theorem one152 : TyOne Tryz.prog 152 ty152 := .plain (z := Value.nilFunc) ⟨by kernel_rfl, by kernel_rfl⟩ rfl (by kernel_rfl) rfl
/-- func(string, *strings.asciiSet) string -/
def ty153 : TyI := { d := TypeDesc.func #[9, 154] #[9] false, size := 1, bytes := 8, zv := zAV (Value.nilFunc), eq := [] }
theorem one153 : TyOne Tryz.prog 153 ty153 := .plain (z := Value.nilFunc) ⟨by kernel_rfl, by kernel_rfl⟩ rfl (by kernel_rfl) rfl
/-- *strings.asciiSet -/
def ty154 : TyI := { d := TypeDesc.pointer 150, size := 1, bytes := 8, zv := zAV ((Value.pointer none)), eq := [] }
theorem one154 : TyOne Tryz.prog 154 ty154 := .plain (z := (Value.pointer none)) ⟨by kernel_rfl, by kernel_rfl⟩ rfl (by kernel_rfl) rfl
/-- unsafe.Pointer -/
def ty155 : TyI := { d := TypeDesc.unsafePointer, size := 1, bytes := 8, zv := zAV ((Value.pointer none)), eq := [] }
theorem one155 : TyOne Tryz.prog 155 ty155 := .plain (z := (Value.pointer none)) ⟨by kernel_rfl, by kernel_rfl⟩ rfl (by kernel_rfl) rfl
/-- func(unsafe.Pointer) unsafe.Pointer -/
def ty156 : TyI := { d := TypeDesc.func #[155] #[155] false, size := 1, bytes := 8, zv := zAV (Value.nilFunc), eq := [] }
theorem one156 : TyOne Tryz.prog 156 ty156 := .plain (z := Value.nilFunc) ⟨by kernel_rfl, by kernel_rfl⟩ rfl (by kernel_rfl) rfl
/-- func(int64, int) string -/
def ty157 : TyI := { d := TypeDesc.func #[2, 3] #[9] false, size := 1, bytes := 8, zv := zAV (Value.nilFunc), eq := [] }
theorem one157 : TyOne Tryz.prog 157 ty157 := .plain (z := Value.nilFunc) ⟨by kernel_rfl, by kernel_rfl⟩ rfl (by kernel_rfl) rfl
/-- func(uint8) int -/
def ty158 : TyI := { d := TypeDesc.func #[5] #[3] false, size := 1, bytes := 8, zv := zAV (Value.nilFunc), eq := [] }
theorem one158 : TyOne Tryz.prog 158 ty158 := .plain (z := Value.nilFunc) ⟨by kernel_rfl, by kernel_rfl⟩ rfl (by kernel_rfl) rfl
/-- func(api.Edit) bool -/
def ty159 : TyI := { d := TypeDesc.func #[65] #[4] false, size := 1, bytes := 8, zv := zAV (Value.nilFunc), eq := [] }
theorem one159 : TyOne Tryz.prog 159 ty159 := .plain (z := Value.nilFunc) ⟨by kernel_rfl, by kernel_rfl⟩ rfl (by kernel_rfl) rfl
/-- func(api.Object) (string, api.Errno) -/
def ty160 : TyI := { d := TypeDesc.func #[63] #[9, 122] false, size := 1, bytes := 8, zv := zAV (Value.nilFunc), eq := [] }
theorem one160 : TyOne Tryz.prog 160 ty160 := .plain (z := Value.nilFunc) ⟨by kernel_rfl, by kernel_rfl⟩ rfl (by kernel_rfl) rfl
/-- func(...string) string -/
def ty161 : TyI := { d := TypeDesc.func #[26] #[9] true, size := 1, bytes := 8, zv := zAV (Value.nilFunc), eq := [] }
theorem one161 : TyOne Tryz.prog 161 ty161 := .plain (z := Value.nilFunc) ⟨by kernel_rfl, by kernel_rfl⟩ rfl (by kernel_rfl) rfl
/-- func([]api.Edit, func(api.Edit) bool) bool -/
def ty162 : TyI := { d := TypeDesc.func #[33, 159] #[4] false, size := 1, bytes := 8, zv := zAV (Value.nilFunc), eq := [] }
theorem one162 : TyOne Tryz.prog 162 ty162 := .plain (z := Value.nilFunc) ⟨by kernel_rfl, by kernel_rfl⟩ rfl (by kernel_rfl) rfl
/-- func(...[]string) []string -/
def ty163 : TyI := { d := TypeDesc.func #[116] #[26] true, size := 1, bytes := 8, zv := zAV (Value.nilFunc), eq := [] }
theorem one163 : TyOne Tryz.prog 163 ty163 := .plain (z := Value.nilFunc) ⟨by kernel_rfl, by kernel_rfl⟩ rfl (by kernel_rfl) rfl
/-- func([]string, string) string -/
def ty164 : TyI := { d := TypeDesc.func #[26, 9] #[9] false, size := 1, bytes := 8, zv := zAV (Value.nilFunc), eq := [] }
theorem one164 : TyOne Tryz.prog 164 ty164 := .plain (z := Value.nilFunc) ⟨by kernel_rfl, by kernel_rfl⟩ rfl (by kernel_rfl) rfl
/-- (int32, int) -/
def ty165 : TyI := { d := TypeDesc.tuple #[21, 3], size := 1, bytes := 0, zv := zAV ((Value.tuple #[Value.int IntKind.i32 0, Value.int IntKind.i64 0])), eq := [] }
theorem one165 : TyOne Tryz.prog 165 ty165 := .plain (z := (Value.tuple #[Value.int IntKind.i32 0, Value.int IntKind.i64 0])) ⟨by kernel_rfl, by kernel_rfl⟩ rfl (by kernel_rfl) rfl
/-- func(string) (int32, int) -/
def ty166 : TyI := { d := TypeDesc.func #[9] #[21, 3] false, size := 1, bytes := 8, zv := zAV (Value.nilFunc), eq := [] }
theorem one166 : TyOne Tryz.prog 166 ty166 := .plain (z := Value.nilFunc) ⟨by kernel_rfl, by kernel_rfl⟩ rfl (by kernel_rfl) rfl
/-- func(string, int32) bool -/
def ty167 : TyI := { d := TypeDesc.func #[9, 21] #[4] false, size := 1, bytes := 8, zv := zAV (Value.nilFunc), eq := [] }
theorem one167 : TyOne Tryz.prog 167 ty167 := .plain (z := Value.nilFunc) ⟨by kernel_rfl, by kernel_rfl⟩ rfl (by kernel_rfl) rfl
/-- [24]uint8 -/
def ty168 : TyI := { d := TypeDesc.array 24 5, size := 24, bytes := 24, zv := zAV ((Value.agg #[Value.int IntKind.u8 0, Value.int IntKind.u8 0, Value.int IntKind.u8 0, Value.int IntKind.u8 0, Value.int IntKind.u8 0, Value.int IntKind.u8 0, Value.int IntKind.u8 0, Value.int IntKind.u8 0, Value.int IntKind.u8 0, Value.int IntKind.u8 0, Value.int IntKind.u8 0, Value.int IntKind.u8 0, Value.int IntKind.u8 0, Value.int IntKind.u8 0, Value.int IntKind.u8 0, Value.int IntKind.u8 0, Value.int IntKind.u8 0, Value.int IntKind.u8 0, Value.int IntKind.u8 0, Value.int IntKind.u8 0, Value.int IntKind.u8 0, Value.int IntKind.u8 0, Value.int IntKind.u8 0, Value.int IntKind.u8 0])), eq := [] }
theorem one168 : TyOne Tryz.prog 168 ty168 := .plain (z := (Value.agg #[Value.int IntKind.u8 0, Value.int IntKind.u8 0, Value.int IntKind.u8 0, Value.int IntKind.u8 0, Value.int IntKind.u8 0, Value.int IntKind.u8 0, Value.int IntKind.u8 0, Value.int IntKind.u8 0, Value.int IntKind.u8 0, Value.int IntKind.u8 0, Value.int IntKind.u8 0, Value.int IntKind.u8 0, Value.int IntKind.u8 0, Value.int IntKind.u8 0, Value.int IntKind.u8 0, Value.int IntKind.u8 0, Value.int IntKind.u8 0, Value.int IntKind.u8 0, Value.int IntKind.u8 0, Value.int IntKind.u8 0, Value.int IntKind.u8 0, Value.int IntKind.u8 0, Value.int IntKind.u8 0, Value.int IntKind.u8 0])) ⟨by kernel_rfl, by kernel_rfl⟩ rfl (by kernel_rfl) rfl
/-- func(uint64) int -/
def ty169 : TyI := { d := TypeDesc.func #[97] #[3] false, size := 1, bytes := 8, zv := zAV (Value.nilFunc), eq := [] }
theorem one169 : TyOne Tryz.prog 169 ty169 := .plain (z := Value.nilFunc) ⟨by kernel_rfl, by kernel_rfl⟩ rfl (by kernel_rfl) rfl
/-- func([]uint8, uint64) -/
def ty170 : TyI := { d := TypeDesc.func #[99, 97] #[] false, size := 1, bytes := 8, zv := zAV (Value.nilFunc), eq := [] }
theorem one170 : TyOne Tryz.prog 170 ty170 := .plain (z := Value.nilFunc) ⟨by kernel_rfl, by kernel_rfl⟩ rfl (by kernel_rfl) rfl
/-- ([]uint8, string) -/
def ty171 : TyI := { d := TypeDesc.tuple #[99, 9], size := 1, bytes := 0, zv := zAV ((Value.tuple #[Value.slice none 0 0, Value.string { data := #[] }])), eq := [] }
theorem one171 : TyOne Tryz.prog 171 ty171 := .plain (z := (Value.tuple #[Value.slice none 0 0, Value.string { data := #[] }])) ⟨by kernel_rfl, by kernel_rfl⟩ rfl (by kernel_rfl) rfl
/-- func([]uint8, uint64, int, bool, bool) ([]uint8, string) -/
def ty172 : TyI := { d := TypeDesc.func #[99, 97, 3, 4, 4] #[99, 9] false, size := 1, bytes := 8, zv := zAV (Value.nilFunc), eq := [] }
theorem one172 : TyOne Tryz.prog 172 ty172 := .plain (z := Value.nilFunc) ⟨by kernel_rfl, by kernel_rfl⟩ rfl (by kernel_rfl) rfl
/-- func(api.Edit) api.Edit -/
def ty173 : TyI := { d := TypeDesc.func #[65] #[65] false, size := 1, bytes := 8, zv := zAV (Value.nilFunc), eq := [] }
theorem one173 : TyOne Tryz.prog 173 ty173 := .plain (z := Value.nilFunc) ⟨by kernel_rfl, by kernel_rfl⟩ rfl (by kernel_rfl) rfl
/-- func(api.Object) bool -/
def ty174 : TyI := { d := TypeDesc.func #[63] #[4] false, size := 1, bytes := 8, zv := zAV (Value.nilFunc), eq := [] }
theorem one174 : TyOne Tryz.prog 174 ty174 := .plain (z := Value.nilFunc) ⟨by kernel_rfl, by kernel_rfl⟩ rfl (by kernel_rfl) rfl
/-- func([]api.Edit, func(api.Edit) bool) int -/
def ty175 : TyI := { d := TypeDesc.func #[33, 159] #[3] false, size := 1, bytes := 8, zv := zAV (Value.nilFunc), eq := [] }
theorem one175 : TyOne Tryz.prog 175 ty175 := .plain (z := Value.nilFunc) ⟨by kernel_rfl, by kernel_rfl⟩ rfl (by kernel_rfl) rfl
/-- struct { strings.Builder } -/
def ty176 : TyI := { d := TypeDesc.struct #[{ name := "Builder", type := 108, offset := 0, embedded := true, tag := "", pkgPath := "", byteOffset := 0 }], size := 2, bytes := 32, zv := zAV ((Value.agg #[Value.pointer none, Value.slice none 0 0])), eq := [] }
theorem one176 : TyOne Tryz.prog 176 ty176 := .plain (z := (Value.agg #[Value.pointer none, Value.slice none 0 0])) ⟨by kernel_rfl, by kernel_rfl⟩ rfl (by kernel_rfl) rfl
/-- object.writer -/
def ty177 : TyI := { d := TypeDesc.struct #[{ name := "Builder", type := 108, offset := 0, embedded := true, tag := "", pkgPath := "", byteOffset := 0 }], size := 2, bytes := 32, zv := zAV ((Value.agg #[Value.pointer none, Value.slice none 0 0])), eq := [] }
theorem one177 : TyOne Tryz.prog 177 ty177 := .plain (z := (Value.agg #[Value.pointer none, Value.slice none 0 0])) ⟨by kernel_rfl, by kernel_rfl⟩ rfl (by kernel_rfl) rfl
/-- func([]api.Tag) (string, api.Errno) -/
def ty178 : TyI := { d := TypeDesc.func #[61] #[9, 122] false, size := 1, bytes := 8, zv := zAV (Value.nilFunc), eq := [] }
theorem one178 : TyOne Tryz.prog 178 ty178 := .plain (z := Value.nilFunc) ⟨by kernel_rfl, by kernel_rfl⟩ rfl (by kernel_rfl) rfl
/-- func([]string, int) []string -/
def ty179 : TyI := { d := TypeDesc.func #[26, 3] #[26] false, size := 1, bytes := 8, zv := zAV (Value.nilFunc), eq := [] }
theorem one179 : TyOne Tryz.prog 179 ty179 := .plain (z := Value.nilFunc) ⟨by kernel_rfl, by kernel_rfl⟩ rfl (by kernel_rfl) rfl
/-- func(int) -/
def ty180 : TyI := { d := TypeDesc.func #[3] #[] false, size := 1, bytes := 8, zv := zAV (Value.nilFunc), eq := [] }
theorem one180 : TyOne Tryz.prog 180 ty180 := .plain (z := Value.nilFunc) ⟨by kernel_rfl, by kernel_rfl⟩ rfl (by kernel_rfl) rfl
/-- func(string, int32) int -/
def ty181 : TyI := { d := TypeDesc.func #[9, 21] #[3] false, size := 1, bytes := 8, zv := zAV (Value.nilFunc), eq := [] }
theorem one181 : TyOne Tryz.prog 181 ty181 := .plain (z := Value.nilFunc) ⟨by kernel_rfl, by kernel_rfl⟩ rfl (by kernel_rfl) rfl
/-- func(int) int -/
def ty182 : TyI := { d := TypeDesc.func #[3] #[3] false, size := 1, bytes := 8, zv := zAV (Value.nilFunc), eq := [] }
theorem one182 : TyOne Tryz.prog 182 ty182 := .plain (z := Value.nilFunc) ⟨by kernel_rfl, by kernel_rfl⟩ rfl (by kernel_rfl) rfl
/-- func(bool) int -/
def ty183 : TyI := { d := TypeDesc.func #[4] #[3] false, size := 1, bytes := 8, zv := zAV (Value.nilFunc), eq := [] }
theorem one183 : TyOne Tryz.prog 183 ty183 := .plain (z := Value.nilFunc) ⟨by kernel_rfl, by kernel_rfl⟩ rfl (by kernel_rfl) rfl
/-- [20]uint64 -/
def ty184 : TyI := { d := TypeDesc.array 20 97, size := 20, bytes := 160, zv := zAV ((Value.agg #[Value.int IntKind.u64 0, Value.int IntKind.u64 0, Value.int IntKind.u64 0, Value.int IntKind.u64 0, Value.int IntKind.u64 0, Value.int IntKind.u64 0, Value.int IntKind.u64 0, Value.int IntKind.u64 0, Value.int IntKind.u64 0, Value.int IntKind.u64 0, Value.int IntKind.u64 0, Value.int IntKind.u64 0, Value.int IntKind.u64 0, Value.int IntKind.u64 0, Value.int IntKind.u64 0, Value.int IntKind.u64 0, Value.int IntKind.u64 0, Value.int IntKind.u64 0, Value.int IntKind.u64 0, Value.int IntKind.u64 0])), eq := [] }
theorem one184 : TyOne Tryz.prog 184 ty184 := .plain (z := (Value.agg #[Value.int IntKind.u64 0, Value.int IntKind.u64 0, Value.int IntKind.u64 0, Value.int IntKind.u64 0, Value.int IntKind.u64 0, Value.int IntKind.u64 0, Value.int IntKind.u64 0, Value.int IntKind.u64 0, Value.int IntKind.u64 0, Value.int IntKind.u64 0, Value.int IntKind.u64 0, Value.int IntKind.u64 0, Value.int IntKind.u64 0, Value.int IntKind.u64 0, Value.int IntKind.u64 0, Value.int IntKind.u64 0, Value.int IntKind.u64 0, Value.int IntKind.u64 0, Value.int IntKind.u64 0, Value.int IntKind.u64 0])) ⟨by kernel_rfl, by kernel_rfl⟩ rfl (by kernel_rfl) rfl
/-- uint32 -/
def ty185 : TyI := { d := TypeDesc.int IntKind.u32, size := 1, bytes := 4, zv := zAV ((Value.int IntKind.u32 0)), eq := [] }
theorem one185 : TyOne Tryz.prog 185 ty185 := .plain (z := (Value.int IntKind.u32 0)) ⟨by kernel_rfl, by kernel_rfl⟩ rfl (by kernel_rfl) rfl
/-- [65]uint8 -/
def ty186 : TyI := { d := TypeDesc.array 65 5, size := 65, bytes := 65, zv := zAV ((Value.agg ([Value.int IntKind.u8 0, Value.int IntKind.u8 0, Value.int IntKind.u8 0, Value.int IntKind.u8 0, Value.int IntKind.u8 0, Value.int IntKind.u8 0, Value.int IntKind.u8 0, Value.int IntKind.u8 0, Value.int IntKind.u8 0, Value.int IntKind.u8 0, Value.int IntKind.u8 0, Value.int IntKind.u8 0, Value.int IntKind.u8 0, Value.int IntKind.u8 0, Value.int IntKind.u8 0, Value.int IntKind.u8 0, Value.int IntKind.u8 0, Value.int IntKind.u8 0, Value.int IntKind.u8 0, Value.int IntKind.u8 0, Value.int IntKind.u8 0, Value.int IntKind.u8 0, Value.int IntKind.u8 0, Value.int IntKind.u8 0, Value.int IntKind.u8 0, Value.int IntKind.u8 0, Value.int IntKind.u8 0, Value.int IntKind.u8 0, Value.int IntKind.u8 0, Value.int IntKind.u8 0, Value.int IntKind.u8 0, Value.int IntKind.u8 0].append [Value.int IntKind.u8 0, Value.int IntKind.u8 0, Value.int IntKind.u8 0, Value.int IntKind.u8 0, Value.int IntKind.u8 0, Value.int IntKind.u8 0, Value.int IntKind.u8 0, Value.int IntKind.u8 0, Value.int IntKind.u8 0, Value.int IntKind.u8 0, Value.int IntKind.u8 0, Value.int IntKind.u8 0, Value.int IntKind.u8 0, Value.int IntKind.u8 0, Value.int IntKind.u8 0, Value.int IntKind.u8 0, Value.int IntKind.u8 0, Value.int IntKind.u8 0, Value.int IntKind.u8 0, Value.int IntKind.u8 0, Value.int IntKind.u8 0, Value.int IntKind.u8 0, Value.int IntKind.u8 0, Value.int IntKind.u8 0, Value.int IntKind.u8 0, Value.int IntKind.u8 0, Value.int IntKind.u8 0, Value.int IntKind.u8 0, Value.int IntKind.u8 0, Value.int IntKind.u8 0, Value.int IntKind.u8 0, Value.int IntKind.u8 0, Value.int IntKind.u8 0]).toArray)), eq := [] }
theorem one186 : TyOne Tryz.prog 186 ty186 := .plain (z := (Value.agg ([Value.int IntKind.u8 0, Value.int IntKind.u8 0, Value.int IntKind.u8 0, Value.int IntKind.u8 0, Value.int IntKind.u8 0, Value.int IntKind.u8 0, Value.int IntKind.u8 0, Value.int IntKind.u8 0, Value.int IntKind.u8 0, Value.int IntKind.u8 0, Value.int IntKind.u8 0, Value.int IntKind.u8 0, Value.int IntKind.u8 0, Value.int IntKind.u8 0, Value.int IntKind.u8 0, Value.int IntKind.u8 0, Value.int IntKind.u8 0, Value.int IntKind.u8 0, Value.int IntKind.u8 0, Value.int IntKind.u8 0, Value.int IntKind.u8 0, Value.int IntKind.u8 0, Value.int IntKind.u8 0, Value.int IntKind.u8 0, Value.int IntKind.u8 0, Value.int IntKind.u8 0, Value.int IntKind.u8 0, Value.int IntKind.u8 0, Value.int IntKind.u8 0, Value.int IntKind.u8 0, Value.int IntKind.u8 0, Value.int IntKind.u8 0].append [Value.int IntKind.u8 0, Value.int IntKind.u8 0, Value.int IntKind.u8 0, Value.int IntKind.u8 0, Value.int IntKind.u8 0, Value.int IntKind.u8 0, Value.int IntKind.u8 0, Value.int IntKind.u8 0, Value.int IntKind.u8 0, Value.int IntKind.u8 0, Value.int IntKind.u8 0, Value.int IntKind.u8 0, Value.int IntKind.u8 0, Value.int IntKind.u8 0, Value.int IntKind.u8 0, Value.int IntKind.u8 0, Value.int IntKind.u8 0, Value.int IntKind.u8 0, Value.int IntKind.u8 0, Value.int IntKind.u8 0, Value.int IntKind.u8 0, Value.int IntKind.u8 0, Value.int IntKind.u8 0, Value.int IntKind.u8 0, Value.int IntKind.u8 0, Value.int IntKind.u8 0, Value.int IntKind.u8 0, Value.int IntKind.u8 0, Value.int IntKind.u8 0, Value.int IntKind.u8 0, Value.int IntKind.u8 0, Value.int IntKind.u8 0, Value.int IntKind.u8 0]).toArray)) ⟨by kernel_rfl, by kernel_rfl⟩ rfl (by kernel_rfl) rfl
/-- func(int) bool -/
def ty187 : TyI := { d := TypeDesc.func #[3] #[4] false, size := 1, bytes := 8, zv := zAV (Value.nilFunc), eq := [] }
theorem one187 : TyOne Tryz.prog 187 ty187 := .plain (z := Value.nilFunc) ⟨by kernel_rfl, by kernel_rfl⟩ rfl (by kernel_rfl) rfl
/-- func(uint) int -/
def ty188 : TyI := { d := TypeDesc.func #[100] #[3] false, size := 1, bytes := 8, zv := zAV (Value.nilFunc), eq := [] }
theorem one188 : TyOne Tryz.prog 188 ty188 := .plain (z := Value.nilFunc) ⟨by kernel_rfl, by kernel_rfl⟩ rfl (by kernel_rfl) rfl
/-- func([]api.Tag) bool -/
def ty189 : TyI := { d := TypeDesc.func #[61] #[4] false, size := 1, bytes := 8, zv := zAV (Value.nilFunc), eq := [] }
theorem one189 : TyOne Tryz.prog 189 ty189 := .plain (z := Value.nilFunc) ⟨by kernel_rfl, by kernel_rfl⟩ rfl (by kernel_rfl) rfl
/-- func([]string, []string) bool -/
def ty190 : TyI := { d := TypeDesc.func #[26, 26] #[4] false, size := 1, bytes := 8, zv := zAV (Value.nilFunc), eq := [] }
theorem one190 : TyOne Tryz.prog 190 ty190 := .plain (z := Value.nilFunc) ⟨by kernel_rfl, by kernel_rfl⟩ rfl (by kernel_rfl) rfl
/-- [4]string -/
def ty191 : TyI := { d := TypeDesc.array 4 9, size := 4, bytes := 64, zv := zAV ((Value.agg #[Value.string { data := #[] }, Value.string { data := #[] }, Value.string { data := #[] }, Value.string { data := #[] }])), eq := List.replicate 4 2 }
set_option maxRecDepth 100000 in
theorem one191 : TyOne Tryz.prog 191 ty191 := .arr (z := (Value.agg #[Value.string { data := #[] }, Value.string { data := #[] }, Value.string { data := #[] }, Value.string { data := #[] }])) (n := 4) (e := 9) (k := 2) ⟨by kernel_rfl, by kernel_rfl⟩ rfl (by kernel_rfl) (by kernel_rfl) (show Tryz.prog.info? 9 = some _ from rfl) (by kernel_rfl) (by kernel_rfl) (show Tryz.prog.underlying 9 = some .string by kernel_rfl) rfl
/-- *object.writer -/
def ty192 : TyI := { d := TypeDesc.pointer 177, size := 1, bytes := 8, zv := zAV ((Value.pointer none)), eq := [] }
theorem one192 : TyOne Tryz.prog 192 ty192 := .plain (z := (Value.pointer none)) ⟨by kernel_rfl, by kernel_rfl⟩ rfl (by kernel_rfl) rfl
/-- [6]string -/
def ty193 : TyI := { d := TypeDesc.array 6 9, size := 6, bytes := 96, zv := zAV ((Value.agg #[Value.string { data := #[] }, Value.string { data := #[] }, Value.string { data := #[] }, Value.string { data := #[] }, Value.string { data := #[] }, Value.string { data := #[] }])), eq := [] }
theorem one193 : TyOne Tryz.prog 193 ty193 := .plain (z := (Value.agg #[Value.string { data := #[] }, Value.string { data := #[] }, Value.string { data := #[] }, Value.string { data := #[] }, Value.string { data := #[] }, Value.string { data := #[] }])) ⟨by kernel_rfl, by kernel_rfl⟩ rfl (by kernel_rfl) rfl
/-- func(api.Tag) -/
def ty194 : TyI := { d := TypeDesc.func #[139] #[] false, size := 1, bytes := 8, zv := zAV (Value.nilFunc), eq := [] }
theorem one194 : TyOne Tryz.prog 194 ty194 := .plain (z := Value.nilFunc) ⟨by kernel_rfl, by kernel_rfl⟩ rfl (by kernel_rfl) rfl
/-- struct { lo uint8; hi uint8 } -/
def ty195 : TyI := { d := TypeDesc.struct #[{ name := "lo", type := 5, offset := 0, embedded := false, tag := "", pkgPath := "unicode/utf8", byteOffset := 0 }, { name := "hi", type := 5, offset := 1, embedded := false, tag := "", pkgPath := "unicode/utf8", byteOffset := 1 }], size := 2, bytes := 2, zv := zAV ((Value.agg #[Value.int IntKind.u8 0, Value.int IntKind.u8 0])), eq := [] }
theorem one195 : TyOne Tryz.prog 195 ty195 := .plain (z := (Value.agg #[Value.int IntKind.u8 0, Value.int IntKind.u8 0])) ⟨by kernel_rfl, by kernel_rfl⟩ rfl (by kernel_rfl) rfl
/-- utf8.acceptRange -/
def ty196 : TyI := { d := TypeDesc.struct #[{ name := "lo", type := 5, offset := 0, embedded := false, tag := "", pkgPath := "unicode/utf8", byteOffset := 0 }, { name := "hi", type := 5, offset := 1, embedded := false, tag := "", pkgPath := "unicode/utf8", byteOffset := 1 }], size := 2, bytes := 2, zv := zAV ((Value.agg #[Value.int IntKind.u8 0, Value.int IntKind.u8 0])), eq := [] }
theorem one196 : TyOne Tryz.prog 196 ty196 := .plain (z := (Value.agg #[Value.int IntKind.u8 0, Value.int IntKind.u8 0])) ⟨by kernel_rfl, by kernel_rfl⟩ rfl (by kernel_rfl) rfl
/-- [16]utf8.acceptRange -/
def ty197 : TyI := { d := TypeDesc.array 16 196, size := 32, bytes := 32, zv := zAV ((Value.agg #[Value.int IntKind.u8 0, Value.int IntKind.u8 0, Value.int IntKind.u8 0, Value.int IntKind.u8 0, Value.int IntKind.u8 0, Value.int IntKind.u8 0, Value.int IntKind.u8 0, Value.int IntKind.u8 0, Value.int IntKind.u8 0, Value.int IntKind.u8 0, Value.int IntKind.u8 0, Value.int IntKind.u8 0, Value.int IntKind.u8 0, Value.int IntKind.u8 0, Value.int IntKind.u8 0, Value.int IntKind.u8 0, Value.int IntKind.u8 0, Value.int IntKind.u8 0, Value.int IntKind.u8 0, Value.int IntKind.u8 0, Value.int IntKind.u8 0, Value.int IntKind.u8 0, Value.int IntKind.u8 0, Value.int IntKind.u8 0, Value.int IntKind.u8 0, Value.int IntKind.u8 0, Value.int IntKind.u8 0, Value.int IntKind.u8 0, Value.int IntKind.u8 0, Value.int IntKind.u8 0, Value.int IntKind.u8 0, Value.int IntKind.u8 0])), eq := [] }
theorem one197 : TyOne Tryz.prog 197 ty197 := .plain (z := (Value.agg #[Value.int IntKind.u8 0, Value.int IntKind.u8 0, Value.int IntKind.u8 0, Value.int IntKind.u8 0, Value.int IntKind.u8 0, Value.int IntKind.u8 0, Value.int IntKind.u8 0, Value.int IntKind.u8 0, Value.int IntKind.u8 0, Value.int IntKind.u8 0, Value.int IntKind.u8 0, Value.int IntKind.u8 0, Value.int IntKind.u8 0, Value.int IntKind.u8 0, Value.int IntKind.u8 0, Value.int IntKind.u8 0, Value.int IntKind.u8 0, Value.int IntKind.u8 0, Value.int IntKind.u8 0, Value.int IntKind.u8 0, Value.int IntKind.u8 0, Value.int IntKind.u8 0, Value.int IntKind.u8 0, Value.int IntKind.u8 0, Value.int IntKind.u8 0, Value.int IntKind.u8 0, Value.int IntKind.u8 0, Value.int IntKind.u8 0, Value.int IntKind.u8 0, Value.int IntKind.u8 0, Value.int IntKind.u8 0, Value.int IntKind.u8 0])) ⟨by kernel_rfl, by kernel_rfl⟩ rfl (by kernel_rfl) rfl
/-- func(int32) bool -/
def ty198 : TyI := { d := TypeDesc.func #[21] #[4] false, size := 1, bytes := 8, zv := zAV (Value.nilFunc), eq := [] }
theorem one198 : TyOne Tryz.prog 198 ty198 := .plain (z := Value.nilFunc) ⟨by kernel_rfl, by kernel_rfl⟩ rfl (by kernel_rfl) rfl
/-- func(string, string) int -/
def ty199 : TyI := { d := TypeDesc.func #[9, 9] #[3] false, size := 1, bytes := 8, zv := zAV (Value.nilFunc), eq := [] }
theorem one199 : TyOne Tryz.prog 199 ty199 := .plain (z := Value.nilFunc) ⟨by kernel_rfl, by kernel_rfl⟩ rfl (by kernel_rfl) rfl
/-- func(uint32) int -/
def ty200 : TyI := { d := TypeDesc.func #[185] #[3] false, size := 1, bytes := 8, zv := zAV (Value.nilFunc), eq := [] }
theorem one200 : TyOne Tryz.prog 200 ty200 := .plain (z := Value.nilFunc) ⟨by kernel_rfl, by kernel_rfl⟩ rfl (by kernel_rfl) rfl
/-- [6]int -/
def ty201 : TyI := { d := TypeDesc.array 6 3, size := 6, bytes := 48, zv := zAV ((Value.agg #[Value.int IntKind.i64 0, Value.int IntKind.i64 0, Value.int IntKind.i64 0, Value.int IntKind.i64 0, Value.int IntKind.i64 0, Value.int IntKind.i64 0])), eq := [] }
theorem one201 : TyOne Tryz.prog 201 ty201 := .plain (z := (Value.agg #[Value.int IntKind.i64 0, Value.int IntKind.i64 0, Value.int IntKind.i64 0, Value.int IntKind.i64 0, Value.int IntKind.i64 0, Value.int IntKind.i64 0])) ⟨by kernel_rfl, by kernel_rfl⟩ rfl (by kernel_rfl) rfl
/-- func([]api.Tag, []api.Tag) bool -/
def ty202 : TyI := { d := TypeDesc.func #[61, 61] #[4] false, size := 1, bytes := 8, zv := zAV (Value.nilFunc), eq := [] }
theorem one202 : TyOne Tryz.prog 202 ty202 := .plain (z := Value.nilFunc) ⟨by kernel_rfl, by kernel_rfl⟩ rfl (by kernel_rfl) rfl
/-- func(int) []uint8 -/
def ty203 : TyI := { d := TypeDesc.func #[3] #[99] false, size := 1, bytes := 8, zv := zAV (Value.nilFunc), eq := [] }
theorem one203 : TyOne Tryz.prog 203 ty203 := .plain (z := Value.nilFunc) ⟨by kernel_rfl, by kernel_rfl⟩ rfl (by kernel_rfl) rfl
/-- [32]uint8 -/
def ty204 : TyI := { d := TypeDesc.array 32 5, size := 32, bytes := 32, zv := zAV ((Value.agg #[Value.int IntKind.u8 0, Value.int IntKind.u8 0, Value.int IntKind.u8 0, Value.int IntKind.u8 0, Value.int IntKind.u8 0, Value.int IntKind.u8 0, Value.int IntKind.u8 0, Value.int IntKind.u8 0, Value.int IntKind.u8 0, Value.int IntKind.u8 0, Value.int IntKind.u8 0, Value.int IntKind.u8 0, Value.int IntKind.u8 0, Value.int IntKind.u8 0, Value.int IntKind.u8 0, Value.int IntKind.u8 0, Value.int IntKind.u8 0, Value.int IntKind.u8 0, Value.int IntKind.u8 0, Value.int IntKind.u8 0, Value.int IntKind.u8 0, Value.int IntKind.u8 0, Value.int IntKind.u8 0, Value.int IntKind.u8 0, Value.int IntKind.u8 0, Value.int IntKind.u8 0, Value.int IntKind.u8 0, Value.int IntKind.u8 0, Value.int IntKind.u8 0, Value.int IntKind.u8 0, Value.int IntKind.u8 0, Value.int IntKind.u8 0])), eq := [] }
theorem one204 : TyOne Tryz.prog 204 ty204 := .plain (z := (Value.agg #[Value.int IntKind.u8 0, Value.int IntKind.u8 0, Value.int IntKind.u8 0, Value.int IntKind.u8 0, Value.int IntKind.u8 0, Value.int IntKind.u8 0, Value.int IntKind.u8 0, Value.int IntKind.u8 0, Value.int IntKind.u8 0, Value.int IntKind.u8 0, Value.int IntKind.u8 0, Value.int IntKind.u8 0, Value.int IntKind.u8 0, Value.int IntKind.u8 0, Value.int IntKind.u8 0, Value.int IntKind.u8 0, Value.int IntKind.u8 0, Value.int IntKind.u8 0, Value.int IntKind.u8 0, Value.int IntKind.u8 0, Value.int IntKind.u8 0, Value.int IntKind.u8 0, Value.int IntKind.u8 0, Value.int IntKind.u8 0, Value.int IntKind.u8 0, Value.int IntKind.u8 0, Value.int IntKind.u8 0, Value.int IntKind.u8 0, Value.int IntKind.u8 0, Value.int IntKind.u8 0, Value.int IntKind.u8 0, Value.int IntKind.u8 0])) ⟨by kernel_rfl, by kernel_rfl⟩ rfl (by kernel_rfl) rfl
/-- [64]uint8 -/
def ty205 : TyI := { d := TypeDesc.array 64 5, size := 64, bytes := 64, zv := zAV ((Value.agg #[Value.int IntKind.u8 0, Value.int IntKind.u8 0, Value.int IntKind.u8 0, Value.int IntKind.u8 0, Value.int IntKind.u8 0, Value.int IntKind.u8 0, Value.int IntKind.u8 0, Value.int IntKind.u8 0, Value.int IntKind.u8 0, Value.int IntKind.u8 0, Value.int IntKind.u8 0, Value.int IntKind.u8 0, Value.int IntKind.u8 0, Value.int IntKind.u8 0, Value.int IntKind.u8 0, Value.int IntKind.u8 0, Value.int IntKind.u8 0, Value.int IntKind.u8 0, Value.int IntKind.u8 0, Value.int IntKind.u8 0, Value.int IntKind.u8 0, Value.int IntKind.u8 0, Value.int IntKind.u8 0, Value.int IntKind.u8 0, Value.int IntKind.u8 0, Value.int IntKind.u8 0, Value.int IntKind.u8 0, Value.int IntKind.u8 0, Value.int IntKind.u8 0, Value.int IntKind.u8 0, Value.int IntKind.u8 0, Value.int IntKind.u8 0, Value.int IntKind.u8 0, Value.int IntKind.u8 0, Value.int IntKind.u8 0, Value.int IntKind.u8 0, Value.int IntKind.u8 0, Value.int IntKind.u8 0, Value.int IntKind.u8 0, Value.int IntKind.u8 0, Value.int IntKind.u8 0, Value.int IntKind.u8 0, Value.int IntKind.u8 0, Value.int IntKind.u8 0, Value.int IntKind.u8 0, Value.int IntKind.u8 0, Value.int IntKind.u8 0, Value.int IntKind.u8 0, Value.int IntKind.u8 0, Value.int IntKind.u8 0, Value.int IntKind.u8 0, Value.int IntKind.u8 0, Value.int IntKind.u8 0, Value.int IntKind.u8 0, Value.int IntKind.u8 0, Value.int IntKind.u8 0, Value.int IntKind.u8 0, Value.int IntKind.u8 0, Value.int IntKind.u8 0, Value.int IntKind.u8 0, Value.int IntKind.u8 0, Value.int IntKind.u8 0, Value.int IntKind.u8 0, Value.int IntKind.u8 0])), eq := [] }
theorem one205 : TyOne Tryz.prog 205 ty205 := .plain (z := (Value.agg #[Value.int IntKind.u8 0, Value.int IntKind.u8 0, Value.int IntKind.u8 0, Value.int IntKind.u8 0, Value.int IntKind.u8 0, Value.int IntKind.u8 0, Value.int IntKind.u8 0, Value.int IntKind.u8 0, Value.int IntKind.u8 0, Value.int IntKind.u8 0, Value.int IntKind.u8 0, Value.int IntKind.u8 0, Value.int IntKind.u8 0, Value.int IntKind.u8 0, Value.int IntKind.u8 0, Value.int IntKind.u8 0, Value.int IntKind.u8 0, Value.int IntKind.u8 0, Value.int IntKind.u8 0, Value.int IntKind.u8 0, Value.int IntKind.u8 0, Value.int IntKind.u8 0, Value.int IntKind.u8 0, Value.int IntKind.u8 0, Value.int IntKind.u8 0, Value.int IntKind.u8 0, Value.int IntKind.u8 0, Value.int IntKind.u8 0, Value.int IntKind.u8 0, Value.int IntKind.u8 0, Value.int IntKind.u8 0, Value.int IntKind.u8 0, Value.int IntKind.u8 0, Value.int IntKind.u8 0, Value.int IntKind.u8 0, Value.int IntKind.u8 0, Value.int IntKind.u8 0, Value.int IntKind.u8 0, Value.int IntKind.u8 0, Value.int IntKind.u8 0, Value.int IntKind.u8 0, Value.int IntKind.u8 0, Value.int IntKind.u8 0, Value.int IntKind.u8 0, Value.int IntKind.u8 0, Value.int IntKind.u8 0, Value.int IntKind.u8 0, Value.int IntKind.u8 0, Value.int IntKind.u8 0, Value.int IntKind.u8 0, Value.int IntKind.u8 0, Value.int IntKind.u8 0, Value.int IntKind.u8 0, Value.int IntKind.u8 0, Value.int IntKind.u8 0, Value.int IntKind.u8 0, Value.int IntKind.u8 0, Value.int IntKind.u8 0, Value.int IntKind.u8 0, Value.int IntKind.u8 0, Value.int IntKind.u8 0, Value.int IntKind.u8 0, Value.int IntKind.u8 0, Value.int IntKind.u8 0])) ⟨by kernel_rfl, by kernel_rfl⟩ rfl (by kernel_rfl) rfl
/-- struct { _interface *abi.Type; concrete *abi.Type; asserted *abi.Type; missingMethod string } -/
def ty206 : TyI := { d := TypeDesc.struct #[{ name := "_interface", type := 17, offset := 0, embedded := false, tag := "", pkgPath := "runtime", byteOffset := 0 }, { name := "concrete", type := 17, offset := 1, embedded := false, tag := "", pkgPath := "runtime", byteOffset := 8 }, { name := "asserted", type := 17, offset := 2, embedded := false, tag := "", pkgPath := "runtime", byteOffset := 16 }, { name := "missingMethod", type := 9, offset := 3, embedded := false, tag := "", pkgPath := "runtime", byteOffset := 24 }], size := 4, bytes := 40, zv := zAV ((Value.agg #[Value.pointer none, Value.pointer none, Value.pointer none, Value.string { data := #[] }])), eq := [] }
theorem one206 : TyOne Tryz.prog 206 ty206 := .plain (z := (Value.agg #[Value.pointer none, Value.pointer none, Value.pointer none, Value.string { data := #[] }])) ⟨by kernel_rfl, by kernel_rfl⟩ rfl (by kernel_rfl) rfl
/-- runtime.TypeAssertionError -/
def ty207 : TyI := { d := TypeDesc.struct #[{ name := "_interface", type := 17, offset := 0, embedded := false, tag := "", pkgPath := "runtime", byteOffset := 0 }, { name := "concrete", type := 17, offset := 1, embedded := false, tag := "", pkgPath := "runtime", byteOffset := 8 }, { name := "asserted", type := 17, offset := 2, embedded := false, tag := "", pkgPath := "runtime", byteOffset := 16 }, { name := "missingMethod", type := 9, offset := 3, embedded := false, tag := "", pkgPath := "runtime", byteOffset := 24 }], size := 4, bytes := 40, zv := zAV ((Value.agg #[Value.pointer none, Value.pointer none, Value.pointer none, Value.string { data := #[] }])), eq := [] }
theorem one207 : TyOne Tryz.prog 207 ty207 := .plain (z := (Value.agg #[Value.pointer none, Value.pointer none, Value.pointer none, Value.string { data := #[] }])) ⟨by kernel_rfl, by kernel_rfl⟩ rfl (by kernel_rfl) rfl
/-- [0]*runtime.PanicNilError -/
def ty208 : TyI := { d := TypeDesc.array 0 16, size := 0, bytes := 0, zv := zAV ((Value.agg #[])), eq := [] }
theorem one208 : TyOne Tryz.prog 208 ty208 := .plain (z := (Value.agg #[])) ⟨by kernel_rfl, by kernel_rfl⟩ rfl (by kernel_rfl) rfl
/-- struct { _ [0]*runtime.PanicNilError } -/
def ty209 : TyI := { d := TypeDesc.struct #[{ name := "_", type := 208, offset := 0, embedded := false, tag := "", pkgPath := "runtime", byteOffset := 0 }], size := 0, bytes := 0, zv := zAV ((Value.agg #[])), eq := [] }
theorem one209 : TyOne Tryz.prog 209 ty209 := .plain (z := (Value.agg #[])) ⟨by kernel_rfl, by kernel_rfl⟩ rfl (by kernel_rfl) rfl
/-- runtime.PanicNilError -/
def ty210 : TyI := { d := TypeDesc.struct #[{ name := "_", type := 208, offset := 0, embedded := false, tag := "", pkgPath := "runtime", byteOffset := 0 }], size := 0, bytes := 0, zv := zAV ((Value.agg #[])), eq := [] }
theorem one210 : TyOne Tryz.prog 210 ty210 := .plain (z := (Value.agg #[])) ⟨by kernel_rfl, by kernel_rfl⟩ rfl (by kernel_rfl) rfl
/-- abi.TFlag -/
def ty211 : TyI := { d := TypeDesc.int IntKind.u8, size := 1, bytes := 1, zv := zAV ((Value.int IntKind.u8 0)), eq := [] }
theorem one211 : TyOne Tryz.prog 211 ty211 := .plain (z := (Value.int IntKind.u8 0)) ⟨by kernel_rfl, by kernel_rfl⟩ rfl (by kernel_rfl) rfl
/-- abi.Kind -/
def ty212 : TyI := { d := TypeDesc.int IntKind.u8, size := 1, bytes := 1, zv := zAV ((Value.int IntKind.u8 0)), eq := [] }
theorem one212 : TyOne Tryz.prog 212 ty212 := .plain (z := (Value.int IntKind.u8 0)) ⟨by kernel_rfl, by kernel_rfl⟩ rfl (by kernel_rfl) rfl
/-- func(unsafe.Pointer, unsafe.Pointer) bool -/
def ty213 : TyI := { d := TypeDesc.func #[155, 155] #[4] false, size := 1, bytes := 8, zv := zAV (Value.nilFunc), eq := [] }
theorem one213 : TyOne Tryz.prog 213 ty213 := .plain (z := Value.nilFunc) ⟨by kernel_rfl, by kernel_rfl⟩ rfl (by kernel_rfl) rfl
/-- abi.NameOff -/
def ty214 : TyI := { d := TypeDesc.int IntKind.i32, size := 1, bytes := 4, zv := zAV ((Value.int IntKind.i32 0)), eq := [] }
theorem one214 : TyOne Tryz.prog 214 ty214 := .plain (z := (Value.int IntKind.i32 0)) ⟨by kernel_rfl, by kernel_rfl⟩ rfl (by kernel_rfl) rfl
/-- abi.TypeOff -/
def ty215 : TyI := { d := TypeDesc.int IntKind.i32, size := 1, bytes := 4, zv := zAV ((Value.int IntKind.i32 0)), eq := [] }
theorem one215 : TyOne Tryz.prog 215 ty215 := .plain (z := (Value.int IntKind.i32 0)) ⟨by kernel_rfl, by kernel_rfl⟩ rfl (by kernel_rfl) rfl
/-- struct { Size_ uintptr; PtrBytes uintptr; Hash uint32; TFlag abi.TFlag; Align_ uint8; FieldAlign_ uint8; Kind_ abi.Kind; -/
def ty216 : TyI := { d := TypeDesc.struct #[{ name := "Size_", type := 12, offset := 0, embedded := false, tag := "", pkgPath := "", byteOffset := 0 }, { name := "PtrBytes", type := 12, offset := 1, embedded := false, tag := "", pkgPath := "", byteOffset := 8 }, { name := "Hash", type := 185, offset := 2, embedded := false, tag := "", pkgPath := "", byteOffset := 16 }, { name := "TFlag", type := 211, offset := 3, embedded := false, tag := "", pkgPath := "", byteOffset := 20 }, { name := "Align_", type := 5, offset := 4, embedded := false, tag := "", pkgPath := "", byteOffset := 21 }, { name := "FieldAlign_", type := 5, offset := 5, embedded := false, tag := "", pkgPath := "", byteOffset := 22 }, { name := "Kind_", type := 212, offset := 6, embedded := false, tag := "", pkgPath := "", byteOffset := 23 }, { name := "Equal", type := 213, offset := 7, embedded := false, tag := "", pkgPath := "", byteOffset := 24 }, { name := "GCData", type := 136, offset := 8, embedded := false, tag := "", pkgPath := "", byteOffset := 32 }, { name := "Str", type := 214, offset := 9, embedded := false, tag := "", pkgPath := "", byteOffset := 40 }, { name := "PtrToThis", type := 215, offset := 10, embedded := false, tag := "", pkgPath := "", byteOffset := 44 }], size := 11, bytes := 48, zv := zAV ((Value.agg #[Value.int IntKind.u64 0, Value.int IntKind.u64 0, Value.int IntKind.u32 0, Value.int IntKind.u8 0, Value.int IntKind.u8 0, Value.int IntKind.u8 0, Value.int IntKind.u8 0, Value.nilFunc, Value.pointer none, Value.int IntKind.i32 0, Value.int IntKind.i32 0])), eq := [] }
theorem one216 : TyOne Tryz.prog 216 ty216 := .plain (z := (Value.agg #[Value.int IntKind.u64 0, Value.int IntKind.u64 0, Value.int IntKind.u32 0, Value.int IntKind.u8 0, Value.int IntKind.u8 0, Value.int IntKind.u8 0, Value.int IntKind.u8 0, Value.nilFunc, Value.pointer none, Value.int IntKind.i32 0, Value.int IntKind.i32 0])) ⟨by kernel_rfl, by kernel_rfl⟩ rfl (by kernel_rfl) rfl
/-- abi.Type -/
def ty217 : TyI := { d := TypeDesc.struct #[{ name := "Size_", type := 12, offset := 0, embedded := false, tag := "", pkgPath := "", byteOffset := 0 }, { name := "PtrBytes", type := 12, offset := 1, embedded := false, tag := "", pkgPath := "", byteOffset := 8 }, { name := "Hash", type := 185, offset := 2, embedded := false, tag := "", pkgPath := "", byteOffset := 16 }, { name := "TFlag", type := 211, offset := 3, embedded := false, tag := "", pkgPath := "", byteOffset := 20 }, { name := "Align_", type := 5, offset := 4, embedded := false, tag := "", pkgPath := "", byteOffset := 21 }, { name := "FieldAlign_", type := 5, offset := 5, embedded := false, tag := "", pkgPath := "", byteOffset := 22 }, { name := "Kind_", type := 212, offset := 6, embedded := false, tag := "", pkgPath := "", byteOffset := 23 }, { name := "Equal", type := 213, offset := 7, embedded := false, tag := "", pkgPath := "", byteOffset := 24 }, { name := "GCData", type := 136, offset := 8, embedded := false, tag := "", pkgPath := "", byteOffset := 32 }, { name := "Str", type := 214, offset := 9, embedded := false, tag := "", pkgPath := "", byteOffset := 40 }, { name := "PtrToThis", type := 215, offset := 10, embedded := false, tag := "", pkgPath := "", byteOffset := 44 }], size := 11, bytes := 48, zv := zAV ((Value.agg #[Value.int IntKind.u64 0, Value.int IntKind.u64 0, Value.int IntKind.u32 0, Value.int IntKind.u8 0, Value.int IntKind.u8 0, Value.int IntKind.u8 0, Value.int IntKind.u8 0, Value.nilFunc, Value.pointer none, Value.int IntKind.i32 0, Value.int IntKind.i32 0])), eq := [] }
theorem one217 : TyOne Tryz.prog 217 ty217 := .plain (z := (Value.agg #[Value.int IntKind.u64 0, Value.int IntKind.u64 0, Value.int IntKind.u32 0, Value.int IntKind.u8 0, Value.int IntKind.u8 0, Value.int IntKind.u8 0, Value.int IntKind.u8 0, Value.nilFunc, Value.pointer none, Value.int IntKind.i32 0, Value.int IntKind.i32 0])) ⟨by kernel_rfl, by kernel_rfl⟩ rfl (by kernel_rfl) rfl
/-- struct { Strict bool; Area string; Kind int; If api.Tag; Op int; Key string; Values []string } -/
def ty218 : TyI := { d := TypeDesc.struct #[{ name := "Strict", type := 4, offset := 0, embedded := false, tag := "", pkgPath := "", byteOffset := 0 }, { name := "Area", type := 9, offset := 1, embedded := false, tag := "", pkgPath := "", byteOffset := 8 }, { name := "Kind", type := 3, offset := 2, embedded := false, tag := "", pkgPath := "", byteOffset := 24 }, { name := "If", type := 139, offset := 3, embedded := false, tag := "", pkgPath := "", byteOffset := 32 }, { name := "Op", type := 3, offset := 5, embedded := false, tag := "", pkgPath := "", byteOffset := 64 }, { name := "Key", type := 9, offset := 6, embedded := false, tag := "", pkgPath := "", byteOffset := 72 }, { name := "Values", type := 26, offset := 7, embedded := false, tag := "", pkgPath := "", byteOffset := 88 }], size := 8, bytes := 112, zv := zAV ((Value.agg #[Value.bool false, Value.string { data := #[] }, Value.int IntKind.i64 0, Value.string { data := #[] }, Value.string { data := #[] }, Value.int IntKind.i64 0, Value.string { data := #[] }, Value.slice none 0 0])), eq := [] }
theorem one218 : TyOne Tryz.prog 218 ty218 := .plain (z := (Value.agg #[Value.bool false, Value.string { data := #[] }, Value.int IntKind.i64 0, Value.string { data := #[] }, Value.string { data := #[] }, Value.int IntKind.i64 0, Value.string { data := #[] }, Value.slice none 0 0])) ⟨by kernel_rfl, by kernel_rfl⟩ rfl (by kernel_rfl) rfl
/-- api.Rule -/
def ty219 : TyI := { d := TypeDesc.struct #[{ name := "Strict", type := 4, offset := 0, embedded := false, tag := "", pkgPath := "", byteOffset := 0 }, { name := "Area", type := 9, offset := 1, embedded := false, tag := "", pkgPath := "", byteOffset := 8 }, { name := "Kind", type := 3, offset := 2, embedded := false, tag := "", pkgPath := "", byteOffset := 24 }, { name := "If", type := 139, offset := 3, embedded := false, tag := "", pkgPath := "", byteOffset := 32 }, { name := "Op", type := 3, offset := 5, embedded := false, tag := "", pkgPath := "", byteOffset := 64 }, { name := "Key", type := 9, offset := 6, embedded := false, tag := "", pkgPath := "", byteOffset := 72 }, { name := "Values", type := 26, offset := 7, embedded := false, tag := "", pkgPath := "", byteOffset := 88 }], size := 8, bytes := 112, zv := zAV ((Value.agg #[Value.bool false, Value.string { data := #[] }, Value.int IntKind.i64 0, Value.string { data := #[] }, Value.string { data := #[] }, Value.int IntKind.i64 0, Value.string { data := #[] }, Value.slice none 0 0])), eq := [] }
theorem one219 : TyOne Tryz.prog 219 ty219 := .plain (z := (Value.agg #[Value.bool false, Value.string { data := #[] }, Value.int IntKind.i64 0, Value.string { data := #[] }, Value.string { data := #[] }, Value.int IntKind.i64 0, Value.string { data := #[] }, Value.slice none 0 0])) ⟨by kernel_rfl, by kernel_rfl⟩ rfl (by kernel_rfl) rfl
def tys : Tr := (.node (.node (.node (.node (.node (.node (.node (.node .leaf 0 ty0 .leaf) 1 ty1 (.node .leaf 2 ty2 .leaf)) 3 ty3 (.node (.node .leaf 4 ty4 .leaf) 5 ty5 .leaf)) 6 ty6 (.node (.node (.node .leaf 7 ty7 .leaf) 8 ty8 (.node .leaf 9 ty9 .leaf)) 10 ty10 (.node (.node .leaf 11 ty11 .leaf) 12 ty12 .leaf))) 13 ty13 (.node (.node (.node (.node .leaf 14 ty14 .leaf) 15 ty15 (.node .leaf 16 ty16 .leaf)) 17 ty17 (.node (.node .leaf 18 ty18 .leaf) 19 ty19 .leaf)) 20 ty20 (.node (.node (.node .leaf 21 ty21 .leaf) 22 ty22 (.node .leaf 23 ty23 .leaf)) 24 ty24 (.node (.node .leaf 25 ty25 .leaf) 26 ty26 .leaf)))) 27 ty27 (.node (.node (.node (.node (.node .leaf 28 ty28 .leaf) 29 ty29 (.node .leaf 30 ty30 .leaf)) 31 ty31 (.node (.node .leaf 32 ty32 .leaf) 33 ty33 .leaf)) 34 ty34 (.node (.node (.node .leaf 35 ty35 .leaf) 36 ty36 (.node .leaf 37 ty37 .leaf)) 38 ty38 (.node (.node .leaf 39 ty39 .leaf) 40 ty40 .leaf))) 41 ty41 (.node (.node (.node (.node .leaf 42 ty42 .leaf) 43 ty43 (.node .leaf 44 ty44 .leaf)) 45 ty45 (.node (.node .leaf 46 ty46 .leaf) 47 ty47 .leaf)) 48 ty48 (.node (.node (.node .leaf 49 ty49 .leaf) 50 ty50 (.node .leaf 51 ty51 .leaf)) 52 ty52 (.node (.node .leaf 53 ty53 .leaf) 54 ty54 .leaf))))) 55 ty55 (.node (.node (.node (.node (.node (.node .leaf 56 ty56 .leaf) 57 ty57 (.node .leaf 58 ty58 .leaf)) 59 ty59 (.node (.node .leaf 60 ty60 .leaf) 61 ty61 .leaf)) 62 ty62 (.node (.node (.node .leaf 63 ty63 .leaf) 64 ty64 (.node .leaf 65 ty65 .leaf)) 66 ty66 (.node (.node .leaf 67 ty67 .leaf) 68 ty68 .leaf))) 69 ty69 (.node (.node (.node (.node .leaf 70 ty70 .leaf) 71 ty71 (.node .leaf 72 ty72 .leaf)) 73 ty73 (.node (.node .leaf 74 ty74 .leaf) 75 ty75 .leaf)) 76 ty76 (.node (.node (.node .leaf 77 ty77 .leaf) 78 ty78 (.node .leaf 79 ty79 .leaf)) 80 ty80 (.node (.node .leaf 81 ty81 .leaf) 82 ty82 .leaf)))) 83 ty83 (.node (.node (.node (.node (.node .leaf 84 ty84 .leaf) 85 ty85 (.node .leaf 86 ty86 .leaf)) 87 ty87 (.node (.node .leaf 88 ty88 .leaf) 89 ty89 .leaf)) 90 ty90 (.node (.node (.node .leaf 91 ty91 .leaf) 92 ty92 (.node .leaf 93 ty93 .leaf)) 94 ty94 (.node (.node .leaf 95 ty95 .leaf) 96 ty96 .leaf))) 97 ty97 (.node (.node (.node (.node .leaf 98 ty98 .leaf) 99 ty99 (.node .leaf 100 ty100 .leaf)) 101 ty101 (.node (.node .leaf 102 ty102 .leaf) 103 ty103 .leaf)) 104 ty104 (.node (.node (.node .leaf 105 ty105 .leaf) 106 ty106 .leaf) 107 ty107 (.node (.node .leaf 108 ty108 .leaf) 109 ty109 .leaf)))))) 110 ty110 (.node (.node (.node (.node (.node (.node (.node .leaf 111 ty111 .leaf) 112 ty112 (.node .leaf 113 ty113 .leaf)) 114 ty114 (.node (.node .leaf 115 ty115 .leaf) 116 ty116 .leaf)) 117 ty117 (.node (.node (.node .leaf 118 ty118 .leaf) 119 ty119 (.node .leaf 120 ty120 .leaf)) 121 ty121 (.node (.node .leaf 122 ty122 .leaf) 123 ty123 .leaf))) 124 ty124 (.node (.node (.node (.node .leaf 125 ty125 .leaf) 126 ty126 (.node .leaf 127 ty127 .leaf)) 128 ty128 (.node (.node .leaf 129 ty129 .leaf) 130 ty130 .leaf)) 131 ty131 (.node (.node (.node .leaf 132 ty132 .leaf) 133 ty133 (.node .leaf 134 ty134 .leaf)) 135 ty135 (.node (.node .leaf 136 ty136 .leaf) 137 ty137 .leaf)))) 138 ty138 (.node (.node (.node (.node (.node .leaf 139 ty139 .leaf) 140 ty140 (.node .leaf 141 ty141 .leaf)) 142 ty142 (.node (.node .leaf 143 ty143 .leaf) 144 ty144 .leaf)) 145 ty145 (.node (.node (.node .leaf 146 ty146 .leaf) 147 ty147 (.node .leaf 148 ty148 .leaf)) 149 ty149 (.node (.node .leaf 150 ty150 .leaf) 151 ty151 .leaf))) 152 ty152 (.node (.node (.node (.node .leaf 153 ty153 .leaf) 154 ty154 (.node .leaf 155 ty155 .leaf)) 156 ty156 (.node (.node .leaf 157 ty157 .leaf) 158 ty158 .leaf)) 159 ty159 (.node (.node (.node .leaf 160 ty160 .leaf) 161 ty161 .leaf) 162 ty162 (.node (.node .leaf 163 ty163 .leaf) 164 ty164 .leaf))))) 165 ty165 (.node (.node (.node (.node (.node (.node .leaf 166 ty166 .leaf) 167 ty167 (.node .leaf 168 ty168 .leaf)) 169 ty169 (.node (.node .leaf 170 ty170 .leaf) 171 ty171 .leaf)) 172 ty172 (.node (.node (.node .leaf 173 ty173 .leaf) 174 ty174 (.node .leaf 175 ty175 .leaf)) 176 ty176 (.node (.node .leaf 177 ty177 .leaf) 178 ty178 .leaf))) 179 ty179 (.node (.node (.node (.node .leaf 180 ty180 .leaf) 181 ty181 (.node .leaf 182 ty182 .leaf)) 183 ty183 (.node (.node .leaf 184 ty184 .leaf) 185 ty185 .leaf)) 186 ty186 (.node (.node (.node .leaf 187 ty187 .leaf) 188 ty188 (.node .leaf 189 ty189 .leaf)) 190 ty190 (.node (.node .leaf 191 ty191 .leaf) 192 ty192 .leaf)))) 193 ty193 (.node (.node (.node (.node (.node .leaf 194 ty194 .leaf) 195 ty195 (.node .leaf 196 ty196 .leaf)) 197 ty197 (.node (.node .leaf 198 ty198 .leaf) 199 ty199 .leaf)) 200 ty200 (.node (.node (.node .leaf 201 ty201 .leaf) 202 ty202 (.node .leaf 203 ty203 .leaf)) 204 ty204 (.node (.node .leaf 205 ty205 .leaf) 206 ty206 .leaf))) 207 ty207 (.node (.node (.node (.node .leaf 208 ty208 .leaf) 209 ty209 (.node .leaf 210 ty210 .leaf)) 211 ty211 (.node (.node .leaf 212 ty212 .leaf) 213 ty213 .leaf)) 214 ty214 (.node (.node (.node .leaf 215 ty215 .leaf) 216 ty216 .leaf) 217 ty217 (.node (.node .leaf 218 ty218 .leaf) 219 ty219 .leaf)))))))
theorem tyok : TyOk Tryz.prog tys.find := .of ⟨⟨⟨⟨⟨⟨⟨⟨trivial, one0, trivial⟩, one1, ⟨trivial, one2, trivial⟩⟩, one3, ⟨⟨trivial, one4, trivial⟩, one5, trivial⟩⟩, one6, ⟨⟨⟨trivial, one7, trivial⟩, one8, ⟨trivial, one9, trivial⟩⟩, one10, ⟨⟨trivial, one11, trivial⟩, one12, trivial⟩⟩⟩, one13, ⟨⟨⟨⟨trivial, one14, trivial⟩, one15, ⟨trivial, one16, trivial⟩⟩, one17, ⟨⟨trivial, one18, trivial⟩, one19, trivial⟩⟩, one20, ⟨⟨⟨trivial, one21, trivial⟩, one22, ⟨trivial, one23, trivial⟩⟩, one24, ⟨⟨trivial, one25, trivial⟩, one26, trivial⟩⟩⟩⟩, one27, ⟨⟨⟨⟨⟨trivial, one28, trivial⟩, one29, ⟨trivial, one30, trivial⟩⟩, one31, ⟨⟨trivial, one32, trivial⟩, one33, trivial⟩⟩, one34, ⟨⟨⟨trivial, one35, trivial⟩, one36, ⟨trivial, one37, trivial⟩⟩, one38, ⟨⟨trivial, one39, trivial⟩, one40, trivial⟩⟩⟩, one41, ⟨⟨⟨⟨trivial, one42, trivial⟩, one43, ⟨trivial, one44, trivial⟩⟩, one45, ⟨⟨trivial, one46, trivial⟩, one47, trivial⟩⟩, one48, ⟨⟨⟨trivial, one49, trivial⟩, one50, ⟨trivial, one51, trivial⟩⟩, one52, ⟨⟨trivial, one53, trivial⟩, one54, trivial⟩⟩⟩⟩⟩, one55, ⟨⟨⟨⟨⟨⟨trivial, one56, trivial⟩, one57, ⟨trivial, one58, trivial⟩⟩, one59, ⟨⟨trivial, one60, trivial⟩, one61, trivial⟩⟩, one62, ⟨⟨⟨trivial, one63, trivial⟩, one64, ⟨trivial, one65, trivial⟩⟩, one66, ⟨⟨trivial, one67, trivial⟩, one68, trivial⟩⟩⟩, one69, ⟨⟨⟨⟨trivial, one70, trivial⟩, one71, ⟨trivial, one72, trivial⟩⟩, one73, ⟨⟨trivial, one74, trivial⟩, one75, trivial⟩⟩, one76, ⟨⟨⟨trivial, one77, trivial⟩, one78, ⟨trivial, one79, trivial⟩⟩, one80, ⟨⟨trivial, one81, trivial⟩, one82, trivial⟩⟩⟩⟩, one83, ⟨⟨⟨⟨⟨trivial, one84, trivial⟩, one85, ⟨trivial, one86, trivial⟩⟩, one87, ⟨⟨trivial, one88, trivial⟩, one89, trivial⟩⟩, one90, ⟨⟨⟨trivial, one91, trivial⟩, one92, ⟨trivial, one93, trivial⟩⟩, one94, ⟨⟨trivial, one95, trivial⟩, one96, trivial⟩⟩⟩, one97, ⟨⟨⟨⟨trivial, one98, trivial⟩, one99, ⟨trivial, one100, trivial⟩⟩, one101, ⟨⟨trivial, one102, trivial⟩, one103, trivial⟩⟩, one104, ⟨⟨⟨trivial, one105, trivial⟩, one106, trivial⟩, one107, ⟨⟨trivial, one108, trivial⟩, one109, trivial⟩⟩⟩⟩⟩⟩, one110, ⟨⟨⟨⟨⟨⟨⟨trivial, one111, trivial⟩, one112, ⟨trivial, one113, trivial⟩⟩, one114, ⟨⟨trivial, one115, trivial⟩, one116, trivial⟩⟩, one117, ⟨⟨⟨trivial, one118, trivial⟩, one119, ⟨trivial, one120, trivial⟩⟩, one121, ⟨⟨trivial, one122, trivial⟩, one123, trivial⟩⟩⟩, one124, ⟨⟨⟨⟨trivial, one125, trivial⟩, one126, ⟨trivial, one127, trivial⟩⟩, one128, ⟨⟨trivial, one129, trivial⟩, one130, trivial⟩⟩, one131, ⟨⟨⟨trivial, one132, trivial⟩, one133, ⟨trivial, one134, trivial⟩⟩, one135, ⟨⟨trivial, one136, trivial⟩, one137, trivial⟩⟩⟩⟩, one138, ⟨⟨⟨⟨⟨trivial, one139, trivial⟩, one140, ⟨trivial, one141, trivial⟩⟩, one142, ⟨⟨trivial, one143, trivial⟩, one144, trivial⟩⟩, one145, ⟨⟨⟨trivial, one146, trivial⟩, one147, ⟨trivial, one148, trivial⟩⟩, one149, ⟨⟨trivial, one150, trivial⟩, one151, trivial⟩⟩⟩, one152, ⟨⟨⟨⟨trivial, one153, trivial⟩, one154, ⟨trivial, one155, trivial⟩⟩, one156, ⟨⟨trivial, one157, trivial⟩, one158, trivial⟩⟩, one159, ⟨⟨⟨trivial, one160, trivial⟩, one161, trivial⟩, one162, ⟨⟨trivial, one163, trivial⟩, one164, trivial⟩⟩⟩⟩⟩, one165, ⟨⟨⟨⟨⟨⟨trivial, one166, trivial⟩, one167, ⟨trivial, one168, trivial⟩⟩, one169, ⟨⟨trivial, one170, trivial⟩, one171, trivial⟩⟩, one172, ⟨⟨⟨trivial, one173, trivial⟩, one174, ⟨trivial, one175, trivial⟩⟩, one176, ⟨⟨trivial, one177, trivial⟩, one178, trivial⟩⟩⟩, one179, ⟨⟨⟨⟨trivial, one180, trivial⟩, one181, ⟨trivial, one182, trivial⟩⟩, one183, ⟨⟨trivial, one184, trivial⟩, one185, trivial⟩⟩, one186, ⟨⟨⟨trivial, one187, trivial⟩, one188, ⟨trivial, one189, trivial⟩⟩, one190, ⟨⟨trivial, one191, trivial⟩, one192, trivial⟩⟩⟩⟩, one193, ⟨⟨⟨⟨⟨trivial, one194, trivial⟩, one195, ⟨trivial, one196, trivial⟩⟩, one197, ⟨⟨trivial, one198, trivial⟩, one199, trivial⟩⟩, one200, ⟨⟨⟨trivial, one201, trivial⟩, one202, ⟨trivial, one203, trivial⟩⟩, one204, ⟨⟨trivial, one205, trivial⟩, one206, trivial⟩⟩⟩, one207, ⟨⟨⟨⟨trivial, one208, trivial⟩, one209, ⟨trivial, one210, trivial⟩⟩, one211, ⟨⟨trivial, one212, trivial⟩, one213, trivial⟩⟩, one214, ⟨⟨⟨trivial, one215, trivial⟩, one216, trivial⟩, one217, ⟨⟨trivial, one218, trivial⟩, one219, trivial⟩⟩⟩⟩⟩⟩⟩
end Ab
end Go.Proofs.YtpmigkbcldffeaaGreatDoor

/- How a function's text is worked off; the program's data. -/
namespace Go.Proofs.YtpmigkbcldffeaaGreatDoor
namespace Ab

theorem mixed : Tryz.prog.follows .mixedOrders = true := by kernel_rfl
theorem D_ok {N : Nat} (C : Cx) (h : C.N = N) : DOk Tryz.prog C (fun l K => aD Tryz.prog tys.find N l l [] K) := by
  subst h; exact aD_ok tyok mixed
abbrev run (N : Nat) (sh : List Nat) (c : Code) (rs : List ResultVar) (Q : AV → AO → Prop) (args : List AV) (A : AO) : Prop :=
  awp Tryz.prog tys.find N sh (fun l K => aD Tryz.prog tys.find N l l [] K) c (fun e tm own A' => match e with | .normal => fin tys.find rs Q tm own A' | .ret => fin tys.find rs Q tm own A' | _ => False) (argT 0 args) [] A
theorem ASpec.by {f : FuncId} {fn : Func} {c : Code} {N : Nat} (hf : Tryz.prog.funcs[f]? = some fn) (hb : fn.body = some c) (hN : fn.ntmps = N) (sh : List Nat) {args : List AV} (hargs : Nat.ble args.length N = true) {A : AO} {Q : AV → AO → Prop}
    (h : run N sh c fn.results.toList Q args A) : ASpec Tryz.prog f args A Q :=
  ASpec.of tyok hf hb hN sh _ (fun C hC => D_ok C hC) (Nat.le_of_ble_eq_true hargs) h
theorem PSpec.by {f : FuncId} {fn : Func} {c : Code} {N : Nat} (hf : Tryz.prog.funcs[f]? = some fn) (hb : fn.body = some c) (hN : fn.ntmps = N) (sh : List Nat) {args : List AV} (hargs : Nat.ble args.length N = true) {v : AV}
    (h : ∀ A, run N sh c fn.results.toList (fun v' A' => v' = v ∧ A' = A) args A) : PSpec Tryz.prog f args v :=
  fun A => ASpec.by hf hb hN sh hargs (h A)
/-- Where drawn regions hold a chain of effects: calls of the functions ef, appends. -/
theorem D2_ok {N : Nat} (ef : List Nat) (C : Cx) (h : C.N = N) : DOk Tryz.prog C (fun l K => aF Tryz.prog tys.find N (effM ef 0 l) (ancs l []) l l 0 [] K) := by
  subst h; exact aF_ok tyok ef mixed
abbrev runE (N : Nat) (sh ef : List Nat) (c : Code) (rs : List ResultVar) (Q : AV → AO → Prop) (args : List AV) (A : AO) : Prop :=
  awp Tryz.prog tys.find N sh (fun l K => aF Tryz.prog tys.find N (effM ef 0 l) (ancs l []) l l 0 [] K) c (fun e tm own A' => match e with | .normal => fin tys.find rs Q tm own A' | .ret => fin tys.find rs Q tm own A' | _ => False) (argT 0 args) [] A
theorem ASpec.byE {f : FuncId} {fn : Func} {c : Code} {N : Nat} (hf : Tryz.prog.funcs[f]? = some fn) (hb : fn.body = some c) (hN : fn.ntmps = N) (sh ef : List Nat) {args : List AV} (hargs : Nat.ble args.length N = true) {A : AO} {Q : AV → AO → Prop}
    (h : runE N sh ef c fn.results.toList Q args A) : ASpec Tryz.prog f args A Q :=
  ASpec.of tyok hf hb hN sh _ (fun C hC => D2_ok ef C hC) (Nat.le_of_ble_eq_true hargs) h
theorem PSpec.byE {f : FuncId} {fn : Func} {c : Code} {N : Nat} (hf : Tryz.prog.funcs[f]? = some fn) (hb : fn.body = some c) (hN : fn.ntmps = N) (sh ef : List Nat) {args : List AV} (hargs : Nat.ble args.length N = true) {v : AV}
    (h : ∀ A, runE N sh ef c fn.results.toList (fun v' A' => v' = v ∧ A' = A) args A) : PSpec Tryz.prog f args v :=
  fun A => ASpec.byE hf hb hN sh ef hargs (h A)
theorem ent {f : FuncId} {fn : Func} {c : Code} (hf : Tryz.prog.funcs[f]? = some fn) (hname : (fn.name == "runtime.NumGoroutine") = false) (hb : fn.body = some c) : Ent Tryz.prog f := by
  intro args w
  have h1 : fn.name ≠ "runtime.NumGoroutine" := by simpa using hname
  simp [callFunc, hf, h1, hb, mark]

theorem wrap_in {n : Int} (h1 : -9223372036854775808 ≤ n) (h2 : n ≤ 9223372036854775807) : IntKind.i64.wrap n = n := IntWalk.i64_in n ⟨h1, h2⟩
theorem IK.in64 {n : Int} {K : Int → Prop} (h1 : -9223372036854775808 ≤ n) (h2 : n ≤ 9223372036854775807) (h : K n) : IK .i64 n K := IK.is (wrap_in h1 h2) h
theorem FK.eq {v v' : AV} {A : AO} (h : v = v') : FK (fun x B => x = v' ∧ B = A) v A := FK.mk (Sub.refl _) (AO.le.refl _) ⟨h, rfl⟩
theorem FK.sub {v v' : AV} {A : AO} (h : Sub v v') : FK (fun x B => x = v' ∧ B = A) v A := FK.mk h (AO.le.refl _) ⟨rfl, rfl⟩
theorem FK.weak {v v' : AV} {A A' : AO} (h : Sub v v') (k : A'.le A) : FK (fun x B => x = v' ∧ B = A) v A' := FK.mk h k ⟨rfl, rfl⟩
theorem RK.get {rows : List (List AV)} {n : Nat} {i : Int} {K : List AV → Prop} (row : Nat → List AV) (h : ∀ k, k < n → rows[k]? = some (row k)) (h0 : 0 ≤ i) (h1 : i < n) (hk : K (row i.toNat)) : RK rows i K :=
  RK.mk i.toNat _ (by omega) (h _ (by omega)) hk
theorem Sub.eq {a b : AV} (h : a = b) : Sub a b := h ▸ Sub.refl a

theorem BK.dec {p : Prop} [Decidable p] {K : Bool → Prop} (h1 : p → K true) (h0 : ¬ p → K false) : BK (decide p) K :=
  BK.mk (fun h => h1 (of_decide_eq_true h)) (fun h => h0 (of_decide_eq_false h))
theorem BK.eq {α : Type} [BEq α] [LawfulBEq α] {a b : α} {K : Bool → Prop} (h1 : a = b → K true) (h0 : a ≠ b → K false) : BK (a == b) K :=
  BK.mk (fun h => h1 (eq_of_beq h)) (fun h => h0 (fun e => by subst e; simp at h))
theorem BK.ne {α : Type} [BEq α] [LawfulBEq α] {a b : α} {K : Bool → Prop} (h1 : a ≠ b → K true) (h0 : a = b → K false) : BK (a != b) K :=
  BK.mk (fun h => h1 (fun e => by subst e; simp at h)) (fun h => h0 (by simpa using h))
theorem CK.bool {P : Program} {f : FuncId} {args args' : List AV} {A : AO} {b : Bool} {K : AV → AO → Prop} (e : Ent P f) (h : PSpec P f args' (.bool b)) (hs : Subs args args') (k1 : b = true → K (.bool true) A) (k0 : b = false → K (.bool false) A) : CK P f args A K :=
  CK.pure e h hs (by cases b; exact k0 rfl; exact k1 rfl)
theorem PK.bool {P : Program} {f : FuncId} {args args' : List AV} {b : Bool} {K : AV → Prop} (e : Ent P f) (h : PSpec P f args' (.bool b)) (hs : Subs args args') (k1 : b = true → K (.bool true)) (k0 : b = false → K (.bool false)) : PK P f args K :=
  PK.mk e h hs (by cases b; exact k0 rfl; exact k1 rfl)
theorem CK.dec {P : Program} {f : FuncId} {args args' : List AV} {A : AO} {p : Prop} [Decidable p] {K : AV → AO → Prop} (e : Ent P f) (h : PSpec P f args' (.bool (decide p))) (hs : Subs args args') (k1 : p → K (.bool true) A) (k0 : ¬ p → K (.bool false) A) : CK P f args A K :=
  CK.bool e h hs (fun h => k1 (of_decide_eq_true h)) (fun h => k0 (of_decide_eq_false h))
theorem PK.dec {P : Program} {f : FuncId} {args args' : List AV} {p : Prop} [Decidable p] {K : AV → Prop} (e : Ent P f) (h : PSpec P f args' (.bool (decide p))) (hs : Subs args args') (k1 : p → K (.bool true)) (k0 : ¬ p → K (.bool false)) : PK P f args K :=
  PK.bool e h hs (fun h => k1 (of_decide_eq_true h)) (fun h => k0 (of_decide_eq_false h))
theorem b_eq {b b' : Bool} (h : b = b') : AV.bool b = AV.bool b' := h ▸ rfl

/-! ### The program's data -/
abbrev Str := List UInt8
def strs (l : List Str) : AV := .sl 1 l.length (l.map fun s => [.str s])
def ints (l : List Int) : AV := .sl 1 l.length (l.map fun n => [.int .i64 n])
structure Pt where
  X : Int
  Y : Int
  deriving DecidableEq
def Pt.c (p : Pt) : List AV := [.int .i64 p.X, .int .i64 p.Y]
structure Tg where
  Key : Str
  Val : Str
  deriving DecidableEq
def Tg.c (t : Tg) : List AV := [.str t.Key, .str t.Val]
structure Ob where
  Id : Str
  Kind : Int
  At : Pt
  Refs : List Str
  Tags : List Tg
  deriving DecidableEq
def pts (l : List Pt) : AV := .sl 2 l.length (l.map Pt.c)
def tgs (l : List Tg) : AV := .sl 2 l.length (l.map Tg.c)
def Ob.c (o : Ob) : List AV := [.str o.Id, .int .i64 o.Kind, .int .i64 o.At.X, .int .i64 o.At.Y, strs o.Refs, tgs o.Tags]
structure Ed where
  Op : Int
  Id : Str
  Other : Str
  Node : Str
  At : Pt
  Key : Str
  Val : Str
  Refs : List Str
  Object : Ob
  deriving DecidableEq
def Ed.c (e : Ed) : List AV := [.int .i64 e.Op, .str e.Id, .str e.Other, .str e.Node, .int .i64 e.At.X, .int .i64 e.At.Y, .str e.Key, .str e.Val, strs e.Refs, .str e.Object.Id, .int .i64 e.Object.Kind, .int .i64 e.Object.At.X, .int .i64 e.Object.At.Y, strs e.Object.Refs, tgs e.Object.Tags]
def eds (l : List Ed) : AV := .sl 15 l.length (l.map Ed.c)
structure Se where
  Index : Int
  Sig : List Str
  Path : List Str
  deriving DecidableEq
def Se.c (s : Se) : List AV := [.int .i64 s.Index, strs s.Sig, strs s.Path]
structure Pv where
  Name : Str
  Reason : Str
  Sources : List Str
  Trace : List Pt
  Seal : Se
  deriving DecidableEq
def Pv.c (p : Pv) : List AV := [.str p.Name, .str p.Reason, strs p.Sources, pts p.Trace, .int .i64 p.Seal.Index, strs p.Seal.Sig, strs p.Seal.Path]
structure Rc where
  Kind : Int
  Author : Int
  Number : Int
  Clock : Int
  Branch : Str
  Parents : List Str
  Edits : List Ed
  Target : Str
  Yes : Bool
  Order : Int
  From : Str
  Seal : Se
  Private : Pv
  deriving DecidableEq
def Rc.c (r : Rc) : List AV := [.int .i64 r.Kind, .int .i64 r.Author, .int .i64 r.Number, .int .i64 r.Clock, .str r.Branch, strs r.Parents, eds r.Edits, .str r.Target, .bool r.Yes, .int .i64 r.Order, .str r.From,
  .int .i64 r.Seal.Index, strs r.Seal.Sig, strs r.Seal.Path,
  .str r.Private.Name, .str r.Private.Reason, strs r.Private.Sources, pts r.Private.Trace, .int .i64 r.Private.Seal.Index, strs r.Private.Seal.Sig, strs r.Private.Seal.Path]
def rcs (l : List Rc) : AV := .sl 21 l.length (l.map Rc.c)

/-- What comes in is not too long to be counted. -/
def SW (l : List Str) : Prop := l.length ≤ 140737488355328 ∧ ∀ s ∈ l, s.length ≤ 140737488355328
abbrev BL (n : Nat) : Prop := n ≤ 140737488355328
structure Ob.wf (o : Ob) : Prop where
  id : BL o.Id.length
  refs : SW o.Refs
  tags : BL o.Tags.length
  tag : ∀ t ∈ o.Tags, BL t.Key.length ∧ BL t.Val.length
structure Ed.wf (e : Ed) : Prop where
  id : BL e.Id.length
  other : BL e.Other.length
  node : BL e.Node.length
  key : BL e.Key.length
  val : BL e.Val.length
  refs : SW e.Refs
  obj : e.Object.wf
structure Se.wf (s : Se) : Prop where
  sig : SW s.Sig
  path : SW s.Path
structure Pv.wf (p : Pv) : Prop where
  name : BL p.Name.length
  reason : BL p.Reason.length
  sources : SW p.Sources
  trace : BL p.Trace.length
  se : p.Seal.wf
structure Rc.wf0 (r : Rc) : Prop where
  branch : BL r.Branch.length
  parents : SW r.Parents
  edits : BL r.Edits.length
  edit : ∀ e ∈ r.Edits, e.wf
  target : BL r.Target.length
  from_ : BL r.From.length
  se : r.Seal.wf
  pv : r.Private.wf
/-- With few parents. -/
structure Rc.wf (r : Rc) : Prop extends r.wf0 where
  pars : r.Parents.length ≤ 8796093022208
structure LW0 (l : List Rc) : Prop where
  len : BL l.length
  one : ∀ r ∈ l, r.wf0
structure LW (l : List Rc) : Prop where
  len : BL l.length
  one : ∀ r ∈ l, r.wf

theorem map_get {α : Type} {l : List α} {f : α → List AV} {k : Nat} (h : k < l.length) : (l.map f)[k]? = some (f l[k]) := by simp [h]
/-- A length that fits. -/
abbrev B63 (n : Nat) : Prop := n ≤ 9223372036854775807
end Ab
end Go.Proofs.YtpmigkbcldffeaaGreatDoor

/- Functions with a text of their own. -/
namespace Go.Proofs.YtpmigkbcldffeaaGreatDoor
namespace Ab
theorem ent3 : Ent Tryz.prog 3 := ent Tryz.func3 (by kernel_rfl) rfl
theorem ent4 : Ent Tryz.prog 4 := ent Tryz.func4 (by kernel_rfl) rfl
theorem ent5 : Ent Tryz.prog 5 := ent Tryz.func5 (by kernel_rfl) rfl
theorem ent6 : Ent Tryz.prog 6 := ent Tryz.func6 (by kernel_rfl) rfl
theorem ent7 : Ent Tryz.prog 7 := ent Tryz.func7 (by kernel_rfl) rfl
theorem ent8 : Ent Tryz.prog 8 := ent Tryz.func8 (by kernel_rfl) rfl
theorem ent9 : Ent Tryz.prog 9 := ent Tryz.func9 (by kernel_rfl) rfl
theorem ent10 : Ent Tryz.prog 10 := ent Tryz.func10 (by kernel_rfl) rfl
theorem ent11 : Ent Tryz.prog 11 := ent Tryz.func11 (by kernel_rfl) rfl
theorem ent12 : Ent Tryz.prog 12 := ent Tryz.func12 (by kernel_rfl) rfl
theorem ent13 : Ent Tryz.prog 13 := ent Tryz.func13 (by kernel_rfl) rfl
theorem ent14 : Ent Tryz.prog 14 := ent Tryz.func14 (by kernel_rfl) rfl
theorem ent15 : Ent Tryz.prog 15 := ent Tryz.func15 (by kernel_rfl) rfl
theorem ent16 : Ent Tryz.prog 16 := ent Tryz.func16 (by kernel_rfl) rfl
theorem ent17 : Ent Tryz.prog 17 := ent Tryz.func17 (by kernel_rfl) rfl
theorem ent18 : Ent Tryz.prog 18 := ent Tryz.func18 (by kernel_rfl) rfl
theorem ent19 : Ent Tryz.prog 19 := ent Tryz.func19 (by kernel_rfl) rfl
theorem ent20 : Ent Tryz.prog 20 := ent Tryz.func20 (by kernel_rfl) rfl
theorem ent21 : Ent Tryz.prog 21 := ent Tryz.func21 (by kernel_rfl) rfl
theorem ent22 : Ent Tryz.prog 22 := ent Tryz.func22 (by kernel_rfl) rfl
theorem ent23 : Ent Tryz.prog 23 := ent Tryz.func23 (by kernel_rfl) rfl
theorem ent24 : Ent Tryz.prog 24 := ent Tryz.func24 (by kernel_rfl) rfl
theorem ent25 : Ent Tryz.prog 25 := ent Tryz.func25 (by kernel_rfl) rfl
theorem ent26 : Ent Tryz.prog 26 := ent Tryz.func26 (by kernel_rfl) rfl
theorem ent27 : Ent Tryz.prog 27 := ent Tryz.func27 (by kernel_rfl) rfl
theorem ent28 : Ent Tryz.prog 28 := ent Tryz.func28 (by kernel_rfl) rfl
theorem ent29 : Ent Tryz.prog 29 := ent Tryz.func29 (by kernel_rfl) rfl
theorem ent30 : Ent Tryz.prog 30 := ent Tryz.func30 (by kernel_rfl) rfl
theorem ent31 : Ent Tryz.prog 31 := ent Tryz.func31 (by kernel_rfl) rfl
theorem ent32 : Ent Tryz.prog 32 := ent Tryz.func32 (by kernel_rfl) rfl
theorem ent33 : Ent Tryz.prog 33 := ent Tryz.func33 (by kernel_rfl) rfl
theorem ent34 : Ent Tryz.prog 34 := ent Tryz.func34 (by kernel_rfl) rfl
theorem ent35 : Ent Tryz.prog 35 := ent Tryz.func35 (by kernel_rfl) rfl
theorem ent36 : Ent Tryz.prog 36 := ent Tryz.func36 (by kernel_rfl) rfl
theorem ent37 : Ent Tryz.prog 37 := ent Tryz.func37 (by kernel_rfl) rfl
theorem ent38 : Ent Tryz.prog 38 := ent Tryz.func38 (by kernel_rfl) rfl
theorem ent39 : Ent Tryz.prog 39 := ent Tryz.func39 (by kernel_rfl) rfl
theorem ent40 : Ent Tryz.prog 40 := ent Tryz.func40 (by kernel_rfl) rfl
theorem ent41 : Ent Tryz.prog 41 := ent Tryz.func41 (by kernel_rfl) rfl
theorem ent42 : Ent Tryz.prog 42 := ent Tryz.func42 (by kernel_rfl) rfl
theorem ent43 : Ent Tryz.prog 43 := ent Tryz.func43 (by kernel_rfl) rfl
theorem ent44 : Ent Tryz.prog 44 := ent Tryz.func44 (by kernel_rfl) rfl
theorem ent45 : Ent Tryz.prog 45 := ent Tryz.func45 (by kernel_rfl) rfl
theorem ent46 : Ent Tryz.prog 46 := ent Tryz.func46 (by kernel_rfl) rfl
theorem ent47 : Ent Tryz.prog 47 := ent Tryz.func47 (by kernel_rfl) rfl
theorem ent48 : Ent Tryz.prog 48 := ent Tryz.func48 (by kernel_rfl) rfl
theorem ent49 : Ent Tryz.prog 49 := ent Tryz.func49 (by kernel_rfl) rfl
theorem ent50 : Ent Tryz.prog 50 := ent Tryz.func50 (by kernel_rfl) rfl
theorem ent51 : Ent Tryz.prog 51 := ent Tryz.func51 (by kernel_rfl) rfl
theorem ent52 : Ent Tryz.prog 52 := ent Tryz.func52 (by kernel_rfl) rfl
theorem ent53 : Ent Tryz.prog 53 := ent Tryz.func53 (by kernel_rfl) rfl
theorem ent54 : Ent Tryz.prog 54 := ent Tryz.func54 (by kernel_rfl) rfl
theorem ent55 : Ent Tryz.prog 55 := ent Tryz.func55 (by kernel_rfl) rfl
theorem ent56 : Ent Tryz.prog 56 := ent Tryz.func56 (by kernel_rfl) rfl
theorem ent57 : Ent Tryz.prog 57 := ent Tryz.func57 (by kernel_rfl) rfl
theorem ent58 : Ent Tryz.prog 58 := ent Tryz.func58 (by kernel_rfl) rfl
theorem ent59 : Ent Tryz.prog 59 := ent Tryz.func59 (by kernel_rfl) rfl
theorem ent60 : Ent Tryz.prog 60 := ent Tryz.func60 (by kernel_rfl) rfl
theorem ent61 : Ent Tryz.prog 61 := ent Tryz.func61 (by kernel_rfl) rfl
theorem ent62 : Ent Tryz.prog 62 := ent Tryz.func62 (by kernel_rfl) rfl
theorem ent63 : Ent Tryz.prog 63 := ent Tryz.func63 (by kernel_rfl) rfl
theorem ent64 : Ent Tryz.prog 64 := ent Tryz.func64 (by kernel_rfl) rfl
theorem ent65 : Ent Tryz.prog 65 := ent Tryz.func65 (by kernel_rfl) rfl
theorem ent66 : Ent Tryz.prog 66 := ent Tryz.func66 (by kernel_rfl) rfl
theorem ent67 : Ent Tryz.prog 67 := ent Tryz.func67 (by kernel_rfl) rfl
theorem ent68 : Ent Tryz.prog 68 := ent Tryz.func68 (by kernel_rfl) rfl
theorem ent69 : Ent Tryz.prog 69 := ent Tryz.func69 (by kernel_rfl) rfl
theorem ent70 : Ent Tryz.prog 70 := ent Tryz.func70 (by kernel_rfl) rfl
theorem ent71 : Ent Tryz.prog 71 := ent Tryz.func71 (by kernel_rfl) rfl
theorem ent72 : Ent Tryz.prog 72 := ent Tryz.func72 (by kernel_rfl) rfl
theorem ent73 : Ent Tryz.prog 73 := ent Tryz.func73 (by kernel_rfl) rfl
theorem ent74 : Ent Tryz.prog 74 := ent Tryz.func74 (by kernel_rfl) rfl
theorem ent75 : Ent Tryz.prog 75 := ent Tryz.func75 (by kernel_rfl) rfl
theorem ent76 : Ent Tryz.prog 76 := ent Tryz.func76 (by kernel_rfl) rfl
theorem ent77 : Ent Tryz.prog 77 := ent Tryz.func77 (by kernel_rfl) rfl
theorem ent78 : Ent Tryz.prog 78 := ent Tryz.func78 (by kernel_rfl) rfl
theorem ent79 : Ent Tryz.prog 79 := ent Tryz.func79 (by kernel_rfl) rfl
theorem ent80 : Ent Tryz.prog 80 := ent Tryz.func80 (by kernel_rfl) rfl
theorem ent81 : Ent Tryz.prog 81 := ent Tryz.func81 (by kernel_rfl) rfl
theorem ent82 : Ent Tryz.prog 82 := ent Tryz.func82 (by kernel_rfl) rfl
theorem ent83 : Ent Tryz.prog 83 := ent Tryz.func83 (by kernel_rfl) rfl
theorem ent84 : Ent Tryz.prog 84 := ent Tryz.func84 (by kernel_rfl) rfl
theorem ent85 : Ent Tryz.prog 85 := ent Tryz.func85 (by kernel_rfl) rfl
theorem ent86 : Ent Tryz.prog 86 := ent Tryz.func86 (by kernel_rfl) rfl
theorem ent87 : Ent Tryz.prog 87 := ent Tryz.func87 (by kernel_rfl) rfl
theorem ent88 : Ent Tryz.prog 88 := ent Tryz.func88 (by kernel_rfl) rfl
theorem ent89 : Ent Tryz.prog 89 := ent Tryz.func89 (by kernel_rfl) rfl
theorem ent90 : Ent Tryz.prog 90 := ent Tryz.func90 (by kernel_rfl) rfl
theorem ent91 : Ent Tryz.prog 91 := ent Tryz.func91 (by kernel_rfl) rfl
theorem ent92 : Ent Tryz.prog 92 := ent Tryz.func92 (by kernel_rfl) rfl
theorem ent93 : Ent Tryz.prog 93 := ent Tryz.func93 (by kernel_rfl) rfl
theorem ent94 : Ent Tryz.prog 94 := ent Tryz.func94 (by kernel_rfl) rfl
theorem ent95 : Ent Tryz.prog 95 := ent Tryz.func95 (by kernel_rfl) rfl
theorem ent96 : Ent Tryz.prog 96 := ent Tryz.func96 (by kernel_rfl) rfl
theorem ent97 : Ent Tryz.prog 97 := ent Tryz.func97 (by kernel_rfl) rfl
theorem ent98 : Ent Tryz.prog 98 := ent Tryz.func98 (by kernel_rfl) rfl
theorem ent99 : Ent Tryz.prog 99 := ent Tryz.func99 (by kernel_rfl) rfl
theorem ent100 : Ent Tryz.prog 100 := ent Tryz.func100 (by kernel_rfl) rfl
theorem ent101 : Ent Tryz.prog 101 := ent Tryz.func101 (by kernel_rfl) rfl
theorem ent102 : Ent Tryz.prog 102 := ent Tryz.func102 (by kernel_rfl) rfl
theorem ent103 : Ent Tryz.prog 103 := ent Tryz.func103 (by kernel_rfl) rfl
theorem ent104 : Ent Tryz.prog 104 := ent Tryz.func104 (by kernel_rfl) rfl
theorem ent105 : Ent Tryz.prog 105 := ent Tryz.func105 (by kernel_rfl) rfl
theorem ent107 : Ent Tryz.prog 107 := ent Tryz.func107 (by kernel_rfl) rfl
theorem ent108 : Ent Tryz.prog 108 := ent Tryz.func108 (by kernel_rfl) rfl
theorem ent109 : Ent Tryz.prog 109 := ent Tryz.func109 (by kernel_rfl) rfl
theorem ent110 : Ent Tryz.prog 110 := ent Tryz.func110 (by kernel_rfl) rfl
theorem ent111 : Ent Tryz.prog 111 := ent Tryz.func111 (by kernel_rfl) rfl
theorem ent112 : Ent Tryz.prog 112 := ent Tryz.func112 (by kernel_rfl) rfl
theorem ent113 : Ent Tryz.prog 113 := ent Tryz.func113 (by kernel_rfl) rfl
theorem ent114 : Ent Tryz.prog 114 := ent Tryz.func114 (by kernel_rfl) rfl
theorem ent115 : Ent Tryz.prog 115 := ent Tryz.func115 (by kernel_rfl) rfl
theorem ent116 : Ent Tryz.prog 116 := ent Tryz.func116 (by kernel_rfl) rfl
theorem ent117 : Ent Tryz.prog 117 := ent Tryz.func117 (by kernel_rfl) rfl
theorem ent118 : Ent Tryz.prog 118 := ent Tryz.func118 (by kernel_rfl) rfl
theorem ent119 : Ent Tryz.prog 119 := ent Tryz.func119 (by kernel_rfl) rfl
theorem ent120 : Ent Tryz.prog 120 := ent Tryz.func120 (by kernel_rfl) rfl
theorem ent121 : Ent Tryz.prog 121 := ent Tryz.func121 (by kernel_rfl) rfl
theorem ent122 : Ent Tryz.prog 122 := ent Tryz.func122 (by kernel_rfl) rfl
theorem ent123 : Ent Tryz.prog 123 := ent Tryz.func123 (by kernel_rfl) rfl
theorem ent124 : Ent Tryz.prog 124 := ent Tryz.func124 (by kernel_rfl) rfl
theorem ent125 : Ent Tryz.prog 125 := ent Tryz.func125 (by kernel_rfl) rfl
theorem ent126 : Ent Tryz.prog 126 := ent Tryz.func126 (by kernel_rfl) rfl
theorem ent127 : Ent Tryz.prog 127 := ent Tryz.func127 (by kernel_rfl) rfl
theorem ent128 : Ent Tryz.prog 128 := ent Tryz.func128 (by kernel_rfl) rfl
theorem ent129 : Ent Tryz.prog 129 := ent Tryz.func129 (by kernel_rfl) rfl
theorem ent130 : Ent Tryz.prog 130 := ent Tryz.func130 (by kernel_rfl) rfl
theorem ent131 : Ent Tryz.prog 131 := ent Tryz.func131 (by kernel_rfl) rfl
theorem ent132 : Ent Tryz.prog 132 := ent Tryz.func132 (by kernel_rfl) rfl
theorem ent133 : Ent Tryz.prog 133 := ent Tryz.func133 (by kernel_rfl) rfl
theorem ent135 : Ent Tryz.prog 135 := ent Tryz.func135 (by kernel_rfl) rfl
theorem ent136 : Ent Tryz.prog 136 := ent Tryz.func136 (by kernel_rfl) rfl
theorem ent137 : Ent Tryz.prog 137 := ent Tryz.func137 (by kernel_rfl) rfl
theorem ent138 : Ent Tryz.prog 138 := ent Tryz.func138 (by kernel_rfl) rfl
theorem ent139 : Ent Tryz.prog 139 := ent Tryz.func139 (by kernel_rfl) rfl
theorem ent140 : Ent Tryz.prog 140 := ent Tryz.func140 (by kernel_rfl) rfl
theorem ent141 : Ent Tryz.prog 141 := ent Tryz.func141 (by kernel_rfl) rfl
theorem ent142 : Ent Tryz.prog 142 := ent Tryz.func142 (by kernel_rfl) rfl
theorem ent143 : Ent Tryz.prog 143 := ent Tryz.func143 (by kernel_rfl) rfl
theorem ent144 : Ent Tryz.prog 144 := ent Tryz.func144 (by kernel_rfl) rfl
theorem ent145 : Ent Tryz.prog 145 := ent Tryz.func145 (by kernel_rfl) rfl
theorem ent146 : Ent Tryz.prog 146 := ent Tryz.func146 (by kernel_rfl) rfl
theorem ent147 : Ent Tryz.prog 147 := ent Tryz.func147 (by kernel_rfl) rfl
theorem ent148 : Ent Tryz.prog 148 := ent Tryz.func148 (by kernel_rfl) rfl
theorem ent149 : Ent Tryz.prog 149 := ent Tryz.func149 (by kernel_rfl) rfl
theorem ent150 : Ent Tryz.prog 150 := ent Tryz.func150 (by kernel_rfl) rfl
theorem ent151 : Ent Tryz.prog 151 := ent Tryz.func151 (by kernel_rfl) rfl
theorem ent152 : Ent Tryz.prog 152 := ent Tryz.func152 (by kernel_rfl) rfl
theorem ent153 : Ent Tryz.prog 153 := ent Tryz.func153 (by kernel_rfl) rfl
theorem ent154 : Ent Tryz.prog 154 := ent Tryz.func154 (by kernel_rfl) rfl
theorem ent155 : Ent Tryz.prog 155 := ent Tryz.func155 (by kernel_rfl) rfl
theorem ent156 : Ent Tryz.prog 156 := ent Tryz.func156 (by kernel_rfl) rfl
theorem ent157 : Ent Tryz.prog 157 := ent Tryz.func157 (by kernel_rfl) rfl
theorem ent158 : Ent Tryz.prog 158 := ent Tryz.func158 (by kernel_rfl) rfl
theorem ent159 : Ent Tryz.prog 159 := ent Tryz.func159 (by kernel_rfl) rfl
theorem ent160 : Ent Tryz.prog 160 := ent Tryz.func160 (by kernel_rfl) rfl
theorem ent161 : Ent Tryz.prog 161 := ent Tryz.func161 (by kernel_rfl) rfl
theorem ent162 : Ent Tryz.prog 162 := ent Tryz.func162 (by kernel_rfl) rfl
theorem ent163 : Ent Tryz.prog 163 := ent Tryz.func163 (by kernel_rfl) rfl
theorem ent164 : Ent Tryz.prog 164 := ent Tryz.func164 (by kernel_rfl) rfl
theorem ent166 : Ent Tryz.prog 166 := ent Tryz.func166 (by kernel_rfl) rfl
theorem ent167 : Ent Tryz.prog 167 := ent Tryz.func167 (by kernel_rfl) rfl
theorem ent168 : Ent Tryz.prog 168 := ent Tryz.func168 (by kernel_rfl) rfl
theorem ent194 : Ent Tryz.prog 194 := ent Tryz.func194 (by kernel_rfl) rfl
end Ab
end Go.Proofs.YtpmigkbcldffeaaGreatDoor

/- Equality: the program's own functions and the references'. -/
namespace Go.Proofs.YtpmigkbcldffeaaGreatDoor
namespace Ab
set_option maxRecDepth 10000
theorem take_succ_eq {α : Type} {a b : List α} {k : Nat} (ha : k < a.length) (hb : k < b.length) (h : a.take k = b.take k) (e : a[k] = b[k]) : a.take (k + 1) = b.take (k + 1) := by
  rw [List.take_succ_eq_append_getElem ha, List.take_succ_eq_append_getElem hb, h, e]
theorem all_range_succ {p : Nat → Bool} {k : Nat} (h : (List.range k).all p = true) (hp : p k = true) : (List.range (k + 1)).all p = true := by
  rw [List.range_succ, List.all_append, h]; simp [hp]
theorem all_range_no {p : Nat → Bool} {k n : Nat} (hk : k < n) (hp : p k = false) : (List.range n).all p = false := by
  rw [List.all_eq_false]; exact ⟨k, List.mem_range.2 hk, by simp [hp]⟩

theorem eqStrs (a b : List Str) (ha : BL a.length) : PSpec Tryz.prog 159 [strs a, strs b] (.bool (decide (a = b))) := by
  refine PSpec.by Tryz.func159 rfl Tryz.ntmps159 [] rfl fun A => ?_
  (conv => whnf)
  (first | (refine BK.dec (fun h => ?_) (fun h => ?_)) | (refine BK.ne (fun h => ?_) (fun h => ?_)) | (refine BK.eq (fun h => ?_) (fun h => ?_)) | (refine BK.mk (fun h => ?_) (fun h => ?_)) | (refine IK.in64 (by first | omega | (dsimp only; omega)) (by first | omega | (dsimp only; omega)) ?_) | (refine NK.mk (by kernel_rfl) ?_)) <;> (conv => whnf)
  · exact FK.eq (b_eq (by simp; rintro rfl; simp at h))
  · have hl : a.length = b.length := by omega
    refine LK.mk (ι := {k : Nat // k ≤ a.length ∧ a.take k = b.take k}) (fun k => [(0, .v (strs a)), (1, .v (strs b)), (12, .v (.int .i64 a.length)), (13, .v (.int .i64 k.1))]) (fun _ => []) (fun _ => A) (fun k => a.length - k.1) ⟨0, by simp⟩ ?_ ?_
    · exact ⟨⟨Sub.refl _, Sub.refl _, Sub.refl _, Sub.refl _, trivial⟩, trivial, AO.le.refl _⟩
    · rintro ⟨k, hk, he⟩
      (conv => whnf)
      (first | (refine BK.dec (fun h => ?_) (fun h => ?_)) | (refine BK.ne (fun h => ?_) (fun h => ?_)) | (refine BK.eq (fun h => ?_) (fun h => ?_)) | (refine BK.mk (fun h => ?_) (fun h => ?_)) | (refine IK.in64 (by first | omega | (dsimp only; omega)) (by first | omega | (dsimp only; omega)) ?_) | (refine NK.mk (by kernel_rfl) ?_)) <;> (conv => whnf)
      · have hk' : k < a.length := by simpa using h
        refine RK.mk k _ rfl (map_get hk') ?_
        (conv => whnf)
        refine RK.mk k _ rfl (map_get (by omega : k < b.length)) ?_
        (conv => whnf)
        repeat' ((first | (refine BK.dec (fun h => ?_) (fun h => ?_)) | (refine BK.ne (fun h => ?_) (fun h => ?_)) | (refine BK.eq (fun h => ?_) (fun h => ?_)) | (refine BK.mk (fun h => ?_) (fun h => ?_)) | (refine IK.in64 (by first | omega | (dsimp only; omega)) (by first | omega | (dsimp only; omega)) ?_) | (refine NK.mk (by kernel_rfl) ?_)) <;> (conv => whnf))
        · refine FK.eq (b_eq ?_)
          simp; rintro rfl; simp at *
        · rename_i h
          exact ⟨⟨k + 1, hk', take_succ_eq hk' (by omega) he h⟩, ⟨⟨Sub.refl _, Sub.refl _, Sub.refl _, Sub.refl _, trivial⟩, trivial, AO.le.refl _⟩, by simp; omega⟩
      · have hk' : k = a.length := by simp at h; omega
        refine FK.eq (b_eq ?_)
        subst hk'
        rw [hl, List.take_length, ← hl, List.take_length] at he
        simp [he]

theorem eqTgs (a b : List Tg) (ha : BL a.length) : PSpec Tryz.prog 168 [tgs a, tgs b] (.bool (decide (a = b))) := by
  refine PSpec.by Tryz.func168 rfl Tryz.ntmps168 [] rfl fun A => ?_
  (conv => whnf)
  (first | (refine BK.dec (fun h => ?_) (fun h => ?_)) | (refine BK.ne (fun h => ?_) (fun h => ?_)) | (refine BK.eq (fun h => ?_) (fun h => ?_)) | (refine BK.mk (fun h => ?_) (fun h => ?_)) | (refine IK.in64 (by first | omega | (dsimp only; omega)) (by first | omega | (dsimp only; omega)) ?_) | (refine NK.mk (by kernel_rfl) ?_)) <;> (conv => whnf)
  · exact FK.eq (b_eq (by simp; rintro rfl; simp at h))
  · have hl : a.length = b.length := by omega
    refine LK.mk (ι := {k : Nat // k ≤ a.length ∧ a.take k = b.take k}) (fun k => [(0, .v (tgs a)), (1, .v (tgs b)), (12, .v (.int .i64 a.length)), (13, .v (.int .i64 k.1))]) (fun _ => []) (fun _ => A) (fun k => a.length - k.1) ⟨0, by simp⟩ ?_ ?_
    · exact ⟨⟨Sub.refl _, Sub.refl _, Sub.refl _, Sub.refl _, trivial⟩, trivial, AO.le.refl _⟩
    · rintro ⟨k, hk, he⟩
      (conv => whnf)
      (first | (refine BK.dec (fun h => ?_) (fun h => ?_)) | (refine BK.ne (fun h => ?_) (fun h => ?_)) | (refine BK.eq (fun h => ?_) (fun h => ?_)) | (refine BK.mk (fun h => ?_) (fun h => ?_)) | (refine IK.in64 (by first | omega | (dsimp only; omega)) (by first | omega | (dsimp only; omega)) ?_) | (refine NK.mk (by kernel_rfl) ?_)) <;> (conv => whnf)
      · have hk' : k < a.length := by simpa using h
        refine RK.mk k _ rfl (map_get hk') ?_
        (conv => whnf)
        refine RK.mk k _ rfl (map_get (by omega : k < b.length)) ?_
        (conv => whnf)
        repeat' ((first | (refine BK.dec (fun h => ?_) (fun h => ?_)) | (refine BK.ne (fun h => ?_) (fun h => ?_)) | (refine BK.eq (fun h => ?_) (fun h => ?_)) | (refine BK.mk (fun h => ?_) (fun h => ?_)) | (refine IK.in64 (by first | omega | (dsimp only; omega)) (by first | omega | (dsimp only; omega)) ?_) | (refine NK.mk (by kernel_rfl) ?_)) <;> (conv => whnf))
        · rename_i h
          have e : a[k] = b[k] := by
            generalize a[k] = x at h ⊢
            generalize b[k] = y at h ⊢
            cases x; cases y; simpa [bne] using h
          exact ⟨⟨k + 1, hk', take_succ_eq hk' (by omega) he e⟩, ⟨⟨Sub.refl _, Sub.refl _, Sub.refl _, Sub.refl _, trivial⟩, trivial, AO.le.refl _⟩, by simp; omega⟩
        · refine FK.eq (b_eq ?_)
          simp; rintro rfl; simp at *
      · have hk' : k = a.length := by simp at h; omega
        refine FK.eq (b_eq ?_)
        subst hk'
        rw [hl, List.take_length, ← hl, List.take_length] at he
        simp [he]
end Ab
end Go.Proofs.YtpmigkbcldffeaaGreatDoor

/- Equality: seals, private parts, objects, edits, records. -/
namespace Go.Proofs.YtpmigkbcldffeaaGreatDoor
namespace Ab
set_option maxRecDepth 10000
theorem Pt.eq_iff {a b : Pt} : a = b ↔ a.X = b.X ∧ a.Y = b.Y := by cases a; cases b; simp
theorem Tg.eq_iff {a b : Tg} : a = b ↔ a.Key = b.Key ∧ a.Val = b.Val := by cases a; cases b; simp
theorem Ob.eq_iff {a b : Ob} : a = b ↔ a.Id = b.Id ∧ a.Kind = b.Kind ∧ (a.At.X = b.At.X ∧ a.At.Y = b.At.Y) ∧ a.Refs = b.Refs ∧ a.Tags = b.Tags := by cases a; cases b; simp [Pt.eq_iff]
theorem Ed.eq_iff {a b : Ed} : a = b ↔ a.Op = b.Op ∧ a.Id = b.Id ∧ a.Other = b.Other ∧ a.Node = b.Node ∧ (a.At.X = b.At.X ∧ a.At.Y = b.At.Y) ∧ a.Key = b.Key ∧ a.Val = b.Val ∧ a.Refs = b.Refs ∧
    a.Object.Id = b.Object.Id ∧ a.Object.Kind = b.Object.Kind ∧ (a.Object.At.X = b.Object.At.X ∧ a.Object.At.Y = b.Object.At.Y) ∧ a.Object.Refs = b.Object.Refs ∧ a.Object.Tags = b.Object.Tags := by cases a; cases b; simp [Pt.eq_iff, Ob.eq_iff]
theorem Se.eq_iff {a b : Se} : a = b ↔ a.Index = b.Index ∧ a.Sig = b.Sig ∧ a.Path = b.Path := by cases a; cases b; simp
def Pv.same (a b : Pv) : Bool := decide (a.Name = b.Name) && decide (a.Reason = b.Reason) && decide (a.Sources = b.Sources) && decide (a.Trace = b.Trace)
/-- The public part. -/
def Rc.same (a b : Rc) : Bool := decide (a.Kind = b.Kind) && decide (a.Author = b.Author) && decide (a.Number = b.Number) && decide (a.Clock = b.Clock) && decide (a.Branch = b.Branch) && decide (a.Parents = b.Parents) && decide (a.Edits = b.Edits) &&
  decide (a.Target = b.Target) && decide (a.Yes = b.Yes) && decide (a.Order = b.Order) && decide (a.From = b.From)
theorem Rc.eq_iff {a b : Rc} : a = b ↔ (a.Kind = b.Kind ∧ a.Author = b.Author ∧ a.Number = b.Number ∧ a.Clock = b.Clock ∧ a.Branch = b.Branch ∧ a.Parents = b.Parents ∧ a.Edits = b.Edits ∧ a.Target = b.Target ∧ a.Yes = b.Yes ∧ a.Order = b.Order ∧ a.From = b.From) ∧
    a.Seal = b.Seal ∧ (a.Private.Name = b.Private.Name ∧ a.Private.Reason = b.Private.Reason ∧ a.Private.Sources = b.Private.Sources ∧ a.Private.Trace = b.Private.Trace) ∧ a.Private.Seal = b.Private.Seal := by
  cases a with | mk _ _ _ _ _ _ _ _ _ _ _ _ p => cases b with | mk _ _ _ _ _ _ _ _ _ _ _ _ q => cases p; cases q; simp; constructor <;> (intro h; simp [h])

end Ab
end Go.Proofs.YtpmigkbcldffeaaGreatDoor

/- Equality, continued: the references' functions with loops of their own. -/
namespace Go.Proofs.YtpmigkbcldffeaaGreatDoor
namespace Ab
set_option maxRecDepth 10000
theorem take_all {α : Type} {a b : List α} {k : Nat} (h : a.take k = b.take k) (ha : a.length = k) (hb : b.length = k) : a = b := by
  rw [List.take_of_length_le (by omega), List.take_of_length_le (by omega)] at h; exact h
theorem objSame (a b : Ob) (ha : a.wf) : PSpec Tryz.prog 160 [.agg a.c, .agg b.c] (.bool (decide (a = b))) := by
  have h1 := ha.refs.1
  have h2 := ha.tags
  refine PSpec.by Tryz.func160 rfl Tryz.ntmps160 [] rfl fun A => ?_
  (conv => whnf)
  repeat' ((first | (refine BK.dec (fun h => ?_) (fun h => ?_)) | (refine BK.ne (fun h => ?_) (fun h => ?_)) | (refine BK.eq (fun h => ?_) (fun h => ?_)) | (refine BK.mk (fun h => ?_) (fun h => ?_)) | (refine IK.in64 (by first | omega | (dsimp only; omega)) (by first | omega | (dsimp only; omega)) ?_) | (refine NK.mk (by kernel_rfl) ?_) | (refine CK.dec ent159 (eqStrs _ _ (by assumption)) (Subs.refl _) (fun h => ?_) (fun h => ?_)) | (refine CK.dec ent168 (eqTgs _ _ (by assumption)) (Subs.refl _) (fun h => ?_) (fun h => ?_))) <;> (conv => whnf))
  all_goals (refine FK.eq (b_eq ?_); simp [Ob.eq_iff]; simp_all)
theorem edSame (a b : Ed) (ha : a.wf) : PSpec Tryz.prog 138 [.agg a.c, .agg b.c] (.bool (decide (a = b))) := by
  have h1 := ha.refs.1
  have h2 := ha.obj
  refine PSpec.by Tryz.func138 rfl Tryz.ntmps138 [] rfl fun A => ?_
  (conv => whnf)
  repeat' ((first | (refine BK.dec (fun h => ?_) (fun h => ?_)) | (refine BK.ne (fun h => ?_) (fun h => ?_)) | (refine BK.eq (fun h => ?_) (fun h => ?_)) | (refine BK.mk (fun h => ?_) (fun h => ?_)) | (refine IK.in64 (by first | omega | (dsimp only; omega)) (by first | omega | (dsimp only; omega)) ?_) | (refine NK.mk (by kernel_rfl) ?_) | (refine CK.dec ent159 (eqStrs _ _ (by assumption)) (Subs.refl _) (fun h => ?_) (fun h => ?_)) | (refine CK.dec ent160 (objSame a.Object b.Object (by assumption)) (Subs.refl _) (fun h => ?_) (fun h => ?_))) <;> (conv => whnf))
  all_goals (refine FK.eq (b_eq ?_); simp [Ed.eq_iff]; (try rw [Ob.eq_iff] at *); simp_all)
/-- An object of the references. -/
theorem refOb (a b : Ob) (ha : a.wf) : PSpec Tryz.prog 84 [.agg a.c, .agg b.c] (.bool (decide (a = b))) := by
  have h1 := ha.refs.1
  have h2 := ha.tags
  refine PSpec.by Tryz.func84 rfl Tryz.ntmps84 [] rfl fun A => ?_
  (conv => whnf)
  repeat' ((first | (refine BK.dec (fun h => ?_) (fun h => ?_)) | (refine BK.ne (fun h => ?_) (fun h => ?_)) | (refine BK.eq (fun h => ?_) (fun h => ?_)) | (refine BK.mk (fun h => ?_) (fun h => ?_)) | (refine IK.in64 (by first | omega | (dsimp only; omega)) (by first | omega | (dsimp only; omega)) ?_) | (refine NK.mk (by kernel_rfl) ?_)) <;> (conv => whnf))
  all_goals first
    | (refine FK.eq (b_eq ?_); simp; rintro rfl; simp_all; done)
    | skip
  have hl : a.Refs.length = b.Refs.length := by omega
  have hm : a.Tags.length = b.Tags.length := by omega
  refine LK.mk (ι := {k : Nat // k ≤ a.Refs.length ∧ a.Refs.take k = b.Refs.take k}) (fun k => [(2, .lp 0 0), (3, .lp 1 0), (5, .v (.int .i64 k.1))]) (fun _ => [a.c, b.c]) (fun _ => A) (fun k => a.Refs.length - k.1) ⟨0, by simp⟩ ?_ ?_
  · exact ⟨⟨⟨rfl, rfl, Nat.le_of_ble_eq_true rfl⟩, ⟨rfl, rfl, Nat.le_of_ble_eq_true rfl⟩, Sub.refl _, trivial⟩, ⟨Subs.refl _, Subs.refl _, trivial⟩, AO.le.refl _⟩
  · rintro ⟨k, hk, he⟩
    (conv => whnf)
    (first | (refine BK.dec (fun h => ?_) (fun h => ?_)) | (refine BK.ne (fun h => ?_) (fun h => ?_)) | (refine BK.eq (fun h => ?_) (fun h => ?_)) | (refine BK.mk (fun h => ?_) (fun h => ?_)) | (refine IK.in64 (by first | omega | (dsimp only; omega)) (by first | omega | (dsimp only; omega)) ?_) | (refine NK.mk (by kernel_rfl) ?_)) <;> (conv => whnf)
    · have hk' : k < a.Refs.length := by simpa using h
      refine RK.mk k _ rfl (map_get hk') ?_
      (conv => whnf)
      refine RK.mk k _ rfl (map_get (by omega : k < b.Refs.length)) ?_
      (conv => whnf)
      repeat' ((first | (refine BK.dec (fun h => ?_) (fun h => ?_)) | (refine BK.ne (fun h => ?_) (fun h => ?_)) | (refine BK.eq (fun h => ?_) (fun h => ?_)) | (refine BK.mk (fun h => ?_) (fun h => ?_)) | (refine IK.in64 (by first | omega | (dsimp only; omega)) (by first | omega | (dsimp only; omega)) ?_) | (refine NK.mk (by kernel_rfl) ?_)) <;> (conv => whnf))
      · refine FK.eq (b_eq ?_)
        simp; rintro rfl; simp_all
      · rename_i h
        exact ⟨⟨k + 1, hk', take_succ_eq hk' (by omega) he h⟩, ⟨⟨⟨rfl, rfl, Nat.le_of_ble_eq_true rfl⟩, ⟨rfl, rfl, Nat.le_of_ble_eq_true rfl⟩, Sub.refl _, trivial⟩, ⟨Subs.refl _, Subs.refl _, trivial⟩, AO.le.refl _⟩, by simp; omega⟩
    · have hk' : k = a.Refs.length := by simp at h; omega
      have hr : a.Refs = b.Refs := take_all he hk'.symm (by omega)
      refine LK.mk (ι := {k : Nat // k ≤ a.Tags.length ∧ a.Tags.take k = b.Tags.take k}) (fun k => [(2, .lp 0 0), (3, .lp 1 0), (6, .v (.int .i64 k.1))]) (fun _ => [a.c, b.c]) (fun _ => A) (fun k => a.Tags.length - k.1) ⟨0, by simp⟩ ?_ ?_
      · exact ⟨⟨⟨rfl, rfl, Nat.le_of_ble_eq_true rfl⟩, ⟨rfl, rfl, Nat.le_of_ble_eq_true rfl⟩, Sub.refl _, trivial⟩, ⟨Subs.refl _, Subs.refl _, trivial⟩, AO.le.refl _⟩
      · rintro ⟨k, hk, he⟩
        (conv => whnf)
        (first | (refine BK.dec (fun h => ?_) (fun h => ?_)) | (refine BK.ne (fun h => ?_) (fun h => ?_)) | (refine BK.eq (fun h => ?_) (fun h => ?_)) | (refine BK.mk (fun h => ?_) (fun h => ?_)) | (refine IK.in64 (by first | omega | (dsimp only; omega)) (by first | omega | (dsimp only; omega)) ?_) | (refine NK.mk (by kernel_rfl) ?_)) <;> (conv => whnf)
        · have hk' : k < a.Tags.length := by simpa using h
          refine RK.mk k _ rfl (map_get hk') ?_
          (conv => whnf)
          refine RK.mk k _ rfl (map_get (by omega : k < b.Tags.length)) ?_
          (conv => whnf)
          repeat' ((first | (refine BK.dec (fun h => ?_) (fun h => ?_)) | (refine BK.ne (fun h => ?_) (fun h => ?_)) | (refine BK.eq (fun h => ?_) (fun h => ?_)) | (refine BK.mk (fun h => ?_) (fun h => ?_)) | (refine IK.in64 (by first | omega | (dsimp only; omega)) (by first | omega | (dsimp only; omega)) ?_) | (refine NK.mk (by kernel_rfl) ?_)) <;> (conv => whnf))
          · rename_i h
            have e : a.Tags[k] = b.Tags[k] := by
              generalize a.Tags[k] = x at h ⊢
              generalize b.Tags[k] = y at h ⊢
              cases x; cases y; simpa [bne] using h
            exact ⟨⟨k + 1, hk', take_succ_eq hk' (by omega) he e⟩, ⟨⟨⟨rfl, rfl, Nat.le_of_ble_eq_true rfl⟩, ⟨rfl, rfl, Nat.le_of_ble_eq_true rfl⟩, Sub.refl _, trivial⟩, ⟨Subs.refl _, Subs.refl _, trivial⟩, AO.le.refl _⟩, by simp; omega⟩
          · refine FK.eq (b_eq ?_)
            simp; rintro rfl; simp_all
        · have hk' : k = a.Tags.length := by simp at h; omega
          have ht : a.Tags = b.Tags := take_all he hk'.symm (by omega)
          refine FK.eq (b_eq ?_)
          simp [Ob.eq_iff]; simp_all
end Ab
end Go.Proofs.YtpmigkbcldffeaaGreatDoor

/- Equality of edits and records. -/
namespace Go.Proofs.YtpmigkbcldffeaaGreatDoor
namespace Ab
set_option maxRecDepth 10000
theorem refEd (a b : Ed) (ha : a.wf) : PSpec Tryz.prog 60 [.agg a.c, .agg b.c] (.bool (decide (a = b))) := by
  have h1 := ha.refs.1
  refine PSpec.by Tryz.func60 rfl Tryz.ntmps60 [] rfl fun A => ?_
  (conv => whnf)
  repeat' ((first | (refine BK.dec (fun h => ?_) (fun h => ?_)) | (refine BK.ne (fun h => ?_) (fun h => ?_)) | (refine BK.eq (fun h => ?_) (fun h => ?_)) | (refine BK.mk (fun h => ?_) (fun h => ?_)) | (refine IK.in64 (by first | omega | (dsimp only; omega)) (by first | omega | (dsimp only; omega)) ?_) | (refine NK.mk (by kernel_rfl) ?_)) <;> (conv => whnf))
  all_goals first
    | (refine FK.eq (b_eq ?_); simp; rintro rfl; simp_all; done)
    | skip
  have hl : a.Refs.length = b.Refs.length := by omega
  refine LK.mk (ι := {k : Nat // k ≤ a.Refs.length ∧ a.Refs.take k = b.Refs.take k}) (fun k => [(2, .lp 0 0), (3, .lp 1 0), (5, .v (.int .i64 k.1))]) (fun _ => [a.c, b.c]) (fun _ => A) (fun k => a.Refs.length - k.1) ⟨0, by simp⟩ ?_ ?_
  · exact ⟨⟨⟨rfl, rfl, Nat.le_of_ble_eq_true rfl⟩, ⟨rfl, rfl, Nat.le_of_ble_eq_true rfl⟩, Sub.refl _, trivial⟩, ⟨Subs.refl _, Subs.refl _, trivial⟩, AO.le.refl _⟩
  · rintro ⟨k, hk, he⟩
    (conv => whnf)
    (first | (refine BK.dec (fun h => ?_) (fun h => ?_)) | (refine BK.ne (fun h => ?_) (fun h => ?_)) | (refine BK.eq (fun h => ?_) (fun h => ?_)) | (refine BK.mk (fun h => ?_) (fun h => ?_)) | (refine IK.in64 (by first | omega | (dsimp only; omega)) (by first | omega | (dsimp only; omega)) ?_) | (refine NK.mk (by kernel_rfl) ?_)) <;> (conv => whnf)
    · have hk' : k < a.Refs.length := by simpa using h
      refine RK.mk k _ rfl (map_get hk') ?_
      (conv => whnf)
      refine RK.mk k _ rfl (map_get (by omega : k < b.Refs.length)) ?_
      (conv => whnf)
      repeat' ((first | (refine BK.dec (fun h => ?_) (fun h => ?_)) | (refine BK.ne (fun h => ?_) (fun h => ?_)) | (refine BK.eq (fun h => ?_) (fun h => ?_)) | (refine BK.mk (fun h => ?_) (fun h => ?_)) | (refine IK.in64 (by first | omega | (dsimp only; omega)) (by first | omega | (dsimp only; omega)) ?_) | (refine NK.mk (by kernel_rfl) ?_)) <;> (conv => whnf))
      · refine FK.eq (b_eq ?_)
        simp; rintro rfl; simp_all
      · rename_i h
        exact ⟨⟨k + 1, hk', take_succ_eq hk' (by omega) he h⟩, ⟨⟨⟨rfl, rfl, Nat.le_of_ble_eq_true rfl⟩, ⟨rfl, rfl, Nat.le_of_ble_eq_true rfl⟩, Sub.refl _, trivial⟩, ⟨Subs.refl _, Subs.refl _, trivial⟩, AO.le.refl _⟩, by simp; omega⟩
    · have hk' : k = a.Refs.length := by simp at h; omega
      have hr : a.Refs = b.Refs := take_all he hk'.symm (by omega)
      refine CK.dec ent84 (refOb a.Object b.Object ha.obj) (Subs.refl _) (fun h => ?_) (fun h => ?_) <;> (conv => whnf)
      · refine FK.eq (b_eq ?_)
        rw [Ob.eq_iff] at h
        simp [Ed.eq_iff]; simp_all
      · refine FK.eq (b_eq ?_)
        simp; rintro rfl; simp_all
theorem refEds (a b : List Ed) (ha : BL a.length) (hw : ∀ e ∈ a, e.wf) : PSpec Tryz.prog 30 [eds a, eds b] (.bool (decide (a = b))) := by
  refine PSpec.by Tryz.func30 rfl Tryz.ntmps30 [] rfl fun A => ?_
  (conv => whnf)
  (first | (refine BK.dec (fun h => ?_) (fun h => ?_)) | (refine BK.ne (fun h => ?_) (fun h => ?_)) | (refine BK.eq (fun h => ?_) (fun h => ?_)) | (refine BK.mk (fun h => ?_) (fun h => ?_)) | (refine IK.in64 (by first | omega | (dsimp only; omega)) (by first | omega | (dsimp only; omega)) ?_) | (refine NK.mk (by kernel_rfl) ?_)) <;> (conv => whnf)
  · exact FK.eq (b_eq (by simp; rintro rfl; simp at h))
  · have hl : a.length = b.length := by omega
    refine LK.mk (ι := {k : Nat // k ≤ a.length ∧ a.take k = b.take k}) (fun k => [(0, .v (eds a)), (1, .v (eds b)), (5, .v (.int .i64 k.1))]) (fun _ => []) (fun _ => A) (fun k => a.length - k.1) ⟨0, by simp⟩ ?_ ?_
    · exact ⟨⟨Sub.refl _, Sub.refl _, Sub.refl _, trivial⟩, trivial, AO.le.refl _⟩
    · rintro ⟨k, hk, he⟩
      (conv => whnf)
      (first | (refine BK.dec (fun h => ?_) (fun h => ?_)) | (refine BK.ne (fun h => ?_) (fun h => ?_)) | (refine BK.eq (fun h => ?_) (fun h => ?_)) | (refine BK.mk (fun h => ?_) (fun h => ?_)) | (refine IK.in64 (by first | omega | (dsimp only; omega)) (by first | omega | (dsimp only; omega)) ?_) | (refine NK.mk (by kernel_rfl) ?_)) <;> (conv => whnf)
      · have hk' : k < a.length := by simpa using h
        refine RK.mk k _ rfl (map_get hk') ?_
        (conv => whnf)
        refine RK.mk k _ rfl (map_get (by omega : k < b.length)) ?_
        (conv => whnf)
        refine PK.dec ent60 (refEd a[k] b[k] (hw _ (List.getElem_mem _))) (Subs.refl _) (fun h => ?_) (fun h => ?_) <;> (conv => whnf)
        · repeat' ((first | (refine BK.dec (fun h => ?_) (fun h => ?_)) | (refine BK.ne (fun h => ?_) (fun h => ?_)) | (refine BK.eq (fun h => ?_) (fun h => ?_)) | (refine BK.mk (fun h => ?_) (fun h => ?_)) | (refine IK.in64 (by first | omega | (dsimp only; omega)) (by first | omega | (dsimp only; omega)) ?_) | (refine NK.mk (by kernel_rfl) ?_)) <;> (conv => whnf))
          exact ⟨⟨k + 1, hk', take_succ_eq hk' (by omega) he h⟩, ⟨⟨Sub.refl _, Sub.refl _, Sub.refl _, trivial⟩, trivial, AO.le.refl _⟩, by simp; omega⟩
        · repeat' ((first | (refine BK.dec (fun h => ?_) (fun h => ?_)) | (refine BK.ne (fun h => ?_) (fun h => ?_)) | (refine BK.eq (fun h => ?_) (fun h => ?_)) | (refine BK.mk (fun h => ?_) (fun h => ?_)) | (refine IK.in64 (by first | omega | (dsimp only; omega)) (by first | omega | (dsimp only; omega)) ?_) | (refine NK.mk (by kernel_rfl) ?_)) <;> (conv => whnf))
          refine FK.eq (b_eq ?_)
          simp; rintro rfl; simp at h
      · have hk' : k = a.length := by simp at h; omega
        refine FK.eq (b_eq ?_)
        simp [take_all he hk'.symm (by omega)]
end Ab
end Go.Proofs.YtpmigkbcldffeaaGreatDoor

/- Equality in the program (privacy), and a record without its private part. -/
namespace Go.Proofs.YtpmigkbcldffeaaGreatDoor
namespace Ab
set_option maxRecDepth 10000
/-- Private parts with their seals. -/
theorem Pv.eq_iff {a b : Pv} : a = b ↔ a.Name = b.Name ∧ a.Reason = b.Reason ∧ a.Sources = b.Sources ∧ a.Trace = b.Trace ∧ a.Seal = b.Seal := by cases a; cases b; simp
/-- Public fields and the seal. -/
def Rc.pubs (a b : Rc) : Bool := a.same b && decide (a.Seal = b.Seal)
def Se.zero : Se := ⟨0, [], []⟩
def Pv.zero : Pv := ⟨[], [], [], [], .zero⟩
/-- Without the private part. -/
def Rc.bare (r : Rc) : Rc := { r with Private := .zero }
theorem nil_strs : Sub (.os 0 none 0 []) (strs []) := Sub.os_sl0
theorem nil_pts : Sub (.os 0 none 0 []) (pts []) := Sub.os_sl0
theorem bare_sub {a0 a1 a2 a3 a4 a5 a6 a7 a8 a9 a10 a11 a12 a13 x y : AV} : Sub (.agg [a0, a1, a2, a3, a4, a5, a6, a7, a8, a9, a10, a11, a12, a13, .str [], .str [], .os 0 none 0 [], .os 0 none 0 [], .int .i64 0, .os 0 none 0 [], .os 0 none 0 []])
    (.agg [a0, a1, a2, a3, a4, a5, a6, a7, a8, a9, a10, a11, a12, a13, .str [], .str [], strs [], pts [], .int .i64 0, strs [], strs []]) :=
  Sub.agg (.cons (.refl _) (.cons (.refl _) (.cons (.refl _) (.cons (.refl _) (.cons (.refl _) (.cons (.refl _) (.cons (.refl _) (.cons (.refl _) (.cons (.refl _) (.cons (.refl _) (.cons (.refl _) (.cons (.refl _) (.cons (.refl _) (.cons (.refl _)
    (.cons (.refl _) (.cons (.refl _) (.cons nil_strs (.cons nil_pts (.cons (.refl _) (.cons nil_strs (.cons nil_strs .nil)))))))))))))))))))))
end Ab
end Go.Proofs.YtpmigkbcldffeaaGreatDoor
