import Derived.Test.YtkdgodkamaicjaaVWalk
import Derived.Test.YtkdgodkamaicjaaProg
namespace Go.VL
set_option linter.unusedVariables false
set_option linter.unusedSimpArgs false
open Go.Proofs
def T : TT := fun t => match t with
  | 2 => .prim (.c (.int .i64 0))
  | 3 => .prim (.c (.int .i64 0))
  | 4 => .prim .ff
  | 5 => .prim (.c (.int .u8 0))
  | 6 => .prim (.c (.int .u8 0))
  | 12 => .prim (.c (.int .u64 0))
  | 21 => .prim (.c (.int .i32 0))
  | 22 => .slice 42 3 40 (.lks)
  | 25 => .slice 39 3 40 (.lks)
  | 31 => .slice 3 1 8 (.nums .i64)
  | 36 => .slice 5 1 1 (.nums .u8)
  | 39 => .struct [(0, 1, false), (1, 1, false), (2, 1, false)] [.nil, .c (.int .i64 0), .c (.int .i64 0)]
  | 42 => .struct [(0, 1, false), (1, 1, false), (2, 1, false)] [.nil, .c (.int .i64 0), .c (.int .i64 0)]
  | 44 => .arr 16 4 (.bools)
  | 50 => .prim .any
  | 61 => .struct [(0, 1, false), (1, 1, false)] [.nil, .c (.int .i64 0)]
  | 72 => .prim (.c (.int .u32 0))
  | 73 => .prim (.c (.int .u8 0))
  | 74 => .prim (.c (.int .u8 0))
  | 77 => .prim (.c (.int .i32 0))
  | 78 => .prim (.c (.int .i32 0))
  | _ => .bad
theorem ti2 : tiOk Try.prog 2 (.prim (.c (.int .i64 0))) := ⟨(by delta aggIs; kernel_rfl), (by delta sizeIs; kernel_rfl), ⟨(Go.Value.int Go.IntKind.i64 0), (by delta zeroIs; kernel_rfl), rfl, rfl⟩, fun k m h => (by cases h; kernel_rfl), fun h => (by cases h)⟩
theorem ti3 : tiOk Try.prog 3 (.prim (.c (.int .i64 0))) := ⟨(by delta aggIs; kernel_rfl), (by delta sizeIs; kernel_rfl), ⟨(Go.Value.int Go.IntKind.i64 0), (by delta zeroIs; kernel_rfl), rfl, rfl⟩, fun k m h => (by cases h; kernel_rfl), fun h => (by cases h)⟩
theorem ti4 : tiOk Try.prog 4 (.prim .ff) := ⟨(by delta aggIs; kernel_rfl), (by delta sizeIs; kernel_rfl), ⟨(Go.Value.bool false), (by delta zeroIs; kernel_rfl), rfl, rfl⟩, fun k m h => (by cases h), fun h => (by kernel_rfl)⟩
theorem ti5 : tiOk Try.prog 5 (.prim (.c (.int .u8 0))) := ⟨(by delta aggIs; kernel_rfl), (by delta sizeIs; kernel_rfl), ⟨(Go.Value.int Go.IntKind.u8 0), (by delta zeroIs; kernel_rfl), rfl, rfl⟩, fun k m h => (by cases h; kernel_rfl), fun h => (by cases h)⟩
theorem ti6 : tiOk Try.prog 6 (.prim (.c (.int .u8 0))) := ⟨(by delta aggIs; kernel_rfl), (by delta sizeIs; kernel_rfl), ⟨(Go.Value.int Go.IntKind.u8 0), (by delta zeroIs; kernel_rfl), rfl, rfl⟩, fun k m h => (by cases h; kernel_rfl), fun h => (by cases h)⟩
theorem ti12 : tiOk Try.prog 12 (.prim (.c (.int .u64 0))) := ⟨(by delta aggIs; kernel_rfl), (by delta sizeIs; kernel_rfl), ⟨(Go.Value.int Go.IntKind.u64 0), (by delta zeroIs; kernel_rfl), rfl, rfl⟩, fun k m h => (by cases h; kernel_rfl), fun h => (by cases h)⟩
theorem ti21 : tiOk Try.prog 21 (.prim (.c (.int .i32 0))) := ⟨(by delta aggIs; kernel_rfl), (by delta sizeIs; kernel_rfl), ⟨(Go.Value.int Go.IntKind.i32 0), (by delta zeroIs; kernel_rfl), rfl, rfl⟩, fun k m h => (by cases h; kernel_rfl), fun h => (by cases h)⟩
theorem ti22 : tiOk Try.prog 22 (.slice 42 3 40 (.lks)) := ⟨(by kernel_rfl), (by delta sizeIs; kernel_rfl), (by delta zeroIs; kernel_rfl), (by kernel_rfl), (by delta zeroIs; kernel_rfl), rfl, by decide, by decide⟩
theorem ti25 : tiOk Try.prog 25 (.slice 39 3 40 (.lks)) := ⟨(by kernel_rfl), (by delta sizeIs; kernel_rfl), (by delta zeroIs; kernel_rfl), (by kernel_rfl), (by delta zeroIs; kernel_rfl), rfl, by decide, by decide⟩
theorem ti31 : tiOk Try.prog 31 (.slice 3 1 8 (.nums .i64)) := ⟨(by kernel_rfl), (by delta sizeIs; kernel_rfl), (by delta zeroIs; kernel_rfl), (by kernel_rfl), (by delta zeroIs; kernel_rfl), rfl, by decide, by decide⟩
theorem ti36 : tiOk Try.prog 36 (.slice 5 1 1 (.nums .u8)) := ⟨(by kernel_rfl), (by delta sizeIs; kernel_rfl), (by delta zeroIs; kernel_rfl), (by kernel_rfl), (by delta zeroIs; kernel_rfl), rfl, by decide, by decide⟩
theorem ti39 : tiOk Try.prog 39 (.struct [(0, 1, false), (1, 1, false), (2, 1, false)] [.nil, .c (.int .i64 0), .c (.int .i64 0)]) := ⟨⟨#[{ name := "Keys", type := 31, offset := 0, embedded := false, tag := "", pkgPath := "", byteOffset := 0 }, { name := "High", type := 3, offset := 1, embedded := false, tag := "", pkgPath := "", byteOffset := 24 }, { name := "Right", type := 3, offset := 2, embedded := false, tag := "", pkgPath := "", byteOffset := 32 }], (by kernel_rfl), ⟨rfl, (by delta sizeIs; kernel_rfl), by decide, (by delta aggIs; kernel_rfl), (by simp), rfl, (by delta sizeIs; kernel_rfl), by decide, (by delta aggIs; kernel_rfl), (by simp), rfl, (by delta sizeIs; kernel_rfl), by decide, (by delta aggIs; kernel_rfl), (by simp), trivial⟩⟩, (by delta sizeIs; kernel_rfl), ⟨[Go.Value.slice none 0 0, Go.Value.int Go.IntKind.i64 0, Go.Value.int Go.IntKind.i64 0], (by delta zeroIs; kernel_rfl), rfl⟩, by decide⟩
theorem ti42 : tiOk Try.prog 42 (.struct [(0, 1, false), (1, 1, false), (2, 1, false)] [.nil, .c (.int .i64 0), .c (.int .i64 0)]) := ⟨⟨#[{ name := "Keys", type := 31, offset := 0, embedded := false, tag := "", pkgPath := "", byteOffset := 0 }, { name := "High", type := 3, offset := 1, embedded := false, tag := "", pkgPath := "", byteOffset := 24 }, { name := "Right", type := 3, offset := 2, embedded := false, tag := "", pkgPath := "", byteOffset := 32 }], (by kernel_rfl), ⟨rfl, (by delta sizeIs; kernel_rfl), by decide, (by delta aggIs; kernel_rfl), (by simp), rfl, (by delta sizeIs; kernel_rfl), by decide, (by delta aggIs; kernel_rfl), (by simp), rfl, (by delta sizeIs; kernel_rfl), by decide, (by delta aggIs; kernel_rfl), (by simp), trivial⟩⟩, (by delta sizeIs; kernel_rfl), ⟨[Go.Value.slice none 0 0, Go.Value.int Go.IntKind.i64 0, Go.Value.int Go.IntKind.i64 0], (by delta zeroIs; kernel_rfl), rfl⟩, by decide⟩
theorem ti44 : tiOk Try.prog 44 (.arr 16 4 (.bools)) := ⟨(by kernel_rfl), (by delta sizeIs; kernel_rfl), (by delta aggIs; kernel_rfl), rfl, (by delta sizeIs; kernel_rfl), (by delta zeroIs; kernel_rfl), rfl, by decide⟩
theorem ti50 : tiOk Try.prog 50 (.prim .any) := ⟨(by delta aggIs; kernel_rfl), (by delta sizeIs; kernel_rfl), ⟨(Go.Value.pointer none), (by delta zeroIs; kernel_rfl), rfl, rfl⟩, fun k m h => (by cases h), fun h => (by cases h)⟩
theorem ti61 : tiOk Try.prog 61 (.struct [(0, 1, false), (1, 1, false)] [.nil, .c (.int .i64 0)]) := ⟨⟨#[{ name := "b", type := 36, offset := 0, embedded := false, tag := "", pkgPath := "loop.example/pagetree/spec", byteOffset := 0 }, { name := "p", type := 3, offset := 1, embedded := false, tag := "", pkgPath := "loop.example/pagetree/spec", byteOffset := 24 }], (by kernel_rfl), ⟨rfl, (by delta sizeIs; kernel_rfl), by decide, (by delta aggIs; kernel_rfl), (by simp), rfl, (by delta sizeIs; kernel_rfl), by decide, (by delta aggIs; kernel_rfl), (by simp), trivial⟩⟩, (by delta sizeIs; kernel_rfl), ⟨[Go.Value.slice none 0 0, Go.Value.int Go.IntKind.i64 0], (by delta zeroIs; kernel_rfl), rfl⟩, by decide⟩
theorem ti72 : tiOk Try.prog 72 (.prim (.c (.int .u32 0))) := ⟨(by delta aggIs; kernel_rfl), (by delta sizeIs; kernel_rfl), ⟨(Go.Value.int Go.IntKind.u32 0), (by delta zeroIs; kernel_rfl), rfl, rfl⟩, fun k m h => (by cases h; kernel_rfl), fun h => (by cases h)⟩
theorem ti73 : tiOk Try.prog 73 (.prim (.c (.int .u8 0))) := ⟨(by delta aggIs; kernel_rfl), (by delta sizeIs; kernel_rfl), ⟨(Go.Value.int Go.IntKind.u8 0), (by delta zeroIs; kernel_rfl), rfl, rfl⟩, fun k m h => (by cases h; kernel_rfl), fun h => (by cases h)⟩
theorem ti74 : tiOk Try.prog 74 (.prim (.c (.int .u8 0))) := ⟨(by delta aggIs; kernel_rfl), (by delta sizeIs; kernel_rfl), ⟨(Go.Value.int Go.IntKind.u8 0), (by delta zeroIs; kernel_rfl), rfl, rfl⟩, fun k m h => (by cases h; kernel_rfl), fun h => (by cases h)⟩
theorem ti77 : tiOk Try.prog 77 (.prim (.c (.int .i32 0))) := ⟨(by delta aggIs; kernel_rfl), (by delta sizeIs; kernel_rfl), ⟨(Go.Value.int Go.IntKind.i32 0), (by delta zeroIs; kernel_rfl), rfl, rfl⟩, fun k m h => (by cases h; kernel_rfl), fun h => (by cases h)⟩
theorem ti78 : tiOk Try.prog 78 (.prim (.c (.int .i32 0))) := ⟨(by delta aggIs; kernel_rfl), (by delta sizeIs; kernel_rfl), ⟨(Go.Value.int Go.IntKind.i32 0), (by delta zeroIs; kernel_rfl), rfl, rfl⟩, fun k m h => (by cases h; kernel_rfl), fun h => (by cases h)⟩
theorem tOk : TOk Try.prog T := fun t => by
  unfold T
  split
  · exact ti2
  · exact ti3
  · exact ti4
  · exact ti5
  · exact ti6
  · exact ti12
  · exact ti21
  · exact ti22
  · exact ti25
  · exact ti31
  · exact ti36
  · exact ti39
  · exact ti42
  · exact ti44
  · exact ti50
  · exact ti61
  · exact ti72
  · exact ti73
  · exact ti74
  · exact ti77
  · exact ti78
  · trivial
theorem eOk : EOk Try.prog T := fun t h => by
  unfold T at h
  split at h <;> first | cases h | skip
theorem mix : Try.prog.follows .mixedOrders = true := by kernel_rfl
end Go.VL
