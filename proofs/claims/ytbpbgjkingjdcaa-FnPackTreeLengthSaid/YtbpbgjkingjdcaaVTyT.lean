/- V-logic: TyT -/
import Derived.Test.YtbpbgjkingjdcaaVEF
import Derived.Laws.StructEq
import Derived.ChangeKeysEq
import Derived.Test.YtbpbgjkingjdcaaProg
namespace Go.VL
set_option linter.unusedVariables false
set_option linter.unusedSimpArgs false
open Go.Proofs
def T : TT := fun t => match t with
 |2 => .prim (.c (.int .i64 0))
 |3 => .prim (.c (.int .i64 0))
 |4 => .prim .ff
 |5 => .prim (.c (.int .u8 0))
 |6 => .prim (.c (.int .u8 0))
 |12 => .prim (.c (.int .u64 0))
 |21 => .prim (.c (.int .i32 0))
 |22 => .slice 5 1 1 (.nums .u8)
 |23 => .slice 36 3 72 (.pgs)
 |25 => .struct [(0, 1, false), (1, 1, false)] [.c (.int .i64 0), .nil]
 |28 => .slice 59 2 16 (.prs)
 |32 => .slice 3 1 8 (.nums .i64)
 |36 => .struct [(0, 1, false), (1, 1, false), (2, 1, false)] [.nil, .nil, .nil]
 |59 => .struct [(0, 1, false), (1, 1, false)] [.c (.int .i64 0), .c (.int .i64 0)]
 |64 => .slice 32 1 24 (.numss)
 |80 => .prim .any
 |85 => .slice 28 1 24 (.prss)
 |87 => .struct [(0, 1, false), (1, 1, false)] [.nil, .nil]
 |102 => .struct [(0, 1, false), (1, 1, false)] [.nil, .nil]
 |112 => .arr 16 4 (.bools)
 |114 => .struct [(0, 2, true), (2, 16, true), (18, 1, false)] [.c (.int .i64 0), .nil, .ff, .ff, .ff, .ff, .ff, .ff, .ff, .ff, .ff, .ff, .ff, .ff, .ff, .ff, .ff, .ff, .c (.int .i64 0)]
 |133 => .struct [(0, 1, false), (1, 1, false)] [.nil, .c (.int .i64 0)]
 |135 => .prim .any
 |144 => .prim .any
 |148 => .struct [(0, 1, false), (1, 16, true), (17, 1, false)] [.nil, .ff, .ff, .ff, .ff, .ff, .ff, .ff, .ff, .ff, .ff, .ff, .ff, .ff, .ff, .ff, .ff, .c (.int .i64 0)]
 |158 => .prim .any
 |166 => .prim (.c (.int .u64 0))
 |181 => .prim (.c (.int .u32 0))
 |182 => .prim (.c (.int .u8 0))
 |183 => .prim (.c (.int .u8 0))
 |186 => .prim (.c (.int .i32 0))
 |187 => .prim (.c (.int .i32 0))
 |_ => .bad
theorem ti2 : zb4 Try.prog 2 (.prim (.c (.int .i64 0))) := ⟨(by delta zap; kernel_rfl), (by delta zy; kernel_rfl), ⟨(Go.Value.int Go.IntKind.i64 0), (by delta zai; kernel_rfl), rfl, rfl⟩, fun k m h => (by cases h; kernel_rfl), fun h => (by cases h)⟩
theorem ti3 : zb4 Try.prog 3 (.prim (.c (.int .i64 0))) := ⟨(by delta zap; kernel_rfl), (by delta zy; kernel_rfl), ⟨(Go.Value.int Go.IntKind.i64 0), (by delta zai; kernel_rfl), rfl, rfl⟩, fun k m h => (by cases h; kernel_rfl), fun h => (by cases h)⟩
theorem ti4 : zb4 Try.prog 4 (.prim .ff) := ⟨(by delta zap; kernel_rfl), (by delta zy; kernel_rfl), ⟨(Go.Value.bool false), (by delta zai; kernel_rfl), rfl, rfl⟩, fun k m h => (by cases h), fun h => (by kernel_rfl)⟩
theorem ti5 : zb4 Try.prog 5 (.prim (.c (.int .u8 0))) := ⟨(by delta zap; kernel_rfl), (by delta zy; kernel_rfl), ⟨(Go.Value.int Go.IntKind.u8 0), (by delta zai; kernel_rfl), rfl, rfl⟩, fun k m h => (by cases h; kernel_rfl), fun h => (by cases h)⟩
theorem ti6 : zb4 Try.prog 6 (.prim (.c (.int .u8 0))) := ⟨(by delta zap; kernel_rfl), (by delta zy; kernel_rfl), ⟨(Go.Value.int Go.IntKind.u8 0), (by delta zai; kernel_rfl), rfl, rfl⟩, fun k m h => (by cases h; kernel_rfl), fun h => (by cases h)⟩
theorem ti12 : zb4 Try.prog 12 (.prim (.c (.int .u64 0))) := ⟨(by delta zap; kernel_rfl), (by delta zy; kernel_rfl), ⟨(Go.Value.int Go.IntKind.u64 0), (by delta zai; kernel_rfl), rfl, rfl⟩, fun k m h => (by cases h; kernel_rfl), fun h => (by cases h)⟩
theorem ti21 : zb4 Try.prog 21 (.prim (.c (.int .i32 0))) := ⟨(by delta zap; kernel_rfl), (by delta zy; kernel_rfl), ⟨(Go.Value.int Go.IntKind.i32 0), (by delta zai; kernel_rfl), rfl, rfl⟩, fun k m h => (by cases h; kernel_rfl), fun h => (by cases h)⟩
theorem ti22 : zb4 Try.prog 22 (.slice 5 1 1 (.nums .u8)) := ⟨(by kernel_rfl), (by delta zy; kernel_rfl), (by delta zai; kernel_rfl), (by kernel_rfl), (by delta zai; kernel_rfl), rfl, by decide, by decide⟩
theorem ti23 : zb4 Try.prog 23 (.slice 36 3 72 (.pgs)) := ⟨(by kernel_rfl), (by delta zy; kernel_rfl), (by delta zai; kernel_rfl), (by kernel_rfl), (by delta zai; kernel_rfl), rfl, by decide, by decide⟩
theorem ti25 : zb4 Try.prog 25 (.struct [(0, 1, false), (1, 1, false)] [.c (.int .i64 0), .nil]) := ⟨⟨#[{ name := "Root", type := 3, offset := 0, embedded := false, tag := "", pkgPath := "", byteOffset := 0 }, { name := "Pages", type := 23, offset := 1, embedded := false, tag := "", pkgPath := "", byteOffset := 8 }], (by kernel_rfl), ⟨rfl, (by delta zy; kernel_rfl), by decide, (by delta zap; kernel_rfl), (by simp), rfl, (by delta zy; kernel_rfl), by decide, (by delta zap; kernel_rfl), (by simp), trivial⟩⟩, (by delta zy; kernel_rfl), ⟨[Go.Value.int Go.IntKind.i64 0, Go.Value.slice none 0 0], (by delta zai; kernel_rfl), rfl⟩, by decide⟩
theorem ti28 : zb4 Try.prog 28 (.slice 59 2 16 (.prs)) := ⟨(by kernel_rfl), (by delta zy; kernel_rfl), (by delta zai; kernel_rfl), (by kernel_rfl), (by delta zai; kernel_rfl), rfl, by decide, by decide⟩
theorem ti32 : zb4 Try.prog 32 (.slice 3 1 8 (.nums .i64)) := ⟨(by kernel_rfl), (by delta zy; kernel_rfl), (by delta zai; kernel_rfl), (by kernel_rfl), (by delta zai; kernel_rfl), rfl, by decide, by decide⟩
theorem ti36 : zb4 Try.prog 36 (.struct [(0, 1, false), (1, 1, false), (2, 1, false)] [.nil, .nil, .nil]) := ⟨⟨#[{ name := "Keys", type := 32, offset := 0, embedded := false, tag := "", pkgPath := "", byteOffset := 0 }, { name := "Kids", type := 32, offset := 1, embedded := false, tag := "", pkgPath := "", byteOffset := 24 }, { name := "Values", type := 32, offset := 2, embedded := false, tag := "", pkgPath := "", byteOffset := 48 }], (by kernel_rfl), ⟨rfl, (by delta zy; kernel_rfl), by decide, (by delta zap; kernel_rfl), (by simp), rfl, (by delta zy; kernel_rfl), by decide, (by delta zap; kernel_rfl), (by simp), rfl, (by delta zy; kernel_rfl), by decide, (by delta zap; kernel_rfl), (by simp), trivial⟩⟩, (by delta zy; kernel_rfl), ⟨[Go.Value.slice none 0 0, Go.Value.slice none 0 0, Go.Value.slice none 0 0], (by delta zai; kernel_rfl), rfl⟩, by decide⟩
theorem ti59 : zb4 Try.prog 59 (.struct [(0, 1, false), (1, 1, false)] [.c (.int .i64 0), .c (.int .i64 0)]) := ⟨⟨#[{ name := "Key", type := 3, offset := 0, embedded := false, tag := "", pkgPath := "", byteOffset := 0 }, { name := "Value", type := 3, offset := 1, embedded := false, tag := "", pkgPath := "", byteOffset := 8 }], (by kernel_rfl), ⟨rfl, (by delta zy; kernel_rfl), by decide, (by delta zap; kernel_rfl), (by simp), rfl, (by delta zy; kernel_rfl), by decide, (by delta zap; kernel_rfl), (by simp), trivial⟩⟩, (by delta zy; kernel_rfl), ⟨[Go.Value.int Go.IntKind.i64 0, Go.Value.int Go.IntKind.i64 0], (by delta zai; kernel_rfl), rfl⟩, by decide⟩
theorem ti64 : zb4 Try.prog 64 (.slice 32 1 24 (.numss)) := ⟨(by kernel_rfl), (by delta zy; kernel_rfl), (by delta zai; kernel_rfl), (by kernel_rfl), (by delta zai; kernel_rfl), rfl, by decide, by decide⟩
theorem ti80 : zb4 Try.prog 80 (.prim .any) := ⟨(by delta zap; kernel_rfl), (by delta zy; kernel_rfl), ⟨(Go.Value.pointer none), (by delta zai; kernel_rfl), rfl, rfl⟩, fun k m h => (by cases h), fun h => (by cases h)⟩
theorem ti85 : zb4 Try.prog 85 (.slice 28 1 24 (.prss)) := ⟨(by kernel_rfl), (by delta zy; kernel_rfl), (by delta zai; kernel_rfl), (by kernel_rfl), (by delta zai; kernel_rfl), rfl, by decide, by decide⟩
theorem ti87 : zb4 Try.prog 87 (.struct [(0, 1, false), (1, 1, false)] [.nil, .nil]) := ⟨⟨#[{ name := "parts", type := 85, offset := 0, embedded := false, tag := "", pkgPath := "loop.example/pagetree/impl", byteOffset := 0 }, { name := "pages", type := 23, offset := 1, embedded := false, tag := "", pkgPath := "loop.example/pagetree/impl", byteOffset := 24 }], (by kernel_rfl), ⟨rfl, (by delta zy; kernel_rfl), by decide, (by delta zap; kernel_rfl), (by simp), rfl, (by delta zy; kernel_rfl), by decide, (by delta zap; kernel_rfl), (by simp), trivial⟩⟩, (by delta zy; kernel_rfl), ⟨[Go.Value.slice none 0 0, Go.Value.slice none 0 0], (by delta zai; kernel_rfl), rfl⟩, by decide⟩
theorem ti102 : zb4 Try.prog 102 (.struct [(0, 1, false), (1, 1, false)] [.nil, .nil]) := ⟨⟨#[{ name := "Keys", type := 32, offset := 0, embedded := false, tag := "", pkgPath := "", byteOffset := 0 }, { name := "Kids", type := 32, offset := 1, embedded := false, tag := "", pkgPath := "", byteOffset := 24 }], (by kernel_rfl), ⟨rfl, (by delta zy; kernel_rfl), by decide, (by delta zap; kernel_rfl), (by simp), rfl, (by delta zy; kernel_rfl), by decide, (by delta zap; kernel_rfl), (by simp), trivial⟩⟩, (by delta zy; kernel_rfl), ⟨[Go.Value.slice none 0 0, Go.Value.slice none 0 0], (by delta zai; kernel_rfl), rfl⟩, by decide⟩
theorem ti112 : zb4 Try.prog 112 (.arr 16 4 (.bools)) := ⟨(by kernel_rfl), (by delta zy; kernel_rfl), (by delta zap; kernel_rfl), rfl, (by delta zy; kernel_rfl), (by delta zai; kernel_rfl), rfl, by decide⟩
theorem ti114 : zb4 Try.prog 114 (.struct [(0, 2, true), (2, 16, true), (18, 1, false)] [.c (.int .i64 0), .nil, .ff, .ff, .ff, .ff, .ff, .ff, .ff, .ff, .ff, .ff, .ff, .ff, .ff, .ff, .ff, .ff, .c (.int .i64 0)]) := ⟨⟨#[{ name := "tree", type := 25, offset := 0, embedded := false, tag := "", pkgPath := "loop.example/pagetree/impl", byteOffset := 0 }, { name := "seen", type := 112, offset := 2, embedded := false, tag := "", pkgPath := "loop.example/pagetree/impl", byteOffset := 32 }, { name := "leafDepth", type := 3, offset := 18, embedded := false, tag := "", pkgPath := "loop.example/pagetree/impl", byteOffset := 48 }], (by kernel_rfl), ⟨rfl, (by delta zy; kernel_rfl), by decide, (by delta zap; kernel_rfl), (by simp), rfl, (by delta zy; kernel_rfl), by decide, (by delta zap; kernel_rfl), (by simp), rfl, (by delta zy; kernel_rfl), by decide, (by delta zap; kernel_rfl), (by simp), trivial⟩⟩, (by delta zy; kernel_rfl), ⟨[Go.Value.int Go.IntKind.i64 0, Go.Value.slice none 0 0, Go.Value.bool false, Go.Value.bool false, Go.Value.bool false, Go.Value.bool false, Go.Value.bool false, Go.Value.bool false, Go.Value.bool false, Go.Value.bool false, Go.Value.bool false, Go.Value.bool false, Go.Value.bool false, Go.Value.bool false, Go.Value.bool false, Go.Value.bool false, Go.Value.bool false, Go.Value.bool false, Go.Value.int Go.IntKind.i64 0], (by delta zai; kernel_rfl), rfl⟩, by decide⟩
theorem ti133 : zb4 Try.prog 133 (.struct [(0, 1, false), (1, 1, false)] [.nil, .c (.int .i64 0)]) := ⟨⟨#[{ name := "b", type := 22, offset := 0, embedded := false, tag := "", pkgPath := "loop.example/pagetree/spec", byteOffset := 0 }, { name := "p", type := 3, offset := 1, embedded := false, tag := "", pkgPath := "loop.example/pagetree/spec", byteOffset := 24 }], (by kernel_rfl), ⟨rfl, (by delta zy; kernel_rfl), by decide, (by delta zap; kernel_rfl), (by simp), rfl, (by delta zy; kernel_rfl), by decide, (by delta zap; kernel_rfl), (by simp), trivial⟩⟩, (by delta zy; kernel_rfl), ⟨[Go.Value.slice none 0 0, Go.Value.int Go.IntKind.i64 0], (by delta zai; kernel_rfl), rfl⟩, by decide⟩
theorem ti135 : zb4 Try.prog 135 (.prim .any) := ⟨(by delta zap; kernel_rfl), (by delta zy; kernel_rfl), ⟨(Go.Value.pointer none), (by delta zai; kernel_rfl), rfl, rfl⟩, fun k m h => (by cases h), fun h => (by cases h)⟩
theorem ti144 : zb4 Try.prog 144 (.prim .any) := ⟨(by delta zap; kernel_rfl), (by delta zy; kernel_rfl), ⟨(Go.Value.pointer none), (by delta zai; kernel_rfl), rfl, rfl⟩, fun k m h => (by cases h), fun h => (by cases h)⟩
theorem ti148 : zb4 Try.prog 148 (.struct [(0, 1, false), (1, 16, true), (17, 1, false)] [.nil, .ff, .ff, .ff, .ff, .ff, .ff, .ff, .ff, .ff, .ff, .ff, .ff, .ff, .ff, .ff, .ff, .c (.int .i64 0)]) := ⟨⟨#[{ name := "pages", type := 23, offset := 0, embedded := false, tag := "", pkgPath := "loop.example/pagetree/impl", byteOffset := 0 }, { name := "gone", type := 112, offset := 1, embedded := false, tag := "", pkgPath := "loop.example/pagetree/impl", byteOffset := 24 }, { name := "joins", type := 3, offset := 17, embedded := false, tag := "", pkgPath := "loop.example/pagetree/impl", byteOffset := 40 }], (by kernel_rfl), ⟨rfl, (by delta zy; kernel_rfl), by decide, (by delta zap; kernel_rfl), (by simp), rfl, (by delta zy; kernel_rfl), by decide, (by delta zap; kernel_rfl), (by simp), rfl, (by delta zy; kernel_rfl), by decide, (by delta zap; kernel_rfl), (by simp), trivial⟩⟩, (by delta zy; kernel_rfl), ⟨[Go.Value.slice none 0 0, Go.Value.bool false, Go.Value.bool false, Go.Value.bool false, Go.Value.bool false, Go.Value.bool false, Go.Value.bool false, Go.Value.bool false, Go.Value.bool false, Go.Value.bool false, Go.Value.bool false, Go.Value.bool false, Go.Value.bool false, Go.Value.bool false, Go.Value.bool false, Go.Value.bool false, Go.Value.bool false, Go.Value.int Go.IntKind.i64 0], (by delta zai; kernel_rfl), rfl⟩, by decide⟩
theorem ti158 : zb4 Try.prog 158 (.prim .any) := ⟨(by delta zap; kernel_rfl), (by delta zy; kernel_rfl), ⟨(Go.Value.pointer none), (by delta zai; kernel_rfl), rfl, rfl⟩, fun k m h => (by cases h), fun h => (by cases h)⟩
theorem ti166 : zb4 Try.prog 166 (.prim (.c (.int .u64 0))) := ⟨(by delta zap; kernel_rfl), (by delta zy; kernel_rfl), ⟨(Go.Value.int Go.IntKind.u64 0), (by delta zai; kernel_rfl), rfl, rfl⟩, fun k m h => (by cases h; kernel_rfl), fun h => (by cases h)⟩
theorem ti181 : zb4 Try.prog 181 (.prim (.c (.int .u32 0))) := ⟨(by delta zap; kernel_rfl), (by delta zy; kernel_rfl), ⟨(Go.Value.int Go.IntKind.u32 0), (by delta zai; kernel_rfl), rfl, rfl⟩, fun k m h => (by cases h; kernel_rfl), fun h => (by cases h)⟩
theorem ti182 : zb4 Try.prog 182 (.prim (.c (.int .u8 0))) := ⟨(by delta zap; kernel_rfl), (by delta zy; kernel_rfl), ⟨(Go.Value.int Go.IntKind.u8 0), (by delta zai; kernel_rfl), rfl, rfl⟩, fun k m h => (by cases h; kernel_rfl), fun h => (by cases h)⟩
theorem ti183 : zb4 Try.prog 183 (.prim (.c (.int .u8 0))) := ⟨(by delta zap; kernel_rfl), (by delta zy; kernel_rfl), ⟨(Go.Value.int Go.IntKind.u8 0), (by delta zai; kernel_rfl), rfl, rfl⟩, fun k m h => (by cases h; kernel_rfl), fun h => (by cases h)⟩
theorem ti186 : zb4 Try.prog 186 (.prim (.c (.int .i32 0))) := ⟨(by delta zap; kernel_rfl), (by delta zy; kernel_rfl), ⟨(Go.Value.int Go.IntKind.i32 0), (by delta zai; kernel_rfl), rfl, rfl⟩, fun k m h => (by cases h; kernel_rfl), fun h => (by cases h)⟩
theorem ti187 : zb4 Try.prog 187 (.prim (.c (.int .i32 0))) := ⟨(by delta zap; kernel_rfl), (by delta zy; kernel_rfl), ⟨(Go.Value.int Go.IntKind.i32 0), (by delta zai; kernel_rfl), rfl, rfl⟩, fun k m h => (by cases h; kernel_rfl), fun h => (by cases h)⟩
theorem tOk : TOk Try.prog T := fun t => by
 unfold T
 split
 ·exact ti2
 ·exact ti3
 ·exact ti4
 ·exact ti5
 ·exact ti6
 ·exact ti12
 ·exact ti21
 ·exact ti22
 ·exact ti23
 ·exact ti25
 ·exact ti28
 ·exact ti32
 ·exact ti36
 ·exact ti59
 ·exact ti64
 ·exact ti80
 ·exact ti85
 ·exact ti87
 ·exact ti102
 ·exact ti112
 ·exact ti114
 ·exact ti133
 ·exact ti135
 ·exact ti144
 ·exact ti148
 ·exact ti158
 ·exact ti166
 ·exact ti181
 ·exact ti182
 ·exact ti183
 ·exact ti186
 ·exact ti187
 ·trivial
theorem z0a : zyq Try.prog 59 := ⟨by kernel_rfl, fun a b c d w => by
 show (Op.equalIn 10000 59 _ _).run Try.prog w = _
 rw [run_equalIn_struct w 9999 59 _ _ (by kernel_rfl) (by kernel_rfl)]
 have hf : (Try.prog.fieldsOf 59).toList = [{ name := "Key", type := 3, offset := 0, embedded := false, tag := "", pkgPath := "", byteOffset := 0 }, { name := "Value", type := 3, offset := 1, embedded := false, tag := "", pkgPath := "", byteOffset := 8 }] := by kernel_rfl
 have hp : Try.prog.plainKey 3 = true := by kernel_rfl
 have hu : Try.prog.underlying 3 = some (.int .i64) := by kernel_rfl
 have e1 : ∀ (x y : Int) (w : World), (part 3 #[.int .i64 x, .int .i64 y] 0).run Try.prog w = .ok (.int .i64 x) w := fun x y w => run_part_plain w hp rfl
 have e2 : ∀ (x y : Int) (w : World), (part 3 #[.int .i64 x, .int .i64 y] 1).run Try.prog w = .ok (.int .i64 y) w := fun x y w => run_part_plain w hp rfl
 have e3 : ∀ (x y : Int) (w : World), (Op.equalIn 9999 3 (.int .i64 x) (.int .i64 y)).run Try.prog w = .ok (x == y) w := fun x y w => run_equalIn_int w 9998 3 .i64 .i64 x y hu
 rw [hf]
 simp only [Op.eqFields, e1, e2, e3, Sem.run_bind, Result.andThen_ok]
 cases h1 : (a == c) <;> cases h2 : (b == d) <;> simp [Op.eqFields, e1, e2, e3, h1, h2]⟩
theorem eOk : EOk Try.prog T := fun t h => by
 unfold T at h
 split at h <;> first | cases h | skip
 ·exact z0a
theorem mix : Try.prog.follows .mixedOrders = true := by kernel_rfl
theorem spi {f n m : Nat} {fn : Func} {args : List V} {hin hout : List (Nat × O)} {res : V} (c : Code) (h : zwv T Try.prog fn c n args hin m res hout) (hf : Try.prog.funcs[f]? = some fn := by kernel_rfl) (hname : (fn.name == "runtime.NumGoroutine") = false := by decide +kernel) (hb : fn.body = some c := by rfl) (hnt : Nat.ble args.length fn.ntmps = true := by rfl) (hst : za3 hin hout = true := by rfl) : zr Try.prog f n args hin m res hout :=
 zxi tOk eOk mix c hf hname hb hnt hst h
theorem spx {f n : Nat} {fn : Func} {args : List V} {hin : List (Nat × O)} {R : Nat → V → List (Nat × O) → Prop} (c : Code) (h : zti T Try.prog fn c n args hin R) (hf : Try.prog.funcs[f]? = some fn := by kernel_rfl) (hname : (fn.name == "runtime.NumGoroutine") = false := by decide +kernel) (hb : fn.body = some c := by rfl) (hnt : Nat.ble args.length fn.ntmps = true := by rfl) : zce Try.prog f n args hin R :=
 zvb tOk eOk mix c hf hname hb hnt h
end Go.VL
