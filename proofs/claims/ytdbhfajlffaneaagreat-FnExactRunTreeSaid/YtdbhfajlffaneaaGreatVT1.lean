/- V-logic -/
import Derived.Test.YtdbhfajlffaneaaGreatVEF
import Derived.Laws.StructEq
import Derived.ChangeKeysEq
import Derived.Test.YtdbhfajlffaneaaGreatProg
import Derived.Test.YtdbhfajlffaneaaGreatVMA
namespace Go.VL
set_option linter.unusedVariables false
set_option linter.unusedSimpArgs false
open Go.Proofs
def T:TT:=λt=>match t with
 |2=>.prim (.c (.int .i64 0))
 |3=>.prim (.c (.int .i64 0))
 |4=>.prim .ff
 |5=>.prim (.c (.int .u8 0))
 |6=>.prim (.c (.int .u8 0))
 |12=>.prim (.c (.int .u64 0))
 |21=>.prim (.c (.int .i32 0))
 |22=>.slice 5 1 1 (.nums .u8)
 |23=>.slice 37 3 72 (.pgs)
 |25=>.struct [(0,1,false),(1,1,false)] [.c (.int .i64 0),.nil]
 |26=>.slice 3 1 8 (.nums .i64)
 |33=>.slice 71 2 16 (.prs)
 |37=>.struct [(0,1,false),(1,1,false),(2,1,false)] [.nil,.nil,.nil]
 |42=>.slice 130 3 72 (.pgs)
 |44=>.struct [(0,1,false),(1,1,false)] [.c (.int .i64 0),.nil]
 |45=>.slice 95 3 24 (.ops)
 |50=>.slice 93 3 24 (.ops)
 |60=>.slice 26 1 24 (.numss)
 |71=>.struct [(0,1,false),(1,1,false)] [.c (.int .i64 0),.c (.int .i64 0)]
 |72=>.prim .any
 |81=>.arr 16 4 (.bools)
 |83=>.struct [(0,2,true),(2,16,true),(18,1,false)] [.c (.int .i64 0),.nil,.ff,.ff,.ff,.ff,.ff,.ff,.ff,.ff,.ff,.ff,.ff,.ff,.ff,.ff,.ff,.ff,.c (.int .i64 0)]
 |89=>.struct [(0,2,true),(2,1,false),(3,1,false),(4,1,false)] [.c (.int .i64 0),.nil,.nil,.nil,.nil]
 |93=>.struct [(0,1,false),(1,1,false),(2,1,false)] [.c (.int .i64 0),.c (.int .i64 0),.c (.int .i64 0)]
 |95=>.struct [(0,1,false),(1,1,false),(2,1,false)] [.c (.int .i64 0),.c (.int .i64 0),.c (.int .i64 0)]
 |97=>.struct [(0,2,true),(2,1,false),(3,1,false),(4,1,false),(5,1,false)] [.c (.int .i64 0),.nil,.nil,.nil,.nil,.nil]
 |115=>.struct [(0,1,false),(1,1,false)] [.nil,.nil]
 |121=>.struct [(0,1,false),(1,1,false)] [.nil,.c (.int .i64 0)]
 |126=>.prim .any
 |130=>.struct [(0,1,false),(1,1,false),(2,1,false)] [.nil,.nil,.nil]
 |141=>.struct [(0,1,false),(1,16,true),(17,1,false)] [.nil,.ff,.ff,.ff,.ff,.ff,.ff,.ff,.ff,.ff,.ff,.ff,.ff,.ff,.ff,.ff,.ff,.c (.int .i64 0)]
 |163=>.prim .any
 |165=>.prim .any
 |170=>.arr 16 3 (.nums .i64)
 |181=>.slice 33 1 24 (.prss)
 |183=>.prim (.c (.int .u64 0))
 |193=>.prim (.c (.int .u32 0))
 |194=>.prim (.c (.int .u8 0))
 |195=>.prim (.c (.int .u8 0))
 |198=>.prim (.c (.int .i32 0))
 |199=>.prim (.c (.int .i32 0))
 |_=>.bad
theorem ti2:zb4 Tryz.prog 2 (.prim (.c (.int .i64 0))):=⟨(by delta zap;kernel_rfl),(by delta zy;kernel_rfl),⟨(Go.Value.int Go.IntKind.i64 0),(by delta zai;kernel_rfl),rfl,rfl⟩,λk m h=>(by cases h;kernel_rfl),λh=>(by cases h)⟩
theorem ti3:zb4 Tryz.prog 3 (.prim (.c (.int .i64 0))):=⟨(by delta zap;kernel_rfl),(by delta zy;kernel_rfl),⟨(Go.Value.int Go.IntKind.i64 0),(by delta zai;kernel_rfl),rfl,rfl⟩,λk m h=>(by cases h;kernel_rfl),λh=>(by cases h)⟩
theorem ti4:zb4 Tryz.prog 4 (.prim .ff):=⟨(by delta zap;kernel_rfl),(by delta zy;kernel_rfl),⟨(Go.Value.bool false),(by delta zai;kernel_rfl),rfl,rfl⟩,λk m h=>(by cases h),λh=>(by kernel_rfl)⟩
theorem ti5:zb4 Tryz.prog 5 (.prim (.c (.int .u8 0))):=⟨(by delta zap;kernel_rfl),(by delta zy;kernel_rfl),⟨(Go.Value.int Go.IntKind.u8 0),(by delta zai;kernel_rfl),rfl,rfl⟩,λk m h=>(by cases h;kernel_rfl),λh=>(by cases h)⟩
theorem ti6:zb4 Tryz.prog 6 (.prim (.c (.int .u8 0))):=⟨(by delta zap;kernel_rfl),(by delta zy;kernel_rfl),⟨(Go.Value.int Go.IntKind.u8 0),(by delta zai;kernel_rfl),rfl,rfl⟩,λk m h=>(by cases h;kernel_rfl),λh=>(by cases h)⟩
theorem ti12:zb4 Tryz.prog 12 (.prim (.c (.int .u64 0))):=⟨(by delta zap;kernel_rfl),(by delta zy;kernel_rfl),⟨(Go.Value.int Go.IntKind.u64 0),(by delta zai;kernel_rfl),rfl,rfl⟩,λk m h=>(by cases h;kernel_rfl),λh=>(by cases h)⟩
theorem ti21:zb4 Tryz.prog 21 (.prim (.c (.int .i32 0))):=⟨(by delta zap;kernel_rfl),(by delta zy;kernel_rfl),⟨(Go.Value.int Go.IntKind.i32 0),(by delta zai;kernel_rfl),rfl,rfl⟩,λk m h=>(by cases h;kernel_rfl),λh=>(by cases h)⟩
theorem ti22:zb4 Tryz.prog 22 (.slice 5 1 1 (.nums .u8)):=⟨(by kernel_rfl),(by delta zy;kernel_rfl),(by delta zai;kernel_rfl),(by kernel_rfl),(by delta zai;kernel_rfl),rfl,by decide,by decide⟩
theorem ti23:zb4 Tryz.prog 23 (.slice 37 3 72 (.pgs)):=⟨(by kernel_rfl),(by delta zy;kernel_rfl),(by delta zai;kernel_rfl),(by kernel_rfl),(by delta zai;kernel_rfl),rfl,by decide,by decide⟩
theorem ti25 : zb4 Tryz.prog 25 (.struct [(0, 1, false), (1, 1, false)] [.c (.int .i64 0), .nil]) := ⟨⟨#[{ name := "Root", type := 3, offset := 0, embedded := false, tag := "", pkgPath := "", byteOffset := 0 }, { name := "Pages", type := 23, offset := 1, embedded := false, tag := "", pkgPath := "", byteOffset := 8 }], (by kernel_rfl), ⟨rfl, (by delta zy; kernel_rfl), by decide, (by delta zap; kernel_rfl), (by simp), rfl, (by delta zy; kernel_rfl), by decide, (by delta zap; kernel_rfl), (by simp), trivial⟩⟩, (by delta zy; kernel_rfl), ⟨[Go.Value.int Go.IntKind.i64 0, Go.Value.slice none 0 0], (by delta zai; kernel_rfl), rfl⟩, by decide⟩
theorem ti26:zb4 Tryz.prog 26 (.slice 3 1 8 (.nums .i64)):=⟨(by kernel_rfl),(by delta zy;kernel_rfl),(by delta zai;kernel_rfl),(by kernel_rfl),(by delta zai;kernel_rfl),rfl,by decide,by decide⟩
theorem ti33:zb4 Tryz.prog 33 (.slice 71 2 16 (.prs)):=⟨(by kernel_rfl),(by delta zy;kernel_rfl),(by delta zai;kernel_rfl),(by kernel_rfl),(by delta zai;kernel_rfl),rfl,by decide,by decide⟩
theorem ti37 : zb4 Tryz.prog 37 (.struct [(0, 1, false), (1, 1, false), (2, 1, false)] [.nil, .nil, .nil]) := ⟨⟨#[{ name := "Keys", type := 26, offset := 0, embedded := false, tag := "", pkgPath := "", byteOffset := 0 }, { name := "Kids", type := 26, offset := 1, embedded := false, tag := "", pkgPath := "", byteOffset := 24 }, { name := "Values", type := 26, offset := 2, embedded := false, tag := "", pkgPath := "", byteOffset := 48 }], (by kernel_rfl), ⟨rfl, (by delta zy; kernel_rfl), by decide, (by delta zap; kernel_rfl), (by simp), rfl, (by delta zy; kernel_rfl), by decide, (by delta zap; kernel_rfl), (by simp), rfl, (by delta zy; kernel_rfl), by decide, (by delta zap; kernel_rfl), (by simp), trivial⟩⟩, (by delta zy; kernel_rfl), ⟨[Go.Value.slice none 0 0, Go.Value.slice none 0 0, Go.Value.slice none 0 0], (by delta zai; kernel_rfl), rfl⟩, by decide⟩
theorem ti42:zb4 Tryz.prog 42 (.slice 130 3 72 (.pgs)):=⟨(by kernel_rfl),(by delta zy;kernel_rfl),(by delta zai;kernel_rfl),(by kernel_rfl),(by delta zai;kernel_rfl),rfl,by decide,by decide⟩
theorem ti44 : zb4 Tryz.prog 44 (.struct [(0, 1, false), (1, 1, false)] [.c (.int .i64 0), .nil]) := ⟨⟨#[{ name := "Root", type := 3, offset := 0, embedded := false, tag := "", pkgPath := "", byteOffset := 0 }, { name := "Pages", type := 42, offset := 1, embedded := false, tag := "", pkgPath := "", byteOffset := 8 }], (by kernel_rfl), ⟨rfl, (by delta zy; kernel_rfl), by decide, (by delta zap; kernel_rfl), (by simp), rfl, (by delta zy; kernel_rfl), by decide, (by delta zap; kernel_rfl), (by simp), trivial⟩⟩, (by delta zy; kernel_rfl), ⟨[Go.Value.int Go.IntKind.i64 0, Go.Value.slice none 0 0], (by delta zai; kernel_rfl), rfl⟩, by decide⟩
theorem ti45:zb4 Tryz.prog 45 (.slice 95 3 24 (.ops)):=⟨(by kernel_rfl),(by delta zy;kernel_rfl),(by delta zai;kernel_rfl),(by kernel_rfl),(by delta zai;kernel_rfl),rfl,by decide,by decide⟩
theorem ti50:zb4 Tryz.prog 50 (.slice 93 3 24 (.ops)):=⟨(by kernel_rfl),(by delta zy;kernel_rfl),(by delta zai;kernel_rfl),(by kernel_rfl),(by delta zai;kernel_rfl),rfl,by decide,by decide⟩
theorem ti60:zb4 Tryz.prog 60 (.slice 26 1 24 (.numss)):=⟨(by kernel_rfl),(by delta zy;kernel_rfl),(by delta zai;kernel_rfl),(by kernel_rfl),(by delta zai;kernel_rfl),rfl,by decide,by decide⟩
theorem ti71 : zb4 Tryz.prog 71 (.struct [(0, 1, false), (1, 1, false)] [.c (.int .i64 0), .c (.int .i64 0)]) := ⟨⟨#[{ name := "Key", type := 3, offset := 0, embedded := false, tag := "", pkgPath := "", byteOffset := 0 }, { name := "Value", type := 3, offset := 1, embedded := false, tag := "", pkgPath := "", byteOffset := 8 }], (by kernel_rfl), ⟨rfl, (by delta zy; kernel_rfl), by decide, (by delta zap; kernel_rfl), (by simp), rfl, (by delta zy; kernel_rfl), by decide, (by delta zap; kernel_rfl), (by simp), trivial⟩⟩, (by delta zy; kernel_rfl), ⟨[Go.Value.int Go.IntKind.i64 0, Go.Value.int Go.IntKind.i64 0], (by delta zai; kernel_rfl), rfl⟩, by decide⟩
theorem ti72:zb4 Tryz.prog 72 (.prim .any):=⟨(by delta zap;kernel_rfl),(by delta zy;kernel_rfl),⟨(Go.Value.pointer none),(by delta zai;kernel_rfl),rfl,rfl⟩,λk m h=>(by cases h),λh=>(by cases h)⟩
theorem ti81:zb4 Tryz.prog 81 (.arr 16 4 (.bools)):=⟨(by kernel_rfl),(by delta zy;kernel_rfl),(by delta zap;kernel_rfl),rfl,(by delta zy;kernel_rfl),(by delta zai;kernel_rfl),rfl,by decide⟩
theorem ti83 : zb4 Tryz.prog 83 (.struct [(0, 2, true), (2, 16, true), (18, 1, false)] [.c (.int .i64 0), .nil, .ff, .ff, .ff, .ff, .ff, .ff, .ff, .ff, .ff, .ff, .ff, .ff, .ff, .ff, .ff, .ff, .c (.int .i64 0)]) := ⟨⟨#[{ name := "tree", type := 25, offset := 0, embedded := false, tag := "", pkgPath := "loop.example/pagetree/impl", byteOffset := 0 }, { name := "seen", type := 81, offset := 2, embedded := false, tag := "", pkgPath := "loop.example/pagetree/impl", byteOffset := 32 }, { name := "leafDepth", type := 3, offset := 18, embedded := false, tag := "", pkgPath := "loop.example/pagetree/impl", byteOffset := 48 }], (by kernel_rfl), ⟨rfl, (by delta zy; kernel_rfl), by decide, (by delta zap; kernel_rfl), (by simp), rfl, (by delta zy; kernel_rfl), by decide, (by delta zap; kernel_rfl), (by simp), rfl, (by delta zy; kernel_rfl), by decide, (by delta zap; kernel_rfl), (by simp), trivial⟩⟩, (by delta zy; kernel_rfl), ⟨[Go.Value.int Go.IntKind.i64 0, Go.Value.slice none 0 0, Go.Value.bool false, Go.Value.bool false, Go.Value.bool false, Go.Value.bool false, Go.Value.bool false, Go.Value.bool false, Go.Value.bool false, Go.Value.bool false, Go.Value.bool false, Go.Value.bool false, Go.Value.bool false, Go.Value.bool false, Go.Value.bool false, Go.Value.bool false, Go.Value.bool false, Go.Value.bool false, Go.Value.int Go.IntKind.i64 0], (by delta zai; kernel_rfl), rfl⟩, by decide⟩
theorem ti89 : zb4 Tryz.prog 89 (.struct [(0, 2, true), (2, 1, false), (3, 1, false), (4, 1, false)] [.c (.int .i64 0), .nil, .nil, .nil, .nil]) := ⟨⟨#[{ name := "tree", type := 25, offset := 0, embedded := false, tag := "", pkgPath := "loop.example/pagetree/spec", byteOffset := 0 }, { name := "held", type := 60, offset := 2, embedded := false, tag := "", pkgPath := "loop.example/pagetree/spec", byteOffset := 32 }, { name := "done", type := 26, offset := 3, embedded := false, tag := "", pkgPath := "loop.example/pagetree/spec", byteOffset := 56 }, { name := "got", type := 26, offset := 4, embedded := false, tag := "", pkgPath := "loop.example/pagetree/spec", byteOffset := 80 }], (by kernel_rfl), ⟨rfl, (by delta zy; kernel_rfl), by decide, (by delta zap; kernel_rfl), (by simp), rfl, (by delta zy; kernel_rfl), by decide, (by delta zap; kernel_rfl), (by simp), rfl, (by delta zy; kernel_rfl), by decide, (by delta zap; kernel_rfl), (by simp), rfl, (by delta zy; kernel_rfl), by decide, (by delta zap; kernel_rfl), (by simp), trivial⟩⟩, (by delta zy; kernel_rfl), ⟨[Go.Value.int Go.IntKind.i64 0, Go.Value.slice none 0 0, Go.Value.slice none 0 0, Go.Value.slice none 0 0, Go.Value.slice none 0 0], (by delta zai; kernel_rfl), rfl⟩, by decide⟩
theorem ti93 : zb4 Tryz.prog 93 (.struct [(0, 1, false), (1, 1, false), (2, 1, false)] [.c (.int .i64 0), .c (.int .i64 0), .c (.int .i64 0)]) := ⟨⟨#[{ name := "Kind", type := 3, offset := 0, embedded := false, tag := "", pkgPath := "", byteOffset := 0 }, { name := "Key", type := 3, offset := 1, embedded := false, tag := "", pkgPath := "", byteOffset := 8 }, { name := "Value", type := 3, offset := 2, embedded := false, tag := "", pkgPath := "", byteOffset := 16 }], (by kernel_rfl), ⟨rfl, (by delta zy; kernel_rfl), by decide, (by delta zap; kernel_rfl), (by simp), rfl, (by delta zy; kernel_rfl), by decide, (by delta zap; kernel_rfl), (by simp), rfl, (by delta zy; kernel_rfl), by decide, (by delta zap; kernel_rfl), (by simp), trivial⟩⟩, (by delta zy; kernel_rfl), ⟨[Go.Value.int Go.IntKind.i64 0, Go.Value.int Go.IntKind.i64 0, Go.Value.int Go.IntKind.i64 0], (by delta zai; kernel_rfl), rfl⟩, by decide⟩
theorem ti95 : zb4 Tryz.prog 95 (.struct [(0, 1, false), (1, 1, false), (2, 1, false)] [.c (.int .i64 0), .c (.int .i64 0), .c (.int .i64 0)]) := ⟨⟨#[{ name := "Kind", type := 3, offset := 0, embedded := false, tag := "", pkgPath := "", byteOffset := 0 }, { name := "Key", type := 3, offset := 1, embedded := false, tag := "", pkgPath := "", byteOffset := 8 }, { name := "Value", type := 3, offset := 2, embedded := false, tag := "", pkgPath := "", byteOffset := 16 }], (by kernel_rfl), ⟨rfl, (by delta zy; kernel_rfl), by decide, (by delta zap; kernel_rfl), (by simp), rfl, (by delta zy; kernel_rfl), by decide, (by delta zap; kernel_rfl), (by simp), rfl, (by delta zy; kernel_rfl), by decide, (by delta zap; kernel_rfl), (by simp), trivial⟩⟩, (by delta zy; kernel_rfl), ⟨[Go.Value.int Go.IntKind.i64 0, Go.Value.int Go.IntKind.i64 0, Go.Value.int Go.IntKind.i64 0], (by delta zai; kernel_rfl), rfl⟩, by decide⟩
theorem ti97 : zb4 Tryz.prog 97 (.struct [(0, 2, true), (2, 1, false), (3, 1, false), (4, 1, false), (5, 1, false)] [.c (.int .i64 0), .nil, .nil, .nil, .nil, .nil]) := ⟨⟨#[{ name := "tree", type := 25, offset := 0, embedded := false, tag := "", pkgPath := "loop.example/pagetree/impl", byteOffset := 0 }, { name := "ops", type := 50, offset := 2, embedded := false, tag := "", pkgPath := "loop.example/pagetree/impl", byteOffset := 32 }, { name := "held", type := 60, offset := 3, embedded := false, tag := "", pkgPath := "loop.example/pagetree/impl", byteOffset := 56 }, { name := "results", type := 26, offset := 4, embedded := false, tag := "", pkgPath := "loop.example/pagetree/impl", byteOffset := 80 }, { name := "done", type := 26, offset := 5, embedded := false, tag := "", pkgPath := "loop.example/pagetree/impl", byteOffset := 104 }], (by kernel_rfl), ⟨rfl, (by delta zy; kernel_rfl), by decide, (by delta zap; kernel_rfl), (by simp), rfl, (by delta zy; kernel_rfl), by decide, (by delta zap; kernel_rfl), (by simp), rfl, (by delta zy; kernel_rfl), by decide, (by delta zap; kernel_rfl), (by simp), rfl, (by delta zy; kernel_rfl), by decide, (by delta zap; kernel_rfl), (by simp), rfl, (by delta zy; kernel_rfl), by decide, (by delta zap; kernel_rfl), (by simp), trivial⟩⟩, (by delta zy; kernel_rfl), ⟨[Go.Value.int Go.IntKind.i64 0, Go.Value.slice none 0 0, Go.Value.slice none 0 0, Go.Value.slice none 0 0, Go.Value.slice none 0 0, Go.Value.slice none 0 0], (by delta zai; kernel_rfl), rfl⟩, by decide⟩
theorem ti115 : zb4 Tryz.prog 115 (.struct [(0, 1, false), (1, 1, false)] [.nil, .nil]) := ⟨⟨#[{ name := "Keys", type := 26, offset := 0, embedded := false, tag := "", pkgPath := "", byteOffset := 0 }, { name := "Kids", type := 26, offset := 1, embedded := false, tag := "", pkgPath := "", byteOffset := 24 }], (by kernel_rfl), ⟨rfl, (by delta zy; kernel_rfl), by decide, (by delta zap; kernel_rfl), (by simp), rfl, (by delta zy; kernel_rfl), by decide, (by delta zap; kernel_rfl), (by simp), trivial⟩⟩, (by delta zy; kernel_rfl), ⟨[Go.Value.slice none 0 0, Go.Value.slice none 0 0], (by delta zai; kernel_rfl), rfl⟩, by decide⟩
theorem ti121 : zb4 Tryz.prog 121 (.struct [(0, 1, false), (1, 1, false)] [.nil, .c (.int .i64 0)]) := ⟨⟨#[{ name := "b", type := 22, offset := 0, embedded := false, tag := "", pkgPath := "loop.example/pagetree/spec", byteOffset := 0 }, { name := "p", type := 3, offset := 1, embedded := false, tag := "", pkgPath := "loop.example/pagetree/spec", byteOffset := 24 }], (by kernel_rfl), ⟨rfl, (by delta zy; kernel_rfl), by decide, (by delta zap; kernel_rfl), (by simp), rfl, (by delta zy; kernel_rfl), by decide, (by delta zap; kernel_rfl), (by simp), trivial⟩⟩, (by delta zy; kernel_rfl), ⟨[Go.Value.slice none 0 0, Go.Value.int Go.IntKind.i64 0], (by delta zai; kernel_rfl), rfl⟩, by decide⟩
theorem ti126:zb4 Tryz.prog 126 (.prim .any):=⟨(by delta zap;kernel_rfl),(by delta zy;kernel_rfl),⟨(Go.Value.pointer none),(by delta zai;kernel_rfl),rfl,rfl⟩,λk m h=>(by cases h),λh=>(by cases h)⟩
theorem ti130 : zb4 Tryz.prog 130 (.struct [(0, 1, false), (1, 1, false), (2, 1, false)] [.nil, .nil, .nil]) := ⟨⟨#[{ name := "Keys", type := 26, offset := 0, embedded := false, tag := "", pkgPath := "", byteOffset := 0 }, { name := "Kids", type := 26, offset := 1, embedded := false, tag := "", pkgPath := "", byteOffset := 24 }, { name := "Values", type := 26, offset := 2, embedded := false, tag := "", pkgPath := "", byteOffset := 48 }], (by kernel_rfl), ⟨rfl, (by delta zy; kernel_rfl), by decide, (by delta zap; kernel_rfl), (by simp), rfl, (by delta zy; kernel_rfl), by decide, (by delta zap; kernel_rfl), (by simp), rfl, (by delta zy; kernel_rfl), by decide, (by delta zap; kernel_rfl), (by simp), trivial⟩⟩, (by delta zy; kernel_rfl), ⟨[Go.Value.slice none 0 0, Go.Value.slice none 0 0, Go.Value.slice none 0 0], (by delta zai; kernel_rfl), rfl⟩, by decide⟩
theorem ti141 : zb4 Tryz.prog 141 (.struct [(0, 1, false), (1, 16, true), (17, 1, false)] [.nil, .ff, .ff, .ff, .ff, .ff, .ff, .ff, .ff, .ff, .ff, .ff, .ff, .ff, .ff, .ff, .ff, .c (.int .i64 0)]) := ⟨⟨#[{ name := "pages", type := 23, offset := 0, embedded := false, tag := "", pkgPath := "loop.example/pagetree/impl", byteOffset := 0 }, { name := "gone", type := 81, offset := 1, embedded := false, tag := "", pkgPath := "loop.example/pagetree/impl", byteOffset := 24 }, { name := "joins", type := 3, offset := 17, embedded := false, tag := "", pkgPath := "loop.example/pagetree/impl", byteOffset := 40 }], (by kernel_rfl), ⟨rfl, (by delta zy; kernel_rfl), by decide, (by delta zap; kernel_rfl), (by simp), rfl, (by delta zy; kernel_rfl), by decide, (by delta zap; kernel_rfl), (by simp), rfl, (by delta zy; kernel_rfl), by decide, (by delta zap; kernel_rfl), (by simp), trivial⟩⟩, (by delta zy; kernel_rfl), ⟨[Go.Value.slice none 0 0, Go.Value.bool false, Go.Value.bool false, Go.Value.bool false, Go.Value.bool false, Go.Value.bool false, Go.Value.bool false, Go.Value.bool false, Go.Value.bool false, Go.Value.bool false, Go.Value.bool false, Go.Value.bool false, Go.Value.bool false, Go.Value.bool false, Go.Value.bool false, Go.Value.bool false, Go.Value.bool false, Go.Value.int Go.IntKind.i64 0], (by delta zai; kernel_rfl), rfl⟩, by decide⟩
theorem ti163:zb4 Tryz.prog 163 (.prim .any):=⟨(by delta zap;kernel_rfl),(by delta zy;kernel_rfl),⟨(Go.Value.pointer none),(by delta zai;kernel_rfl),rfl,rfl⟩,λk m h=>(by cases h),λh=>(by cases h)⟩
theorem ti165:zb4 Tryz.prog 165 (.prim .any):=⟨(by delta zap;kernel_rfl),(by delta zy;kernel_rfl),⟨(Go.Value.pointer none),(by delta zai;kernel_rfl),rfl,rfl⟩,λk m h=>(by cases h),λh=>(by cases h)⟩
theorem ti170:zb4 Tryz.prog 170 (.arr 16 3 (.nums .i64)):=⟨(by kernel_rfl),(by delta zy;kernel_rfl),(by delta zap;kernel_rfl),rfl,(by delta zy;kernel_rfl),(by delta zai;kernel_rfl),rfl,by decide⟩
theorem ti181:zb4 Tryz.prog 181 (.slice 33 1 24 (.prss)):=⟨(by kernel_rfl),(by delta zy;kernel_rfl),(by delta zai;kernel_rfl),(by kernel_rfl),(by delta zai;kernel_rfl),rfl,by decide,by decide⟩
theorem ti183:zb4 Tryz.prog 183 (.prim (.c (.int .u64 0))):=⟨(by delta zap;kernel_rfl),(by delta zy;kernel_rfl),⟨(Go.Value.int Go.IntKind.u64 0),(by delta zai;kernel_rfl),rfl,rfl⟩,λk m h=>(by cases h;kernel_rfl),λh=>(by cases h)⟩
theorem ti193:zb4 Tryz.prog 193 (.prim (.c (.int .u32 0))):=⟨(by delta zap;kernel_rfl),(by delta zy;kernel_rfl),⟨(Go.Value.int Go.IntKind.u32 0),(by delta zai;kernel_rfl),rfl,rfl⟩,λk m h=>(by cases h;kernel_rfl),λh=>(by cases h)⟩
theorem ti194:zb4 Tryz.prog 194 (.prim (.c (.int .u8 0))):=⟨(by delta zap;kernel_rfl),(by delta zy;kernel_rfl),⟨(Go.Value.int Go.IntKind.u8 0),(by delta zai;kernel_rfl),rfl,rfl⟩,λk m h=>(by cases h;kernel_rfl),λh=>(by cases h)⟩
theorem ti195:zb4 Tryz.prog 195 (.prim (.c (.int .u8 0))):=⟨(by delta zap;kernel_rfl),(by delta zy;kernel_rfl),⟨(Go.Value.int Go.IntKind.u8 0),(by delta zai;kernel_rfl),rfl,rfl⟩,λk m h=>(by cases h;kernel_rfl),λh=>(by cases h)⟩
theorem ti198:zb4 Tryz.prog 198 (.prim (.c (.int .i32 0))):=⟨(by delta zap;kernel_rfl),(by delta zy;kernel_rfl),⟨(Go.Value.int Go.IntKind.i32 0),(by delta zai;kernel_rfl),rfl,rfl⟩,λk m h=>(by cases h;kernel_rfl),λh=>(by cases h)⟩
theorem ti199:zb4 Tryz.prog 199 (.prim (.c (.int .i32 0))):=⟨(by delta zap;kernel_rfl),(by delta zy;kernel_rfl),⟨(Go.Value.int Go.IntKind.i32 0),(by delta zai;kernel_rfl),rfl,rfl⟩,λk m h=>(by cases h;kernel_rfl),λh=>(by cases h)⟩
theorem tOk:TOk Tryz.prog T:=λt=>by
 unfold T
 split
 ·exact ti2
 ·exact ti3
 ·exact ti4
 ·exact ti5
 ·exact ti6
 ·exact ti12
 ·exact ti21
 ·exact ti22
 ·exact ti23
 ·exact ti25
 ·exact ti26
 ·exact ti33
 ·exact ti37
 ·exact ti42
 ·exact ti44
 ·exact ti45
 ·exact ti50
 ·exact ti60
 ·exact ti71
 ·exact ti72
 ·exact ti81
 ·exact ti83
 ·exact ti89
 ·exact ti93
 ·exact ti95
 ·exact ti97
 ·exact ti115
 ·exact ti121
 ·exact ti126
 ·exact ti130
 ·exact ti141
 ·exact ti163
 ·exact ti165
 ·exact ti170
 ·exact ti181
 ·exact ti183
 ·exact ti193
 ·exact ti194
 ·exact ti195
 ·exact ti198
 ·exact ti199
 ·trivial
theorem yfn:zyq Tryz.prog 71:=⟨by kernel_rfl,λa b c d w=>by
 show(Op.equalIn 10000 71 _ _).run Tryz.prog w=_
 rw[run_equalIn_struct w 9999 71 _ _ (by kernel_rfl) (by kernel_rfl)]
 have hf : (Tryz.prog.fieldsOf 71).toList = [{ name := "Key", type := 3, offset := 0, embedded := false, tag := "", pkgPath := "", byteOffset := 0 }, { name := "Value", type := 3, offset := 1, embedded := false, tag := "", pkgPath := "", byteOffset := 8 }] := by kernel_rfl
 have hp:Tryz.prog.plainKey 3=true:=by kernel_rfl
 have hu:Tryz.prog.underlying 3=some (.int .i64):=by kernel_rfl
 have e1:∀(x y:Int) (w:World),(part 3 #[.int .i64 x,.int .i64 y] 0).run Tryz.prog w=.ok (.int .i64 x) w:=λx y w=>run_part_plain w hp rfl
 have e2:∀(x y:Int) (w:World),(part 3 #[.int .i64 x,.int .i64 y] 1).run Tryz.prog w=.ok (.int .i64 y) w:=λx y w=>run_part_plain w hp rfl
 have e3:∀(x y:Int) (w:World),(Op.equalIn 9999 3 (.int .i64 x) (.int .i64 y)).run Tryz.prog w=.ok (x==y) w:=λx y w=>run_equalIn_int w 9998 3 .i64 .i64 x y hu
 rw[hf]
 simp only[Op.eqFields,e1,e2,e3,Sem.run_bind,Result.andThen_ok]
 cases h1:(a==c)<;>cases h2:(b==d)<;>simp[Op.eqFields,e1,e2,e3,h1,h2]⟩
theorem eOk:EOk Tryz.prog T:=λt h=>by
 unfold T at h
 split at h<;>first|cases h|skip
 ·exact yfn
theorem mix:Tryz.prog.follows .mixedOrders=true:=by kernel_rfl
theorem spi {f n m : Nat} {fn : Func} {args : List V} {hin hout : List (Nat × O)} {res : V} (c : Code) (h : zwv T Tryz.prog fn c n args hin m res hout) (hf : Tryz.prog.funcs[f]? = some fn := by kernel_rfl) (hname : (fn.name == "runtime.NumGoroutine") = false := by decide +kernel) (hb : fn.body = some c := by rfl) (hnt : Nat.ble args.length fn.ntmps = true := by rfl) (hst : za3 hin hout = true := by rfl) : zr Tryz.prog f n args hin m res hout :=
 zxi tOk eOk mix c hf hname hb hnt hst h
theorem spx {f n : Nat} {fn : Func} {args : List V} {hin : List (Nat × O)} {R : Nat → V → List (Nat × O) → Prop} (c : Code) (h : zti T Tryz.prog fn c n args hin R) (hf : Tryz.prog.funcs[f]? = some fn := by kernel_rfl) (hname : (fn.name == "runtime.NumGoroutine") = false := by decide +kernel) (hb : fn.body = some c := by rfl) (hnt : Nat.ble args.length fn.ntmps = true := by rfl) : zce Tryz.prog f n args hin R :=
 zvb tOk eOk mix c hf hname hb hnt h
end Go.VL
namespace Go.VL
open Go.Proofs
set_option maxRecDepth 10000
set_option linter.unusedSimpArgs false
set_option linter.unusedVariables false
theorem zo5 (xs:List Int) (n:Int) (hl:xs.length≤4294967296):zr Tryz.prog 98 0 [.c (.nums .i64 xs),.c (.int .i64 n)] [] 0 (.c (.bool (xs.contains n))) []:=by
 refine spi (fn:=Tryz.f98) _ ?_
 conv=>whnf
 refine zau (λk:Nat=>(xs.take k).contains n=false) (λk=>⟨18,0,[(0,.c (.nums .i64 xs)),(1,.c (.int .i64 n)),(5,.c (.int .i64 k))],[]⟩) (λk=>xs.length-k) 0 (by simp) (λ_=>Nat.zero_le _) zbn (λk hk=>?_)
 conv=>whnf
 repeat' first
  |(refine za (by(try simp only[wA,wN,wL])<;>omega) ?_;conv=>whnf)
  |(refine zk (λh=>?_) (λh=>?_)<;>(try simp only[qA]at h)<;>(try simp only[wA,wN]at h)<;>conv=>whnf)
  |refine zc ?_
  |refine zd ?_
  |(refine zg (by(try simp only[wA,wN,wL])<;>omega) (by(try simp only[wA,wN,wL])<;>omega) ?_;conv=>whnf)
 ·rename_i h1
  have h1:k<xs.length:=by omega
  rw[List.contains_iff_mem,←h]
  simp[h1]
 ·exact⟨⟨k+1,zmd hk (by omega) (by assumption)⟩,zbn,by dsimp only;omega⟩
 ·rwa [List.take_of_length_le (by omega)]at hk
theorem zgy (n lo hi:Int):zr Tryz.prog 94 0 [.c (.int .i64 n),.c (.int .i64 lo),.c (.int .i64 hi)] [] 0 (.c (.bool (decide (lo≤n∧n≤hi)))) []:=by
 refine spi (fn:=Tryz.f94) _ ?_
 conv=>whnf
 repeat' first|(refine zk (λh=>?_) (λh=>?_)<;>(try simp only[qA]at h)<;>(try simp only[wA,wN]at h)<;>conv=>whnf)|refine zd ?_|refine zh ?_
 ·simp[h]
 ·simp[h]
theorem z2a (n:Int):zr Tryz.prog 125 0 [.c (.int .i64 n)] [] 0 (.c (.bool (decide (0≤n∧n≤99)))) []:=by
 refine spi (fn:=Tryz.f125) _ ?_
 conv=>whnf
 repeat' first|(refine zk (λh=>?_) (λh=>?_)<;>(try simp only[qA]at h)<;>(try simp only[wA,wN]at h)<;>conv=>whnf)|refine zd ?_|refine zh ?_
 ·have h:0≤n:=by omega
  simp[h]
 ·simp;omega
theorem zqg (xs:List Int) (lo hi:Int) (hl:xs.length≤4294967296):zr Tryz.prog 105 0 [.c (.nums .i64 xs),.c (.int .i64 lo),.c (.int .i64 hi)] [] 0 (.c (.bool (xs.all λx=>decide (lo≤x∧x≤hi)))) []:=by
 refine spi (fn:=Tryz.f105) _ ?_
 conv=>whnf
 refine zau (λk:Nat=>(xs.take k).all (λx=>decide (lo≤x∧x≤hi))=true) (λk=>⟨22,0,[(0,.c (.nums .i64 xs)),(1,.c (.int .i64 lo)),(2,.c (.int .i64 hi)),(7,.c (.int .i64 k))],[]⟩) (λk=>xs.length-k) 0 (by simp) (λ_=>Nat.zero_le _) zbn (λk hk=>?_)
 conv=>whnf
 repeat' first
  |(refine za (by(try simp only[wA,wN,wL])<;>omega) ?_;conv=>whnf)
  |(refine zk (λh=>?_) (λh=>?_)<;>(try simp only[qA]at h)<;>(try simp only[wA,wN]at h)<;>conv=>whnf)
  |refine zc ?_
  |refine zd ?_
  |(refine zg (by(try simp only[wA,wN,wL])<;>omega) (by(try simp only[wA,wN,wL])<;>omega) ?_;conv=>whnf)
  |(refine zp (zgy _ _ _) rfl rfl ?_;conv=>whnf)
 ·rename_i h1
  exact zf6 0 (k:=k) (by omega) (by simp at h⊢;omega)
 ·rename_i h1
  exact⟨⟨k+1,zeg 0 hk (by omega) (by simpa using h)⟩,zbn,by dsimp only;omega⟩
 ·exact zh3 hk (by omega)
theorem zkj (xs:List Int) (hl:xs.length≤4294967296):zr Tryz.prog 140 0 [.c (.nums .i64 xs)] [] 0 (.c (.bool (za2 xs))) []:=by
 refine spi (fn:=Tryz.f140) _ ?_
 conv=>whnf
 refine zau (λk:Nat=>1≤k∧Asc (xs.take k)) (λk=>⟨22,0,[(0,.c (.nums .i64 xs)),(3,.c (.int .i64 k))],[]⟩) (λk=>xs.length-k) 1 ⟨Nat.le_refl _,by cases xs<;>simp[Asc]⟩ (λ_=>Nat.zero_le _) zbn (λk hk=>?_)
 obtain⟨hk1,hk⟩:=hk
 conv=>whnf
 repeat' first
  |(refine za (by kernel_rfl) ?_;conv=>whnf)
  |(refine za (by(try simp only[wA,wN,wL])<;>omega) ?_;conv=>whnf)
  |(refine zk (λh=>?_) (λh=>?_)<;>(try simp only[qA]at h)<;>(try simp only[wA,wN]at h)<;>conv=>whnf)
  |refine zd ?_
  |refine zh ?_
  |(refine zg (by(try simp only[wA,wN,wL])<;>omega) (by(try simp only[wA,wN,wL])<;>omega) ?_;conv=>whnf)
  |(refine zp (zqg _ _ _ hl) rfl rfl ?_;conv=>whnf)
  |(refine ze ?_;conv=>whnf)
 ·rename_i h1
  unfold za2
  rw[Bool.and_eq_false_iff,decide_eq_false_iff_not]
  refine .inl λha=>?_
  have:=zez ha (i:=k-1) (j:=k) (by omega) (by omega)
  omega
 ·rename_i h1
  exact⟨⟨k+1,by omega,zon hk (by omega) λ_=>by omega⟩,zbn,by dsimp only;omega⟩
 ·rw[List.take_of_length_le (by omega)]at hk
  simp[za2,hk]
theorem zfj (xs:List Int) (hl:xs.length≤4294967296):zr Tryz.prog 141 0 [.c (.nums .i64 xs)] [] 0 (.c (.bool (za2 xs))) []:=by
 refine spi (fn:=Tryz.f141) _ ?_
 conv=>whnf
 refine zau (λk:Nat=>Asc (xs.take k)∧(xs.take k).all (λx=>decide (0≤x∧x≤99))=true) (λk=>⟨27,0,[(0,.c (.nums .i64 xs)),(5,.c (.nums .i64 xs)),(6,.c (.int .i64 xs.length)),(7,.c (.int .i64 k))],[]⟩) (λk=>xs.length-k) 0 ⟨by simp[Asc],by simp⟩ (λ_=>Nat.zero_le _) zbn (λk hk=>?_)
 obtain⟨hk,hk2⟩:=hk
 conv=>whnf
 repeat' first
  |(refine za (by(try simp only[wA,wN,wL])<;>omega) ?_;conv=>whnf)
  |(refine zk (λh=>?_) (λh=>?_)<;>(try simp only[qA]at h)<;>(try simp only[wA,wN]at h)<;>conv=>whnf)
  |refine zc ?_
  |refine zd ?_
  |(refine zg (by(try simp only[wA,wN,wL])<;>omega) (by(try simp only[wA,wN,wL])<;>omega) ?_;conv=>whnf)
  |(refine zp (z2a _) rfl rfl ?_;conv=>whnf)
 ·rename_i h1
  rw[za2,zf6 0 (k:=k) (by omega) (by simp at h⊢;omega),Bool.and_false]
 ·rename_i h1 h2 h3
  unfold za2
  rw[Bool.and_eq_false_iff,decide_eq_false_iff_not]
  refine .inl λha=>?_
  have:=zez ha (i:=k-1) (j:=k) (by omega) (by omega)
  omega
 ·rename_i h1 h2 h3
  exact⟨⟨k+1,zon hk (by omega) λ_=>by omega,zeg 0 hk2 (by omega) (by simp at h2⊢;omega)⟩,zbn,by dsimp only;omega⟩
 ·rename_i h1 h2
  exact⟨⟨k+1,zon hk (by omega) λ_=>by omega,zeg 0 hk2 (by omega) (by simp at h2⊢;omega)⟩,zbn,by dsimp only;omega⟩
 ·rw[List.take_of_length_le (by omega)]at hk hk2
  simp only[za2,hk,hk2];rfl
end Go.VL
namespace Go.VL
open Go.Proofs
set_option maxRecDepth 10000
set_option linter.unusedSimpArgs false
set_option linter.unusedVariables false
theorem zcn (xs:List Int) (hl:xs.length≤4294967296):zr Tryz.prog 55 0 [.c (.nums .i64 xs)] [] 1 (.slc 0) [(0,.arr (.nums .i64 xs))]:=by
 refine spi (fn:=Tryz.f55) _ ?_
 conv=>whnf
 repeat' (refine za (by(try simp only[wA,wN,wL])<;>omega) ?_;conv=>whnf)
 exact(zu [] [0])
theorem znk (xs:List Int) (n:Int) (hl:xs.length≤4294967296):zr Tryz.prog 157 0 [.c (.nums .i64 xs),.c (.int .i64 n)] [] 0 (.c (.int .i64 (belF xs n))) []:=by
 refine spi (fn:=Tryz.f157) _ ?_
 conv=>whnf
 refine zau (λk:Nat=>k≤xs.length∧(xs.take k).all (λx=>decide (x<n))=true) (λk=>⟨21,0,[(0,.c (.nums .i64 xs)),(1,.c (.int .i64 n)),(5,.c (.int .i64 k))],[]⟩) (λk=>xs.length-k) 0 ⟨by omega,by simp⟩ (λ_=>Nat.zero_le _) zbn (λk hk=>?_)
 obtain⟨hk,hk2⟩:=hk
 conv=>whnf
 repeat' first
  |(refine za (by(try simp only[wA,wN,wL])<;>omega) ?_;conv=>whnf)
  |(refine zk (λh=>?_) (λh=>?_)<;>(try simp only[qA]at h)<;>(try simp only[wA,wN]at h)<;>conv=>whnf)
  |refine zi ?_
  |(refine zg (by(try simp only[wA,wN,wL])<;>omega) (by(try simp only[wA,wN,wL])<;>omega) ?_;conv=>whnf)
 ·refine⟨⟨k+1,?_⟩,zbn,by dsimp only;omega⟩;(try dsimp only)
  exact⟨by omega,zeg 0 hk2 (by omega) (by exact decide_eq_true (by omega))⟩
 ·rw[zvp n xs k hk2 hk (λ_=>h)]
 ·rw[zvp n xs k hk2 hk (λh2=>absurd h2 (by omega))]
end Go.VL
namespace Go.VL
open Go.Proofs
set_option maxRecDepth 10000
set_option linter.unusedSimpArgs false
set_option linter.unusedVariables false
set_option maxHeartbeats 2000000 in
theorem zx0 (root:Int) (ps:List Pg) (hp:pB ps) (d:Nat):∀(at_ low high z:Int),d≤1000→z=d+1→0≤at_→at_<ps.length→zr Tryz.prog 96 0 [trV root ps,.c (.int .i64 at_),.c (.int .i64 low),.c (.int .i64 high),.c (.int .i64 z)] [] 0 (.c (.bool (pgF ps root (d+1) at_ low high))) []:=by
 induction d with
 |zero =>
  intro at_ low high z hd hz h0 h1
  have k1:=hp.keys at_
  have k2:=hp.kids at_
  have k3:=hp.vals at_
  have k4:=hp.len
  dsimp only[zb]at k1 k2 k3
  obtain⟨V,hV⟩:∃V,pgF ps root (0+1) at_ low high=V:=⟨_,rfl⟩
  rw[hV]
  refine spi (fn:=Tryz.f96) _ ?_
  conv=>whnf
  repeat' first
   |(refine za (by(try simp only[wA,wN,wL])<;>omega) ?_;conv=>whnf)
   |(refine zk (λh=>?_) (λh=>?_)<;>(try simp only[qA]at h)<;>(try simp only[wA,wN]at h)<;>conv=>whnf)
   |refine zd ?_
   |refine zh ?_
   |(refine zg (by(try simp only[wA,wN,wL])<;>omega) (by(try simp only[wA,wN,wL])<;>omega) ?_;conv=>whnf)
   |(refine zp (zkj _ (by assumption)) rfl rfl ?_;conv=>whnf)
   |(refine zp (zqg _ _ _ (by assumption)) rfl rfl ?_;conv=>whnf)
  all_goals first
   |exact z1t hV h
   |exact z1s hV (by omega)
   |exact z1u hV h
   |exact z1q hV (by assumption) (by omega)
   |exact pgF_5 hV rfl (by omega)
   |exact pgF_6 hV rfl (by omega)
   |exact(pgF_7 hV rfl (by assumption) (by omega) (by assumption) (by omega) (by omega) (by omega)).symm
   |(exfalso;omega)
 |succ d ih =>
  intro at_ low high z hd hz h0 h1
  have k1:=hp.keys at_
  have k2:=hp.kids at_
  have k3:=hp.vals at_
  have k4:=hp.len
  dsimp only[zb]at k1 k2 k3
  obtain⟨V,hV⟩:∃V,pgF ps root (d+1+1) at_ low high=V:=⟨_,rfl⟩
  rw[hV]
  refine spi (fn:=Tryz.f96) _ ?_
  conv=>whnf
  repeat' first
   |(refine za (by(try simp only[wA,wN,wL])<;>omega) ?_;conv=>whnf)
   |(refine zk (λh=>?_) (λh=>?_)<;>(try simp only[qA]at h)<;>(try simp only[wA,wN]at h)<;>conv=>whnf)
   |refine zd ?_
   |refine zh ?_
   |(refine zg (by(try simp only[wA,wN,wL])<;>omega) (by(try simp only[wA,wN,wL])<;>omega) ?_;conv=>whnf)
   |(refine zp (zkj _ (by assumption)) rfl rfl ?_;conv=>whnf)
   |(refine zp (zqg _ _ _ (by assumption)) rfl rfl ?_;conv=>whnf)
  all_goals first
   |exact z1t hV h
   |exact z1s hV (by omega)
   |exact z1u hV h
   |exact z1q hV (by assumption) (by omega)
   |exact pgF_8 hV (by omega) (by omega)
   |exact pgF_9 hV (by omega) (by omega)
   |exact z3u hV (by omega) (by omega)
   |exact z3r hV (by omega) h
   |(exfalso;omega)
   |skip
  all_goals
   have hfin:=z3s hV (by omega) (by assumption) (by omega) (by assumption) (by omega) (by omega) (by omega) (by omega) h
   have hkid:∀i,i<(ps.getD at_.toNat ⟨[],[],[]⟩).kids.length→0≤(ps.getD at_.toNat ⟨[],[],[]⟩).kids.getD i 0∧(ps.getD at_.toNat ⟨[],[],[]⟩).kids.getD i 0<ps.length:=λi hi=>by
    have h9:=of_decide_eq_true (zsz h hi)
    omega
   have hkey:=z2r (show za2 (ps.getD at_.toNat ⟨[],[],[]⟩).keys=true by assumption)
   have hk5:(ps.getD at_.toNat ⟨[],[],[]⟩).keys.length≠0:=by omega
   have hlk:(ps.getD at_.toNat ⟨[],[],[]⟩).kids.length=(ps.getD at_.toNat ⟨[],[],[]⟩).keys.length+1:=by omega
   clear h
   clear hV
   generalize hpg:ps.getD at_.toNat ⟨[],[],[]⟩=pg at *
   refine zau (λ(i:Nat)=>i≤pg.kids.length∧∀j,j<i→pgF ps root (d+1) (pg.kids.getD j 0) (if 0<j then pg.keys.getD (j-1) 0 else low) (if j<pg.keys.length then pg.keys.getD j 0-1 else high)=true)
    (λi=>⟨140,2,[(1,.c (.int .i64 at_)),(2,.c (.int .i64 low)),(3,.c (.int .i64 high)),(4,.c (.int .i64 z)),(5,.ptr 0 0 0 0),(11,.ptr 1 0 0 0),(12,.c (.int .i64 i))],[(0,.box [.c (.int .i64 root),.c (.pgs ps)] [] []),(1,.box [.c (.nums .i64 pg.keys),.c (.nums .i64 pg.kids),.c (.nums .i64 pg.vals)] [] [])]⟩) (λi=>pg.kids.length-i) 0 ⟨Nat.zero_le _,λj hj=>by omega⟩ (λ_=>Nat.zero_le _) (ydn [] [0,1]) (λi hi=>?_)
   obtain⟨hi,hall⟩:=hi
   have k1':pg.keys.length≤4:=by omega
   have q1:=hkey i
   have q2:=hkey (i-1)
   conv=>whnf
   repeat' first
    |(refine za (by kernel_rfl) ?_;conv=>whnf)
    |(refine za (by(try simp only[wA,wN,wL])<;>omega) ?_;conv=>whnf)
    |(refine zk (λh=>?_) (λh=>?_)<;>(try simp only[qA]at h)<;>(try simp only[wA,wN]at h)<;>conv=>whnf)
    |refine zc ?_
    |refine zd ?_
    |(refine zg (by(try simp only[wA,wN,wL])<;>omega) (by(try simp only[wA,wN,wL])<;>omega) ?_;conv=>whnf)
    |(refine zw (ih (pg.kids.getD i 0) _ _ (z-1) (by omega) (by omega) (hkid i (by omega)).1 (hkid i (by omega)).2) rfl rfl ?_;conv=>whnf)
    |(refine ze ?_;conv=>whnf)
   all_goals first
    |exact hfin.trans (zo0 (i:=i) (by omega) (by(try dsimp only);first|(rw[if_pos (by omega:0<i),if_pos (by omega:i<pg.keys.length)];exact h)|(rw[if_pos (by omega:0<i),if_neg (by omega:¬i<pg.keys.length)];exact h)|(rw[if_neg (by omega:¬0<i),if_pos (by omega:i<pg.keys.length)];exact h)))
    |exact hfin.trans (zqx λj hj=>hall j (by omega))
    |(exfalso;omega)
    |(refine⟨⟨i+1,⟨by omega,λj hj=>?_⟩⟩,(ydn [] [0,1]),by dsimp only;omega⟩
      by_cases hji:j=i
      ·subst hji
       first
       |(rw[if_pos (by omega:0<j),if_pos (by omega:j<pg.keys.length)];exact h)
       |(rw[if_pos (by omega:0<j),if_neg (by omega:¬j<pg.keys.length)];exact h)
       |(rw[if_neg (by omega:¬0<j),if_pos (by omega:j<pg.keys.length)];exact h)
      ·exact hall j (by omega))
end Go.VL
namespace Go.VL
open Go.Proofs
set_option maxRecDepth 10000
set_option linter.unusedSimpArgs false
set_option linter.unusedVariables false
theorem zxv (root:Int) (ps:List Pg) (hp:pB ps):zr Tryz.prog 95 0 [trV root ps] [] 0 (.c (.int .i64 (hgF ps 3 root 1))) []:=by
 have k4:=hp.len
 obtain⟨V,hV⟩:∃V,hgF ps 3 root 1=V:=⟨_,rfl⟩
 rw[hV]
 refine spi (fn:=Tryz.f95) _ ?_
 conv=>whnf
 refine zk5 (λ(f:Nat) (at_ n:Int)=>n+f=4∧1≤n∧hgF ps f at_ n=V)
  (λf at_ n=>⟨38,1,[(1,.ptr 0 0 0 0),(3,.c (.int .i64 n)),(4,.c (.int .i64 at_))],[(0,.box [.c (.int .i64 root),.c (.pgs ps)] [] [])]⟩) (λf at_ n=>f) 3 root 1 ⟨by omega,by omega,hV⟩ (λ_ _ _=>Nat.zero_le _) (ydn [] [0]) (λf at_ n hi=>?_)
 obtain⟨hf,hn,hv⟩:=hi
 have k2:=hp.kids at_
 dsimp only[zb]at k2
 conv=>whnf
 repeat' first
  |(refine za (by(try simp only[wA,wN,wL])<;>omega) ?_;conv=>whnf)
  |(refine zk (λh=>?_) (λh=>?_)<;>(try simp only[qA]at h)<;>(try simp only[wA,wN]at h)<;>conv=>whnf)
  |refine zi ?_
  |(refine zg (by(try simp only[wA,wN,wL])<;>omega) (by(try simp only[wA,wN,wL])<;>omega) ?_;conv=>whnf)
  |(refine zp (zgy _ _ _) rfl rfl ?_;conv=>whnf)
 ·obtain⟨f,rfl⟩:∃f',f=f'+1:=⟨f-1,by omega⟩
  rw[zqp (by assumption) (by omega)]at hv
  refine⟨⟨(f,(ps.getD at_.toNat ⟨[],[],[]⟩).kids.getD 0 0,n+1),⟨by dsimp only;omega,by dsimp only;omega,hv⟩⟩,(ydn [] [0]),by dsimp only;omega⟩
 ·obtain⟨f,rfl⟩:∃f',f=f'+1:=⟨f-1,by omega⟩
  rw[zqm (.inr (by omega))]at hv
  exact hv
 ·obtain⟨f,rfl⟩:∃f',f=f'+1:=⟨f-1,by omega⟩
  rw[zqm (.inl h)]at hv
  exact hv
 ·obtain rfl:f=0:=by omega
  exact hv
theorem zyt (root:Int) (ps:List Pg) (hp:pB ps) (d:Nat):∀(at_:Int),d≤8→wkOk ps d at_→zr Tryz.prog 97 0 [trV root ps,.c (.int .i64 at_)] [] 1 (.slc 0) [(0,.arr (.nums .i64 (wkF ps d at_)))]:=by
 induction d with
 |zero=>intro at_ _ h;exact h.elim
 |succ d ih =>
  intro at_ hd h
  obtain⟨h0,h1,h2,h3⟩:=h
  have k4:=hp.len
  have hw:wkB d≤97656:=Nat.le_trans (zfs (show d≤8 by omega)) (by decide)
  obtain⟨V,hV⟩:∃V,wkF ps (d+1) at_=V:=⟨_,rfl⟩
  rw[hV]
  have hV':at_::(ps.getD at_.toNat ⟨[],[],[]⟩).kids.flatMap (wkF ps d)=V:=by rw[←hV];rfl
  dsimp only[zb]at h2 h3
  refine spi (fn:=Tryz.f97) _ ?_
  conv=>whnf
  refine zau (λ(i:Nat)=>i≤(ps.getD at_.toNat ⟨[],[],[]⟩).kids.length) (λi=>⟨34,2,[(1,.c (.int .i64 at_)),(2,.ptr 0 0 0 0),(5,.slc 1),(6,.c (.int .i64 i))],[(0,.box [.c (.int .i64 root),.c (.pgs ps)] [] []),(1,.arr (.nums .i64 (at_::((ps.getD at_.toNat ⟨[],[],[]⟩).kids.take i).flatMap (wkF ps d))))]⟩)
   (λi=>(ps.getD at_.toNat ⟨[],[],[]⟩).kids.length-i) 0 (Nat.zero_le _) (λ_=>Nat.zero_le _) (ydn [] [0,1]) (λi hi=>?_)
  have hfl:=z0w (ps:=ps) (d:=d) (l:=(ps.getD at_.toNat ⟨[],[],[]⟩).kids.take i) (λk hk=>h3 k (List.mem_of_mem_take hk))
  have hfl2:((ps.getD at_.toNat ⟨[],[],[]⟩).kids.take i).length*wkB d≤5*wkB d:=Nat.mul_le_mul_right _ (by rw[List.length_take];omega)
  have hel:∀j,j<(ps.getD at_.toNat ⟨[],[],[]⟩).kids.length→wkOk ps d ((ps.getD at_.toNat ⟨[],[],[]⟩).kids.getD j 0):=λj hj=>by
   have e:(ps.getD at_.toNat ⟨[],[],[]⟩).kids.getD j 0=(ps.getD at_.toNat ⟨[],[],[]⟩).kids[j]:=by rw[List.getD_eq_getElem?_getD,List.getElem?_eq_getElem hj];rfl
   rw[e];exact h3 _ (List.getElem_mem hj)
  conv=>whnf
  by_cases hlt:i<(ps.getD at_.toNat ⟨[],[],[]⟩).kids.length
  ·have hwl:=zg5 d (hel i hlt)
   repeat' first
    |(refine za (by kernel_rfl) ?_;conv=>whnf)
    |(refine za (by(try simp only[wA,wN,wL])<;>omega) ?_;conv=>whnf)
    |(refine zk (λh=>?_) (λh=>?_)<;>(try simp only[qA]at h)<;>(try simp only[wA,wN]at h)<;>conv=>whnf)
    |(refine zg (by(try simp only[wA,wN,wL])<;>omega) (by(try simp only[wA,wN,wL])<;>omega) ?_;conv=>whnf)
    |(refine zar (ih ((ps.getD at_.toNat ⟨[],[],[]⟩).kids.getD i 0) (by omega) (hel i hlt)) rfl rfl ?_;conv=>whnf)
    |(refine zo ?_;conv=>whnf)
    |(refine ze ?_;conv=>whnf)
   ·refine⟨⟨i+1,by omega⟩,?_,by dsimp only;omega⟩
    refine(zbd [] [0,1] ⟨by repeat first|exact trivial|refine⟨rfl,?_⟩,⟨rfl,?_,trivial⟩,rfl,rfl,rfl,rfl,rfl,rfl,rfl⟩)
    exact congrArg (λz=>some (O.arr (C.nums .i64 (at_::z)))) (zzt (wkF ps d) (ps.getD at_.toNat ⟨[],[],[]⟩).kids i hlt).symm
   ·exact absurd hlt (by omega)
  ·rw[List.take_of_length_le (by omega),hV']
   repeat' first
    |(refine za (by(try simp only[wA,wN,wL])<;>omega) ?_;conv=>whnf)
    |(refine zk (λh=>?_) (λh=>?_)<;>(try simp only[qA]at h)<;>(try simp only[wA,wN]at h)<;>conv=>whnf)
    |(refine ze ?_;conv=>whnf)
   ·exfalso;omega
   ·exact(zu [] [1])
end Go.VL
namespace Go.VL
open Go.Proofs
set_option maxRecDepth 10000
set_option linter.unusedSimpArgs false
set_option linter.unusedVariables false
set_option maxHeartbeats 2000000 in
theorem zay (root:Int) (ps:List Pg) (hp:pB ps):zr Tryz.prog 58 0 [trV root ps] [] 0 (.c (.bool (vTree root ps))) []:=by
 have k4:=hp.len
 obtain⟨V,hV⟩:∃V,vTree root ps=V:=⟨_,rfl⟩
 rw[hV]
 have hb:=hg_b (ps:=ps) 3 (at_:=root) (n:=1)
 obtain⟨d,hH⟩:∃d:Nat,hgF ps 3 root 1=(d:Int)+1:=⟨(hgF ps 3 root 1-1).toNat,by omega⟩
 have hd:d≤3:=by omega
 have hhv:=zxv root ps hp
 obtain⟨B,hB⟩:∃B,pgF ps root (d+1) root 0 99=B:=⟨_,rfl⟩
 have hpf:∀z:Int,z=d+1→0≤root→root<ps.length→zr Tryz.prog 96 0 [trV root ps,.c (.int .i64 root),.c (.int .i64 0),.c (.int .i64 99),.c (.int .i64 z)] [] 0 (.c (.bool B)) []:=λz hz h1 h2=>by
  have h3:=zx0 root ps hp d root 0 99 z (by omega) hz h1 h2
  rw[hB]at h3;exact h3
 have t1:=@vT_1 root ps V hV
 have t2:=@vT_2 root ps V hV
 have t3:=@vT_3 root ps V hV
 have t4:=@vT_4 root ps V d hV hH
 have t5:=@vT_5 root ps V d hV hH
 have t6:=@vT_6 root ps V d hV hH
 have hwk:=λh1 h2 h3=>zyt root ps hp (d+1) root (by omega) (zk9 (root:=root) (low:=0) (high:=99) (d+1) (at_:=root) h1 h2 h3)
 have hwb:=λh1 h2 h3=>zg5 (ps:=ps) (d+1) (zk9 (root:=root) (low:=0) (high:=99) (d+1) (at_:=root) h1 h2 h3)
 have hw4:wkB (d+1)≤97656:=Nat.le_trans (zfs (show d+1≤8 by omega)) (by decide)
 obtain⟨L,hL⟩:∃L,wkF ps (d+1) root=L:=⟨_,rfl⟩
 rw[hL]at t5 t6 hwk hwb
 rw[hB]at t4 t6 hwk hwb
 generalize hgF ps 3 root 1=H at *
 clear hV hL hB
 refine spi (fn:=Tryz.f58) _ ?_
 conv=>whnf
 repeat' first
  |(refine za (by kernel_rfl) ?_;conv=>whnf)
  |(refine zk (λh=>?_) (λh=>?_)<;>(try simp only[qA]at h)<;>(try simp only[wA,wN]at h)<;>conv=>whnf)
  |refine zd ?_
  |(refine zg (by(try simp only[wA,wN,wL])<;>omega) (by(try simp only[wA,wN,wL])<;>omega) ?_;conv=>whnf)
  |(refine zw (zgy _ _ _) rfl rfl ?_;conv=>whnf)
  |(refine zw (hhv) rfl rfl ?_;conv=>whnf)
  |(refine zw (hpf H hH (by omega) (by omega)) rfl rfl ?_;conv=>whnf)
  |(refine z8 (hwk (by omega) (by omega) (by assumption)) rfl ?_;conv=>whnf)
  |(refine ze ?_;conv=>whnf)
 all_goals first|exact t1 h|exact t2 h|exact t3 (by omega)|exact t4 h|skip
 have hlb:=hwb (by omega) (by omega) (by assumption)
 refine zau (λi:Nat=>i≤L.length∧(L.take i).Nodup) (λi=>⟨58,1,[(1,.ptr 0 0 0 0),(3,.c (.nums .i64 L)),(4,.c (.int .i64 i))],[(0,.box [.c (.int .i64 root),.c (.pgs ps)] [] [])]⟩) (λi=>L.length-i) 0 ⟨Nat.zero_le _,by simp⟩ (λ_=>Nat.zero_le _) (ydn [101] [0]) (λi hi=>?_)
 obtain⟨hi,hn⟩:=hi
 conv=>whnf
 repeat' first
  |(refine za (by kernel_rfl) ?_;conv=>whnf)
  |(refine za (by(try simp only[wA,wN,wL])<;>omega) ?_;conv=>whnf)
  |(refine zk (λh=>?_) (λh=>?_)<;>(try simp only[qA]at h)<;>(try simp only[wA,wN]at h)<;>conv=>whnf)
  |refine zd ?_
  |refine zh ?_
  |(refine zg (by(try simp only[wA,wN,wL])<;>omega) (by(try simp only[wA,wN,wL])<;>omega) ?_;conv=>whnf)
  |(refine zw (zo5 _ _ (by rw[w7];omega)) rfl rfl ?_;conv=>whnf)
  |(refine ze ?_;conv=>whnf)
 ·exact t5 (zzi (by omega) h)
 ·refine⟨⟨i+1,?_⟩,(ydn [] [0]),by dsimp only;omega⟩;(try dsimp only)
  exact⟨by omega,zwf (by omega) hn h⟩
 ·rw[List.take_of_length_le (by omega)]at hn
  rw[t6 (by assumption) (by assumption) (by omega) (by assumption) hn]
  have e:((L.length:Int)=(ps.length:Int))↔L.length=ps.length:=by omega
  rw[Bool.eq_iff_iff,beq_iff_eq,decide_eq_true_eq]
  exact e
end Go.VL
