/- V-logic: TyT TrA TrB TrC TrD TrE -/
import Derived.Test.YtfogmgldlemngaaVEF
import Derived.Laws.StructEq
import Derived.ChangeKeysEq
import Derived.Test.YtfogmgldlemngaaProg
import Derived.Test.YtfogmgldlemngaaVMA
namespace Go.VL
set_option linter.unusedVariables false
set_option linter.unusedSimpArgs false
open Go.Proofs
def T:TT:=fun t=>match t with
 |2=>.prim (.c (.int .i64 0))
 |3=>.prim (.c (.int .i64 0))
 |4=>.prim .ff
 |5=>.prim (.c (.int .u8 0))
 |6=>.prim (.c (.int .u8 0))
 |12=>.prim (.c (.int .u64 0))
 |21=>.prim (.c (.int .i32 0))
 |22=>.slice 5 1 1 (.nums .u8)
 |23=>.slice 38 3 72 (.pgs)
 |25=>.struct [(0,1,false),(1,1,false)] [.c (.int .i64 0),.nil]
 |27=>.slice 3 1 8 (.nums .i64)
 |34=>.prim .any
 |38=>.struct [(0,1,false),(1,1,false),(2,1,false)] [.nil,.nil,.nil]
 |47=>.struct [(0,1,false),(1,1,false)] [.nil,.c (.int .i64 0)]
 |48=>.arr 16 4 (.bools)
 |50=>.struct [(0,2,true),(2,16,true),(18,1,false)] [.c (.int .i64 0),.nil,.ff,.ff,.ff,.ff,.ff,.ff,.ff,.ff,.ff,.ff,.ff,.ff,.ff,.ff,.ff,.ff,.c (.int .i64 0)]
 |60=>.slice 64 2 16 (.prs)
 |64=>.struct [(0,1,false),(1,1,false)] [.c (.int .i64 0),.c (.int .i64 0)]
 |68=>.prim .any
 |73=>.struct [(0,1,false),(1,1,false)] [.nil,.nil]
 |75=>.slice 27 1 24 (.numss)
 |109=>.prim (.c (.int .u32 0))
 |110=>.prim (.c (.int .u8 0))
 |111=>.prim (.c (.int .u8 0))
 |114=>.prim (.c (.int .i32 0))
 |115=>.prim (.c (.int .i32 0))
 |_=>.bad
theorem ti2:zb4 Try.prog 2 (.prim (.c (.int .i64 0))):=⟨(by delta zap;kernel_rfl),(by delta zy;kernel_rfl),⟨(Go.Value.int Go.IntKind.i64 0),(by delta zai;kernel_rfl),rfl,rfl⟩,fun k m h=>(by cases h;kernel_rfl),fun h=>(by cases h)⟩
theorem ti3:zb4 Try.prog 3 (.prim (.c (.int .i64 0))):=⟨(by delta zap;kernel_rfl),(by delta zy;kernel_rfl),⟨(Go.Value.int Go.IntKind.i64 0),(by delta zai;kernel_rfl),rfl,rfl⟩,fun k m h=>(by cases h;kernel_rfl),fun h=>(by cases h)⟩
theorem ti4:zb4 Try.prog 4 (.prim .ff):=⟨(by delta zap;kernel_rfl),(by delta zy;kernel_rfl),⟨(Go.Value.bool false),(by delta zai;kernel_rfl),rfl,rfl⟩,fun k m h=>(by cases h),fun h=>(by kernel_rfl)⟩
theorem ti5:zb4 Try.prog 5 (.prim (.c (.int .u8 0))):=⟨(by delta zap;kernel_rfl),(by delta zy;kernel_rfl),⟨(Go.Value.int Go.IntKind.u8 0),(by delta zai;kernel_rfl),rfl,rfl⟩,fun k m h=>(by cases h;kernel_rfl),fun h=>(by cases h)⟩
theorem ti6:zb4 Try.prog 6 (.prim (.c (.int .u8 0))):=⟨(by delta zap;kernel_rfl),(by delta zy;kernel_rfl),⟨(Go.Value.int Go.IntKind.u8 0),(by delta zai;kernel_rfl),rfl,rfl⟩,fun k m h=>(by cases h;kernel_rfl),fun h=>(by cases h)⟩
theorem ti12:zb4 Try.prog 12 (.prim (.c (.int .u64 0))):=⟨(by delta zap;kernel_rfl),(by delta zy;kernel_rfl),⟨(Go.Value.int Go.IntKind.u64 0),(by delta zai;kernel_rfl),rfl,rfl⟩,fun k m h=>(by cases h;kernel_rfl),fun h=>(by cases h)⟩
theorem ti21:zb4 Try.prog 21 (.prim (.c (.int .i32 0))):=⟨(by delta zap;kernel_rfl),(by delta zy;kernel_rfl),⟨(Go.Value.int Go.IntKind.i32 0),(by delta zai;kernel_rfl),rfl,rfl⟩,fun k m h=>(by cases h;kernel_rfl),fun h=>(by cases h)⟩
theorem ti22:zb4 Try.prog 22 (.slice 5 1 1 (.nums .u8)):=⟨(by kernel_rfl),(by delta zy;kernel_rfl),(by delta zai;kernel_rfl),(by kernel_rfl),(by delta zai;kernel_rfl),rfl,by decide,by decide⟩
theorem ti23:zb4 Try.prog 23 (.slice 38 3 72 (.pgs)):=⟨(by kernel_rfl),(by delta zy;kernel_rfl),(by delta zai;kernel_rfl),(by kernel_rfl),(by delta zai;kernel_rfl),rfl,by decide,by decide⟩
theorem ti25 : zb4 Try.prog 25 (.struct [(0, 1, false), (1, 1, false)] [.c (.int .i64 0), .nil]) := ⟨⟨#[{ name := "Root", type := 3, offset := 0, embedded := false, tag := "", pkgPath := "", byteOffset := 0 }, { name := "Pages", type := 23, offset := 1, embedded := false, tag := "", pkgPath := "", byteOffset := 8 }], (by kernel_rfl), ⟨rfl, (by delta zy; kernel_rfl), by decide, (by delta zap; kernel_rfl), (by simp), rfl, (by delta zy; kernel_rfl), by decide, (by delta zap; kernel_rfl), (by simp), trivial⟩⟩, (by delta zy; kernel_rfl), ⟨[Go.Value.int Go.IntKind.i64 0, Go.Value.slice none 0 0], (by delta zai; kernel_rfl), rfl⟩, by decide⟩
theorem ti27:zb4 Try.prog 27 (.slice 3 1 8 (.nums .i64)):=⟨(by kernel_rfl),(by delta zy;kernel_rfl),(by delta zai;kernel_rfl),(by kernel_rfl),(by delta zai;kernel_rfl),rfl,by decide,by decide⟩
theorem ti34:zb4 Try.prog 34 (.prim .any):=⟨(by delta zap;kernel_rfl),(by delta zy;kernel_rfl),⟨(Go.Value.pointer none),(by delta zai;kernel_rfl),rfl,rfl⟩,fun k m h=>(by cases h),fun h=>(by cases h)⟩
theorem ti38 : zb4 Try.prog 38 (.struct [(0, 1, false), (1, 1, false), (2, 1, false)] [.nil, .nil, .nil]) := ⟨⟨#[{ name := "Keys", type := 27, offset := 0, embedded := false, tag := "", pkgPath := "", byteOffset := 0 }, { name := "Kids", type := 27, offset := 1, embedded := false, tag := "", pkgPath := "", byteOffset := 24 }, { name := "Values", type := 27, offset := 2, embedded := false, tag := "", pkgPath := "", byteOffset := 48 }], (by kernel_rfl), ⟨rfl, (by delta zy; kernel_rfl), by decide, (by delta zap; kernel_rfl), (by simp), rfl, (by delta zy; kernel_rfl), by decide, (by delta zap; kernel_rfl), (by simp), rfl, (by delta zy; kernel_rfl), by decide, (by delta zap; kernel_rfl), (by simp), trivial⟩⟩, (by delta zy; kernel_rfl), ⟨[Go.Value.slice none 0 0, Go.Value.slice none 0 0, Go.Value.slice none 0 0], (by delta zai; kernel_rfl), rfl⟩, by decide⟩
theorem ti47 : zb4 Try.prog 47 (.struct [(0, 1, false), (1, 1, false)] [.nil, .c (.int .i64 0)]) := ⟨⟨#[{ name := "b", type := 22, offset := 0, embedded := false, tag := "", pkgPath := "loop.example/pagetree/spec", byteOffset := 0 }, { name := "p", type := 3, offset := 1, embedded := false, tag := "", pkgPath := "loop.example/pagetree/spec", byteOffset := 24 }], (by kernel_rfl), ⟨rfl, (by delta zy; kernel_rfl), by decide, (by delta zap; kernel_rfl), (by simp), rfl, (by delta zy; kernel_rfl), by decide, (by delta zap; kernel_rfl), (by simp), trivial⟩⟩, (by delta zy; kernel_rfl), ⟨[Go.Value.slice none 0 0, Go.Value.int Go.IntKind.i64 0], (by delta zai; kernel_rfl), rfl⟩, by decide⟩
theorem ti48:zb4 Try.prog 48 (.arr 16 4 (.bools)):=⟨(by kernel_rfl),(by delta zy;kernel_rfl),(by delta zap;kernel_rfl),rfl,(by delta zy;kernel_rfl),(by delta zai;kernel_rfl),rfl,by decide⟩
theorem ti50 : zb4 Try.prog 50 (.struct [(0, 2, true), (2, 16, true), (18, 1, false)] [.c (.int .i64 0), .nil, .ff, .ff, .ff, .ff, .ff, .ff, .ff, .ff, .ff, .ff, .ff, .ff, .ff, .ff, .ff, .ff, .c (.int .i64 0)]) := ⟨⟨#[{ name := "tree", type := 25, offset := 0, embedded := false, tag := "", pkgPath := "loop.example/pagetree/impl", byteOffset := 0 }, { name := "seen", type := 48, offset := 2, embedded := false, tag := "", pkgPath := "loop.example/pagetree/impl", byteOffset := 32 }, { name := "leafDepth", type := 3, offset := 18, embedded := false, tag := "", pkgPath := "loop.example/pagetree/impl", byteOffset := 48 }], (by kernel_rfl), ⟨rfl, (by delta zy; kernel_rfl), by decide, (by delta zap; kernel_rfl), (by simp), rfl, (by delta zy; kernel_rfl), by decide, (by delta zap; kernel_rfl), (by simp), rfl, (by delta zy; kernel_rfl), by decide, (by delta zap; kernel_rfl), (by simp), trivial⟩⟩, (by delta zy; kernel_rfl), ⟨[Go.Value.int Go.IntKind.i64 0, Go.Value.slice none 0 0, Go.Value.bool false, Go.Value.bool false, Go.Value.bool false, Go.Value.bool false, Go.Value.bool false, Go.Value.bool false, Go.Value.bool false, Go.Value.bool false, Go.Value.bool false, Go.Value.bool false, Go.Value.bool false, Go.Value.bool false, Go.Value.bool false, Go.Value.bool false, Go.Value.bool false, Go.Value.bool false, Go.Value.int Go.IntKind.i64 0], (by delta zai; kernel_rfl), rfl⟩, by decide⟩
theorem ti60:zb4 Try.prog 60 (.slice 64 2 16 (.prs)):=⟨(by kernel_rfl),(by delta zy;kernel_rfl),(by delta zai;kernel_rfl),(by kernel_rfl),(by delta zai;kernel_rfl),rfl,by decide,by decide⟩
theorem ti64 : zb4 Try.prog 64 (.struct [(0, 1, false), (1, 1, false)] [.c (.int .i64 0), .c (.int .i64 0)]) := ⟨⟨#[{ name := "Key", type := 3, offset := 0, embedded := false, tag := "", pkgPath := "", byteOffset := 0 }, { name := "Value", type := 3, offset := 1, embedded := false, tag := "", pkgPath := "", byteOffset := 8 }], (by kernel_rfl), ⟨rfl, (by delta zy; kernel_rfl), by decide, (by delta zap; kernel_rfl), (by simp), rfl, (by delta zy; kernel_rfl), by decide, (by delta zap; kernel_rfl), (by simp), trivial⟩⟩, (by delta zy; kernel_rfl), ⟨[Go.Value.int Go.IntKind.i64 0, Go.Value.int Go.IntKind.i64 0], (by delta zai; kernel_rfl), rfl⟩, by decide⟩
theorem ti68:zb4 Try.prog 68 (.prim .any):=⟨(by delta zap;kernel_rfl),(by delta zy;kernel_rfl),⟨(Go.Value.pointer none),(by delta zai;kernel_rfl),rfl,rfl⟩,fun k m h=>(by cases h),fun h=>(by cases h)⟩
theorem ti73 : zb4 Try.prog 73 (.struct [(0, 1, false), (1, 1, false)] [.nil, .nil]) := ⟨⟨#[{ name := "Keys", type := 27, offset := 0, embedded := false, tag := "", pkgPath := "", byteOffset := 0 }, { name := "Kids", type := 27, offset := 1, embedded := false, tag := "", pkgPath := "", byteOffset := 24 }], (by kernel_rfl), ⟨rfl, (by delta zy; kernel_rfl), by decide, (by delta zap; kernel_rfl), (by simp), rfl, (by delta zy; kernel_rfl), by decide, (by delta zap; kernel_rfl), (by simp), trivial⟩⟩, (by delta zy; kernel_rfl), ⟨[Go.Value.slice none 0 0, Go.Value.slice none 0 0], (by delta zai; kernel_rfl), rfl⟩, by decide⟩
theorem ti75:zb4 Try.prog 75 (.slice 27 1 24 (.numss)):=⟨(by kernel_rfl),(by delta zy;kernel_rfl),(by delta zai;kernel_rfl),(by kernel_rfl),(by delta zai;kernel_rfl),rfl,by decide,by decide⟩
theorem ti109:zb4 Try.prog 109 (.prim (.c (.int .u32 0))):=⟨(by delta zap;kernel_rfl),(by delta zy;kernel_rfl),⟨(Go.Value.int Go.IntKind.u32 0),(by delta zai;kernel_rfl),rfl,rfl⟩,fun k m h=>(by cases h;kernel_rfl),fun h=>(by cases h)⟩
theorem ti110:zb4 Try.prog 110 (.prim (.c (.int .u8 0))):=⟨(by delta zap;kernel_rfl),(by delta zy;kernel_rfl),⟨(Go.Value.int Go.IntKind.u8 0),(by delta zai;kernel_rfl),rfl,rfl⟩,fun k m h=>(by cases h;kernel_rfl),fun h=>(by cases h)⟩
theorem ti111:zb4 Try.prog 111 (.prim (.c (.int .u8 0))):=⟨(by delta zap;kernel_rfl),(by delta zy;kernel_rfl),⟨(Go.Value.int Go.IntKind.u8 0),(by delta zai;kernel_rfl),rfl,rfl⟩,fun k m h=>(by cases h;kernel_rfl),fun h=>(by cases h)⟩
theorem ti114:zb4 Try.prog 114 (.prim (.c (.int .i32 0))):=⟨(by delta zap;kernel_rfl),(by delta zy;kernel_rfl),⟨(Go.Value.int Go.IntKind.i32 0),(by delta zai;kernel_rfl),rfl,rfl⟩,fun k m h=>(by cases h;kernel_rfl),fun h=>(by cases h)⟩
theorem ti115:zb4 Try.prog 115 (.prim (.c (.int .i32 0))):=⟨(by delta zap;kernel_rfl),(by delta zy;kernel_rfl),⟨(Go.Value.int Go.IntKind.i32 0),(by delta zai;kernel_rfl),rfl,rfl⟩,fun k m h=>(by cases h;kernel_rfl),fun h=>(by cases h)⟩
theorem tOk:TOk Try.prog T:=fun t=>by
 unfold T
 split
 ·exact ti2
 ·exact ti3
 ·exact ti4
 ·exact ti5
 ·exact ti6
 ·exact ti12
 ·exact ti21
 ·exact ti22
 ·exact ti23
 ·exact ti25
 ·exact ti27
 ·exact ti34
 ·exact ti38
 ·exact ti47
 ·exact ti48
 ·exact ti50
 ·exact ti60
 ·exact ti64
 ·exact ti68
 ·exact ti73
 ·exact ti75
 ·exact ti109
 ·exact ti110
 ·exact ti111
 ·exact ti114
 ·exact ti115
 ·trivial
theorem yh8:zyq Try.prog 64:=⟨by kernel_rfl,fun a b c d w=>by
 show(Op.equalIn 10000 64 _ _).run Try.prog w=_
 rw[run_equalIn_struct w 9999 64 _ _ (by kernel_rfl) (by kernel_rfl)]
 have hf : (Try.prog.fieldsOf 64).toList = [{ name := "Key", type := 3, offset := 0, embedded := false, tag := "", pkgPath := "", byteOffset := 0 }, { name := "Value", type := 3, offset := 1, embedded := false, tag := "", pkgPath := "", byteOffset := 8 }] := by kernel_rfl
 have hp:Try.prog.plainKey 3=true:=by kernel_rfl
 have hu:Try.prog.underlying 3=some (.int .i64):=by kernel_rfl
 have e1:∀(x y:Int) (w:World),(part 3 #[.int .i64 x,.int .i64 y] 0).run Try.prog w=.ok (.int .i64 x) w:=fun x y w=>run_part_plain w hp rfl
 have e2:∀(x y:Int) (w:World),(part 3 #[.int .i64 x,.int .i64 y] 1).run Try.prog w=.ok (.int .i64 y) w:=fun x y w=>run_part_plain w hp rfl
 have e3:∀(x y:Int) (w:World),(Op.equalIn 9999 3 (.int .i64 x) (.int .i64 y)).run Try.prog w=.ok (x==y) w:=fun x y w=>run_equalIn_int w 9998 3 .i64 .i64 x y hu
 rw[hf]
 simp only[Op.eqFields,e1,e2,e3,Sem.run_bind,Result.andThen_ok]
 cases h1:(a==c)<;>cases h2:(b==d)<;>simp[Op.eqFields,e1,e2,e3,h1,h2]⟩
theorem eOk:EOk Try.prog T:=fun t h=>by
 unfold T at h
 split at h<;>first|cases h|skip
 ·exact yh8
theorem mix:Try.prog.follows .mixedOrders=true:=by kernel_rfl
theorem spi {f n m : Nat} {fn : Func} {args : List V} {hin hout : List (Nat × O)} {res : V} (c : Code) (h : zwv T Try.prog fn c n args hin m res hout) (hf : Try.prog.funcs[f]? = some fn := by kernel_rfl) (hname : (fn.name == "runtime.NumGoroutine") = false := by decide +kernel) (hb : fn.body = some c := by rfl) (hnt : Nat.ble args.length fn.ntmps = true := by rfl) (hst : za3 hin hout = true := by rfl) : zr Try.prog f n args hin m res hout :=
 zxi tOk eOk mix c hf hname hb hnt hst h
theorem spx {f n : Nat} {fn : Func} {args : List V} {hin : List (Nat × O)} {R : Nat → V → List (Nat × O) → Prop} (c : Code) (h : zti T Try.prog fn c n args hin R) (hf : Try.prog.funcs[f]? = some fn := by kernel_rfl) (hname : (fn.name == "runtime.NumGoroutine") = false := by decide +kernel) (hb : fn.body = some c := by rfl) (hnt : Nat.ble args.length fn.ntmps = true := by rfl) : zce Try.prog f n args hin R :=
 zvb tOk eOk mix c hf hname hb hnt h
end Go.VL
namespace Go.VL
open Go.Proofs
set_option maxRecDepth 10000
set_option linter.unusedSimpArgs false
set_option linter.unusedVariables false
theorem zo5 (xs:List Int) (n:Int) (hl:xs.length≤4294967296):zr Try.prog 29 0 [.c (.nums .i64 xs),.c (.int .i64 n)] [] 0 (.c (.bool (xs.contains n))) []:=by
 refine spi (fn:=Try.f29) _ ?_
 conv=>whnf
 refine zau (fun k:Nat=>(xs.take k).contains n=false) (fun k=>⟨18,0,[(0,.c (.nums .i64 xs)),(1,.c (.int .i64 n)),(5,.c (.int .i64 k))],[]⟩) (fun k=>xs.length-k) 0 (by simp) (fun _=>Nat.zero_le _) zbn (fun k hk=>?_)
 conv=>whnf
 repeat' first
  |(refine za (by(try simp only[wA,wN,wL])<;>omega) ?_;conv=>whnf)
  |(refine zk (fun h=>?_) (fun h=>?_)<;>(try simp only[qA]at h)<;>(try simp only[wA,wN]at h)<;>conv=>whnf)
  |refine zc ?_
  |refine zd ?_
  |(refine zg (by(try simp only[wA,wN,wL])<;>omega) (by(try simp only[wA,wN,wL])<;>omega) ?_;conv=>whnf)
 ·rename_i h1
  have h1:k<xs.length:=by omega
  rw[List.contains_iff_mem,←h]
  simp[h1]
 ·exact⟨⟨k+1,zmd hk (by omega) (by assumption)⟩,zbn,by dsimp only;omega⟩
 ·rwa [List.take_of_length_le (by omega)]at hk
theorem zgy (n lo hi:Int):zr Try.prog 25 0 [.c (.int .i64 n),.c (.int .i64 lo),.c (.int .i64 hi)] [] 0 (.c (.bool (decide (lo≤n∧n≤hi)))) []:=by
 refine spi (fn:=Try.f25) _ ?_
 conv=>whnf
 repeat' first|(refine zk (fun h=>?_) (fun h=>?_)<;>(try simp only[qA]at h)<;>(try simp only[wA,wN]at h)<;>conv=>whnf)|refine zd ?_|refine zh ?_
 ·simp[h]
 ·simp[h]
theorem z2a (n:Int):zr Try.prog 59 0 [.c (.int .i64 n)] [] 0 (.c (.bool (decide (0≤n∧n≤99)))) []:=by
 refine spi (fn:=Try.f59) _ ?_
 conv=>whnf
 repeat' first|(refine zk (fun h=>?_) (fun h=>?_)<;>(try simp only[qA]at h)<;>(try simp only[wA,wN]at h)<;>conv=>whnf)|refine zd ?_|refine zh ?_
 ·have h:0≤n:=by omega
  simp[h]
 ·simp;omega
theorem zqg (xs:List Int) (lo hi:Int) (hl:xs.length≤4294967296):zr Try.prog 46 0 [.c (.nums .i64 xs),.c (.int .i64 lo),.c (.int .i64 hi)] [] 0 (.c (.bool (xs.all fun x=>decide (lo≤x∧x≤hi)))) []:=by
 refine spi (fn:=Try.f46) _ ?_
 conv=>whnf
 refine zau (fun k:Nat=>(xs.take k).all (fun x=>decide (lo≤x∧x≤hi))=true) (fun k=>⟨22,0,[(0,.c (.nums .i64 xs)),(1,.c (.int .i64 lo)),(2,.c (.int .i64 hi)),(7,.c (.int .i64 k))],[]⟩) (fun k=>xs.length-k) 0 (by simp) (fun _=>Nat.zero_le _) zbn (fun k hk=>?_)
 conv=>whnf
 repeat' first
  |(refine za (by(try simp only[wA,wN,wL])<;>omega) ?_;conv=>whnf)
  |(refine zk (fun h=>?_) (fun h=>?_)<;>(try simp only[qA]at h)<;>(try simp only[wA,wN]at h)<;>conv=>whnf)
  |refine zc ?_
  |refine zd ?_
  |(refine zg (by(try simp only[wA,wN,wL])<;>omega) (by(try simp only[wA,wN,wL])<;>omega) ?_;conv=>whnf)
  |(refine yhk (zgy _ _ _) rfl rfl ?_;conv=>whnf)
 ·rename_i h1
  exact zf6 0 (k:=k) (by omega) (by simp at h⊢;omega)
 ·rename_i h1
  exact⟨⟨k+1,zeg 0 hk (by omega) (by simpa using h)⟩,zbn,by dsimp only;omega⟩
 ·exact zh3 hk (by omega)
theorem zkj (xs:List Int) (hl:xs.length≤4294967296):zr Try.prog 45 0 [.c (.nums .i64 xs)] [] 0 (.c (.bool (za2 xs))) []:=by
 refine spi (fn:=Try.f45) _ ?_
 conv=>whnf
 refine zau (fun k:Nat=>1≤k∧Asc (xs.take k)) (fun k=>⟨22,0,[(0,.c (.nums .i64 xs)),(3,.c (.int .i64 k))],[]⟩) (fun k=>xs.length-k) 1 ⟨Nat.le_refl _,by cases xs<;>simp[Asc]⟩ (fun _=>Nat.zero_le _) zbn (fun k hk=>?_)
 obtain⟨hk1,hk⟩:=hk
 conv=>whnf
 repeat' first
  |(refine za (by kernel_rfl) ?_;conv=>whnf)
  |(refine za (by(try simp only[wA,wN,wL])<;>omega) ?_;conv=>whnf)
  |(refine zk (fun h=>?_) (fun h=>?_)<;>(try simp only[qA]at h)<;>(try simp only[wA,wN]at h)<;>conv=>whnf)
  |refine zd ?_
  |refine zh ?_
  |(refine zg (by(try simp only[wA,wN,wL])<;>omega) (by(try simp only[wA,wN,wL])<;>omega) ?_;conv=>whnf)
  |(refine yhk (zqg _ _ _ hl) rfl rfl ?_;conv=>whnf)
  |(refine ze ?_;conv=>whnf)
 ·rename_i h1
  unfold za2
  rw[Bool.and_eq_false_iff,decide_eq_false_iff_not]
  refine .inl fun ha=>?_
  have:=zez ha (i:=k-1) (j:=k) (by omega) (by omega)
  omega
 ·rename_i h1
  exact⟨⟨k+1,by omega,zon hk (by omega) fun _=>by omega⟩,zbn,by dsimp only;omega⟩
 ·rw[List.take_of_length_le (by omega)]at hk
  simp[za2,hk]
theorem zfj (xs:List Int) (hl:xs.length≤4294967296):zr Try.prog 40 0 [.c (.nums .i64 xs)] [] 0 (.c (.bool (za2 xs))) []:=by
 refine spi (fn:=Try.f40) _ ?_
 conv=>whnf
 refine zau (fun k:Nat=>Asc (xs.take k)∧(xs.take k).all (fun x=>decide (0≤x∧x≤99))=true) (fun k=>⟨27,0,[(0,.c (.nums .i64 xs)),(5,.c (.nums .i64 xs)),(6,.c (.int .i64 xs.length)),(7,.c (.int .i64 k))],[]⟩) (fun k=>xs.length-k) 0 ⟨by simp[Asc],by simp⟩ (fun _=>Nat.zero_le _) zbn (fun k hk=>?_)
 obtain⟨hk,hk2⟩:=hk
 conv=>whnf
 repeat' first
  |(refine za (by(try simp only[wA,wN,wL])<;>omega) ?_;conv=>whnf)
  |(refine zk (fun h=>?_) (fun h=>?_)<;>(try simp only[qA]at h)<;>(try simp only[wA,wN]at h)<;>conv=>whnf)
  |refine zc ?_
  |refine zd ?_
  |(refine zg (by(try simp only[wA,wN,wL])<;>omega) (by(try simp only[wA,wN,wL])<;>omega) ?_;conv=>whnf)
  |(refine yhk (z2a _) rfl rfl ?_;conv=>whnf)
 ·rename_i h1
  rw[za2,zf6 0 (k:=k) (by omega) (by simp at h⊢;omega),Bool.and_false]
 ·rename_i h1 h2 h3
  unfold za2
  rw[Bool.and_eq_false_iff,decide_eq_false_iff_not]
  refine .inl fun ha=>?_
  have:=zez ha (i:=k-1) (j:=k) (by omega) (by omega)
  omega
 ·rename_i h1 h2 h3
  exact⟨⟨k+1,zon hk (by omega) fun _=>by omega,zeg 0 hk2 (by omega) (by simp at h2⊢;omega)⟩,zbn,by dsimp only;omega⟩
 ·rename_i h1 h2
  exact⟨⟨k+1,zon hk (by omega) fun _=>by omega,zeg 0 hk2 (by omega) (by simp at h2⊢;omega)⟩,zbn,by dsimp only;omega⟩
 ·rw[List.take_of_length_le (by omega)]at hk hk2
  simp only[za2,hk,hk2];rfl
end Go.VL
namespace Go.VL
open Go.Proofs
set_option maxRecDepth 10000
set_option linter.unusedSimpArgs false
set_option linter.unusedVariables false
theorem zcs (code:List Int) (hc:CodeOk code) (p n:Int) (h0:0≤p) (h1:p≤1099511627776) (hn:n≤1099511627776):zr Try.prog 17 1 [.ptr 0 0 0 0,.c (.int .i64 n)] [(0,.box [.c (.nums .u8 code),.c (.int .i64 p)] [] [])] 1 (.c (.int .i64 (zah code p n))) [(0,.box [.c (.nums .u8 code),.c (.int .i64 (p+1))] [] [])]:=by
 have hcl:=hc.len
 obtain⟨p',hp'⟩:∃p',p'=p+1-1:=⟨_,rfl⟩
 have hpp:p'=p:=by omega
 have hb0:=hc.byte p'.toNat
 have hb1:=hc.byte (p'.tmod code.length).toNat
 have hb2:=hc.byte ((p'*7+3).tmod code.length).toNat
 have hd0:0≤p'.tdiv code.length:=Int.tdiv_nonneg (by omega) (Int.natCast_nonneg _)
 have hd1:p'.tdiv code.length≤p':=Int.tdiv_le_self _ (by omega)
 have hm0:0≤p'.tmod code.length:=Int.tmod_nonneg _ (by omega)
 have hm1:0≤(p'*7+3).tmod code.length:=Int.tmod_nonneg _ (by omega)
 have hm2:¬(code.length:Int)=0→p'.tmod code.length<code.length:=fun h=>Int.tmod_lt_of_pos _ (by omega)
 have hm3:¬(code.length:Int)=0→(p'*7+3).tmod code.length<code.length:=fun h=>Int.tmod_lt_of_pos _ (by omega)
 have hq:=zyx hc (p:=p') (by omega) (by omega)
 have hq0:0≤(zit code p').tdiv 64:=Int.tdiv_nonneg hq.1 (by decide)
 have hq1:(zit code p').tdiv 64≤zit code p':=Int.tdiv_le_self _ hq.1
 unfold zit at hq hq0 hq1
 rw[show zah code p n=zah code p' n by rw[hpp]]
 rw[hp']at hq hq0 hq1⊢
 rw[hp']at hb0 hb1 hb2 hd0 hd1 hm0 hm1 hm2 hm3
 clear hp' hpp
 refine spi (fn:=Try.f17) _ ?_
 conv=>whnf
 repeat' first
  |(refine za (by kernel_rfl) ?_;conv=>whnf)
  |(refine za (by(try simp only[wA,wN,wL])<;>omega) ?_;conv=>whnf)
  |(refine zk (fun h=>?_) (fun h=>?_)<;>(try simp only[qA]at h)<;>(try simp only[wA,wN]at h)<;>conv=>whnf)
  |(refine zg (by(try simp only[wA,wN,wL])<;>omega) (by(try simp only[wA,wN,wL])<;>omega) ?_;conv=>whnf)
  |(refine ze ?_;conv=>whnf)
 all_goals (unfold zah zit;(repeat first|rw[if_pos (by assumption)]|rw[if_neg (by assumption)]|rw[if_neg (by rw[Bool.not_eq_true];assumption)]|rw[if_neg (by rw[Bool.not_eq_false];assumption)]|rw[if_pos (by omega)]|rw[if_neg (by omega)]);exact(zu [] [0]))
theorem zff (code:List Int) (hl:code.length≤1048576):zr Try.prog 10 0 [.c (.nums .u8 code)] [] 1 (.ptr 0 0 0 0) [(0,.box [.c (.nums .u8 (code.take 2000)),.c (.int .i64 0)] [] [])]:=by
 refine spi (fn:=Try.f10) _ ?_
 conv=>whnf
 repeat' first|(refine za (by(try simp only[wA,wN,wL])<;>omega) ?_;conv=>whnf)|(refine zk (fun h=>?_) (fun h=>?_)<;>(try simp only[qA]at h)<;>(try simp only[wA,wN]at h)<;>conv=>whnf)
 ·exact(zu [] [0])
 ·rw[List.take_of_length_le (by omega)]
  exact(zu [] [0])
theorem zjy (code:List Int) (hc:CodeOk code) (p:Int) (xs:List Int) (h0:0≤p) (h1:p≤1099511627776) (hx:1≤xs.length) (hx2:xs.length≤1000):zr Try.prog 18 1 [.ptr 0 0 0 0,.c (.nums .i64 xs)] [(0,.box [.c (.nums .u8 code),.c (.int .i64 p)] [] [])] 1 (.c (.int .i64 (xs.getD (zah code p xs.length).toNat 0))) [(0,.box [.c (.nums .u8 code),.c (.int .i64 (p+1))] [] [])]:=by
 have hb:=zdl hc (n:=(xs.length:Int)) h0 h1
 have hb1:=hb.2 (by omega)
 refine spi (fn:=Try.f18) _ ?_
 conv=>whnf
 repeat' first
  |(refine za (by(try simp only[wA,wN,wL])<;>omega) ?_;conv=>whnf)
  |(refine zal [] [0] (zcs code hc p (xs.length:Int) h0 h1 (by omega)) ⟨rfl,rfl,rfl,(by repeat first|exact trivial|refine⟨rfl,?_⟩),⟨rfl,rfl,rfl,rfl,rfl,rfl⟩,?_⟩;conv=>whnf)
 exact(zu [] [0])
theorem zcn (xs:List Int) (hl:xs.length≤4294967296):zr Try.prog 20 0 [.c (.nums .i64 xs)] [] 1 (.slc 0) [(0,.arr (.nums .i64 xs))]:=by
 refine spi (fn:=Try.f20) _ ?_
 conv=>whnf
 repeat' (refine za (by(try simp only[wA,wN,wL])<;>omega) ?_;conv=>whnf)
 exact(zu [] [0])
theorem znk (xs:List Int) (n:Int) (hl:xs.length≤4294967296):zr Try.prog 60 0 [.c (.nums .i64 xs),.c (.int .i64 n)] [] 0 (.c (.int .i64 (belF xs n))) []:=by
 refine spi (fn:=Try.f60) _ ?_
 conv=>whnf
 refine zau (fun k:Nat=>k≤xs.length∧(xs.take k).all (fun x=>decide (x<n))=true) (fun k=>⟨21,0,[(0,.c (.nums .i64 xs)),(1,.c (.int .i64 n)),(5,.c (.int .i64 k))],[]⟩) (fun k=>xs.length-k) 0 ⟨by omega,by simp⟩ (fun _=>Nat.zero_le _) zbn (fun k hk=>?_)
 obtain⟨hk,hk2⟩:=hk
 conv=>whnf
 repeat' first
  |(refine za (by(try simp only[wA,wN,wL])<;>omega) ?_;conv=>whnf)
  |(refine zk (fun h=>?_) (fun h=>?_)<;>(try simp only[qA]at h)<;>(try simp only[wA,wN]at h)<;>conv=>whnf)
  |refine zi ?_
  |(refine zg (by(try simp only[wA,wN,wL])<;>omega) (by(try simp only[wA,wN,wL])<;>omega) ?_;conv=>whnf)
 ·refine⟨⟨k+1,?_⟩,zbn,by dsimp only;omega⟩;(try dsimp only)
  exact⟨by omega,zeg 0 hk2 (by omega) (by exact decide_eq_true (by omega))⟩
 ·rw[zvp n xs k hk2 hk (fun _=>h)]
 ·rw[zvp n xs k hk2 hk (fun h2=>absurd h2 (by omega))]
def zos (code:List Int) (p:Int) (xs:List Int) (n:Int):List Int :=
 if zah code p 20=0 then xs++[n]else if zah code p 20=1 then(if (xs.length:Int)>0 then xs.drop 1 else xs)
 else if zah code p 20=2 then(if (xs.length:Int)>0 then xs.set (zah code (p+1) xs.length).toNat ([-1,n,0,1].getD (zah code (p+1+1) 4).toNat 0)else xs)else xs
def zmn (code:List Int) (p:Int) (xs:List Int):Int :=
 if zah code p 20=0 then p+1 else if zah code p 20=1 then p+1
 else if zah code p 20=2 then(if (xs.length:Int)>0 then p+1+1+1 else p+1)else p+1
theorem zqq (code:List Int) (hc:CodeOk code) (p n:Int) (xs:List Int) (h0:0≤p) (h1:p≤1099511620000) (hl:xs.length≤1000):zr Try.prog 19 1 [.ptr 0 0 0 0,.c (.nums .i64 xs),.c (.int .i64 n)] [(0,.box [.c (.nums .u8 code),.c (.int .i64 p)] [] [])] 1 (.c (.nums .i64 (zos code p xs n))) [(0,.box [.c (.nums .u8 code),.c (.int .i64 (zmn code p xs))] [] [])]:=by
 have hb:=zdl hc (p:=p+1) (n:=(xs.length:Int)) (by omega) (by omega)
 refine spi (fn:=Try.f19) _ ?_
 conv=>whnf
 repeat' first
  |(refine za (by(try simp only[wA,wN,wL])<;>omega) ?_;conv=>whnf)
  |(refine zk (fun h=>?_) (fun h=>?_)<;>(try simp only[qA]at h)<;>(try simp only[wA,wN]at h)<;>conv=>whnf)
  |(refine z8 (zcn _ (by omega)) rfl ?_;conv=>whnf)
  |(refine zal [] [0] (zcs code hc p 20 h0 (by omega) (by omega)) ⟨rfl,rfl,rfl,(by repeat first|exact trivial|refine⟨rfl,?_⟩),⟨rfl,rfl,rfl,rfl,rfl,rfl⟩,?_⟩;conv=>whnf)
  |(refine zal [] [0] (zcs code hc (p+1) (xs.length:Int) (by omega) (by omega) (by omega)) ⟨rfl,rfl,rfl,(by repeat first|exact trivial|refine⟨rfl,?_⟩),⟨rfl,rfl,rfl,rfl,rfl,rfl⟩,?_⟩;conv=>whnf)
  |(refine zal [2] [0] (zjy code hc (p+1+1) [-1,n,0,1] (by omega) (by omega) (by simp) (by simp)) ?_;(conv=>whnf);refine⟨rfl,rfl,rfl,(by repeat first|exact trivial|refine⟨rfl,?_⟩),⟨rfl,rfl,rfl,rfl,rfl,rfl⟩,?_⟩;conv=>whnf)
 all_goals (unfold zos zmn;(repeat first|rw[if_pos (by assumption)]|rw[if_neg (by assumption)]|rw[if_neg (by rw[Bool.not_eq_true];assumption)]|rw[if_neg (by rw[Bool.not_eq_false];assumption)]|rw[if_pos (by omega)]|rw[if_neg (by omega)]);first|exact(zu [] [0])|(refine zbg [1] [0] ?_;(conv=>whnf);exact⟨rfl,by repeat first|exact trivial|refine⟨rfl,?_⟩,rfl,rfl,rfl,rfl,rfl,rfl⟩))
end Go.VL
namespace Go.VL
open Go.Proofs
set_option maxRecDepth 10000
set_option linter.unusedSimpArgs false
set_option linter.unusedVariables false
set_option maxHeartbeats 2000000 in
theorem zx0 (root:Int) (ps:List Pg) (hp:pB ps) (d:Nat):∀(at_ low high z:Int),d≤1000→z=d+1→0≤at_→at_<ps.length→zr Try.prog 27 0 [trV root ps,.c (.int .i64 at_),.c (.int .i64 low),.c (.int .i64 high),.c (.int .i64 z)] [] 0 (.c (.bool (pgF ps root (d+1) at_ low high))) []:=by
 induction d with
 |zero =>
  intro at_ low high z hd hz h0 h1
  have k1:=hp.keys at_
  have k2:=hp.kids at_
  have k3:=hp.vals at_
  have k4:=hp.len
  dsimp only[zb]at k1 k2 k3
  obtain⟨V,hV⟩:∃V,pgF ps root (0+1) at_ low high=V:=⟨_,rfl⟩
  rw[hV]
  refine spi (fn:=Try.f27) _ ?_
  conv=>whnf
  repeat' first
   |(refine za (by(try simp only[wA,wN,wL])<;>omega) ?_;conv=>whnf)
   |(refine zk (fun h=>?_) (fun h=>?_)<;>(try simp only[qA]at h)<;>(try simp only[wA,wN]at h)<;>conv=>whnf)
   |refine zd ?_
   |refine zh ?_
   |(refine zg (by(try simp only[wA,wN,wL])<;>omega) (by(try simp only[wA,wN,wL])<;>omega) ?_;conv=>whnf)
   |(refine yhk (zkj _ (by assumption)) rfl rfl ?_;conv=>whnf)
   |(refine yhk (zqg _ _ _ (by assumption)) rfl rfl ?_;conv=>whnf)
  all_goals first
   |exact z1t hV h
   |exact z1s hV (by omega)
   |exact z1u hV h
   |exact z1q hV (by assumption) (by omega)
   |exact pgF_5 hV rfl (by omega)
   |exact pgF_6 hV rfl (by omega)
   |exact(pgF_7 hV rfl (by assumption) (by omega) (by assumption) (by omega) (by omega) (by omega)).symm
   |(exfalso;omega)
 |succ d ih =>
  intro at_ low high z hd hz h0 h1
  have k1:=hp.keys at_
  have k2:=hp.kids at_
  have k3:=hp.vals at_
  have k4:=hp.len
  dsimp only[zb]at k1 k2 k3
  obtain⟨V,hV⟩:∃V,pgF ps root (d+1+1) at_ low high=V:=⟨_,rfl⟩
  rw[hV]
  refine spi (fn:=Try.f27) _ ?_
  conv=>whnf
  repeat' first
   |(refine za (by(try simp only[wA,wN,wL])<;>omega) ?_;conv=>whnf)
   |(refine zk (fun h=>?_) (fun h=>?_)<;>(try simp only[qA]at h)<;>(try simp only[wA,wN]at h)<;>conv=>whnf)
   |refine zd ?_
   |refine zh ?_
   |(refine zg (by(try simp only[wA,wN,wL])<;>omega) (by(try simp only[wA,wN,wL])<;>omega) ?_;conv=>whnf)
   |(refine yhk (zkj _ (by assumption)) rfl rfl ?_;conv=>whnf)
   |(refine yhk (zqg _ _ _ (by assumption)) rfl rfl ?_;conv=>whnf)
  all_goals first
   |exact z1t hV h
   |exact z1s hV (by omega)
   |exact z1u hV h
   |exact z1q hV (by assumption) (by omega)
   |exact pgF_8 hV (by omega) (by omega)
   |exact pgF_9 hV (by omega) (by omega)
   |exact z3u hV (by omega) (by omega)
   |exact z3r hV (by omega) h
   |(exfalso;omega)
   |skip
  all_goals
   have hfin:=z3s hV (by omega) (by assumption) (by omega) (by assumption) (by omega) (by omega) (by omega) (by omega) h
   have hkid:∀i,i<(ps.getD at_.toNat ⟨[],[],[]⟩).kids.length→0≤(ps.getD at_.toNat ⟨[],[],[]⟩).kids.getD i 0∧(ps.getD at_.toNat ⟨[],[],[]⟩).kids.getD i 0<ps.length:=fun i hi=>by
    have h9:=of_decide_eq_true (zsz h hi)
    omega
   have hkey:=z2r (show za2 (ps.getD at_.toNat ⟨[],[],[]⟩).keys=true by assumption)
   have hk5:(ps.getD at_.toNat ⟨[],[],[]⟩).keys.length≠0:=by omega
   have hlk:(ps.getD at_.toNat ⟨[],[],[]⟩).kids.length=(ps.getD at_.toNat ⟨[],[],[]⟩).keys.length+1:=by omega
   clear h
   clear hV
   generalize hpg:ps.getD at_.toNat ⟨[],[],[]⟩=pg at *
   refine zau (fun(i:Nat)=>i≤pg.kids.length∧∀j,j<i→pgF ps root (d+1) (pg.kids.getD j 0) (if 0<j then pg.keys.getD (j-1) 0 else low) (if j<pg.keys.length then pg.keys.getD j 0-1 else high)=true)
    (fun i=>⟨140,2,[(1,.c (.int .i64 at_)),(2,.c (.int .i64 low)),(3,.c (.int .i64 high)),(4,.c (.int .i64 z)),(5,.ptr 0 0 0 0),(11,.ptr 1 0 0 0),(12,.c (.int .i64 i))],[(0,.box [.c (.int .i64 root),.c (.pgs ps)] [] []),(1,.box [.c (.nums .i64 pg.keys),.c (.nums .i64 pg.kids),.c (.nums .i64 pg.vals)] [] [])]⟩) (fun i=>pg.kids.length-i) 0 ⟨Nat.zero_le _,fun j hj=>by omega⟩ (fun _=>Nat.zero_le _) (ydn [] [0,1]) (fun i hi=>?_)
   obtain⟨hi,hall⟩:=hi
   have k1':pg.keys.length≤4:=by omega
   have q1:=hkey i
   have q2:=hkey (i-1)
   conv=>whnf
   repeat' first
    |(refine za (by kernel_rfl) ?_;conv=>whnf)
    |(refine za (by(try simp only[wA,wN,wL])<;>omega) ?_;conv=>whnf)
    |(refine zk (fun h=>?_) (fun h=>?_)<;>(try simp only[qA]at h)<;>(try simp only[wA,wN]at h)<;>conv=>whnf)
    |refine zc ?_
    |refine zd ?_
    |(refine zg (by(try simp only[wA,wN,wL])<;>omega) (by(try simp only[wA,wN,wL])<;>omega) ?_;conv=>whnf)
    |(refine zw (ih (pg.kids.getD i 0) _ _ (z-1) (by omega) (by omega) (hkid i (by omega)).1 (hkid i (by omega)).2) rfl rfl ?_;conv=>whnf)
    |(refine ze ?_;conv=>whnf)
   all_goals first
    |exact hfin.trans (zo0 (i:=i) (by omega) (by(try dsimp only);first|(rw[if_pos (by omega:0<i),if_pos (by omega:i<pg.keys.length)];exact h)|(rw[if_pos (by omega:0<i),if_neg (by omega:¬i<pg.keys.length)];exact h)|(rw[if_neg (by omega:¬0<i),if_pos (by omega:i<pg.keys.length)];exact h)))
    |exact hfin.trans (zqx fun j hj=>hall j (by omega))
    |(exfalso;omega)
    |(refine⟨⟨i+1,⟨by omega,fun j hj=>?_⟩⟩,(ydn [] [0,1]),by dsimp only;omega⟩
      by_cases hji:j=i
      ·subst hji
       first
       |(rw[if_pos (by omega:0<j),if_pos (by omega:j<pg.keys.length)];exact h)
       |(rw[if_pos (by omega:0<j),if_neg (by omega:¬j<pg.keys.length)];exact h)
       |(rw[if_neg (by omega:¬0<j),if_pos (by omega:j<pg.keys.length)];exact h)
      ·exact hall j (by omega))
end Go.VL
namespace Go.VL
open Go.Proofs
set_option maxRecDepth 10000
set_option linter.unusedSimpArgs false
set_option linter.unusedVariables false
theorem zxv (root:Int) (ps:List Pg) (hp:pB ps):zr Try.prog 26 0 [trV root ps] [] 0 (.c (.int .i64 (hgF ps 3 root 1))) []:=by
 have k4:=hp.len
 obtain⟨V,hV⟩:∃V,hgF ps 3 root 1=V:=⟨_,rfl⟩
 rw[hV]
 refine spi (fn:=Try.f26) _ ?_
 conv=>whnf
 refine zk5 (fun(f:Nat) (at_ n:Int)=>n+f=4∧1≤n∧hgF ps f at_ n=V)
  (fun f at_ n=>⟨38,1,[(1,.ptr 0 0 0 0),(3,.c (.int .i64 n)),(4,.c (.int .i64 at_))],[(0,.box [.c (.int .i64 root),.c (.pgs ps)] [] [])]⟩) (fun f at_ n=>f) 3 root 1 ⟨by omega,by omega,hV⟩ (fun _ _ _=>Nat.zero_le _) (ydn [] [0]) (fun f at_ n hi=>?_)
 obtain⟨hf,hn,hv⟩:=hi
 have k2:=hp.kids at_
 dsimp only[zb]at k2
 conv=>whnf
 repeat' first
  |(refine za (by(try simp only[wA,wN,wL])<;>omega) ?_;conv=>whnf)
  |(refine zk (fun h=>?_) (fun h=>?_)<;>(try simp only[qA]at h)<;>(try simp only[wA,wN]at h)<;>conv=>whnf)
  |refine zi ?_
  |(refine zg (by(try simp only[wA,wN,wL])<;>omega) (by(try simp only[wA,wN,wL])<;>omega) ?_;conv=>whnf)
  |(refine yhk (zgy _ _ _) rfl rfl ?_;conv=>whnf)
 ·obtain⟨f,rfl⟩:∃f',f=f'+1:=⟨f-1,by omega⟩
  rw[zqp (by assumption) (by omega)]at hv
  refine⟨⟨(f,(ps.getD at_.toNat ⟨[],[],[]⟩).kids.getD 0 0,n+1),⟨by dsimp only;omega,by dsimp only;omega,hv⟩⟩,(ydn [] [0]),by dsimp only;omega⟩
 ·obtain⟨f,rfl⟩:∃f',f=f'+1:=⟨f-1,by omega⟩
  rw[zqm (.inr (by omega))]at hv
  exact hv
 ·obtain⟨f,rfl⟩:∃f',f=f'+1:=⟨f-1,by omega⟩
  rw[zqm (.inl h)]at hv
  exact hv
 ·obtain rfl:f=0:=by omega
  exact hv
theorem zyt (root:Int) (ps:List Pg) (hp:pB ps) (d:Nat):∀(at_:Int),d≤8→wkOk ps d at_→zr Try.prog 28 0 [trV root ps,.c (.int .i64 at_)] [] 1 (.slc 0) [(0,.arr (.nums .i64 (wkF ps d at_)))]:=by
 induction d with
 |zero=>intro at_ _ h;exact h.elim
 |succ d ih =>
  intro at_ hd h
  obtain⟨h0,h1,h2,h3⟩:=h
  have k4:=hp.len
  have hw:wkB d≤97656:=Nat.le_trans (zfs (show d≤8 by omega)) (by decide)
  obtain⟨V,hV⟩:∃V,wkF ps (d+1) at_=V:=⟨_,rfl⟩
  rw[hV]
  have hV':at_::(ps.getD at_.toNat ⟨[],[],[]⟩).kids.flatMap (wkF ps d)=V:=by rw[←hV];rfl
  dsimp only[zb]at h2 h3
  refine spi (fn:=Try.f28) _ ?_
  conv=>whnf
  refine zau (fun(i:Nat)=>i≤(ps.getD at_.toNat ⟨[],[],[]⟩).kids.length) (fun i=>⟨34,2,[(1,.c (.int .i64 at_)),(2,.ptr 0 0 0 0),(5,.slc 1),(6,.c (.int .i64 i))],[(0,.box [.c (.int .i64 root),.c (.pgs ps)] [] []),(1,.arr (.nums .i64 (at_::((ps.getD at_.toNat ⟨[],[],[]⟩).kids.take i).flatMap (wkF ps d))))]⟩)
   (fun i=>(ps.getD at_.toNat ⟨[],[],[]⟩).kids.length-i) 0 (Nat.zero_le _) (fun _=>Nat.zero_le _) (ydn [] [0,1]) (fun i hi=>?_)
  have hfl:=z0w (ps:=ps) (d:=d) (l:=(ps.getD at_.toNat ⟨[],[],[]⟩).kids.take i) (fun k hk=>h3 k (List.mem_of_mem_take hk))
  have hfl2:((ps.getD at_.toNat ⟨[],[],[]⟩).kids.take i).length*wkB d≤5*wkB d:=Nat.mul_le_mul_right _ (by rw[List.length_take];omega)
  have hel:∀j,j<(ps.getD at_.toNat ⟨[],[],[]⟩).kids.length→wkOk ps d ((ps.getD at_.toNat ⟨[],[],[]⟩).kids.getD j 0):=fun j hj=>by
   have e:(ps.getD at_.toNat ⟨[],[],[]⟩).kids.getD j 0=(ps.getD at_.toNat ⟨[],[],[]⟩).kids[j]:=by rw[List.getD_eq_getElem?_getD,List.getElem?_eq_getElem hj];rfl
   rw[e];exact h3 _ (List.getElem_mem hj)
  conv=>whnf
  by_cases hlt:i<(ps.getD at_.toNat ⟨[],[],[]⟩).kids.length
  ·have hwl:=zg5 d (hel i hlt)
   repeat' first
    |(refine za (by kernel_rfl) ?_;conv=>whnf)
    |(refine za (by(try simp only[wA,wN,wL])<;>omega) ?_;conv=>whnf)
    |(refine zk (fun h=>?_) (fun h=>?_)<;>(try simp only[qA]at h)<;>(try simp only[wA,wN]at h)<;>conv=>whnf)
    |(refine zg (by(try simp only[wA,wN,wL])<;>omega) (by(try simp only[wA,wN,wL])<;>omega) ?_;conv=>whnf)
    |(refine zar (ih ((ps.getD at_.toNat ⟨[],[],[]⟩).kids.getD i 0) (by omega) (hel i hlt)) rfl rfl ?_;conv=>whnf)
    |(refine zo ?_;conv=>whnf)
    |(refine ze ?_;conv=>whnf)
   ·refine⟨⟨i+1,by omega⟩,?_,by dsimp only;omega⟩
    refine(zbd [] [0,1] ⟨by repeat first|exact trivial|refine⟨rfl,?_⟩,⟨rfl,?_,trivial⟩,rfl,rfl,rfl,rfl,rfl,rfl,rfl⟩)
    exact congrArg (fun z=>some (O.arr (C.nums .i64 (at_::z)))) (zzt (wkF ps d) (ps.getD at_.toNat ⟨[],[],[]⟩).kids i hlt).symm
   ·exact absurd hlt (by omega)
  ·rw[List.take_of_length_le (by omega),hV']
   repeat' first
    |(refine za (by(try simp only[wA,wN,wL])<;>omega) ?_;conv=>whnf)
    |(refine zk (fun h=>?_) (fun h=>?_)<;>(try simp only[qA]at h)<;>(try simp only[wA,wN]at h)<;>conv=>whnf)
    |(refine ze ?_;conv=>whnf)
   ·exfalso;omega
   ·exact(zu [] [1])
end Go.VL
namespace Go.VL
open Go.Proofs
set_option maxRecDepth 10000
set_option linter.unusedSimpArgs false
set_option linter.unusedVariables false
set_option maxHeartbeats 2000000 in
theorem zay (root:Int) (ps:List Pg) (hp:pB ps):zr Try.prog 13 0 [trV root ps] [] 0 (.c (.bool (vTree root ps))) []:=by
 have k4:=hp.len
 obtain⟨V,hV⟩:∃V,vTree root ps=V:=⟨_,rfl⟩
 rw[hV]
 have hb:=hg_b (ps:=ps) 3 (at_:=root) (n:=1)
 obtain⟨d,hH⟩:∃d:Nat,hgF ps 3 root 1=(d:Int)+1:=⟨(hgF ps 3 root 1-1).toNat,by omega⟩
 have hd:d≤3:=by omega
 have hhv:=zxv root ps hp
 obtain⟨B,hB⟩:∃B,pgF ps root (d+1) root 0 99=B:=⟨_,rfl⟩
 have hpf:∀z:Int,z=d+1→0≤root→root<ps.length→zr Try.prog 27 0 [trV root ps,.c (.int .i64 root),.c (.int .i64 0),.c (.int .i64 99),.c (.int .i64 z)] [] 0 (.c (.bool B)) []:=fun z hz h1 h2=>by
  have h3:=zx0 root ps hp d root 0 99 z (by omega) hz h1 h2
  rw[hB]at h3;exact h3
 have t1:=@vT_1 root ps V hV
 have t2:=@vT_2 root ps V hV
 have t3:=@vT_3 root ps V hV
 have t4:=@vT_4 root ps V d hV hH
 have t5:=@vT_5 root ps V d hV hH
 have t6:=@vT_6 root ps V d hV hH
 have hwk:=fun h1 h2 h3=>zyt root ps hp (d+1) root (by omega) (zk9 (root:=root) (low:=0) (high:=99) (d+1) (at_:=root) h1 h2 h3)
 have hwb:=fun h1 h2 h3=>zg5 (ps:=ps) (d+1) (zk9 (root:=root) (low:=0) (high:=99) (d+1) (at_:=root) h1 h2 h3)
 have hw4:wkB (d+1)≤97656:=Nat.le_trans (zfs (show d+1≤8 by omega)) (by decide)
 obtain⟨L,hL⟩:∃L,wkF ps (d+1) root=L:=⟨_,rfl⟩
 rw[hL]at t5 t6 hwk hwb
 rw[hB]at t4 t6 hwk hwb
 generalize hgF ps 3 root 1=H at *
 clear hV hL hB
 refine spi (fn:=Try.f13) _ ?_
 conv=>whnf
 repeat' first
  |(refine za (by kernel_rfl) ?_;conv=>whnf)
  |(refine zk (fun h=>?_) (fun h=>?_)<;>(try simp only[qA]at h)<;>(try simp only[wA,wN]at h)<;>conv=>whnf)
  |refine zd ?_
  |(refine zg (by(try simp only[wA,wN,wL])<;>omega) (by(try simp only[wA,wN,wL])<;>omega) ?_;conv=>whnf)
  |(refine zw (zgy _ _ _) rfl rfl ?_;conv=>whnf)
  |(refine zw (hhv) rfl rfl ?_;conv=>whnf)
  |(refine zw (hpf H hH (by omega) (by omega)) rfl rfl ?_;conv=>whnf)
  |(refine z8 (hwk (by omega) (by omega) (by assumption)) rfl ?_;conv=>whnf)
  |(refine ze ?_;conv=>whnf)
 all_goals first|exact t1 h|exact t2 h|exact t3 (by omega)|exact t4 h|skip
 have hlb:=hwb (by omega) (by omega) (by assumption)
 refine zau (fun i:Nat=>i≤L.length∧(L.take i).Nodup) (fun i=>⟨58,1,[(1,.ptr 0 0 0 0),(3,.c (.nums .i64 L)),(4,.c (.int .i64 i))],[(0,.box [.c (.int .i64 root),.c (.pgs ps)] [] [])]⟩) (fun i=>L.length-i) 0 ⟨Nat.zero_le _,by simp⟩ (fun _=>Nat.zero_le _) (ydn [101] [0]) (fun i hi=>?_)
 obtain⟨hi,hn⟩:=hi
 conv=>whnf
 repeat' first
  |(refine za (by kernel_rfl) ?_;conv=>whnf)
  |(refine za (by(try simp only[wA,wN,wL])<;>omega) ?_;conv=>whnf)
  |(refine zk (fun h=>?_) (fun h=>?_)<;>(try simp only[qA]at h)<;>(try simp only[wA,wN]at h)<;>conv=>whnf)
  |refine zd ?_
  |refine zh ?_
  |(refine zg (by(try simp only[wA,wN,wL])<;>omega) (by(try simp only[wA,wN,wL])<;>omega) ?_;conv=>whnf)
  |(refine zw (zo5 _ _ (by rw[w7];omega)) rfl rfl ?_;conv=>whnf)
  |(refine ze ?_;conv=>whnf)
 ·exact t5 (zzi (by omega) h)
 ·refine⟨⟨i+1,?_⟩,(ydn [] [0]),by dsimp only;omega⟩;(try dsimp only)
  exact⟨by omega,zwf (by omega) hn h⟩
 ·rw[List.take_of_length_le (by omega)]at hn
  rw[t6 (by assumption) (by assumption) (by omega) (by assumption) hn]
  have e:((L.length:Int)=(ps.length:Int))↔L.length=ps.length:=by omega
  rw[Bool.eq_iff_iff,beq_iff_eq,decide_eq_true_eq]
  exact e
end Go.VL
