/- laws.FnExactRunTree returns true for every input and leaves its arguments as they were: The two RunTree answer alike, and what the program returns is its own. No condition. -/
import Derived.Test.YtdbhfajlffaneaaGreatVW0
import Derived.Test.YtdbhfajlffaneaaGreatVW11
import Derived.Test.YtdbhfajlffaneaaGreatRows
import Derived.WalkKit
import Derived.ProofKit
import Derived.OpenShut
import Derived.ShutString
import Derived.ChangeOld
import Derived.Below
namespace Go.Proofs.YtdbhfajlffaneaaGreat.fnExactRunTree
open Go.ChangeShapes Go.WideShapes Go.ChangeAt Go.RowKit
set_option linter.unusedVariables false
theorem own:ownKnob Tryz.prog.godebug=none:=by kernel_rfl
theorem laidOut:laidOutB Tryz.prog=true:=Go.VL.js_laid
theorem walk (root:Int) (u v1 v2:Value) (ps:List Go.VL.Pg) (ops:List Go.VL.Opn) (picks:List Int) (w:World) (h0:ps.length≤9223372036854775807) (h1:∀p∈ps,p.keys.length≤9223372036854775807∧p.kids.length≤9223372036854775807∧p.vals.length≤9223372036854775807) (h2:ops.length≤9223372036854775807) (h3:picks.length≤9223372036854775807)
  (r0:Go.VL.RC (fun b=>b<w.heap.size) w (.pgs ps) u) (r1:Go.VL.RC (fun b=>b<w.heap.size) w (.ops ops) v1) (r2:Go.VL.RC (fun b=>b<w.heap.size) w (.nums .i64 picks) v2) :
  Calls Tryz.prog 7 #[.agg #[.int .i64 root,u],v1,v2] w fun e w'=>e=.returned (.bool true)∧Below w.heap.size w w' :=
 Go.VL.calls_of_spec (argv:=[.agg #[.int .i64 root,u],v1,v2]) (Go.VL.FnExactRunTree_v root ps ops picks h0 h1 h2 h3) rfl fun i x z hx hz=>by
  match i,hx,hz with
  |0,hx,hz =>
   cases hx;cases hz
   refine .agg [.c (.int .i64 root),.c (.pgs ps)] [.int .i64 root,u] rfl fun i p q hp hq=>?_
   match i,hp,hq with
   |0,hp,hq=>cases hp;cases hq;exact .c _ _ (.int _ _)
   |1,hp,hq=>cases hp;cases hq;exact .c _ _ r0
  |1,hx,hz=>cases hx;cases hz;exact .c _ _ r1
  |2,hx,hz=>cases hx;cases hz;exact .c _ _ r2
set_option maxRecDepth 100000 in
theorem lifted (os:Os) (started:os.Started) (H:Type) (enc:TypeId×Value→H) :
  ReturnsInHanded {} Tryz.checked os 7 .any (Rows.fnExactRunTreeSpec.pre6 enc Tryz.prog Tryz.f7 Rows.fnExactRunTreeRow.domain false) (Rows.fnExactRunTreeSpec.post enc Tryz.prog Tryz.f7 false true false false):=by
 refine returnsInHanded_of_change (C:=Tryz.checked) own started (by kernel_rfl) Tryz.func7
  (ChangeSpec.witness6 (enc:=enc) (C:=Tryz.checked) false ⟨#[],#[.agg #[.int .i64 0,.slice none 0 0],.slice none 0 0,.slice none 0 0],[]⟩ 8 (by kernel_rfl) (by kernel_rfl) (by kernel_rfl) (by kernel_rfl)) ?_
 intro W base args ds gs before hval0 hW hcnd _
 have hval:∀(j:Nat) t v,Tryz.f7.params[j]? = some t→args[j]? = some v→Value.okWide Tryz.prog W .any base t v:=hval0
 have hW':=hW
 obtain⟨p,q,hA0,hV,rfl,hfz,hnd⟩:=hW
 have hA:DataW.TrodAll enc Tryz.prog W 0 (fun _=>true) true Tryz.f7.params.toList args.toList ds p:=hA0
 rw[Tryz.params7]at hA hval
 obtain⟨v0,vs0,d0,ds0,p0,q0,hargs,rfl,rfl,h0,r0⟩:=trodAll_cons hA
 obtain⟨v1,vs1,d1,ds1,p1,q1,rfl,rfl,rfl,h1,r1⟩:=trodAll_cons r0
 obtain⟨v2,vs2,d2,ds2,p2,q2,rfl,rfl,rfl,h2,r2⟩:=trodAll_cons r1
 obtain⟨rfl,rfl,rfl⟩:=trodAll_nil r2
 obtain rfl:args=#[v0,v1,v2]:=by cases args;simp_all
 obtain⟨rfl,rfl⟩:=trodVars_none hV
 obtain⟨cs0,rfl,_⟩:=okWide_struct Tryz.underlying44 (hval 0 44 v0 rfl rfl)
 obtain⟨a1,len1,cap1,rfl⟩:=okWide_slice Tryz.underlying45 (hval 1 45 v1 rfl rfl)
 obtain⟨a2,len2,cap2,rfl⟩:=okWide_slice Tryz.underlying26 (hval 2 26 v2 rfl rfl)
 have k0:=h0
 have k1:=h1
 have k2:=h2
 have lt0:∀x∈p0,x.block<W.heap.size:=by obtain⟨m,hm⟩:=k0;exact DataW.trod_lt m _ _ _ hm
 have lt1:∀x∈p1,x.block<W.heap.size:=by obtain⟨m,hm⟩:=k1;exact DataW.trod_lt m _ _ _ hm
 have lt2:∀x∈p2,x.block<W.heap.size:=by obtain⟨m,hm⟩:=k2;exact DataW.trod_lt m _ _ _ hm
 obtain⟨root,ps,u,e0,l0,m0,w0⟩:∃(root:Int) (ps:List Go.VL.Pg) (u:Value),cs0.toList=[.int .i64 root,u]∧ps.length≤9223372036854775807∧(∀p∈ps,p.keys.length≤9223372036854775807∧p.kids.length≤9223372036854775807∧p.vals.length≤9223372036854775807)∧Go.VL.RC (fun b=>b<W.heap.size) W (.pgs ps) u:=by
  obtain⟨fuel,hf⟩:=h0
  exact Go.VL.rc_tree (tk:=3) (ti:=26) (te:=3) Tryz.underlying44 (by kernel_rfl) ⟨rfl,rfl,by kernel_rfl,Tryz.underlying3⟩ ⟨rfl,rfl,by kernel_rfl⟩ Tryz.underlying42 Tryz.underlying130 (by kernel_rfl) ⟨rfl,rfl⟩ ⟨rfl,rfl⟩ ⟨rfl,rfl⟩ ⟨by kernel_rfl,Tryz.underlying26,Tryz.underlying3,by kernel_rfl⟩ hf
 obtain⟨ops,l1,w1⟩:∃ops:List Go.VL.Opn,ops.length≤9223372036854775807∧Go.VL.RC (fun b=>b<W.heap.size) W (.ops ops) (.slice a1 len1 cap1):=by
  obtain⟨fuel,hf⟩:=h1
  exact Go.VL.rc_oplist (tk:=3) Tryz.underlying45 Tryz.underlying95 (by kernel_rfl) ⟨rfl,rfl⟩ ⟨rfl,rfl⟩ ⟨rfl,rfl⟩ ⟨by kernel_rfl,Tryz.underlying3⟩ hf
 obtain⟨picks,l2,w2⟩:∃picks:List Int,picks.length≤9223372036854775807∧Go.VL.RC (fun b=>b<W.heap.size) W (.nums .i64 picks) (.slice a2 len2 cap2):=by
  obtain⟨fuel,hf⟩:=h2
  exact Go.VL.rc_ints Tryz.underlying26 Tryz.underlying3 (by kernel_rfl) hf
 obtain rfl:cs0=#[.int .i64 root,u]:=by cases cs0;simp_all
 clear hA0 hval0
 refine(walk root u _ _ ps ops picks W l0 m0 l1 l2 w0 w1 w2).mono fun e W' ⟨he,bel⟩=>?_
 subst he
 exact⟨_,rfl,_,_,_,[],_,[],hW',trodAll_mk1 (shut_bool Tryz.underlying4 _),(trodAll_cons_mk (Below.trod laidOut (by kernel_rfl) (of_decide_eq_true (by kernel_rfl)) k0 bel lt0) (trodAll_cons_mk (Below.trod laidOut (by kernel_rfl) (of_decide_eq_true (by kernel_rfl)) k1 bel lt1) (trodAll_cons_mk (Below.trod laidOut (by kernel_rfl) (of_decide_eq_true (by kernel_rfl)) k2 bel lt2) trodAll_mk0))),rfl,bel.frame _,fun h=>by cases h⟩
theorem j0:(Rows.fnExactRunTreeRow.wf (OpenSpec.ofChange Rows.fnExactRunTreeSpec))=true:=by kernel_rfl
theorem j1:(laidOutB Tryz.prog)=true:=Go.VL.js_laid
theorem j2:(mapsRowed Tryz.prog)=true:=Go.VL.js_maps
theorem j3:(Tryz.f7.params.all (Tryz.prog.readableRec ·))=true:=by kernel_rfl
theorem j4:(namedTie Tryz.prog Rows.fnExactRunTreeRow.named Rows.fnExactRunTreeSpec.vars)=true:=by kernel_rfl
theorem j5:((Rows.fnExactRunTreeRow.stops==[]))=true:=by kernel_rfl
theorem j6:((Tryz.prog.stops==[]))=true:=by kernel_rfl
theorem j7:((Rows.fnExactRunTreeRow.knobs==[]))=true:=by kernel_rfl
theorem j8:((Tryz.prog.stopKnobs==[]))=true:=by kernel_rfl
theorem j9:((Rows.fnExactRunTreeRow.inPlace==Tryz.prog.inPlace 7))=true:=by kernel_rfl
theorem j10:((Rows.fnExactRunTreeRow.unfollowed==Tryz.prog.unfollowed 7))=true:=by kernel_rfl
theorem j11:((Rows.fnExactRunTreeRow.recurses==Tryz.prog.recurses 7))=true:=by kernel_rfl
theorem j12:((Rows.fnExactRunTreeRow.named==Tryz.prog.varsNamed 7))=true:=by kernel_rfl
theorem j13:((Rows.fnExactRunTreeRow.maps==(Tryz.f7.params.toList++Rows.fnExactRunTreeSpec.plain.varTypes Tryz.prog).any (Tryz.prog.mapsRec ·)))=true:=by kernel_rfl
theorem j14:((Rows.fnExactRunTreeRow.ifaces==(Tryz.f7.params.toList++Rows.fnExactRunTreeSpec.plain.varTypes Tryz.prog).any (Tryz.prog.ifacesRec ·)))=true:=by kernel_rfl
theorem j15:((Rows.fnExactRunTreeRow.mapsOut==Tryz.prog.mapsAmong Tryz.f7.resultTypes.toList))=true:=by kernel_rfl
theorem j16:((Rows.fnExactRunTreeRow.loops==(Tryz.f7.params.toList++Rows.fnExactRunTreeSpec.plain.varTypes Tryz.prog).any (Tryz.prog.loopsFrom ·)))=true:=by kernel_rfl
theorem j17:((Rows.fnExactRunTreeRow.wideKeys==(Tryz.f7.params.toList++Rows.fnExactRunTreeSpec.plain.varTypes Tryz.prog++Tryz.f7.resultTypes.toList).any (Tryz.prog.wideKeysFrom ·)))=true:=by kernel_rfl
theorem j18:(Rows.fnExactRunTreeSpec.vars.all (Tryz.prog.varReadable ·))=true:=by kernel_rfl
theorem j19:(Tryz.f7.resultTypes.all (fun t=>Tryz.prog.readableRec t&&decide (t<Tryz.prog.types.size)))=true:=by kernel_rfl
theorem j20:((Rows.fnExactRunTreeRow.ifacesOut==Tryz.f7.resultTypes.toList.any (Tryz.prog.ifacesRec ·)))=true:=by kernel_rfl
theorem j21:((Rows.fnExactRunTreeRow.loopsOut==Tryz.f7.resultTypes.toList.any (Tryz.prog.loopsFrom ·)))=true:=by kernel_rfl
theorem j22:((Rows.fnExactRunTreeRow.plainKeys==Tryz.prog.plainKeys))=true:=by kernel_rfl
theorem j23:(Rows.fnExactRunTreeRow.shortTexts.isNone)=true:=by kernel_rfl
theorem j24:(Tryz.prog.stopsHeard)=true:=Go.VL.js_heard
theorem j25:(Tryz.prog.mayEnter)=true:=Go.VL.js_enter
theorem j26:((Rows.fnExactRunTreeRow.lifted==Tryz.prog.liftsFinal))=true:=by rw[Go.VL.js_lifts];rfl
theorem j27:((Tryz.prog.make==some Rows.fnExactRunTreeRow.make))=true:=by rw[Go.VL.js_make];rfl
theorem j28:((Rows.fnExactRunTreeRow.kinds==(if Rows.fnExactRunTreeRow.domain.isEmpty then []else Tryz.f7.params.toList.map fun t=>match Tryz.prog.underlying t with|some (.int k)=>some k|_=>none)))=true:=by kernel_rfl
theorem j29:((Rows.fnExactRunTreeRow.pinned==Rows.fnExactRunTreeRow.pinnedBy))=true:=by kernel_rfl
theorem j30:((Rows.fnExactRunTreeRow.veiled==(Tryz.f7.params.toList++Rows.fnExactRunTreeSpec.plain.varTypes Tryz.prog++Tryz.f7.resultTypes.toList).any (Tryz.prog.veiledRec ·)))=true:=by kernel_rfl
theorem j31:(Rows.fnExactRunTreeRow.veiledFits Tryz.prog Tryz.f7.params.toList (Tryz.f7.params.toList++Rows.fnExactRunTreeSpec.plain.varTypes Tryz.prog++Tryz.f7.resultTypes.toList))=true:=by kernel_rfl
set_option maxRecDepth 100000 in
theorem jf:joinedFacts Tryz.prog 7 Tryz.f7 Rows.fnExactRunTreeSpec Rows.fnExactRunTreeRow=true:=by
 unfold joinedFacts
 simp only[Bool.and_eq_true]
 exact⟨⟨⟨⟨⟨⟨⟨⟨⟨⟨⟨⟨⟨⟨⟨⟨⟨⟨⟨⟨⟨⟨⟨⟨⟨⟨⟨⟨⟨⟨⟨j0,j1⟩,j2⟩,j3⟩,j4⟩,j5⟩,j6⟩,j7⟩,j8⟩,j9⟩,j10⟩,j11⟩,j12⟩,j13⟩,j14⟩,j15⟩,j16⟩,j17⟩,j18⟩,j19⟩,j20⟩,j21⟩,j22⟩,j23⟩,j24⟩,j25⟩,j26⟩,j27⟩,j28⟩,j29⟩,j30⟩,j31⟩
theorem over:Rows.fnExactRunTreeRow.holds Tryz.pinned (OpenSpec.ofChange Rows.fnExactRunTreeSpec) :=
 OpenClaim.holds_of_wide 7 Tryz.f7 rfl rfl rfl rfl rfl rfl rfl ⟨rfl,rfl,rfl,rfl,rfl⟩ rfl rfl rfl rfl rfl (by kernel_rfl) Tryz.func7 jf
  (of_decide_eq_true (by kernel_rfl)) (by unfold Func.isWrapper;first|(rw[if_pos (by decide +kernel)];kernel_rfl)|(rw[if_neg (by decide +kernel)];exact⟨rfl,rfl⟩))
  (fun os started H enc _=>lifted os started H enc)
theorem proved:Rows.FnExactRunTreeSaid:=over
#print axioms proved
end Go.Proofs.YtdbhfajlffaneaaGreat.fnExactRunTree
