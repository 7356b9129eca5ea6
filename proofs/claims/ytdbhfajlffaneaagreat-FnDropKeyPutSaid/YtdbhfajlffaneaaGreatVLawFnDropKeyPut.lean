/- laws.FnDropKeyPut returns true for every input and leaves its argument as it was: A dropped key can be put again. No condition. -/
import Derived.Test.YtdbhfajlffaneaaGreatVBR
import Derived.Test.YtdbhfajlffaneaaGreatVJS
import Derived.Test.YtdbhfajlffaneaaGreatVW9
import Derived.Test.YtdbhfajlffaneaaGreatRows
import Derived.WalkKit
import Derived.ProofKit
import Derived.OpenShut
import Derived.ShutString
import Derived.ChangeOld
import Derived.Below
namespace Go.Proofs.YtdbhfajlffaneaaGreat.fnDropKeyPut
open Go.ChangeShapes Go.WideShapes Go.ChangeAt Go.RowKit
set_option linter.unusedVariables false
theorem own:ownKnob Tryz.prog.godebug=none:=by kernel_rfl
theorem laidOut:laidOutB Tryz.prog=true:=Go.VL.js_laid
theorem walk (v:Value) (c:List Int) (w:World) (hl:c.length≤9223372036854775807) (hk:∀x∈c,0≤x∧x≤255) (hv:Go.VL.RC (fun b=>b<w.heap.size) w (.nums .u8 c) v) :
  Calls Tryz.prog 9 #[v] w fun e w'=>e=.returned (.bool true)∧Below w.heap.size w w' :=
 Go.VL.calls_of_spec (argv:=[v]) (Go.VL.FnDropKeyPut_v c hl hk) rfl fun i x u hx hu=>by
  match i,hx,hu with
  |0,hx,hu=>cases hx;cases hu;exact .c _ _ hv
set_option maxRecDepth 100000 in
theorem lifted (os:Os) (started:os.Started) (H:Type) (enc:TypeId×Value→H) :
  ReturnsInHanded {} Tryz.checked os 9 .any (Rows.fnDropKeyPutSpec.pre6 enc Tryz.prog Tryz.f9 Rows.fnDropKeyPutRow.domain false) (Rows.fnDropKeyPutSpec.post enc Tryz.prog Tryz.f9 false true false false):=by
 refine returnsInHanded_of_change (C:=Tryz.checked) own started (by kernel_rfl) Tryz.func9
  (ChangeSpec.witness6 (enc:=enc) (C:=Tryz.checked) false ⟨#[],#[.slice none 0 0],[]⟩ 8 (by kernel_rfl) (by kernel_rfl) (by kernel_rfl) (by kernel_rfl)) ?_
 intro W base args ds gs before hval0 hW hcnd _
 have hval:∀(j:Nat) t v,Tryz.f9.params[j]? = some t→args[j]? = some v→Value.okWide Tryz.prog W .any base t v:=hval0
 have hW':=hW
 obtain⟨p,q,hA0,hV,rfl,hfz,hnd⟩:=hW
 have hA:DataW.TrodAll enc Tryz.prog W 0 (fun _=>true) true Tryz.f9.params.toList args.toList ds p:=hA0
 rw[Tryz.params9]at hA hval
 obtain⟨v0,vs0,d0,ds0,p0,q0,hargs,rfl,rfl,h0,r0⟩:=trodAll_cons hA
 obtain⟨rfl,rfl,rfl⟩:=trodAll_nil r0
 obtain rfl:args=#[v0]:=by cases args;simp_all
 obtain⟨rfl,rfl⟩:=trodVars_none hV
 obtain⟨a0,len0,cap0,rfl⟩:=okWide_slice Tryz.underlying22 (hval 0 22 v0 rfl rfl)
 have k0:=h0
 have lt0:∀x∈p0,x.block<W.heap.size:=by obtain⟨m,hm⟩:=k0;exact DataW.trod_lt m _ _ _ hm
 obtain⟨c0,l0,m0,w0⟩:∃c:List Int,c.length≤9223372036854775807∧(∀x∈c,0≤x∧x≤255)∧Go.VL.RC (fun b=>b<W.heap.size) W (.nums .u8 c) (.slice a0 len0 cap0):=by
  obtain⟨fuel,hf⟩:=h0
  exact Go.VL.rc_bytes Tryz.underlying22 Tryz.underlying5 (by kernel_rfl) hf
 clear hA0 hval0
 refine(walk _ c0 W l0 m0 w0).mono fun e W' ⟨he,bel⟩=>?_
 subst he
 exact⟨_,rfl,_,_,_,[],_,[],hW',trodAll_mk1 (shut_bool Tryz.underlying4 _),(trodAll_cons_mk (Below.trod laidOut (by kernel_rfl) (of_decide_eq_true (by kernel_rfl)) k0 bel lt0) trodAll_mk0),rfl,bel.frame _,fun h=>by cases h⟩
theorem j0:(Rows.fnDropKeyPutRow.wf (OpenSpec.ofChange Rows.fnDropKeyPutSpec))=true:=by kernel_rfl
theorem j1:(laidOutB Tryz.prog)=true:=Go.VL.js_laid
theorem j2:(mapsRowed Tryz.prog)=true:=Go.VL.js_maps
theorem j3:(Tryz.f9.params.all (Tryz.prog.readableRec ·))=true:=by kernel_rfl
theorem j4:(namedTie Tryz.prog Rows.fnDropKeyPutRow.named Rows.fnDropKeyPutSpec.vars)=true:=by kernel_rfl
theorem j5:((Rows.fnDropKeyPutRow.stops==[]))=true:=by kernel_rfl
theorem j6:((Tryz.prog.stops==[]))=true:=by kernel_rfl
theorem j7:((Rows.fnDropKeyPutRow.knobs==[]))=true:=by kernel_rfl
theorem j8:((Tryz.prog.stopKnobs==[]))=true:=by kernel_rfl
theorem j9:((Rows.fnDropKeyPutRow.inPlace==Tryz.prog.inPlace 9))=true:=by kernel_rfl
theorem j10:((Rows.fnDropKeyPutRow.unfollowed==Tryz.prog.unfollowed 9))=true:=by kernel_rfl
theorem j11:((Rows.fnDropKeyPutRow.recurses==Tryz.prog.recurses 9))=true:=by kernel_rfl
theorem j12:((Rows.fnDropKeyPutRow.named==Tryz.prog.varsNamed 9))=true:=by kernel_rfl
theorem j13:((Rows.fnDropKeyPutRow.maps==(Tryz.f9.params.toList++Rows.fnDropKeyPutSpec.plain.varTypes Tryz.prog).any (Tryz.prog.mapsRec ·)))=true:=by kernel_rfl
theorem j14:((Rows.fnDropKeyPutRow.ifaces==(Tryz.f9.params.toList++Rows.fnDropKeyPutSpec.plain.varTypes Tryz.prog).any (Tryz.prog.ifacesRec ·)))=true:=by kernel_rfl
theorem j15:((Rows.fnDropKeyPutRow.mapsOut==Tryz.prog.mapsAmong Tryz.f9.resultTypes.toList))=true:=by kernel_rfl
theorem j16:((Rows.fnDropKeyPutRow.loops==(Tryz.f9.params.toList++Rows.fnDropKeyPutSpec.plain.varTypes Tryz.prog).any (Tryz.prog.loopsFrom ·)))=true:=by kernel_rfl
theorem j17:((Rows.fnDropKeyPutRow.wideKeys==(Tryz.f9.params.toList++Rows.fnDropKeyPutSpec.plain.varTypes Tryz.prog++Tryz.f9.resultTypes.toList).any (Tryz.prog.wideKeysFrom ·)))=true:=by kernel_rfl
theorem j18:(Rows.fnDropKeyPutSpec.vars.all (Tryz.prog.varReadable ·))=true:=by kernel_rfl
theorem j19:(Tryz.f9.resultTypes.all (fun t=>Tryz.prog.readableRec t&&decide (t<Tryz.prog.types.size)))=true:=by kernel_rfl
theorem j20:((Rows.fnDropKeyPutRow.ifacesOut==Tryz.f9.resultTypes.toList.any (Tryz.prog.ifacesRec ·)))=true:=by kernel_rfl
theorem j21:((Rows.fnDropKeyPutRow.loopsOut==Tryz.f9.resultTypes.toList.any (Tryz.prog.loopsFrom ·)))=true:=by kernel_rfl
theorem j22:((Rows.fnDropKeyPutRow.plainKeys==Tryz.prog.plainKeys))=true:=by kernel_rfl
theorem j23:(Rows.fnDropKeyPutRow.shortTexts.isNone)=true:=by kernel_rfl
theorem j24:(Tryz.prog.stopsHeard)=true:=Go.VL.js_heard
theorem j25:(Tryz.prog.mayEnter)=true:=Go.VL.js_enter
theorem j26:((Rows.fnDropKeyPutRow.lifted==Tryz.prog.liftsFinal))=true:=by rw[Go.VL.js_lifts];rfl
theorem j27:((Tryz.prog.make==some Rows.fnDropKeyPutRow.make))=true:=by rw[Go.VL.js_make];rfl
theorem j28:((Rows.fnDropKeyPutRow.kinds==(if Rows.fnDropKeyPutRow.domain.isEmpty then []else Tryz.f9.params.toList.map fun t=>match Tryz.prog.underlying t with|some (.int k)=>some k|_=>none)))=true:=by kernel_rfl
theorem j29:((Rows.fnDropKeyPutRow.pinned==Rows.fnDropKeyPutRow.pinnedBy))=true:=by kernel_rfl
theorem j30:((Rows.fnDropKeyPutRow.veiled==(Tryz.f9.params.toList++Rows.fnDropKeyPutSpec.plain.varTypes Tryz.prog++Tryz.f9.resultTypes.toList).any (Tryz.prog.veiledRec ·)))=true:=by kernel_rfl
theorem j31:(Rows.fnDropKeyPutRow.veiledFits Tryz.prog Tryz.f9.params.toList (Tryz.f9.params.toList++Rows.fnDropKeyPutSpec.plain.varTypes Tryz.prog++Tryz.f9.resultTypes.toList))=true:=by kernel_rfl
set_option maxRecDepth 100000 in
theorem jf:joinedFacts Tryz.prog 9 Tryz.f9 Rows.fnDropKeyPutSpec Rows.fnDropKeyPutRow=true:=by
 unfold joinedFacts
 simp only[Bool.and_eq_true]
 exact⟨⟨⟨⟨⟨⟨⟨⟨⟨⟨⟨⟨⟨⟨⟨⟨⟨⟨⟨⟨⟨⟨⟨⟨⟨⟨⟨⟨⟨⟨⟨j0,j1⟩,j2⟩,j3⟩,j4⟩,j5⟩,j6⟩,j7⟩,j8⟩,j9⟩,j10⟩,j11⟩,j12⟩,j13⟩,j14⟩,j15⟩,j16⟩,j17⟩,j18⟩,j19⟩,j20⟩,j21⟩,j22⟩,j23⟩,j24⟩,j25⟩,j26⟩,j27⟩,j28⟩,j29⟩,j30⟩,j31⟩
theorem over:Rows.fnDropKeyPutRow.holds Tryz.pinned (OpenSpec.ofChange Rows.fnDropKeyPutSpec) :=
 OpenClaim.holds_of_wide 9 Tryz.f9 rfl rfl rfl rfl rfl rfl rfl ⟨rfl,rfl,rfl,rfl,rfl⟩ rfl rfl rfl rfl rfl (by kernel_rfl) Tryz.func9 jf
  (of_decide_eq_true (by kernel_rfl)) (by unfold Func.isWrapper;first|(rw[if_pos (by decide +kernel)];kernel_rfl)|(rw[if_neg (by decide +kernel)];exact⟨rfl,rfl⟩))
  (fun os started H enc _=>lifted os started H enc)
theorem proved:Rows.FnDropKeyPutSaid:=over
#print axioms proved
end Go.Proofs.YtdbhfajlffaneaaGreat.fnDropKeyPut
