/- V-logic: Sound14 Sound15 Ghost Ghost2 Sound16 Sound17 -/
import Derived.Test.YtfogmgldlemngaaVEC
import Derived.Lib.SliceRun
import Derived.Deep.LoopGhost
namespace Go.VL
set_option linter.unusedVariables false
set_option linter.unusedSimpArgs false
def zyq (P:Program) (t:Nat):Prop :=
 P.eqGuardType P.depth t=false∧∀a b c d:Int,∀w:World,(Op.equal t (.agg #[.int .i64 a,.int .i64 b]) (.agg #[.int .i64 c,.int .i64 d])).run P w=.ok (a==c&&b==d) w
def EOk (P:Program) (T:TT):Prop:=∀t,z1o (T t)=true→zyq P t
section
variable {P : Program} {T : TT} {X : Cx} {I : Nat → Prop} {g : Gam} {s : S} {a : Act} {w : World} {o : Oper} {K : S → Prop}
 {N:Act→World→Prop} {Q:Exit→Act→World→Prop}
theorem zpg {v:V} (h:v.oneAgg=true):v.one=true∨∃l,v=.agg l:=by
 cases v with
 |agg l=>exact .inr ⟨l,rfl⟩
 |_=>exact .inl h
theorem z2y {env:List (Nat×V)} {l:List (Nat×Operand)} (h:zku (evp env l)=true):∀p∈l,(evl env p.2).one=true∨∃k,evl env p.2=.agg k:=by
 induction l with
 |nil=>intro p hp;cases hp
 |cons q t ih =>
  obtain⟨i,x⟩:=q
  simp only[evp,zku]at h
  split at h
  ·rename_i h1
   intro p hp
   rcases List.mem_cons.1 hp with hp|hp
   ·subst hp;exact zpg h1
   ·exact ih h p hp
  ·cases h
theorem zef {v:Sem Value} (hv:∀val,v.run P w=.ok val w→(execOp a.eval o).run P w=.ok (.value val) w) (h:St X I g s a w)
  (hk:∃y val,v.run P w=.ok val w∧RV I g s.nx w y val∧s.put o.dst y K) (hN:∀s' a' w',Sat X s' a' w'→K s'→N a' w'):o.wp P a w N Q:=by
 obtain⟨y,val,h1,h2,h3⟩:=hk
 exact zaj (hv val h1) h h2 h3 hN
theorem zr2 (hT:TOk P T) {c:Call} {b:Builtin} (ho:o.op=.call c) (hc:c.callee=.builtin b) (h:St X I g s a w)
  (hk:zle T b c.argTypes.toList (evs s.env c.args.toList) s o.dst K) (hN:∀s' a' w',Sat X s' a' w'→K s'→N a' w'):o.wp P a w N Q:=by
 have hargs:=h.evals' c.args.toList
 have hvals:(c.args.map a.eval).toList=c.args.toList.map a.eval:=by simp
 unfold zle at hk
 split at hk
 ·rename_i x he
  rw[he]at hargs
  split at hk
  ·rename_i t ts hts
   split at hk
   ·rename_i e sz by' kd hti
    obtain⟨v,hv⟩:∃v,c.args.toList.map a.eval=[v]:=by
     have:=hargs.1
     match hq:c.args.toList.map a.eval,this with
     |[v],_=>exact⟨v,rfl⟩
    have hx:=hargs.2 0 x v rfl (by rw[hv];rfl)
    have harr:c.args.map a.eval=#[v]:=by apply Array.ext';rw[hvals,hv]
    have hu:=(zdh hT hti).1
    have h0:c.argTypes[0]? = some t:=by rw[←Array.getElem?_toList,hts];rfl
    obtain⟨y,val,r1,r2,r3⟩:=zsm (t:=o.type) h0 hu h.heap hx hk
    exact zaj (by simp[execOp,ho,resolve,hc,invoke,builtin,harr,r1]) h r2 r3 hN
   ·exact hk.elim
  ·exact hk.elim
 ·rename_i x y he
  rw[he]at hargs
  split at hk
  ·rename_i t t' hts
   split at hk
   ·rename_i e sz by' kd hti
    have hlen:∃p q,c.args.toList=[p,q]:=by
     have:(evs s.env c.args.toList).length=2:=by rw[he];rfl
     rw[zs0,List.length_map]at this
     match hq:c.args.toList,this with
     |[p,q],_=>exact⟨p,q,rfl⟩
    obtain⟨p,q,hpq⟩:=hlen
    rw[hpq]at he
    simp only[evs,List.cons.injEq,and_true]at he
    obtain⟨rfl,rfl⟩:=he
    have harr:c.args.map a.eval=#[a.eval p,a.eval q]:=by apply Array.ext';rw[hvals,hpq];rfl
    have hat:c.argTypes=#[t,t']:=by apply Array.ext';rw[hts]
    refine ztu hT ⟨_,_,_,_,hti⟩ (fun v w' hr=>?_) h hk hN
    simp[execOp,ho,resolve,hc,invoke,builtin,harr,hat,hr]
   ·exact hk.elim
  ·exact hk.elim
 ·rename_i x y he
  rw[he]at hargs
  obtain⟨z,val,r1,r2,r3⟩:=znt (P:=P) (ts:=c.argTypes) (t:=o.type) (isMax:=false) hargs.1 hargs.2 hk
  have harr:c.args.map a.eval=(c.args.toList.map a.eval).toArray:=by apply Array.ext';simp
  simp only[Bool.false_eq_true,if_false]at r1
  exact zaj (by simp only[execOp,ho,resolve,hc,invoke,builtin,Sem.run_bind,Sem.run_pure,Result.andThen_ok];rw[harr,r1];rfl) h r2 r3 hN
 ·rename_i x y he
  rw[he]at hargs
  obtain⟨z,val,r1,r2,r3⟩:=znt (P:=P) (ts:=c.argTypes) (t:=o.type) (isMax:=true) hargs.1 hargs.2 hk
  have harr:c.args.map a.eval=(c.args.toList.map a.eval).toArray:=by apply Array.ext';simp
  simp only[if_true]at r1
  exact zaj (by simp only[execOp,ho,resolve,hc,invoke,builtin,Sem.run_bind,Sem.run_pure,Result.andThen_ok];rw[harr,r1];rfl) h r2 r3 hN
 ·exact hk.elim
theorem zyw {n:Nat} {A B:Prop} (h:vnil n A B):(n=0→A)∧B:=by unfold vnil at h;exact h
theorem zxj {op:BinOp} {x y:V} {l:C} (h:zmm op x y=some l):op=.eql∧x=.c l∧y=.nil:=by
 unfold zmm at h
 split at h
 ·split at h
  ·split at h
   ·split at h
    ·cases h;exact⟨rfl,rfl,rfl⟩
    ·cases h
   ·cases h
  ·cases h
 ·cases h
theorem RV.nil_inv' {n:Nat} {v:Value} (h:RV I g n w .nil v):v=.slice none 0 0:=by cases h;rfl
theorem zzx {op:BinOp} {x y:V} {l:C} (h:zmm op x y=some l):l.isSl=true:=by
 unfold zmm at h
 split at h
 ·split at h
  ·split at h
   ·split at h
    ·cases h;assumption
    ·cases h
   ·cases h
  ·cases h
 ·cases h
theorem RV.slice_nil {n:Nat} {l:C} {v:Value} (h:RV I g n w (.c l) v) (hs:l.isSl=true):∃ad len cap,v=.slice ad len cap∧(ad=none→l.len=0):=by
 cases h with
 |c _ _ h=>cases h with
  |int k m=>cases hs
  |bool b=>cases hs
  |empty _ a cap _ h0=>exact⟨a,0,cap,rfl,fun _=>h0⟩
  |sl _ b off cap val _ _ _ _ _=>exact⟨_,_,cap,rfl,fun h=>by cases h⟩
theorem zol (hT:TOk P T) (hE:EOk P T) (h:St X I g s a w) (hk:vop T P o s K) (hN:∀s' a' w',Sat X s' a' w'→K s'→N a' w'):o.wp P a w N Q:=by
 unfold vop at hk
 split at hk
 ·rename_i x ho;exact zp8 (.inl ho) h hk hN
 ·rename_i x ho;exact zp8 (.inr ho) h hk hN
 ·rename_i c x y ho;exact zx3 ho h hk hN
 ·rename_i t ho;exact zu6 hT ho h hk hN
 ·rename_i t x ho
  split at hk
  ·rename_i h1;exact zzj ho h (zpg h1) hk hN
  ·exact hk.elim
 ·rename_i t parts ho
  split at hk
  ·rename_i h1;exact zu2 hT ho h (z2y h1) hk hN
  ·exact hk.elim
 ·rename_i t len parts ho;exact zn9 hT ho h hk hN
 ·rename_i t x ho
  exact zef (fun val hr=>by simp[execOp,ho,hr]) h (znb hT h.heap (h.eval x) hk) hN
 ·rename_i t x y ho
  split at hk
  ·rename_i hok;exact zu9 hT ho h hok hk hN
  ·exact hk.elim
 ·rename_i x ho
  have hx:=h.eval x
  split at hk
  ·rename_i row he
   rw[he]at hx
   have hx':=hx
   cases hq:a.eval x with
   |pointer p =>
    rw[hq]at hx
    cases hx with
    |iptr _ b off val hI hc hr =>
     refine zaj (v:=.iptr row) (val:=.pointer (some ⟨b,off,none⟩)) (w':=w) (by simp[execOp,ho,hq]) h (by rw[hq]at hx';exact hx') hk hN
   |_=>rw[hq]at hx;cases hx
  ·rename_i i p st j he
   rw[he]at hx
   have hx':=hx
   cases hq:a.eval x with
   |pointer p =>
    rw[hq]at hx
    cases hx with
    |ptr _ _ _ _ b cl hn hg =>
     refine zaj (v:=_) (val:=_) (w':=w) (by simp[execOp,ho,hq];rfl) h (by rw[hq]at hx';exact hx') hk hN
   |_=>rw[hq]at hx;cases hx
  ·exact hk.elim
 ·rename_i op t x y yt ho
  split at hk
  ·rename_i l hq
   split at hk
   ·rename_i hti
    obtain⟨n1,n2⟩:=zyw hk
    obtain⟨e1,e2,e3⟩:=zxj hq
    subst e1
    have hx:=h.eval x
    have hy:=h.eval y
    rw[e2]at hx
    rw[e3]at hy
    have hyv:=hy.nil_inv'
    obtain⟨ad,len,cap,hxv,hlen⟩:=hx.slice_nil (zzx hq)
    have hu:∃e,P.underlying t=some (.slice e):=by
     unfold TI.isSlc at hti
     split at hti
     ·rename_i e sz by_ kd hq;have:=hT t;rw[hq]at this;exact⟨e,this.1⟩
     ·cases hti
    obtain⟨e,hu⟩:=hu
    have hr:(do eqGuard .eql t x y (a.eval x) (a.eval y);binOp .eql t (a.eval x) (a.eval y):Sem Value).run P w=.ok (.bool ad.isNone) w:=by
     rw[hxv,hyv]
     simp only[Sem.run_bind,eqGuard]
     exact Go.Lib.run_eql_slice_nil w t e ad len cap 0 0 hu
    cases ad with
    |none=>exact zaj (v:=.tt) (val:=.bool true) (w':=w) (by simp only[execOp,ho,Sem.run_bind];simp only[Sem.run_bind]at hr;rw[hr];rfl) h .tt (n1 (hlen rfl)) hN
    |some b=>exact zaj (v:=.ff) (val:=.bool false) (w':=w) (by simp only[execOp,ho,Sem.run_bind];simp only[Sem.run_bind]at hr;rw[hr];rfl) h .ff n2 hN
   ·exact hk.elim
  ·split at hk
   ·rename_i hok
    obtain⟨v,val,r1,r2,r3⟩:=zsk (P:=P) (t:=t) (ox:=x) (oy:=y) (h.eval x) (h.eval y) hk (fun⟨b,b',hb,_⟩=>by
     have hbt:zo4 (T t)=true:=by
      unfold zkv at hok
      split at hok
      ·rename_i l he;rw[he]at hb;cases hb
      ·rename_i k m he;rw[he]at hb;cases hb
      ·exact hok
     unfold zo4 at hbt
     split at hbt
     ·rename_i hti;have:=hT t;rw[hti]at this;exact this.2.2.2.2 rfl
     ·cases hbt) (fun⟨l,hl⟩=>by
     unfold zkv at hok
     rw[hl]at hok
     exact hE t hok)
    exact zaj (by simp only[execOp,ho,Sem.run_bind];simp only[Sem.run_bind]at r1;rw[r1];rfl) h r2 r3 hN
   ·exact hk.elim
 ·rename_i op t x ho
  exact zef (fun val hr=>by simp[execOp,ho,hr]) h (zv3 (h.eval x) hk) hN
 ·rename_i r d x ho
  split at hk
  ·rename_i hok
   refine zef (fun val hr=>by simp[execOp,ho,hr]) h (zrd hT (src:=r) (h.eval x) hk ?_) hN
   unfold intT at hok
   split at hok
   ·rename_i k m hti;have:=hT r;rw[hti]at this;exact⟨k,this.2.2.2.1 k m rfl⟩
   ·cases hok
  ·exact hk.elim
 ·rename_i t l c ho;exact zyn hT ho h hk hN
 ·rename_i t x lo hi mx ho
  obtain⟨s',I',vs',h,_,hk,_,_,_⟩:=zew _ s I [] [] _ h ⟨rfl,by simp⟩ hk
  refine zef (v:=Instr.sliceAt t (a.eval x) (lo.map a.eval) (hi.map a.eval) (mx.map a.eval)) (fun val hr=>by simp[execOp,ho,hr]) h (zpp hT (h.eval x) (fun y hy=>?_) (fun e=>?_) (fun y hy=>?_) (fun e=>?_) (fun e=>?_) hk) hN
  ·cases lo with
   |none=>cases hy
   |some z=>cases hy;exact⟨_,rfl,h.eval z⟩
  ·cases lo with
   |none=>rfl
   |some z=>cases e
  ·cases hi with
   |none=>cases hy
   |some z=>cases hy;exact⟨_,rfl,h.eval z⟩
  ·cases hi with
   |none=>rfl
   |some z=>cases e
  ·cases mx with
   |none=>rfl
   |some z=>cases e
 ·rename_i t x f ho
  exact zef (fun val hr=>by simp[execOp,ho,hr]) h (zk6 hT (h.eval x) hk) hN
 ·rename_i t x f ho
  exact zef (fun val hr=>by simp[execOp,ho,hr]) h (zpd hT (h.eval x) hk) hN
 ·rename_i t x ix ho
  exact zef (fun val hr=>by simp[execOp,ho,hr]) h (zkx hT h.heap (h.eval x) (h.eval ix) hk) hN
 ·rename_i x i ho
  have hx:=h.eval x
  split at hk
  ·rename_i vs he
   rw[he]at hx
   split at hk
   ·rename_i v hv
    have hv:=zoy hv
    obtain⟨us,hu,hl,hr⟩:=hx.tup_inv
    have hlt:i<us.length:=by rw[←hl];exact(List.getElem?_eq_some_iff.1 hv).1
    exact zaj (v:=v) (val:=us[i]) (w':=w) (by simp[execOp,ho,hu,Instr.extract,hlt]) h (hr i v _ hv (List.getElem?_eq_getElem hlt)) hk hN
   ·exact hk.elim
  ·exact hk.elim
 ·rename_i fn first captured ho
  split at hk
  ·rename_i f hf
   have hfe:first=#[]:=by apply Array.ext';rw[hf]
   have hargs:=h.evals' captured.toList
   refine zaj (v:=.fn f _) (val:=.func (.func f) #[] (captured.toList.map a.eval).toArray) (w':=w) ?_ h (.fn f _ _ hargs.1 hargs.2) hk hN
   have hca:captured.map a.eval=(captured.toList.map a.eval).toArray:=by apply Array.ext';simp
   simp only[execOp,ho,Instr.makeFunc,hfe,hca,Sem.run_bind,Sem.run_pure,Result.andThen_ok]
   simp
  ·exact hk.elim
 ·rename_i c ho
  split at hk
  ·rename_i b hc;exact zr2 hT ho hc h hk hN
  ·rename_i f hc
   split at hk
   ·rename_i g' caps he;exact zx6 ho hc h he hk hN
   ·exact hk.elim
  ·exact hk.elim
 ·exact hk.elim
end
end Go.VL
namespace Go.VL
set_option linter.unusedVariables false
set_option linter.unusedSimpArgs false
section
variable {P : Program} {T : TT} {X : Cx} {I : Nat → Prop} {g : Gam} {s : S} {a : Act} {w : World} {o : Oper} {K : S → Prop}
 {N:Act→World→Prop} {Q:Exit→Act→World→Prop}
theorem zml {ops:Array Oper} {j d:Nat} (hs:zig ops.toList j=some d):(ops[j]?).bind (·.dst)=some d:=by
 unfold zig at hs
 rw[Array.getElem?_toList]at hs
 split at hs
 ·rename_i o ho;rw[ho];exact hs
 ·cases hs
theorem zhl {ops:Array Oper} {j d:Nat} (hs:zig ops.toList j=some d) {tmps:Array Value} {b:Bool} (h:tmps.getD d undef=.bool b):yielded ops tmps j=some b:=by
 unfold yielded
 rw[zml hs]
 have:tmps[d]? = some (.bool b):=by
  rw[Array.getD_eq_getD_getElem?]at h
  cases hq:tmps[d]? with
  |none=>rw[hq]at h;cases h
  |some v=>rw[hq]at h;simp at h;rw[h]
 simp[this]
theorem zmo {ops:Array Oper} {j d:Nat} (hs:zig ops.toList j=some d) {tmps:Array Value} {vs:Array Value} (h:tmps.getD d undef=.tuple vs):yielded ops tmps j=none:=by
 unfold yielded
 rw[zml hs]
 cases hq:tmps[d]? with
 |none=>simp[hq]
 |some v =>
  rw[Array.getD_eq_getD_getElem?,hq]at h
  simp at h
  simp[hq,h]
theorem zva (hT:TOk P T) (hE:EOk P T) {ops:Array Oper} {rest:List Oper} (h:St X I g s a w) (hk:zs6 T P ops.toList o s K)
  (hN:∀s' a' w',Sat X s' a' w'→K s'→wpList P ops Q rest a' w'):wpList P ops Q (o::rest) a w:=by
 have run:∀{s':S} {I'} {g'},Region.wanted o (yielded ops a.tmps)=true→St X I' g' s' a w→vop T P o s' K→wpList P ops Q (o::rest) a w:=fun hw hst hk=>by
  unfold wpList
  rw[if_pos hw]
  exact .inl (zol hT hE hst hk hN)
 have skip:∀{s':S} {I'} {g'},Region.wanted o (yielded ops a.tmps)=false→St X I' g' s' a w→s'.put o.dst (.tup []) K→wpList P ops Q (o::rest) a w:=fun hw hst hk=>by
  unfold wpList
  rw[if_neg (by rw[hw];simp)]
  obtain⟨s2,h1,h2⟩:=hst.putO (v:=.tup []) (val:=undef) (RV.tup [] [] rfl (by simp)) hk
  exact hN s2 _ _ h1 h2
 unfold zs6 at hk
 split at hk
 ·rename_i hg
  exact run (by simp[Region.wanted,hg]) h hk
 ·rename_i j want hg
  have hw:∀y,yielded ops a.tmps j=y→Region.wanted o (yielded ops a.tmps)=(y==some want):=fun y hy=>by simp[Region.wanted,hg,hy]
  split at hk
  ·exact hk.elim
  ·rename_i d hs
   have hd:=h.slots d
   split at hk
   ·rename_i he
    rw[he]at hd
    have hy:=zhl hs hd.tt_inv
    cases want with
    |true=>exact run (by rw[hw _ hy];rfl) h hk
    |false=>exact skip (by rw[hw _ hy];rfl) h hk
   ·rename_i he
    rw[he]at hd
    have hy:=zhl hs hd.ff_inv
    cases want with
    |true=>exact skip (by rw[hw _ hy];rfl) h hk
    |false=>exact run (by rw[hw _ hy];rfl) h hk
   ·rename_i p he
    rw[he]at hd
    have hv:=hd.bool_inv
    have hy:=zhl hs hv
    obtain⟨k1,k2⟩:=zd8 hk
    have put':∀v:V,RV I g s.nx w v (.bool p)→d<s.nt→St X I g {s with env:=(d,v)::s.env} a w:=fun v hvv hlt=>by
     refine⟨h.df,h.sz,fun j=>?_,h.heap,h.bound,h.up,h.down,h.own,h.keep,h.fr,h.low⟩
     rw[zc1]
     split
     ·rename_i e;subst e;rw[hv];exact hvv
     ·exact h.slots j
    cases p with
    |true =>
     have k1:=k1 rfl
     rw[S.put_some]at k1
     cases want with
     |true=>exact run (by rw[hw _ hy];rfl) (put' .tt .tt k1.1) k1.2
     |false=>exact skip (by rw[hw _ hy];rfl) (put' .tt .tt k1.1) k1.2
    |false =>
     have k2:=k2 rfl
     rw[S.put_some]at k2
     cases want with
     |true=>exact skip (by rw[hw _ hy];rfl) (put' .ff .ff k2.1) k2.2
     |false=>exact run (by rw[hw _ hy];rfl) (put' .ff .ff k2.1) k2.2
   ·rename_i xs he
    rw[he]at hd
    obtain⟨vs,hv,_⟩:=hd.tup_inv
    have hy:=zmo hs hv
    exact skip (by rw[hw _ hy];simp) h hk
   ·exact hk.elim
theorem zx8 (hT:TOk P T) (hE:EOk P T) {ops:Array Oper} (rest:List Oper):∀{s a w},Sat X s a w→vops T P ops.toList rest s K →
  (∀s' a' w',Sat X s' a' w'→K s'→Q .normal a' w')→wpList P ops Q rest a w:=by
 induction rest with
 |nil=>intro s a w h hk hN;exact hN s a w h hk
 |cons o t ih =>
  intro s a w ⟨I,g,h⟩ hk hN
  exact zva hT hE h hk fun s' a' w' h' hk'=>ih h' hk' hN
theorem V.nrm_RV {n:Nat} {v u:V} (h:v.nrm=u.nrm) {val:Value} (hv:RV I g n w v val):RV I g n w u val:=by
 have one:∀{v u:V} {val:Value},v.norm=u.norm→RV I g n w v val→RV I g n w u val:=by
  intro v u val h hv
  have back:RV I g n w v.norm val:=by
   cases v with
   |tt=>rw[hv.tt_inv];exact RV.mkbool _ _
   |ff=>rw[hv.ff_inv];exact RV.mkbool _ _
   |_=>exact hv
  rw[h]at back
  cases u with
  |tt=>rw[back.bool_inv];exact .tt
  |ff=>rw[back.bool_inv];exact .ff
  |_=>exact back
 have list:∀{xs ys:List V} {vs:List Value},zd3 xs=zd3 ys→RVs I g n w xs vs→RVs I g n w ys vs:=by
  intro xs
  induction xs with
  |nil=>intro ys vs h hr;cases ys with
   |nil=>exact hr
   |cons y t=>cases h
  |cons x t ih =>
   intro ys vs h hr
   cases ys with
   |nil=>cases h
   |cons y u =>
    simp only[zd3,List.cons.injEq]at h
    cases vs with
    |nil=>have:=hr.1;simp at this
    |cons v vs =>
     have h2:=ih (vs:=vs) h.2 ⟨by have:=hr.1;simpa using this,fun i x v hx hv=>hr.2 (i+1) x v (by simpa using hx) (by simpa using hv)⟩
     refine⟨by simp[h2.1],fun i z q hz hq=>?_⟩
     cases i with
     |zero=>cases hz;cases hq;exact one h.1 (hr.2 0 _ _ rfl rfl)
     |succ i=>exact h2.2 i z q (by simpa using hz) (by simpa using hq)
 cases v with
 |tup xs =>
  cases u with
  |tup ys =>
   simp only[V.nrm,V.tup.injEq]at h
   obtain⟨vs,rfl,hl,hr⟩:=hv.tup_inv
   have:=list h ⟨hl,hr⟩
   exact .tup ys vs this.1 this.2
  |_=>simp[V.nrm,V.norm]at h
 |agg xs =>
  cases u with
  |agg ys =>
   simp only[V.nrm,V.agg.injEq]at h
   obtain⟨vs,rfl,hl,hr⟩:=hv.agg_inv
   have:=list h ⟨hl,hr⟩
   exact .agg ys vs this.1 this.2
  |_=>simp[V.nrm,V.norm]at h
 |_ =>
  cases u with
  |tup ys=>simp[V.nrm,V.norm]at h
  |agg ys=>simp[V.nrm,V.norm]at h
  |_=>refine one ?_ hv;exact h
theorem zii {xs ys:List V} (h:zd3 xs=zd3 ys):xs.length=ys.length∧∀(i:Nat) y,ys[i]? = some y→∃x,xs[i]? = some x∧x.norm=y.norm:=by
 induction xs generalizing ys with
 |nil=>cases ys with
  |nil=>exact⟨rfl,by simp⟩
  |cons y t=>cases h
 |cons x t ih =>
  cases ys with
  |nil=>cases h
  |cons y u =>
   simp only[zd3,List.cons.injEq]at h
   obtain⟨h1,h2⟩:=ih h.2
   exact⟨by simp[h1],fun i z hz=>by
    cases i with
    |zero=>cases hz;exact⟨x,rfl,h.1⟩
    |succ i=>obtain⟨q,q1,q2⟩:=h2 i z (by simpa using hz);exact⟨q,by simpa using q1,q2⟩⟩
theorem V.norm_RV {n:Nat} {v u:V} (h:v.norm=u.norm) {val:Value} (hv:RV I g n w v val):RV I g n w u val:=by
 have back:RV I g n w v.norm val:=by
  cases v with
  |tt=>rw[hv.tt_inv];exact RV.mkbool _ _
  |ff=>rw[hv.ff_inv];exact RV.mkbool _ _
  |_=>exact hv
 rw[h]at back
 cases u with
 |tt=>rw[back.bool_inv];exact .tt
 |ff=>rw[back.bool_inv];exact .ff
 |_=>exact back
theorem zrz:∀{hs hs':List (Nat×List V)},zbk zd3 hs=zbk zd3 hs'→zx hs=zx hs'∧∀i us',(i,us')∈hs'→∃us,(i,us)∈hs∧zd3 us=zd3 us':=by
 intro hs
 induction hs with
 |nil=>intro hs' h;cases hs' with
  |nil=>exact⟨rfl,fun i us hm=>by cases hm⟩
  |cons q t=>obtain⟨a,b⟩:=q;simp[zbk]at h
 |cons q t ih =>
  obtain⟨a,b⟩:=q
  intro hs' h
  cases hs' with
  |nil=>simp[zbk]at h
  |cons q' t' =>
   obtain⟨a',b'⟩:=q'
   simp only[zbk,List.cons.injEq,Prod.mk.injEq]at h
   obtain⟨⟨rfl,h1⟩,h2⟩:=h
   obtain⟨k1,k2⟩:=ih h2
   refine⟨by simp only[zx,List.map_cons]at k1⊢;rw[k1],fun i us' hm=>?_⟩
   rcases List.mem_cons.1 hm with hm|hm
   ·cases hm;exact⟨b,List.mem_cons_self,h1⟩
   ·obtain⟨us,h3,h4⟩:=k2 i us' hm;exact⟨us,List.mem_cons_of_mem _ h3,h4⟩
theorem O.nrm_RO {n id:Nat} {ob ob':O} (h:ob.nrm=ob'.nrm) (hr:RO I g n w id ob):RO I g n w id ob':=by
 cases ob with
 |arr x=>cases ob' with
  |arr y=>cases h;exact hr
  |box=>cases h
  |hol=>cases h
  |deep=>cases h
 |deep p f x hs=>cases ob' with
  |arr y=>cases h
  |box=>cases h
  |hol=>cases h
  |deep p' f' x' hs' =>
   simp only[O.nrm,O.deep.injEq]at h
   obtain⟨rfl,rfl,rfl,e1⟩:=h
   obtain⟨k1,k2⟩:=zrz e1
   cases hr with
   |deep0 _ _ _ hg hs h0 =>
    cases hs' with
    |nil=>exact .deep0 _ _ _ hg hs h0
    |cons q t=>obtain⟨a,b⟩:=q;simp[zbk]at e1
   |deep _ _ _ _ b cap cells ty hg hsl hb hl hcap hh hkn ht h2 hd hty =>
    rw[k1]at hkn ht hd
    refine .deep _ _ _ hs' b cap cells ty hg hsl hb hl hcap (fun i us' hm=>?_) hkn ht (fun i us' hm j hj=>?_) hd hty
    ·obtain⟨us,h3,h4⟩:=k2 i us' hm
     exact⟨(hh i us h3).1,by rw[←(zii h4).1];exact(hh i us h3).2⟩
    ·obtain⟨us,h3,h4⟩:=k2 i us' hm
     obtain⟨l1,m1⟩:=zii h4
     obtain⟨u,v,a1,a2,a3,a4⟩:=h2 i us h3 j hj
     have hlt:j<us'.length:=by rw[←l1,(hh i us h3).2];exact hj
     obtain⟨y,hy,e⟩:=m1 j us'[j] (List.getElem?_eq_getElem hlt)
     rw[a1]at hy;cases hy
     exact⟨us'[j],v,List.getElem?_eq_getElem hlt,a2,a3,V.norm_RV e a4⟩
 |hol x hi vs=>cases ob' with
  |arr y=>cases h
  |box=>cases h
  |deep=>cases h
  |hol x' hi' vs' =>
   simp only[O.nrm,O.hol.injEq]at h
   obtain⟨rfl,rfl,e1⟩:=h
   obtain⟨l1,m1⟩:=zii e1
   cases hr with
   |hol _ _ _ b cap cells ty hg hs hb hl hcap hhi hv hh h2 ht =>
    refine .hol x hi vs' b cap cells ty hg hs hb hl hcap hhi (by rw[←l1];exact hv) hh (fun j hj=>?_) ht
    obtain⟨u,v,a1,a2,a3,a4⟩:=h2 j hj
    have hlt:j<vs'.length:=by rw[←l1,hv];exact hj
    obtain⟨y,hy,e⟩:=m1 j vs'[j] (List.getElem?_eq_getElem hlt)
    rw[a1]at hy;cases hy
    exact⟨vs'[j],v,List.getElem?_eq_getElem hlt,a2,a3,V.norm_RV e a4⟩
 |box pre bs post =>
  cases ob' with
  |arr y=>cases h
  |hol=>cases h
  |deep=>cases h
  |box pre' bs' post' =>
   simp only[O.nrm,O.box.injEq]at h
   obtain⟨e1,rfl,e3⟩:=h
   obtain⟨l1,m1⟩:=zii e1
   obtain⟨l3,m3⟩:=zii e3
   cases hr with
   |box _ _ _ b cl cells ty hg hb hl h1 h2 h3 =>
    refine .box pre' bs post' b cl cells ty hg hb (by rw[hl,l1,l3]) (fun i x v hx hv=>?_) (by rw[←l1];exact h2) (fun i x v hx hv=>?_)
    ·obtain⟨y,hy,e⟩:=m1 i x hx;exact V.norm_RV e (h1 i y v hy hv)
    ·obtain⟨y,hy,e⟩:=m3 i x hx;exact V.norm_RV e (h3 i y v hy (by rw[l1];exact hv))
theorem zzo {r:Nat→Nat} {env:List (Nat×V)}:∀{env':List (Nat×V)},zmj r env env'→∀j,zaw env' j=.any∨(zaw env j).nrm=((zaw env' j).ren r).nrm:=by
 intro env'
 induction env' with
 |nil=>intro _ j;exact .inl rfl
 |cons x t ih =>
  obtain⟨k,v⟩:=x
  intro h j
  rw[zc1]
  split
  ·rename_i e;subst e;exact .inr h.1
  ·exact ih h.2 j
theorem zuz {n:Nat} {env:List (Nat×V)} (h:zhq n env=true) (j:Nat):(zaw env j).idsLt n=true:=by
 induction env with
 |nil=>rfl
 |cons x t ih =>
  obtain⟨k,v⟩:=x
  simp only[zhq]at h
  split at h
  ·rename_i h1
   rw[zc1]
   split
   ·exact h1
   ·exact ih h
  ·cases h
theorem zjq {r:Nat→Nat} {hp:List (Nat×O)}:∀{hp':List (Nat×O)},zkc r hp hp'→∀i o,(i,o)∈hp'→∃o',zq hp (r i)=some o'∧o'.nrm=(o.map (zag r)).nrm:=by
 intro hp'
 induction hp' with
 |nil=>intro _ i o hm;cases hm
 |cons x t ih =>
  obtain⟨k,v⟩:=x
  intro h i o hm
  rcases List.mem_cons.1 hm with hm|hm
  ·cases hm
   have:=h.1
   cases hq:zq hp (r k)with
   |none=>rw[hq]at this;cases this
   |some o'=>rw[hq]at this;exact⟨o',rfl,Option.some.inj this⟩
  ·exact ih h.2 i o hm
theorem O.nrm_box {o o':O} (h:o.nrm=o'.nrm):o.isBox=o'.isBox:=by
 cases o<;>cases o'<;>first|rfl|(cases h;done)|(simp only[O.nrm,O.deep.injEq]at h;exact h.1)
theorem Nst.nrm {id b:Nat} {o o':O} (h:o.nrm=o'.nrm) (hn:Nst g w id o' b):Nst g w id o b:=by
 cases o' with
 |deep p f x hs=>cases o with
  |deep p' f' x' hs' =>
   simp only[O.nrm,O.deep.injEq]at h
   obtain⟨rfl,rfl,rfl,e⟩:=h
   simp only[Nst,(zrz e).1]at hn⊢;exact hn
  |_=>cases h
 |_=>exact hn.elim
theorem Own.nrm {id b:Nat} {o o':O} (h:o.nrm=o'.nrm) (hn:Own g w id o' b):Own g w id o b:=hn.imp _root_.id (Nst.nrm h)
theorem zpl {n0:Nat} {r:Nat→Nat} {hp:List (Nat×O)} (h:ze8 n0 r hp=true):∀i o,(i,o)∈hp→o.isBox=true→i<n0→r i=i:=by
 induction hp with
 |nil=>intro i o hm;cases hm
 |cons x t ih =>
  obtain⟨k,v⟩:=x
  intro i o hm hb hn
  simp only[ze8]at h
  rcases List.mem_cons.1 hm with hm|hm
  ·cases hm
   rw[hb]at h
   simp only at h
   split at h
   ·rename_i h1;have:=Nat.le_of_ble_eq_true h1;omega
   ·split at h
    ·rename_i h2;exact Nat.eq_of_beq_eq_true h2
    ·cases h
  ·split at h
   ·exact ih h i o hm hb hn
   ·split at h
    ·exact ih h i o hm hb hn
    ·split at h
     ·exact ih h i o hm hb hn
     ·cases h
theorem Own.ren {r:Nat→Nat} {i b:Nat} {o:O} (ho:Own (fun i=>g (r i)) w i o b):Own g w (r i) (o.map (zag r)) b:=by
 rcases ho with ⟨cl,ho⟩|ho
 ·exact .inl ⟨cl,ho⟩
 ·refine .inr ?_
  cases o with
  |deep p f x hs=>simpa only[Nst,O.map,zbs]using ho
  |_=>exact ho.elim
theorem HOk.rename {n n':Nat} {hp hp':List (Nat×O)} (h:HOk I g n w hp) {bk:List Nat} (hnd:bk.Nodup) (hlen:n'≤bk.length) (hent:zkc (rnf bk) hp hp') (hlt:zba n' hp'=true) (hk:zav (zbl hp')=true) :
  HOk I (fun i=>g (rnf bk i)) n' w hp':=by
 have hk':=zcj.1 hk
 rw[zcg]at hk'
 have hl:=zhk hlt
 have hm:∀i o,(i,o)∈hp'→∃o',(rnf bk i,o')∈hp∧o'.nrm=(o.map (zag (rnf bk))).nrm:=fun i o hmi=>by
  obtain⟨o',h1,h2⟩:=zjq hent i o hmi;exact⟨o',zt h1,h2⟩
 refine⟨fun i o hmi=>?_,fun i o b hmi hg=>?_,hk',fun i o i' o' b h1 h2 g1 g2=>?_⟩
 ·obtain⟨o',h1,h2⟩:=hm i o hmi
  exact⟨(hl i o hmi).1,(O.nrm_RO h2 (h.obj _ _ h1).2).unren (hl i o hmi).2⟩
 ·obtain⟨o',h1,h2⟩:=hm i o hmi
  exact h.apart _ _ b h1 (hg.ren.nrm h2)
 ·obtain⟨p1,q1,r1⟩:=hm i o h1
  obtain⟨p2,q2,r2⟩:=hm i' o' h2
  exact zks hnd (Nat.lt_of_lt_of_le (hl i o h1).1 hlen) (Nat.lt_of_lt_of_le (hl i' o' h2).1 hlen) (h.inj _ _ _ _ b q1 q2 (g1.ren.nrm r1) (g2.ren.nrm r2))
theorem zzn (hp:List (Nat×O)):(zg9 hp).map (·.1)=hp.map (·.1):=by
 induction hp with
 |nil=>rfl
 |cons x t ih=>obtain⟨k,v⟩:=x;simp[zg9,ih]
theorem zhy {hp:List (Nat×O)} {i:Nat} {ob:O} (h:(i,ob)∈zg9 hp):∃o',(i,o')∈hp∧ob=o'.cnv:=by
 induction hp with
 |nil=>cases h
 |cons x t ih =>
  obtain⟨k,v⟩:=x
  rcases List.mem_cons.1 h with h|h
  ·cases h;exact⟨v,List.mem_cons_self,rfl⟩
  ·obtain⟨o',h1,h2⟩:=ih h;exact⟨o',List.mem_cons_of_mem _ h1,h2⟩
theorem O.isBox_cnv (o:O):o.cnv.isBox=o.isBox:=by
 cases o with
 |hol x hi vs=>simp only[O.cnv];split<;>rfl
 |_=>rfl
theorem RO.cnv {n id:Nat} {ob:O} (h:RO I g n w id ob):RO I g n w id ob.cnv:=by
 cases ob with
 |hol y hi us =>
  simp only[O.cnv]
  split
  ·rename_i x hx
   cases h with
   |hol _ _ _ b cap cells ty hg hs hbk hl hcap hhi hvl h h2 ht =>
    have hle:∀j,j<y.stride→hi*y.stride+j<cells.length:=fun j hj=>by rw[hl];exact zfa (hi:=hi) hhi hcap hj
    have hrow:RV I g n w (.agg us) (.agg ((cells.drop (hi*y.stride)).take y.stride).toArray):=by
     refine .agg us _ ?_ fun j u v hu hv=>?_
     ·simp only[List.length_take,List.length_drop]
      cases hst:y.stride with
      |zero=>omega
      |succ k=>have:=hle k (by omega);rw[hst]at this;omega
     ·rw[List.getElem?_take]at hv
      split at hv
      ·rename_i hj
       rw[List.getElem?_drop]at hv
       obtain⟨u',v',a1,a2,_,a4⟩:=h2 j hj
       rw[hu]at a1;rw[hv]at a2;cases a1;cases a2;exact a4
      ·cases hv
    obtain⟨e1,e2,e3,e4,e5,e6⟩:=zg8 hx hhi hrow
    refine .arr x b cap cells ty (by rw[e3];exact hg) e1 hbk (by rw[e2];exact hl) (by rw[e3];exact hcap) (fun i j z hi' hz=>?_) (fun hp=>ht (by rw[←zm5 hx];exact hp))
    rw[e3]at hi'
    rw[e2]
    by_cases c:i=hi
    ·subst c
     obtain⟨u,q1,q2,_⟩:=e6 j z hz
     refine⟨u,?_,q2⟩
     have q1:((cells.drop (i*y.stride)).take y.stride)[j]? = some u:=by simpa [Value.cells]using q1
     rw[List.getElem?_take]at q1
     split at q1
     ·rw[List.getElem?_drop]at q1;exact q1
     ·cases q1
    ·rw[e4 i c]at hz
     exact h i j z hi' c hz
  ·exact h
 |_=>exact h
theorem Own.cnv {id b:Nat} {o:O} (h:Own g w id o.cnv b):Own g w id o b:=by
 cases o with
 |hol x hi vs =>
  simp only[O.cnv]at h
  split at h
  ·exact .inl (h.nd fun _ _ _ _ e=>by cases e)
  ·exact h
 |_=>exact h
theorem HOk.cnv {n:Nat} {hp:List (Nat×O)} (h:HOk I g n w hp):HOk I g n w (zg9 hp):=by
 refine⟨fun i o hm=>?_,fun i o b hm hg=>?_,by rw[zzn];exact h.nodup,fun i o i' o' b h1 h2 g1 g2=>?_⟩
 ·obtain⟨o',h1,rfl⟩:=zhy hm;exact⟨(h.obj i o' h1).1,(h.obj i o' h1).2.cnv⟩
 ·obtain⟨o',h1,rfl⟩:=zhy hm;exact h.apart i o' b h1 hg.cnv
 ·obtain⟨p1,q1,rfl⟩:=zhy h1
  obtain⟨p2,q2,rfl⟩:=zhy h2
  exact h.inj i p1 i' p2 b q1 q2 g1.cnv g2.cnv
theorem St.cnv (h:St X I g s a w):St X I g {s with hp:=zg9 s.hp} a w:=by
 refine⟨h.df,h.sz,h.slots,h.heap.cnv,h.bound,h.up,h.down,?_,?_,h.fr,h.low⟩
 ·rintro b ⟨i,o,hm,hg⟩
  obtain⟨o',h1,rfl⟩:=zhy hm
  exact h.own b ⟨i,o',h1,hg.cnv⟩
 ·intro i o hm hb hK
  obtain⟨o',h1,rfl⟩:=zhy hm
  rw[O.isBox_cnv]at hb
  exact h.keep i o' h1 hb hK
end
end Go.VL
namespace Go.VL
set_option linter.unusedVariables false
set_option linter.unusedSimpArgs false
section
variable {P : Program} {T : TT} {X : Cx} {I : Nat → Prop} {g : Gam} {s : S} {a : Act} {w : World} {o : Oper} {K : S → Prop}
 {N:Act→World→Prop} {Q:Exit→Act→World→Prop}
theorem St.retell (h:St X I g s a w) {id:Nat} {ob ob':O} (hm:(id,ob)∈s.hp) (hbx:ob'.isBox=true→X.K0 id→ob.isBox=true) (hro:RO I g s.nx w id ob') (hns:∀b,Nst g w id ob' b→Nst g w id ob b) :
  St X I g {s with hp:=zac s.hp id ob'} a w:=by
 have hmem:∀i o',(i,o')∈zac s.hp id ob'→∃o'',(i,o'')∈s.hp∧(o'.isBox=true→X.K0 i→o''.isBox=true)∧∀k,Own g w i o' k→Own g w i o'' k:=fun i o' hmi=>by
  rcases zd7 h.heap.nodup hmi with ⟨rfl,rfl⟩|⟨h1,hne⟩
  ·exact⟨ob,hm,hbx,fun k hk=>hk.imp _root_.id (hns k)⟩
  ·exact⟨o',h1,fun h _=>h,fun k hk=>hk⟩
 refine⟨h.df,h.sz,h.slots,⟨?_,?_,?_,?_⟩,h.bound,h.up,h.down,?_,?_,h.fr,h.low⟩
 ·intro i o' hmi
  rcases zd7 h.heap.nodup hmi with ⟨rfl,rfl⟩|⟨h1,hne⟩
  ·exact⟨(h.heap.obj _ _ hm).1,hro⟩
  ·exact h.heap.obj _ _ h1
 ·intro i o' k hmi hgk
  obtain⟨o'',h1,_,h2⟩:=hmem i o' hmi
  exact h.heap.apart i o'' k h1 (h2 k hgk)
 ·show(List.map _ (zac s.hp id ob')).Nodup
  rw[zcc];exact h.heap.nodup
 ·intro i o1 i' o2 k h1 h2 g1 g2
  obtain⟨p1,q1,_,r1⟩:=hmem _ _ h1
  obtain⟨p2,q2,_,r2⟩:=hmem _ _ h2
  exact h.heap.inj i p1 i' p2 k q1 q2 (r1 k g1) (r2 k g2)
 ·rintro k ⟨i,o',hmi,hgk⟩
  obtain⟨o'',h1,_,h2⟩:=hmem i o' hmi
  exact h.own k ⟨i,o'',h1,h2 k hgk⟩
 ·intro i o' hmi hb hK
  obtain⟨o'',h1,h2,_⟩:=hmem i o' hmi
  exact h.keep i o'' h1 (h2 hb hK) hK
theorem RO.flag {n id f:Nat} {p q:Bool} {x:C} {hs:List (Nat×List V)} (h:RO I g n w id (.deep p f x hs)):RO I g n w id (.deep q f x hs):=by
 cases h with
 |deep0 _ _ _ hg hs h0=>exact .deep0 _ _ _ hg hs h0
 |deep _ _ _ _ b cap cells ty hg hsl hb hl hcap hh hkn ht h2 hd hty=>exact .deep _ _ _ _ b cap cells ty hg hsl hb hl hcap hh hkn ht h2 hd hty
theorem zpy {f:Nat}:∀{hs:List (Nat×List V)},zpa f hs→∀i∈zx hs,i≤f:=by
 intro hs
 induction hs with
 |nil=>intro _ i hi;simp[zx]at hi
 |cons q t ih =>
  obtain⟨a,b⟩:=q
  intro h i hi
  simp only[zx,List.map_cons,List.mem_cons]at hi
  rcases hi with rfl|hi
  ·exact h.1
  ·exact ih h.2 i hi
theorem RO.adv {n id f:Nat} {p:Bool} {x:C} {hs:List (Nat×List V)} (hk:zpa f hs) (h:RO I g n w id (.deep p f x hs)) :
  RO I g n w id (.deep p (f+1) x [])∧∀b,Nst g w id (.deep p (f+1) x []) b→Nst g w id (.deep p f x hs) b:=by
 have hsub:∀{k},zb8 (f+1) x (zx []) k→zb8 f x (zx hs) k:=fun {k} ⟨i,j,e,q1,q2,q3,_⟩=>⟨i,j,e,q1,by omega,q3,fun hc=>by have:=zpy hk i hc;omega⟩
 refine⟨?_,fun b ⟨b0,cl,k,off,l,c,e1,e2,e3⟩=>⟨b0,cl,k,off,l,c,e1,hsub e2,e3⟩⟩
 cases h with
 |deep0 _ _ _ hg hs h0=>exact .deep0 _ _ _ hg hs h0
 |deep _ _ _ _ b cap cells ty hg hsl hb hl hcap hh hkn ht h2 hd hty =>
  exact .deep _ _ _ _ b cap cells ty hg hsl hb hl hcap (fun i us hm=>by cases hm) (by simp[zx]) (fun i j y a1 a2 a3 a4=>ht i j y (by omega) a2 (fun hc=>by have:=zpy hk i hc;omega) a4) (fun i us hm=>by cases hm)
   (fun k k' b' o l c o' l' c' t1 t2 e1 e2=>hd k k' b' o l c o' l' c' (hsub t1) (hsub t2) e1 e2) hty
theorem RO.boxNil {n id j k:Nat} {pre post:List V} {bs:List Bool} (h:RO I g n w id (.box pre bs post)) (hj:zmi pre j=some .nil) (hk:k<n) (hg:g k=Option.none):RO I g n w id (.box (zm3 pre j (.slc k)) bs post):=by
 have hj:=zoy hj
 cases h with
 |box _ _ _ b cl cells ty hg0 hb hl h1 h2 h3 =>
  have hlen:(zm3 pre j (.slc k)).length=pre.length:=by
   apply Nat.le_antisymm
   ·apply Nat.le_of_not_lt;intro hc
    have:=z0b pre j (.slc k) pre.length
    rw[if_neg (by have:=(List.getElem?_eq_some_iff.1 hj).1;omega),List.getElem?_eq_none (Nat.le_refl _),List.getElem?_eq_none_iff]at this
    omega
   ·apply Nat.le_of_not_lt;intro hc
    have hjl:=(List.getElem?_eq_some_iff.1 hj).1
    have:=z0b pre j (.slc k) (zm3 pre j (.slc k)).length
    rw[List.getElem?_eq_none (Nat.le_refl _)]at this
    split at this
    ·cases this
    ·have:=List.getElem?_eq_none_iff.1 this.symm;omega
  refine .box _ _ _ b cl cells ty hg0 hb (by rw[hlen];exact hl) (fun i x v hx hv=>?_) (fun i x hx=>by rw[hlen];exact h2 i x hx) (fun i x v hx hv=>by rw[hlen]at hv;exact h3 i x v hx hv)
  rw[z0b]at hx
  split at hx
  ·rename_i c
   cases hx
   obtain⟨rfl,_⟩:=c
   have:=h1 j _ v hj hv
   cases this
   exact .slc0 k hk hg
  ·exact h1 i x v hx hv
theorem z65:∀{l:List V} {bs:List Bool},z6d l=some bs→l.length=bs.length∧∀(i:Nat) b,bs[i]? = some b→∃x,l[i]? = some x∧x.bool? = some b
 |[],bs,h=>by cases h;exact⟨rfl,fun i b hb=>by simp at hb⟩
 |v::t,bs,h=>by
  unfold z6d at h
  split at h
  ·rename_i b cs e1 e2
   cases h
   obtain⟨q1,q2⟩:=z65 e2
   refine⟨by simp[q1],fun i c hc=>?_⟩
   cases i with
   |zero=>cases hc;exact⟨v,rfl,e1⟩
   |succ i=>exact q2 i c hc
  ·cases h
theorem RO.boxBs {n id k m:Nat} {pre post:List V} {bs:List Bool} (h:RO I g n w id (.box pre [] post)) (hb:z6d ((pre.drop k).take m)=some bs) (hl:k+m≤pre.length):RO I g n w id (.box (pre.take k) bs (pre.drop (k+m)++post)):=by
 obtain⟨q1,q2⟩:=z65 hb
 rw[List.length_take,List.length_drop]at q1
 have hbl:bs.length=m:=by omega
 cases h with
 |box _ _ _ b cl cells ty hg0 hb0 hl0 h1 h2 h3 =>
  have htl:(pre.take k).length=k:=by rw[List.length_take];omega
  rw[List.length_nil]at hl0
  refine .box _ _ _ b cl cells ty hg0 hb0 (by rw[List.length_append,List.length_drop,htl];omega) (fun i x v hx hv=>?_) (fun i x hx=>?_) (fun i x v hx hv=>?_)
  ·rw[List.getElem?_take]at hx
   split at hx
   ·exact h1 i x v hx hv
   ·cases hx
  ·obtain⟨y,hy,hyb⟩:=q2 i x hx
   have hi:i<m:=by have:=(List.getElem?_eq_some_iff.1 hx).1;omega
   rw[List.getElem?_take,if_pos hi,List.getElem?_drop]at hy
   rw[htl]
   have hlt:k+i<cells.length:=by omega
   have hr:=h1 (k+i) y cells[k+i] hy (List.getElem?_eq_getElem hlt)
   rw[List.getElem?_eq_getElem hlt,RV.bool?_inv hyb hr]
  ·rw[htl,hbl]at hv
   rw[List.getElem?_append]at hx
   split at hx
   ·rename_i c
    rw[List.getElem?_drop]at hx
    exact h1 (k+m+i) x v hx hv
   ·rename_i c
    rw[List.length_drop]at hx c
    refine h3 (i-(pre.length-(k+m))) x v hx ?_
    rw[List.length_nil,Nat.add_zero,show pre.length+(i-(pre.length-(k+m)))=k+m+i by omega]
    exact hv
theorem zkl (n j:Nat) (row:List C):(zb5 n row)[j]? = (row[j]?).map fun c=>match c with|.nums _ _=>V.slc (n+j)|.int k m=>.c (.int k m)|.bool b=>.c (.bool b)|_=>.any:=by
 induction row generalizing n j with
 |nil=>rfl
 |cons c t ih =>
  cases j with
  |zero=>cases c<;>rfl
  |succ j =>
   have:=ih (n+1) j
   cases c<;>simp only[zb5,List.getElem?_cons_succ,this]<;>(cases t[j]? with|none=>rfl|some d=>cases d<;>simp<;>omega)
theorem zur {n:Nat} {row:List C} {k:Nat} {ob:O} (h:(k,ob)∈zc6 n row):∃j kk xs,row[j]? = some (.nums kk xs)∧k=n+j∧ob=.arr (.nums kk xs):=by
 induction row generalizing n with
 |nil=>cases h
 |cons c t ih =>
  have hrec:(k,ob)∈zc6 (n+1) t→∃j kk xs,(c::t)[j]? = some (.nums kk xs)∧k=n+j∧ob=.arr (.nums kk xs):=fun h=>by
   obtain⟨j,kk,xs,h1,h2,h3⟩:=ih h;exact⟨j+1,kk,xs,h1,by omega,h3⟩
  cases c with
  |nums kk xs =>
   simp only[zc6]at h
   rcases List.mem_cons.1 h with h|h
   ·cases h;exact⟨0,kk,xs,rfl,rfl,rfl⟩
   ·exact hrec h
  |_=>exact hrec h
theorem zme (n:Nat) (row:List C):((zc6 n row).map (·.1)).Nodup∧∀k∈(zc6 n row).map (·.1),n≤k:=by
 induction row generalizing n with
 |nil=>simp[zc6]
 |cons c t ih =>
  obtain⟨h1,h2⟩:=ih (n+1)
  cases c with
  |nums kk xs =>
   simp only[zc6,List.map_cons,List.nodup_cons]
   refine⟨⟨fun hc=>by have:=h2 n hc;omega,h1⟩,fun k hk=>?_⟩
   rcases List.mem_cons.1 hk with rfl|hk
   ·exact Nat.le_refl _
   ·have:=h2 k hk;omega
  |_=>exact⟨h1,fun k hk=>by have:=h2 k hk;omega⟩
def zwr (v:Option Value):Option (Nat×Nat×Nat) :=
 match v with
 |some (.slice (some p) l c)=>some (p.block,c,l)
 |_=>none
theorem St.opn (h:St X I g s a w) {id i f:Nat} {p:Bool} {x:C} {hs:List (Nat×List V)} (hl:zq s.hp id=some (.deep p f x hs)) (hf:f≤i) (hi:i<x.len) (hne:i∉zx hs) :
  ∃g',St X I g' {s with nx:=s.nx+x.stride,hp:=zc6 s.nx (x.row i)++zac s.hp id (.deep p f x (hs++[(i,zb5 s.nx (x.row i))]))} a w:=by
 have hm:=zt hl
 have hidlt:=(h.heap.obj id _ hm).1
 have hro:=(h.heap.obj id _ hm).2
 cases hro with
 |deep0 _ _ _ _ _ h0=>omega
 |deep _ _ _ _ b cap cells ty hg hsl hb hlen hcap hh hkn ht h2 hd hty =>
 have hcl:∀(k:Nat),w.cell? ⟨b,k,none⟩=cells[k]?:=fun k=>by rw[cell_of_row w b _ cells.toArray ty (0,0) hb];simp
 have hrl:=C.row_len x i hsl
 let g':Gam:=fun k=>if k<s.nx then g k else zwr cells[i*x.stride+(k-s.nx)]?
 have hgo:∀k,k<s.nx→g' k=g k:=fun k hk=>by simp[g',hk]
 have hgn:∀j,g' (s.nx+j)=zwr cells[i*x.stride+j]?:=fun j=>by
  show(if s.nx+j<s.nx then g (s.nx+j)else zwr cells[i*x.stride+(s.nx+j-s.nx)]?)=_
  rw[if_neg (by omega),Nat.add_sub_cancel_left]
 have htd:∀{j},j<x.stride→zb8 f x (zx hs) (i*x.stride+j):=fun {j} hj=>⟨i,j,rfl,hj,hf,hi,hne⟩
 have hkeys:zx (hs++[(i,zb5 s.nx (x.row i))])=zx hs++[i]:=by simp[zx]
 have hsub:∀{k},zb8 f x (zx (hs++[(i,zb5 s.nx (x.row i))])) k→zb8 f x (zx hs) k∧∀j,j<x.stride→k≠i*x.stride+j:=fun {k} ⟨i',j',e,q1,q2,q3,q4⟩=>by
  rw[hkeys,List.mem_append,not_or]at q4
  refine⟨⟨i',j',e,q1,q2,q3,q4.1⟩,fun j hj=>?_⟩
  have:=zdj (st:=x.stride) (fun c:i'=i=>q4.2 (by simp[c])) q1
  omega
 have cell:∀j kk xs,(x.row i)[j]? = some (.nums kk xs)→j<x.stride∧((cells[i*x.stride+j]? = some (.slice none 0 0)∧xs=[]∧g' (s.nx+j)=none) ∨
   ∃(b' cap':Nat) (cs:List Value) (ty':TypeId),cells[i*x.stride+j]? = some (.slice (some ⟨b',0,none⟩) xs.length cap')∧g' (s.nx+j)=some (b',cap',xs.length)∧w.heap[b']? = some (.cells cs.toArray ty' (0,0))∧cs.length=cap'∧xs.length≤cap' ∧
    (∀(q:Nat) m,xs[q]? = some m→cs[q]? = some (.int kk m))∧Nst g w id (.deep p f x hs) b'):=by
  intro j kk xs hj
  have hjl:j<x.stride:=by have:=(List.getElem?_eq_some_iff.1 hj).1;rwa [hrl]at this
  refine⟨hjl,?_⟩
  obtain⟨v,e1,e2⟩:=ht i j _ hf hi hne hj
  cases e2 with
  |nil=>exact .inl ⟨e1,rfl,by rw[hgn,e1];rfl⟩
  |sl _ _ b' cap' cs ty' hb' hl' hc' hh' =>
   exact .inr ⟨b',cap',cs,ty',e1,by rw[hgn,e1];rfl,hb',hl',hc',hh',b,_,_,0,_,_,hg,htd hjl,by rw[hcl];exact e1⟩
 have hmem:∀{k o'},(k,o')∈zc6 s.nx (x.row i)++zac s.hp id (.deep p f x (hs++[(i,zb5 s.nx (x.row i))])) →
   (∃j kk xs,(x.row i)[j]? = some (.nums kk xs)∧k=s.nx+j∧o'=.arr (.nums kk xs))∨(k=id∧o'=.deep p f x (hs++[(i,zb5 s.nx (x.row i))]))∨((k,o')∈s.hp∧k≠id):=fun {k o'} hmk=>by
  rcases List.mem_append.1 hmk with hmk|hmk
  ·exact .inl (zur hmk)
  ·exact .inr (zd7 h.heap.nodup hmk)
 have hlt:∀{k o'},(k,o')∈s.hp→k<s.nx:=fun {k o'} hk=>(h.heap.obj k o' hk).1
 have own1:∀{j kk xs b'},(x.row i)[j]? = some (.nums kk xs)→Own g' w (s.nx+j) (.arr (.nums kk xs)) b'→Nst g w id (.deep p f x hs) b'∧∃l c,cells[i*x.stride+j]? = some (.slice (some ⟨b',0,none⟩) l c):=fun {j kk xs b'} hj ho=>by
  obtain⟨cl,ho⟩:=ho.nd (fun _ _ _ _ e=>by cases e)
  rcases(cell j kk xs hj).2 with ⟨_,_,e⟩|⟨b2,cap',cs,ty',e1,e2,_,_,_,_,e3⟩
  ·rw[e]at ho;cases ho
  ·rw[e2]at ho;cases ho;exact⟨e3,_,_,e1⟩
 have own2:∀{b'},Own g' w id (.deep p f x (hs++[(i,zb5 s.nx (x.row i))])) b'→b'=b∨∃k off l c,zb8 f x (zx hs) k∧(∀j,j<x.stride→k≠i*x.stride+j)∧cells[k]? = some (.slice (some ⟨b',off,none⟩) l c):=fun {b'} ho=>by
  rcases ho with ⟨cl,ho⟩|⟨b0,cl,k,off,l,c,e1,e2,e3⟩
  ·rw[hgo id hidlt,hg]at ho;cases ho;exact .inl rfl
  ·rw[hgo id hidlt,hg]at e1;cases e1
   rw[hcl]at e3
   exact .inr ⟨k,off,l,c,(hsub e2).1,(hsub e2).2,e3⟩
 have own2':∀{b'},Own g' w id (.deep p f x (hs++[(i,zb5 s.nx (x.row i))])) b'→Own g w id (.deep p f x hs) b':=fun {b'} ho=>by
  rcases own2 ho with rfl|⟨k,off,l,c,e1,_,e2⟩
  ·exact .pri hg
  ·exact .inr ⟨b,_,k,off,l,c,hg,e1,by rw[hcl];exact e2⟩
 have own3:∀{k o' b'},(k,o')∈s.hp→Own g' w k o' b'→Own g w k o' b':=fun {k o' b'} hk ho=>ho.congr (hgo k (hlt hk)) fun _ _ _=>rfl
 have back:∀{k o'},(k,o')∈zc6 s.nx (x.row i)++zac s.hp id (.deep p f x (hs++[(i,zb5 s.nx (x.row i))]))→∀{b'},Own g' w k o' b'→∃k2 o2,(k2,o2)∈s.hp∧Own g w k2 o2 b':=fun {k o'} hmk {b'} ho=>by
  rcases hmem hmk with ⟨j,kk,xs,hj,rfl,rfl⟩|⟨rfl,rfl⟩|⟨hk,hk2⟩
  ·exact⟨id,_,hm,.inr (own1 hj ho).1⟩
  ·exact⟨_,_,hm,own2' ho⟩
  ·exact⟨_,_,hk,own3 hk ho⟩
 refine⟨g',h.df,h.sz,fun j=>(h.slots j).mono (fun _ h=>h) (fun _ _=>rfl) (by simp) hgo,⟨?_,?_,?_,?_⟩,h.bound,h.up,h.down,?_,?_,h.fr,fun k hk=>by have:=h.low k hk;simp;omega⟩
 ·intro k o' hmk
  rcases hmem hmk with ⟨j,kk,xs,hj,rfl,rfl⟩|⟨rfl,rfl⟩|⟨hk,hk2⟩
  ·obtain⟨hjl,hc⟩:=cell j kk xs hj
   refine⟨by simp;omega,?_⟩
   rcases hc with ⟨_,rfl,e⟩|⟨b',cap',cs,ty',e1,e2,e3,e4,e5,e6,_⟩
   ·exact .none _ e rfl rfl
   ·refine RO.arr_of (x:=.nums kk xs) e2 rfl e3 (by rw[e4];simp[C.stride]) e5 (fun q j' y hq hy=>?_) (fun hp=>by cases hp)
    simp only[C.len]at hq
    cases j' with
    |zero =>
     simp only[C.row,List.getElem?_cons_zero,Option.some.injEq]at hy
     subst hy
     refine⟨.int kk (xs.getD q 0),?_,.int _ _⟩
     have:=e6 q xs[q] (List.getElem?_eq_getElem hq)
     simp only[C.stride,Nat.mul_one,Nat.add_zero]
     rw[this];simp[List.getD,hq]
    |succ j'=>simp[C.row]at hy
  ·refine⟨by simp;omega,.deep p f x _ b cap cells ty (by rw[hgo _ hidlt];exact hg) hsl hb hlen hcap (fun k us hmk=>?_) ?_ (fun k j y a1 a2 a3 a4=>?_) (fun k us hmk j hj=>?_) (fun k k' b' o l c o' l' c' t1 t2 e1 e2=>hd k k' b' o l c o' l' c' (hsub t1).1 (hsub t2).1 e1 e2) hty⟩
   ·rcases List.mem_append.1 hmk with hmk|hmk
    ·exact hh k us hmk
    ·simp only[List.mem_singleton]at hmk;cases hmk
     refine⟨hi,?_⟩
     rw[←hrl]
     apply Nat.le_antisymm
     ·rcases Nat.lt_or_ge (x.row i).length (zb5 s.nx (x.row i)).length with c|c
      ·have:=zkl s.nx (x.row i).length (x.row i)
       rw[List.getElem?_eq_getElem c]at this;simp at this
      ·exact c
     ·rcases Nat.lt_or_ge (zb5 s.nx (x.row i)).length (x.row i).length with c|c
      ·have:=zkl s.nx (zb5 s.nx (x.row i)).length (x.row i)
       rw[List.getElem?_eq_getElem c]at this;simp at this
      ·exact c
   ·rw[hkeys,List.nodup_append]
    exact⟨hkn,by simp,fun c hc d hd=>by simp only[List.mem_singleton]at hd;subst hd;exact fun e=>hne (e▸hc)⟩
   ·rw[hkeys,List.mem_append,not_or]at a3
    exact ht k j y a1 a2 a3.1 a4
   ·rcases List.mem_append.1 hmk with hmk|hmk
    ·obtain⟨u,v,a1,a2,a3,a4⟩:=h2 k us hmk j hj
     exact⟨u,v,a1,a2,a3,a4.mono (fun _ h=>h) (fun _ _=>rfl) (by simp) hgo⟩
    ·simp only[List.mem_singleton]at hmk;cases hmk
     obtain⟨y,hy⟩:∃y,(x.row i)[j]? = some y:=⟨_,List.getElem?_eq_getElem (show j<(x.row i).length by rw[hrl];exact hj)⟩
     obtain⟨v,e1,e2⟩:=ht i j _ hf hi hne hy
     refine⟨_,v,by rw[zkl,hy];rfl,e1,by cases e2<;>rfl,?_⟩
     cases e2 with
     |int kk m=>exact .c _ _ (.int kk m)
     |bool bb=>exact .c _ _ (.bool bb)
     |nil kk=>exact .slc0 _ (by show s.nx+j<s.nx+x.stride;omega) (by rw[hgn,e1];rfl)
     |sl kk xs b' cap' cs ty' hb' hl' hc' hh'=>exact .slc _ _ b' cap' (by show s.nx+j<s.nx+x.stride;omega) (by rw[hgn,e1];rfl)
  ·exact⟨by have:=hlt hk;simp;omega,(h.heap.obj k o' hk).2.mono (fun _ h=>h) (fun _ _=>rfl) (by simp) hgo (hlt hk) fun _ _=>rfl⟩
 ·intro k o' b' hmk ho
  obtain⟨k2,o2,h3,h4⟩:=back hmk ho
  exact h.heap.apart k2 o2 b' h3 h4
 ·show(List.map _ (zc6 s.nx (x.row i)++zac s.hp id _)).Nodup
  rw[List.map_append,zcc,List.nodup_append]
  refine⟨(zme _ _).1,h.heap.nodup,fun c hc d hd=>?_⟩
  obtain⟨⟨k,o'⟩,hk,rfl⟩:=List.mem_map.1 hd
  have h3:=hlt hk
  have h4:=(zme _ _).2 c hc
  simp only
  omega
 ·intro k1 o1 k2 o2 b' hm1 hm2 ho1 ho2
  have c13:∀{j kk xs k o'},(x.row i)[j]? = some (.nums kk xs)→(k,o')∈s.hp→k≠id→Own g' w (s.nx+j) (.arr (.nums kk xs)) b'→Own g' w k o' b'→False:=fun {j kk xs k o'} hj hk hk2 q1 q2 =>
   hk2 (h.heap.inj k o' id _ b' hk hm (own3 hk q2) (.inr (own1 hj q1).1))
  have c12:∀{j kk xs},(x.row i)[j]? = some (.nums kk xs)→Own g' w (s.nx+j) (.arr (.nums kk xs)) b'→Own g' w id (.deep p f x (hs++[(i,zb5 s.nx (x.row i))])) b'→False:=fun {j kk xs} hj q1 q2=>by
   obtain⟨_,l,c,e1⟩:=own1 hj q1
   have hjl:=(cell j kk xs hj).1
   rcases own2 q2 with rfl|⟨k,off,l',c',e2,e3,e4⟩
   ·exact(hd _ _ b' 0 l c 0 l c (htd hjl) (htd hjl) e1 e1).2 rfl
   ·exact e3 j hjl (hd _ _ b' off l' c' 0 l c e2 (htd hjl) e4 e1).1
  rcases hmem hm1 with ⟨j,kk,xs,hj,rfl,rfl⟩|⟨rfl,rfl⟩|⟨hk1,hk1'⟩<;>rcases hmem hm2 with ⟨j',kk',xs',hj',rfl,rfl⟩|⟨e2,rfl⟩|⟨hk2,hk2'⟩
  ·obtain⟨_,l,c,e1⟩:=own1 hj ho1
   obtain⟨_,l',c',e2⟩:=own1 hj' ho2
   have:=(hd _ _ b' 0 l c 0 l' c' (htd (cell j kk xs hj).1) (htd (cell j' kk' xs' hj').1) e1 e2).1
   omega
  ·subst e2;exact(c12 hj ho1 ho2).elim
  ·exact(c13 hj hk2 hk2' ho1 ho2).elim
  ·exact(c12 hj' ho2 ho1).elim
  ·exact e2.symm
  ·exact h.heap.inj _ _ _ _ b' hm hk2 (own2' ho1) (own3 hk2 ho2)
  ·exact(c13 hj' hk1 hk1' ho2 ho1).elim
  ·subst e2;exact h.heap.inj _ _ _ _ b' hk1 hm (own3 hk1 ho1) (own2' ho2)
  ·exact h.heap.inj _ _ _ _ b' hk1 hk2 (own3 hk1 ho1) (own3 hk2 ho2)
 ·rintro b' ⟨k,o',hmk,ho⟩
  obtain⟨k2,o2,h3,h4⟩:=back hmk ho
  exact h.own b' ⟨k2,o2,h3,h4⟩
 ·intro k o' hmk hb' hK
  rcases hmem hmk with ⟨j,kk,xs,hj,rfl,rfl⟩|⟨rfl,rfl⟩|⟨hk,hk2⟩
  ·cases hb'
  ·rw[hgo _ hidlt];exact h.keep _ _ hm hb' hK
  ·rw[hgo _ (hlt hk)];exact h.keep _ _ hk hb' hK
end
end Go.VL
namespace Go.VL
set_option linter.unusedVariables false
set_option linter.unusedSimpArgs false
section
variable {P : Program} {T : TT} {X : Cx} {I : Nat → Prop} {g : Gam} {s : S} {a : Act} {w : World} {o : Oper} {K : S → Prop}
 {N:Act→World→Prop} {Q:Exit→Act→World→Prop}
theorem St.thaw (h:St X I g s a w) {id:Nat} {x:C} (hl:zq s.hp id=some (.deep false 0 x [])):∃I',St X I' g {s with hp:=zac s.hp id (.arr x)} a w:=by
 have hm:=zt hl
 have hro:=(h.heap.obj id _ hm).2
 let I':Nat→Prop:=fun b=>I b∨Nst g w id (.deep false 0 x []) b
 have hII:∀b,I b→I' b:=fun b hb=>.inl hb
 have hnew:RO I' g s.nx w id (.arr x)∧∀b cl,g id=some (b,cl)→¬I' b:=by
  refine⟨?_,fun b cl hg hc=>?_⟩
  ·cases hq:g id with
   |none =>
    cases hro with
    |deep0 _ _ _ hg hs h0=>exact .none x hg hs h0
    |deep _ _ _ _ b cap cells ty hg=>rw[hq]at hg;cases hg
   |some p =>
    obtain⟨b,cl⟩:=p
    obtain⟨cap,cells,ty,e,hs,hb,hlen,hcap,ht,hr⟩:=hro.deep_rows (I':=I') (fun b hb=>.inr hb) hq
    subst e
    exact .arr x b cap cells ty hq hs hb hlen hcap hr ht
  ·rcases hc with hc|⟨b0,cl',k,off,l,c,e1,e2,e3⟩
   ·exact(h.heap.apart id _ b hm (.pri hg)).1 hc
   ·rw[hg]at e1;cases e1
    cases hro with
    |deep0 _ _ _ hg'=>rw[hg]at hg';cases hg'
    |deep _ _ _ _ b' cap cells ty hg' hsl hb hlen hcap hh hkn ht h2 hd hty =>
     rw[hg]at hg';cases hg'
     rw[cell_of_row w b _ cells.toArray ty (0,0) hb]at e3
     have e3:cells[k]? = some (.slice (some ⟨b,off,none⟩) l c):=by simpa using e3
     exact(hd k k b off l c off l c e2 e2 e3 e3).2 rfl
 have hmem:∀i o',(i,o')∈zac s.hp id (.arr x)→∃o'',(i,o'')∈s.hp∧(o'.isBox=true→o''.isBox=true)∧∀k,Own g w i o' k→Own g w i o'' k∧¬Nst g w id (.deep false 0 x []) k:=fun i o' hmi=>by
  rcases zd7 h.heap.nodup hmi with ⟨rfl,rfl⟩|⟨h1,hne⟩
  ·refine⟨_,hm,fun e=>(by cases e),fun k hk=>?_⟩
   obtain⟨cl,hk⟩:=hk.nd (fun _ _ _ _ e=>by cases e)
   exact⟨.pri hk,fun hc=>hnew.2 k cl hk (.inr hc)⟩
  ·exact⟨o',h1,fun h=>h,fun k hk=>⟨hk,fun hc=>hne (h.heap.inj i o' id _ k h1 hm hk (.inr hc))⟩⟩
 refine⟨I',h.df,h.sz,fun j=>(h.slots j).mono hII (fun _ _=>rfl) (Nat.le_refl _) fun _ _=>rfl,⟨?_,?_,?_,?_⟩,?_,fun b hb=>.inl (h.up b hb),?_,?_,?_,h.fr,h.low⟩
 ·intro i o' hmi
  rcases zd7 h.heap.nodup hmi with ⟨rfl,rfl⟩|⟨h1,hne⟩
  ·exact⟨(h.heap.obj _ _ hm).1,hnew.1⟩
  ·exact⟨(h.heap.obj _ _ h1).1,(h.heap.obj _ _ h1).2.mono hII (fun _ _=>rfl) (Nat.le_refl _) (fun _ _=>rfl) (h.heap.obj _ _ h1).1 fun _ _=>rfl⟩
 ·intro i o' k hmi hgk
  obtain⟨o'',h1,_,h2⟩:=hmem i o' hmi
  obtain⟨h3,h4⟩:=h2 k hgk
  obtain⟨h5,h6⟩:=h.heap.apart i o'' k h1 h3
  exact⟨fun hc=>hc.elim h5 h4,h6⟩
 ·show(List.map _ (zac s.hp id (.arr x))).Nodup
  rw[zcc];exact h.heap.nodup
 ·intro i o1 i' o2 k h1 h2 g1 g2
  obtain⟨p1,q1,_,r1⟩:=hmem _ _ h1
  obtain⟨p2,q2,_,r2⟩:=hmem _ _ h2
  exact h.heap.inj i p1 i' p2 k q1 q2 (r1 k g1).1 (r2 k g2).1
 ·rintro b (hb|hb)
  ·exact h.bound b hb
  ·exact(h.heap.apart id _ b hm (.inr hb)).2
 ·rintro b (hb|hb)
  ·exact h.down b hb
  ·exact .inr (h.own b ⟨id,_,hm,.inr hb⟩)
 ·rintro k ⟨i,o',hmi,hgk⟩
  obtain⟨o'',h1,_,h2⟩:=hmem i o' hmi
  exact h.own k ⟨i,o'',h1,(h2 k hgk).1⟩
 ·intro i o' hmi hb hK
  obtain⟨o'',h1,h2,_⟩:=hmem i o' hmi
  exact h.keep i o'' h1 (h2 hb) hK
theorem zxo (l:List Nat):∀s:S,(zeq l s).env=zb2 (fgs l) s.env∧(zeq l s).hp=za7 (List.map (fgs l)) s.hp∧(zeq l s).nt=s.nt∧(zeq l s).nx=s.nx:=by
 induction l with
 |nil=>intro s;exact⟨(zvl _).symm,by
   show s.hp=za7 (List.map fun v=>v) s.hp
   rw[show(List.map fun v:V=>v)=fun v=>v from by funext l;simp];exact(zvh _).symm,rfl,rfl⟩
 |cons k t ih =>
  intro s
  simp only[zeq]
  obtain⟨h1,h2,h3,h4⟩:=ih (s.forget k)
  refine⟨by rw[h1];exact zrg _ _ _,?_,h3,h4⟩
  rw[h2]
  show za7 _ (za7 (z6 k) s.hp)=_
  rw[zrx]
  congr 1
  funext l
  rw[zcw,List.map_map];rfl
theorem zya (l:List Nat):∀{hp:List (Nat×O)},(hp.map (·.1)).Nodup→∀{j o'},(j,o')∈zi5 l hp→(j,o')∈hp∧j∉l:=by
 induction l with
 |nil=>intro hp _ j o' h;exact⟨h,by simp⟩
 |cons k t ih =>
  intro hp hn j o' h
  obtain⟨h1,h2⟩:=ih (zkp hn k) h
  obtain⟨h3,h4⟩:=zjz hn h1
  exact⟨h3,by simp[h2,h4]⟩
theorem zr7 (l:List Nat):∀hp:List (Nat×O),(zi5 l hp).Sublist hp:=by
 induction l with
 |nil=>intro hp;exact List.Sublist.refl _
 |cons k t ih=>intro hp;exact(ih _).trans (zis _ _)
theorem zfd {us:List V} {j k:Nat} (h:us[j]? = some (V.slc k)):k∈zad us:=by
 induction us generalizing j with
 |nil=>cases h
 |cons u t ih =>
  cases j with
  |zero=>cases h;simp[zad]
  |succ j =>
   have:=ih (by simpa using h)
   cases u<;>simp only[zad]<;>first|exact List.mem_cons_of_mem _ this|exact this
theorem zul {us:List V} (hn:(zad us).Nodup):∀{j j' k:Nat},us[j]? = some (V.slc k)→us[j']? = some (V.slc k)→j=j':=by
 induction us with
 |nil=>intro j j' k h;cases h
 |cons u t ih =>
  intro j j' k h h'
  cases j with
  |zero =>
   cases j' with
   |zero=>rfl
   |succ j' =>
    cases h
    simp only[zad,List.nodup_cons]at hn
    exact(hn.1 (zfd (by simpa using h'))).elim
  |succ j =>
   cases j' with
   |zero =>
    cases h'
    simp only[zad,List.nodup_cons]at hn
    exact(hn.1 (zfd (by simpa using h))).elim
   |succ j' =>
    have hn':(zad t).Nodup:=by
     cases u<;>simp only[zad]at hn<;>first|exact(List.nodup_cons.1 hn).2|exact hn
    have:=ih hn' (j:=j) (j':=j') (k:=k) (by simpa using h) (by simpa using h')
    omega
def Shut (lk:Nat→Option O) (u:V) (y:C):Prop :=
 (∃k n,u=.c (.int k n)∧y=.int k n)∨(u=.nil∧y=.nums .i64 []) ∨
 ∃a xs,u=.slc a∧y=.nums .i64 xs∧(lk a=some (.arr (.nums .i64 xs))∨∃p,lk a=some (.deep p 0 (.nums .i64 xs) []))
theorem zlh {lk:Nat→Option O} {us:List V} (h:zfw lk us=true):∀(j:Nat) u,us[j]? = some u→∃y,Shut lk u y∧(zbf lk us)[j]? = some (match u with|.slc _=>V.c y|u=>u):=by
 induction us with
 |nil=>intro j u hj;cases hj
 |cons u t ih =>
  intro j u' hj
  simp only[zfw]at h
  cases u with
  |slc a =>
   simp only at h
   split at h
   ·rename_i xs hl
    cases j with
    |zero=>cases hj;exact⟨_,.inr (.inr ⟨a,xs,rfl,rfl,.inl hl⟩),by simp[zbf,hl]⟩
    |succ j=>obtain⟨y,h1,h2⟩:=ih h j u' (by simpa using hj);exact⟨y,h1,by simpa [zbf]using h2⟩
   ·rename_i p xs hl
    cases j with
    |zero=>cases hj;exact⟨_,.inr (.inr ⟨a,xs,rfl,rfl,.inr ⟨p,hl⟩⟩),by simp[zbf,hl]⟩
    |succ j=>obtain⟨y,h1,h2⟩:=ih h j u' (by simpa using hj);exact⟨y,h1,by simpa [zbf]using h2⟩
   ·cases h
  |nil =>
   cases j with
   |zero=>cases hj;exact⟨_,.inr (.inl ⟨rfl,rfl⟩),rfl⟩
   |succ j=>obtain⟨y,h1,h2⟩:=ih h j u' (by simpa using hj);exact⟨y,h1,by simpa [zbf]using h2⟩
  |c z =>
   cases z with
   |int k n =>
    cases j with
    |zero=>cases hj;exact⟨_,.inl ⟨k,n,rfl,rfl⟩,rfl⟩
    |succ j=>obtain⟨y,h1,h2⟩:=ih h j u' (by simpa using hj);exact⟨y,h1,by simpa [zbf]using h2⟩
   |_=>cases h
  |_=>cases h
theorem zh6 (lk:Nat→Option O) (us:List V):(zbf lk us).length=us.length:=by
 induction us with
 |nil=>rfl
 |cons u t ih=>cases u<;>simp[zbf,ih]
theorem zgd {lk:Nat→Option O} {us:List V} (hok:zfw lk us=true) {j:Nat} {v:V} {xs:List Int} (hv:(zbf lk us)[j]? = some v) (h:v.asNums=some xs):∃u,us[j]? = some u∧Shut lk u (.nums .i64 xs):=by
 have hj:j<us.length:=by rw[←zh6 lk us];exact(List.getElem?_eq_some_iff.1 hv).1
 obtain⟨y,h1,h2⟩:=zlh hok j us[j] (List.getElem?_eq_getElem hj)
 refine⟨us[j],List.getElem?_eq_getElem hj,?_⟩
 rw[hv]at h2
 generalize us[j]=u at h1 h2
 rcases h1 with ⟨k,n,rfl,rfl⟩|⟨rfl,rfl⟩|⟨a,zs,rfl,rfl,h3⟩
 ·cases h2;cases h
 ·cases h2;cases h;exact .inr (.inl ⟨rfl,rfl⟩)
 ·cases h2;cases h;exact .inr (.inr ⟨a,_,rfl,rfl,h3⟩)
theorem zo6 {lk:Nat→Option O} {us:List V} (hok:zfw lk us=true) {j:Nat} {v:V} {k:IntKind} {n:Int} (hv:(zbf lk us)[j]? = some v) (h:v.asInt k=some n):∃u,us[j]? = some u∧Shut lk u (.int k n):=by
 have hj:j<us.length:=by rw[←zh6 lk us];exact(List.getElem?_eq_some_iff.1 hv).1
 obtain⟨y,h1,h2⟩:=zlh hok j us[j] (List.getElem?_eq_getElem hj)
 refine⟨us[j],List.getElem?_eq_getElem hj,?_⟩
 rw[hv]at h2
 generalize us[j]=u at h1 h2
 rcases h1 with ⟨k',n',rfl,rfl⟩|⟨rfl,rfl⟩|⟨a,zs,rfl,rfl,h3⟩
 ·cases h2
  simp only[V.asInt]at h
  split at h
  ·rename_i hk;have:=zju hk;subst this;cases h;exact .inl ⟨_,_,rfl,rfl⟩
  ·cases h
 ·cases h2;cases h
 ·cases h2;cases h
theorem zyi {lk:Nat→Option O} {us:List V} (hok:zfw lk us=true) {x x':C} {i:Nat} (hx:(match x.isNest with|true=>C.setEl x i (zbf lk us)|false=>none)=some x') (hi:i<x.len) (hul:us.length=x.stride) :
  x'.isSl=true∧x'.stride=x.stride∧x'.len=x.len∧x'.isPg=x.isPg∧(∀k,k≠i→x'.row k=x.row k)∧∀(j:Nat) y,(x'.row i)[j]? = some y→∃u,us[j]? = some u∧Shut lk u y:=by
 have hrl:=zh6 lk us
 have row:∀j:Nat,j<us.length→∃v,(zbf lk us)[j]? = some v:=fun j hj=>⟨_,List.getElem?_eq_getElem (by rw[hrl];exact hj)⟩
 cases x with
 |pgs xs =>
  simp only[C.stride]at hul
  simp only[C.len]at hi
  simp only[C.isNest]at hx
  obtain⟨v1,e1⟩:=row 0 (by omega)
  obtain⟨v2,e2⟩:=row 1 (by omega)
  obtain⟨v3,e3⟩:=row 2 (by omega)
  have hsr:zbf lk us=[v1,v2,v3]:=by
   match hq:zbf lk us,hrl.trans hul with
   |[p,q,r],_=>rw[hq]at e1 e2 e3;cases e1;cases e2;cases e3;rfl
  rw[hsr]at hx
  simp only[C.setEl,C.setRow,zty,Option.map_eq_some_iff]at hx
  obtain⟨pg,hx,rfl⟩:=hx
  split at hx
  ·rename_i a b c h1 h2 h3
   cases hx
   refine⟨rfl,rfl,by simp[C.len],rfl,fun k hk=>by simp only[C.row,z7 _ _ _ _ _ hi,if_neg hk],fun j y hy=>?_⟩
   simp only[C.row,z7 _ _ _ _ _ hi,if_true,Pg.row]at hy
   match j with
   |0=>cases hy;exact zgd hok e1 h1
   |1=>cases hy;exact zgd hok e2 h2
   |2=>cases hy;exact zgd hok e3 h3
   |j+3=>simp at hy
  ·cases hx
 |lks xs =>
  simp only[C.stride]at hul
  simp only[C.len]at hi
  simp only[C.isNest]at hx
  obtain⟨v1,e1⟩:=row 0 (by omega)
  obtain⟨v2,e2⟩:=row 1 (by omega)
  obtain⟨v3,e3⟩:=row 2 (by omega)
  have hsr:zbf lk us=[v1,v2,v3]:=by
   match hq:zbf lk us,hrl.trans hul with
   |[p,q,r],_=>rw[hq]at e1 e2 e3;cases e1;cases e2;cases e3;rfl
  rw[hsr]at hx
  simp only[C.setEl,C.setRow,zs2,Option.map_eq_some_iff]at hx
  obtain⟨pg,hx,rfl⟩:=hx
  split at hx
  ·rename_i a b c h1 h2 h3
   cases hx
   refine⟨rfl,rfl,by simp[C.len],rfl,fun k hk=>by simp only[C.row,z7 _ _ _ _ _ hi,if_neg hk],fun j y hy=>?_⟩
   simp only[C.row,z7 _ _ _ _ _ hi,if_true,Lk.row]at hy
   match j with
   |0=>cases hy;exact zgd hok e1 h1
   |1=>cases hy;exact zo6 hok e2 h2
   |2=>cases hy;exact zo6 hok e3 h3
   |j+3=>simp at hy
  ·cases hx
 |numss xs =>
  simp only[C.stride]at hul
  simp only[C.len]at hi
  simp only[C.isNest]at hx
  obtain⟨v1,e1⟩:=row 0 (by omega)
  have hsr:zbf lk us=[v1]:=by
   match hq:zbf lk us,hrl.trans hul with
   |[p],_=>rw[hq]at e1;cases e1;rfl
  rw[hsr]at hx
  simp only[C.setEl,C.setRow,Option.map_eq_some_iff]at hx
  obtain⟨l,h1,rfl⟩:=hx
  refine⟨rfl,rfl,by simp[C.len],rfl,fun k hk=>by simp only[C.row,z7 _ _ _ _ _ hi,if_neg hk],fun j y hy=>?_⟩
  simp only[C.row,z7 _ _ _ _ _ hi,if_true]at hy
  cases j with
  |zero=>cases hy;exact zgd hok e1 h1
  |succ j=>simp at hy
 |_=>simp[C.isNest]at hx
theorem RO.nums_cells {n a:Nat} {xs:List Int} (h:RO I g n w a (.arr (.nums .i64 xs))∨∃p,RO I g n w a (.deep p 0 (.nums .i64 xs) [])) :
  (g a=Option.none∧xs=[])∨∃(b cap:Nat) (cs:List Value) (ty:TypeId),g a=some (b,cap,xs.length)∧w.heap[b]? = some (.cells cs.toArray ty (0,0))∧cs.length=cap∧xs.length≤cap∧∀(q:Nat) m,xs[q]? = some m→cs[q]? = some (.int .i64 m):=by
 have key:∀{cells:List Value},(∀i j y,i<xs.length→((C.nums .i64 xs).row i)[j]? = some y→∃v,cells[i*1+j]? = some v∧v=.int .i64 (xs.getD i 0))→∀(q:Nat) m,xs[q]? = some m→cells[q]? = some (.int .i64 m):=fun {cells} hh q m hq=>by
  have hlt:=(List.getElem?_eq_some_iff.1 hq).1
  obtain⟨v,e1,rfl⟩:=hh q 0 _ hlt rfl
  rw[Nat.mul_one,Nat.add_zero]at e1
  rw[e1];simp[List.getD,hq]
 rcases h with h|⟨p,h⟩
 ·cases h with
  |none _ hg hs h0=>exact .inl ⟨hg,List.eq_nil_of_length_eq_zero h0⟩
  |arr _ b cap cells ty hg hs hb hl hcap hh =>
   refine .inr ⟨b,cap,cells,ty,hg,hb,by rw[hl];exact Nat.mul_one _,hcap,key fun i j y hi hy=>?_⟩
   obtain⟨v,e1,e2⟩:=hh i j y hi hy
   refine⟨v,e1,?_⟩
   cases j with
   |zero =>
    simp only[C.row,List.getElem?_cons_zero,Option.some.injEq]at hy
    subst hy
    cases e2 with
    |int=>rfl
    |empty _ _ _ hs=>cases hs
    |sl _ _ _ _ _ hs=>cases hs
   |succ j=>simp[C.row]at hy
 ·cases h with
  |deep0 _ _ _ hg hs h0=>exact .inl ⟨hg,List.eq_nil_of_length_eq_zero h0⟩
  |deep _ _ _ _ b cap cells ty hg hs hb hl hcap hh hkn ht =>
   refine .inr ⟨b,cap,cells,ty,hg,hb,by rw[hl];exact Nat.mul_one _,hcap,key fun i j y hi hy=>?_⟩
   obtain⟨v,e1,e2⟩:=ht i j y (Nat.zero_le _) hi (by simp[zx]) hy
   refine⟨v,e1,?_⟩
   cases j with
   |zero =>
    simp only[C.row,List.getElem?_cons_zero,Option.some.injEq]at hy
    subst hy
    cases e2;rfl
   |succ j=>simp[C.row]at hy
theorem St.shut (h:St X I g s a w) {id i f:Nat} {p:Bool} {x x':C} {us:List V} {t:List (Nat×List V)} (hl:zq s.hp id=some (.deep p f x ((i,us)::t))) (hok:zfw (zq s.hp) us=true)
  (hx:(match x.isNest with|true=>C.setEl x i (zbf (zq s.hp) us)|false=>none)=some x') (hnd:(id::zad us).Nodup) (hit:i∉zx t) :
  St X I g {s with env:=zb2 (fgs (zad us)) s.env,hp:=zi5 (zad us) (za7 (List.map (fgs (zad us))) (zac s.hp id (.deep p f x' t)))} a w:=by
 have hm:=zt hl
 have hidlt:=(h.heap.obj id _ hm).1
 have hro:=(h.heap.obj id _ hm).2
 rw[List.nodup_cons]at hnd
 obtain⟨hidn,hnd⟩:=hnd
 cases hro with
 |deep _ _ _ _ b cap cells ty hg hsl hb hlen hcap hh hkn ht h2 hd hty =>
 obtain⟨hi,hul⟩:=hh i us List.mem_cons_self
 obtain⟨x1,x2,x3,x4,x5,x6⟩:=zyi hok hx hi hul
 have hcl:∀(k:Nat),w.cell? ⟨b,k,none⟩=cells[k]?:=fun k=>by rw[cell_of_row w b _ cells.toArray ty (0,0) hb];simp
 have hrl:=C.row_len x' i x1
 have hsl2:∀{j k:Nat},us[j]? = some (V.slc k)→∃xs,((k,O.arr (.nums .i64 xs))∈s.hp∨∃q,(k,O.deep q 0 (.nums .i64 xs) [])∈s.hp):=fun {j k} hj=>by
  obtain⟨y,hy,_⟩:=zlh hok j _ hj
  rcases hy with ⟨_,_,e,_⟩|⟨e,_⟩|⟨a,xs,e,_,h3⟩
  ·cases e
  ·cases e
  ·cases e
   rcases h3 with h3|⟨q,h3⟩
   ·exact⟨xs,.inl (zt h3)⟩
   ·exact⟨xs,.inr ⟨q,zt h3⟩⟩
 have cell:∀(j:Nat) y,(x'.row i)[j]? = some y→j<x.stride∧∃u v,us[j]? = some u∧cells[i*x.stride+j]? = some v∧NC w y v∧∀b' o l c,v=.slice (some ⟨b',o,none⟩) l c→∃k ob,u=.slc k∧(k,ob)∈s.hp∧Own g w k ob b':=by
  intro j y hj
  have hjl:j<x.stride:=by have:=(List.getElem?_eq_some_iff.1 hj).1;rwa [hrl,x2]at this
  refine⟨hjl,?_⟩
  obtain⟨u,hu,hsh⟩:=x6 j y hj
  obtain⟨u',v,a1,a2,a3,a4⟩:=h2 i us List.mem_cons_self j hjl
  rw[hu]at a1;cases a1
  refine⟨u,v,hu,a2,?_⟩
  rcases hsh with ⟨k,n,rfl,rfl⟩|⟨rfl,rfl⟩|⟨k,xs,rfl,rfl,h3⟩
  ·rw[a4.int_inv];exact⟨.int k n,fun _ _ _ _ e=>by cases e⟩
  ·cases a4;exact⟨.nil _,fun _ _ _ _ e=>by cases e⟩
  ·have hob:∃ob,(k,ob)∈s.hp∧(RO I g s.nx w k (.arr (.nums .i64 xs))∨∃p,RO I g s.nx w k (.deep p 0 (.nums .i64 xs) [])):=by
    rcases h3 with h3|⟨q,h3⟩
    ·exact⟨_,zt h3,.inl (h.heap.obj _ _ (zt h3)).2⟩
    ·exact⟨_,zt h3,.inr ⟨q,(h.heap.obj _ _ (zt h3)).2⟩⟩
   obtain⟨ob,hmo,hor⟩:=hob
   rcases RO.nums_cells hor with ⟨hgn,rfl⟩|⟨b',cap',cs,ty',hgb,hb',hl',hc',hh'⟩
   ·obtain⟨_,⟨b',c',l',e,_⟩|⟨_,rfl⟩⟩:=a4.slc_inv
    ·rw[hgn]at e;cases e
    ·exact⟨.nil _,fun _ _ _ _ e=>by cases e⟩
   ·obtain⟨_,⟨b2,c2,l2,e,rfl⟩|⟨e,_⟩⟩:=a4.slc_inv
    ·rw[hgb]at e;cases e
     exact⟨.sl _ xs b' cap' cs ty' hb' hl' hc' hh',fun b3 _ _ _ e=>by cases e;exact⟨k,ob,rfl,hmo,.pri hgb⟩⟩
    ·rw[hgb]at e;cases e
 have hv:∀v val,RV I g s.nx w v val→RV I g s.nx w (fgs (zad us) v) val:=fun v val hv=>hv.fgs _ fun _ _ _=>rfl
 have hndS:((za7 (List.map (fgs (zad us))) (zac s.hp id (.deep p f x' t))).map (·.1)).Nodup:=by rw[zif,zcc];exact h.heap.nodup
 have hmem:∀{k o'},(k,o')∈zi5 (zad us) (za7 (List.map (fgs (zad us))) (zac s.hp id (.deep p f x' t)))→k∉zad us∧((k=id∧o'=(O.deep p f x' t).map (List.map (fgs (zad us))))∨(k≠id∧∃o'',(k,o'')∈s.hp∧o'=o''.map (List.map (fgs (zad us))))):=fun {k o'} hk=>by
  obtain⟨h1,h3⟩:=zya _ hndS hk
  obtain⟨o'',h4,rfl⟩:=zjp h1
  refine⟨h3,?_⟩
  rcases zd7 h.heap.nodup h4 with ⟨rfl,rfl⟩|⟨h5,h6⟩
  ·exact .inl ⟨rfl,rfl⟩
  ·exact .inr ⟨h6,o'',h5,rfl⟩
 have hkeys0:zx ((i,us)::t)=i::zx t:=rfl
 have told:∀{k},zb8 f x' (zx t) k→zb8 f x (zx ((i,us)::t)) k∨∃j,j<x.stride∧k=i*x.stride+j:=fun {k} ⟨i',j,e,q1,q2,q3,q4⟩=>by
  rw[x2]at e q1;rw[x3]at q3
  by_cases c:i'=i
  ·subst c;exact .inr ⟨j,q1,e⟩
  ·exact .inl ⟨i',j,e,q1,q2,q3,by rw[hkeys0];simp[c,q4]⟩
 have inner:∀{j b' o l c:Nat},j<x.stride→cells[i*x.stride+j]? = some (.slice (some ⟨b',o,none⟩) l c)→∃k ob,us[j]? = some (V.slc k)∧(k,ob)∈s.hp∧Own g w k ob b':=fun {j b' o l c} hj hc=>by
  have hjl:j<(x'.row i).length:=by rw[hrl,x2];exact hj
  obtain⟨_,u,v,a1,a2,a3,a4⟩:=cell j _ (List.getElem?_eq_getElem hjl)
  rw[hc]at a2;cases a2
  obtain⟨k,ob,rfl,h5,h6⟩:=a4 b' o l c rfl
  exact⟨k,ob,a1,h5,h6⟩
 have ownN:∀{b'},Own g w id ((O.deep p f x' t).map (List.map (fgs (zad us)))) b'→Own g w id (.deep p f x ((i,us)::t)) b'∨∃k ob,k∈zad us∧(k,ob)∈s.hp∧Own g w k ob b':=fun {b'} ho=>by
  rcases ho.map with ho|⟨b0,cl,k,off,l,c,e1,e2,e3⟩
  ·exact .inl (.inl ho)
  ·rw[hg]at e1;cases e1
   rcases told e2 with e2|⟨j,hj,rfl⟩
   ·exact .inl (.inr ⟨b,_,k,off,l,c,hg,e2,e3⟩)
   ·rw[hcl]at e3
    obtain⟨k,ob,h5,h6,h7⟩:=inner hj e3
    exact .inr ⟨k,ob,zfd h5,h6,h7⟩
 have back:∀{k o'},(k,o')∈zi5 (zad us) (za7 (List.map (fgs (zad us))) (zac s.hp id (.deep p f x' t)))→∀{b'},Own g w k o' b'→∃k2 o2,(k2,o2)∈s.hp∧Own g w k2 o2 b'∧(k2=k∨(k=id∧k2∈zad us)):=fun {k o'} hk {b'} ho=>by
  obtain⟨_,⟨rfl,rfl⟩|⟨_,o'',h1,rfl⟩⟩:=hmem hk
  ·rcases ownN ho with ho|⟨k2,ob,h3,h4,h5⟩
   ·exact⟨_,_,hm,ho,.inl rfl⟩
   ·exact⟨k2,ob,h4,h5,.inr ⟨rfl,h3⟩⟩
  ·exact⟨k,o'',h1,ho.map,.inl rfl⟩
 refine⟨h.df,h.sz,fun j=>?_,⟨?_,?_,?_,?_⟩,h.bound,h.up,h.down,?_,?_,h.fr,h.low⟩
 ·show RV I g s.nx w (zaw (zb2 (fgs (zad us)) s.env) j) _
  rw[zex _ (zvx _)];exact hv _ _ (h.slots j)
 ·intro k o' hk
  obtain⟨_,⟨rfl,rfl⟩|⟨hne,o'',h1,rfl⟩⟩:=hmem hk
  ·refine⟨hidlt,RO.mapV (fgs (zad us)) hv (fun _=>rfl) (fun _ h=>h) (fun _ _=>rfl) rfl (fun _ _=>rfl) ?_⟩
   refine .deep p f x' t b cap cells ty (by rw[x3];exact hg) x1 hb (by rw[x2];exact hlen) (by rw[x3];exact hcap) (fun k us' hmk=>?_) (List.nodup_cons.1 hkn).2 (fun i' j y a1 a2 a3 a4=>?_) (fun k us' hmk j hj=>?_) (fun k k' b' o l c o' l' c' t1 t2 e1 e2=>?_) (fun hp=>hty (by rw[←x4];exact hp))
   ·rw[x3,x2];exact hh k us' (List.mem_cons_of_mem _ hmk)
   ·rw[x3]at a2;rw[x2]
    by_cases c:i'=i
    ·subst c
     obtain⟨_,u,v,q1,q2,q3,_⟩:=cell j y a4
     exact⟨v,q2,q3⟩
    ·rw[x5 i' c]at a4
     exact ht i' j y a1 a2 (by rw[hkeys0];simp[c,a3]) a4
   ·rw[x2]at hj⊢
    exact h2 k us' (List.mem_cons_of_mem _ hmk) j hj
   ·have nb:∀{k2 ob},(k2,ob)∈s.hp→k2∈zad us→Own g w k2 ob b'→b'≠b∧∀k3,zb8 f x (zx ((i,us)::t)) k3→∀o l c,cells[k3]?≠some (.slice (some ⟨b',o,none⟩) l c):=fun {k2 ob} h5 h6 h7 =>
     ⟨fun e=>hidn ((h.heap.inj _ _ _ _ b' h5 hm h7 (by rw[e];exact Own.pri hg))▸h6),fun k3 h8 o l c h9=>hidn ((h.heap.inj _ _ _ _ b' h5 hm h7 (.inr ⟨b,_,k3,o,l,c,hg,h8,by rw[hcl];exact h9⟩))▸h6)⟩
    rcases told t1 with t1|⟨j,hj,rfl⟩<;>rcases told t2 with t2|⟨j',hj',rfl⟩
    ·exact hd k k' b' o l c o' l' c' t1 t2 e1 e2
    ·obtain⟨k2,ob,h5,h6,h7⟩:=inner hj' e2
     exact absurd e1 ((nb h6 (zfd h5) h7).2 k t1 o l c)
    ·obtain⟨k2,ob,h5,h6,h7⟩:=inner hj e1
     exact absurd e2 ((nb h6 (zfd h5) h7).2 k' t2 o' l' c')
    ·obtain⟨k2,ob,h5,h6,h7⟩:=inner hj e1
     obtain⟨k2',ob',h5',h6',h7'⟩:=inner hj' e2
     have:=h.heap.inj k2 ob k2' ob' b' h6 h6' h7 h7'
     subst this
     exact⟨by rw[zul hnd h5 h5'],(nb h6 (zfd h5) h7).1⟩
  ·exact⟨(h.heap.obj k o'' h1).1,(h.heap.obj k o'' h1).2.mapV (fgs (zad us)) hv (fun _=>rfl) (fun _ h=>h) (fun _ _=>rfl) rfl fun _ _=>rfl⟩
 ·intro k o' b' hk ho
  obtain⟨k2,o2,h3,h4,_⟩:=back hk ho
  exact h.heap.apart k2 o2 b' h3 h4
 ·exact hndS.sublist ((zr7 _ _).map _)
 ·intro k1 o1 k2 o2 b' hm1 hm2 ho1 ho2
  obtain⟨q1,p1,h3,h4,h5⟩:=back hm1 ho1
  obtain⟨q2,p2,h6,h7,h8⟩:=back hm2 ho2
  have e:=h.heap.inj q1 p1 q2 p2 b' h3 h6 h4 h7
  have n1:=(hmem hm1).1
  have n2:=(hmem hm2).1
  rcases h5 with rfl|⟨rfl,h5⟩<;>rcases h8 with rfl|⟨rfl,h8⟩
  ·exact e
  ·subst e;exact(n1 h8).elim
  ·subst e;exact(n2 h5).elim
  ·rfl
 ·rintro b' ⟨k,o',hk,ho⟩
  obtain⟨k2,o2,h3,h4,_⟩:=back hk ho
  exact h.own b' ⟨k2,o2,h3,h4⟩
 ·intro k o' hk hb' hK
  obtain⟨_,⟨rfl,rfl⟩|⟨hne,o'',h1,rfl⟩⟩:=hmem hk
  ·exact h.keep _ _ hm (by rw[O.isBox_map]at hb';exact hb') hK
  ·exact h.keep _ _ h1 (by rw[O.isBox_map]at hb';exact hb') hK
theorem RO.hol_deep {n id hi:Nat} {x:C} {vs:List V} (h:RO I g n w id (.hol x hi vs)) (h1:x.len=1):RO I g n w id (.deep false 0 x [(hi,vs)])∧∀b,¬Nst g w id (.deep false 0 x [(hi,vs)]) b:=by
 cases h with
 |hol _ _ _ b cap cells ty hg hs hb hl hcap hhi hv hh h2 ht =>
  have hi0:hi=0:=by omega
  have no:∀k,¬zb8 0 x (zx [(hi,vs)]) k:=by
   rintro k ⟨i,j,_,_,_,h4,h5⟩
   exact h5 (by simp[zx];omega)
  refine⟨.deep _ _ _ _ b cap cells ty hg hs hb hl hcap (fun i us hm=>?_) (by simp[zx]) (fun i j y _ h4 h5 _=>absurd (by simp[zx];omega) h5) (fun i us hm=>?_) (fun k _ _ _ _ _ _ _ _ hk=>absurd hk (no k)) ht,fun b'=>?_⟩
  ·simp only[List.mem_singleton,Prod.mk.injEq]at hm;obtain⟨rfl,rfl⟩:=hm;exact⟨hhi,hv⟩
  ·simp only[List.mem_singleton,Prod.mk.injEq]at hm;obtain⟨rfl,rfl⟩:=hm;exact h2
  ·rintro⟨_,_,k,_,_,_,_,hk,_⟩
   exact no k hk
theorem zwk:∀(env:List (Nat×V)) (l:List Nat) (j:Nat),zaw (keepE l env) j=zaw env j∨zaw (keepE l env) j=.any:=by
 have mem_dropN:∀(l:List Nat) (i j:Nat),i≠j→zc7 j (znr i l)=zc7 j l:=by
  intro l i j hne
  induction l with
  |nil=>rfl
  |cons a t ih =>
   simp only[znr]
   cases hb:Nat.beq a i with
   |true =>
    have e1:=Nat.eq_of_beq_eq_true hb
    have e2:Nat.beq j a=false:=by
     cases hq:Nat.beq j a with
     |false=>rfl
     |true=>have:=Nat.eq_of_beq_eq_true hq;omega
    show zc7 j (znr i t)=match Nat.beq j a with|true=>true|false=>zc7 j t
    rw[e2,ih]
   |false =>
    simp only[zc7]
    rw[ih]
 have off:∀(env:List (Nat×V)) (l:List Nat) (j:Nat),zc7 j l=false→zaw (keepE l env) j=.any:=by
  intro env
  induction env with
  |nil=>intro l j _;rfl
  |cons x t ih =>
   obtain⟨i,v⟩:=x
   intro l j hj
   simp only[keepE]
   cases hm:zc7 i l with
   |false=>exact ih l j hj
   |true =>
    simp only[zc1]
    by_cases c:i=j
    ·subst c;rw[hm]at hj;cases hj
    ·rw[if_neg c];exact ih _ j (by rw[mem_dropN _ _ _ c];exact hj)
 intro env
 induction env with
 |nil=>intro l j;exact .inl rfl
 |cons x t ih =>
  obtain⟨i,v⟩:=x
  intro l j
  by_cases hj:zc7 j l=false
  ·exact .inr (off _ l j hj)
  ·simp only[keepE]
   cases hm:zc7 i l with
   |true =>
    simp only[zc1]
    by_cases c:i=j
    ·exact .inl (by rw[if_pos c,if_pos c])
    ·rw[if_neg c,if_neg c];exact ih _ j
   |false =>
    simp only[zc1]
    by_cases c:i=j
    ·subst c;exact absurd hm hj
    ·rw[if_neg c];exact ih _ j
theorem St.keepE (h:St X I g s a w) (l:List Nat):St X I g {s with env:=VL.keepE l s.env} a w :=
 ⟨h.df,h.sz,fun j=>by
  rcases zwk s.env l j with e|e
  ·rw[show zaw ({s with env:=VL.keepE l s.env}:S).env j=zaw s.env j from e];exact h.slots j
  ·rw[show zaw ({s with env:=VL.keepE l s.env}:S).env j=.any from e];exact .any _,h.heap,h.bound,h.up,h.down,h.own,h.keep,h.fr,h.low⟩
theorem zx5 {n0:Nat} (hl0:∀id,X.K0 id→id<n0) (c:Gh) (h:St X I g s a w) (hk:ydt n0 c s K):∃s' I' g',St X I' g' s' a w∧K s':=by
 unfold ydt at hk
 split at hk
 ·rename_i ids
  obtain⟨s',I',vs',hs',_,hk2,_,_,_⟩:=zew ids s I [] [] _ h ⟨rfl,by simp⟩ hk
  exact⟨s',I',g,hs',hk2⟩
 ·rw[S.withHp_eq]at hk
  exact⟨_,I,g,h.cnv,hk⟩
 ·rename_i id
  split at hk
  ·rename_i x hl
   split at hk
   ·rename_i hn
    rw[S.withHp_eq]at hk
    obtain⟨kk,xs,rfl⟩:∃k xs,x=.nums k xs:=by cases x<;>first|exact⟨_,_,rfl⟩|cases hn
    have hro:=(h.heap.obj id _ (zt hl)).2
    have hro':=hro
    obtain⟨r1,r2⟩:=hro.arr_deep fun cells b cap ty hg hb i j y hi hy=>by
     cases hro' with
     |none _ hg'=>rw[hg]at hg';cases hg'
     |arr _ b' cap' cells' ty' hg' hs hb' hl' hcap hh =>
      rw[hg]at hg';cases hg'
      rw[hb]at hb'
      simp only[Option.some.injEq,Obj.cells.injEq]at hb'
      have e:cells=cells':=by have:=congrArg Array.toList hb'.1;simpa using this
      subst e
      obtain⟨v,e1,e2⟩:=hh i j y hi hy
      cases j with
      |zero =>
       simp only[C.row,List.getElem?_cons_zero,Option.some.injEq]at hy
       subst hy
       cases e2 with
       |int=>exact⟨_,e1,.int _ _,fun _ _ _ e=>by cases e⟩
       |empty _ _ _ hs=>cases hs
       |sl _ _ _ _ _ hs=>cases hs
      |succ j=>simp[C.row]at hy
    exact⟨_,I,g,h.retell (zt hl) (fun e=>by cases e) r1 (fun b hb=>(r2 b hb).elim),hk⟩
   ·split at hk
    ·rename_i h0
     have h0:=Nat.eq_of_beq_eq_true h0
     rw[S.withHp_eq]at hk
     have hro:=(h.heap.obj id _ (zt hl)).2
     obtain⟨r1,r2⟩:=hro.arr_deep fun cells b cap ty hg hb i j y hi hy=>absurd hi (by omega)
     exact⟨_,I,g,h.retell (zt hl) (fun e=>by cases e) r1 (fun b hb=>(r2 b hb).elim),hk⟩
    ·exact hk.elim
  ·exact hk.elim
 ·rename_i id i
  split at hk
  ·rename_i p f x hs hl
   obtain⟨⟨hf,hi⟩,hk⟩:=zv hk
   rcases zi0 hk with ⟨_,_,_,_,hk⟩|⟨hne,hk⟩
   ·exact hk.elim
   ·rw[S.force_eq]at hk
    obtain⟨g',h1⟩:=h.opn hl hf hi hne
    exact⟨_,I,g',h1,hk⟩
  ·exact hk.elim
 ·rename_i id
  split at hk
  ·rename_i p f x i us t hl
   split at hk
   ·rename_i hok
    split at hk
    ·rename_i x' hx
     split at hk
     ·rename_i hnd
      rcases zi0 hk with ⟨_,_,_,_,hk⟩|⟨hne,hk⟩
      ·exact hk.elim
      ·rw[S.force_eq]at hk
       have h1:=h.shut hl hok hx (zcj.1 hnd) hne
       refine⟨_,I,g,?_,hk⟩
       obtain⟨e1,e2,e3,e4⟩:=zxo (zad us) {s with hp:=zac s.hp id (.deep p f x' t)}
       have:({zeq (zad us) {s with hp:=zac s.hp id (.deep p f x' t)} with hp:=zi5 (zad us) (zeq (zad us) {s with hp:=zac s.hp id (.deep p f x' t)}).hp}:S) =
         {s with env:=zb2 (fgs (zad us)) s.env,hp:=zi5 (zad us) (za7 (List.map (fgs (zad us))) (zac s.hp id (.deep p f x' t)))}:=by
        rw[e2]
        generalize hq:zeq (zad us) {s with hp:=zac s.hp id (.deep p f x' t)}=s2 at e1 e3 e4
        obtain⟨nt,nx,env,hp⟩:=s2
        simp only at e1 e3 e4
        subst e1 e3 e4
        rfl
       rw[this];exact h1
     ·exact hk.elim
    ·exact hk.elim
   ·exact hk.elim
  ·exact hk.elim
 ·rename_i id
  split at hk
  ·rename_i x hl
   rw[S.withHp_eq]at hk
   obtain⟨I',h1⟩:=h.thaw hl
   exact⟨_,I',g,h1,hk⟩
  ·exact hk.elim
 ·rename_i id
  split at hk
  ·rename_i p f x hs hl
   obtain⟨hle,hk⟩:=zv hk
   rw[S.withHp_eq]at hk
   obtain⟨r1,r2⟩:=RO.adv hle (h.heap.obj id _ (zt hl)).2
   exact⟨_,I,g,h.retell (ob':=.deep p (f+1) x []) (zt hl) (fun e _=>e) r1 r2,hk⟩
  ·exact hk.elim
 ·rename_i id
  split at hk
  ·rename_i f x hs hl
   split at hk
   ·rename_i hn
    rw[S.withHp_eq]at hk
    exact⟨_,I,g,h.retell (ob':=.deep true f x hs) (zt hl) (fun _ hK=>by have:=hl0 id hK;have:=Nat.le_of_ble_eq_true hn;omega) (h.heap.obj id _ (zt hl)).2.flag (fun b hb=>hb),hk⟩
   ·exact hk.elim
  ·exact hk.elim
 ·rename_i id
  split at hk
  ·rename_i f x hs hl
   rw[S.withHp_eq]at hk
   exact⟨_,I,g,h.retell (ob':=.deep false f x hs) (zt hl) (fun e=>by cases e) (h.heap.obj id _ (zt hl)).2.flag (fun b hb=>hb),hk⟩
  ·exact hk.elim
 ·rename_i id
  split at hk
  ·rename_i x hi vs hl
   split at hk
   ·rename_i h1
    rw[S.withHp_eq]at hk
    have h1:=Nat.eq_of_beq_eq_true h1
    have hro:=(h.heap.obj id _ (zt hl)).2
    obtain⟨r1,r2⟩:=hro.hol_deep h1
    exact⟨_,I,g,h.retell (ob':=.deep false 0 x [(hi,vs)]) (zt hl) (fun e=>by cases e) r1 (fun b hb=>(r2 b hb).elim),hk⟩
   ·exact hk.elim
  ·exact hk.elim
 ·rename_i l
  rw[S.force_eq]at hk
  exact⟨_,I,g,h.keepE l,hk⟩
 ·rename_i d dq z
  split at hk
  ·rename_i hd
   split at hk
   ·rename_i h1 h2
    have h2:=Nat.eq_of_beq_eq_true h2
    obtain⟨g',hg',h3⟩:=h.newNil z h1 h2
    have hv:a.tmps.getD d undef=.slice none 0 0:=by
     have:=h.slots d
     rw[hd]at this
     generalize a.tmps.getD d undef=v at this
     cases this;rfl
    have h4:St X I g' ⟨s.nt,s.nx+1,(d,.slc s.nx)::s.env,(s.nx,.arr z)::s.hp⟩ a w:=⟨h3.df,h3.sz,fun j=>by
     rw[zc1]
     split
     ·rename_i e;subst e
      rw[hv];exact .slc0 _ (Nat.lt_succ_self _) hg'
     ·exact h3.slots j,h3.heap,h3.bound,h3.up,h3.down,h3.own,h3.keep,h3.fr,h3.low⟩
    split at hk
    ·have h5:=h4.retell (id:=s.nx) (ob:=.arr z) (ob':=.deep false 0 z []) List.mem_cons_self (fun e=>by cases e) (.deep0 _ _ _ hg' h1 h2) (fun b hb=>by
      obtain⟨b0,cl,_,_,_,_,hq,_⟩:=hb
      rw[hg']at hq;cases hq)
     refine⟨_,I,g',h5,?_⟩
     have:zac ((s.nx,.arr z)::s.hp) s.nx (.deep false 0 z [])=(s.nx,.deep false 0 z [])::s.hp:=by
      simp only[zac]
      rw[show Nat.beq s.nx s.nx=true from Nat.beq_refl _]
     rw[this];exact hk
    ·exact⟨_,I,g',h4,hk⟩
   ·exact hk.elim
  ·exact hk.elim
 ·rename_i id j dq z
  split at hk
  ·rename_i pre bs post hl
   split at hk
   ·rename_i hj
    split at hk
    ·rename_i h1 h2
     have h2:=Nat.eq_of_beq_eq_true h2
     obtain⟨g',hg',h3⟩:=h.newNil z h1 h2
     have hm:=zt hl
     have hlt:=(h.heap.obj id _ hm).1
     have hm3:(id,O.box pre bs post)∈(s.nx,O.arr z)::s.hp:=List.mem_cons_of_mem _ hm
     have hro:=(h3.heap.obj id _ hm3).2
     have h4:=h3.retell (id:=id) (ob:=.box pre bs post) (ob':=.box (zm3 pre j (.slc s.nx)) bs post) hm3 (fun _ _=>rfl) (hro.boxNil hj (Nat.lt_succ_self _) hg') (fun b hb=>hb.elim)
     have e:zac ((s.nx,O.arr z)::s.hp) id (.box (zm3 pre j (.slc s.nx)) bs post)=(s.nx,O.arr z)::zac s.hp id (.box (zm3 pre j (.slc s.nx)) bs post):=by
      simp only[zac]
      rw[show Nat.beq s.nx id=false from by
       cases q:Nat.beq s.nx id with
       |false=>rfl
       |true=>have:=Nat.eq_of_beq_eq_true q;omega]
     split at hk
     ·have h5:=h4.retell (id:=s.nx) (ob:=.arr z) (ob':=.deep false 0 z []) (by show _∈zac ((s.nx,O.arr z)::s.hp) id _;rw[e];exact List.mem_cons_self) (fun e=>by cases e) (.deep0 _ _ _ hg' h1 h2) (fun b hb=>by
       obtain⟨b0,cl,_,_,_,_,hq,_⟩:=hb
       rw[hg']at hq;cases hq)
      refine⟨_,I,g',h5,?_⟩
      have:zac (zac ((s.nx,O.arr z)::s.hp) id (.box (zm3 pre j (.slc s.nx)) bs post)) s.nx (.deep false 0 z [])=(s.nx,.deep false 0 z [])::zac s.hp id (.box (zm3 pre j (.slc s.nx)) bs post):=by
       rw[e]
       simp only[zac]
       rw[show Nat.beq s.nx s.nx=true from Nat.beq_refl _]
      show K ⟨s.nt,s.nx+1,s.env,zac (zac ((s.nx,O.arr z)::s.hp) id (.box (zm3 pre j (.slc s.nx)) bs post)) s.nx (.deep false 0 z [])⟩
      rw[this];exact hk
     ·refine⟨_,I,g',h4,?_⟩
      show K ⟨s.nt,s.nx+1,s.env,zac ((s.nx,O.arr z)::s.hp) id (.box (zm3 pre j (.slc s.nx)) bs post)⟩
      rw[e];exact hk
    ·exact hk.elim
   ·exact hk.elim
  ·exact hk.elim
 ·rename_i id k n
  split at hk
  ·rename_i pre post hl
   split at hk
   ·rename_i bs hb
    split at hk
    ·rename_i hle
     rw[S.withHp_eq]at hk
     exact⟨_,I,g,h.retell (ob':=.box (pre.take k) bs (pre.drop (k+n)++post)) (zt hl) (fun _ _=>rfl) ((h.heap.obj id _ (zt hl)).2.boxBs hb (Nat.le_of_ble_eq_true hle)) (fun b hb=>hb.elim),hk⟩
    ·exact hk.elim
   ·exact hk.elim
  ·exact hk.elim
theorem zmz {n0:Nat} (hl0:∀id,X.K0 id→id<n0):∀(l:List Gh) {s:S} {I:Nat→Prop} {g:Gam},St X I g s a w→vgh n0 l s K→∃s' I' g',St X I' g' s' a w∧K s':=by
 intro l
 induction l with
 |nil=>intro s I g h hk;exact⟨s,I,g,h,hk⟩
 |cons c t ih =>
  intro s I g h hk
  obtain⟨s1,I1,g1,h1,hk1⟩:=zx5 hl0 c h hk
  exact ih h1 hk1
theorem Sat.ent {s':S} (h:Sat X s a w) {n0:Nat} (he:Ent n0 s s') (hl0:∀id,X.K0 id→id<n0) (hlow:∀id,X.K0 id→id<s'.nx):Sat X s' a w:=by
 unfold Ent at he
 obtain⟨l,fz,bk,he⟩:=he
 obtain⟨I0,g0,h⟩:=h
 obtain⟨s,I,g,h,he⟩:=zmz hl0 l h he
 obtain⟨s1,I1,vs1,hs,_,⟨e1,e2,e3,e4,e5,e6,e7,e8,e9⟩,hI,hnx,hnt⟩:=zew fz s I [] [] _ h ⟨rfl,by simp⟩ he
 replace hs:=hs.cnv
 have hnd:=zcj.1 e4
 have hlen:=Nat.le_of_ble_eq_true e5
 have hH:=hs.heap.rename hnd hlen e2 e7 e8
 refine⟨I1,fun i=>g (rnf bk i),hs.df,by rw[←e3];exact hs.sz,fun j=>?_,hH,hs.bound,hs.up,hs.down,?_,?_,hs.fr,hlow⟩
 ·rcases zzo e1 j with h1|h1
  ·rw[h1];exact .any _
  ·exact(V.nrm_RV h1 (hs.slots j)).unren _ rfl (zuz e6 j)
 ·rintro b ⟨i,o,hmi,hg⟩
  obtain⟨o',h1,h2⟩:=zjq e2 i o hmi
  exact hs.own b ⟨_,o',zt h1,hg.ren.nrm h2⟩
 ·intro i o hmi hb hK
  have hst:=zpl e9 i o hmi hb (hl0 i hK)
  obtain⟨o',h1,h2⟩:=zjq e2 i o hmi
  have hb':o'.isBox=true:=by rw[O.nrm_box h2,O.isBox_map];exact hb
  show g (rnf bk i)=X.g0 i
  have:=hs.keep _ _ (zt h1) hb' (by rw[hst];exact hK)
  rw[hst]at this⊢;exact this
end
end Go.VL
namespace Go.VL
set_option linter.unusedVariables false
set_option linter.unusedSimpArgs false
section
variable {P : Program} {T : TT} {X : Cx} {I : Nat → Prop} {g : Gam} {s : S} {a : Act} {w : World} {o : Oper} {K : S → Prop}
 {N:Act→World→Prop} {Q:Exit→Act→World→Prop}
def zna (P:Program) (T:TT):Prop :=
 ∀(X:Cx) (id:Nat) (ops:Array Oper) (s:S) (a:Act) (w:World) (K:S→Prop) (Q:Exit→Act→World→Prop),Sat X s a w→zse T P ops.toList s K →
  (∀s' a' w',Sat X s' a' w'→K s'→Q .normal a' w')→(Code.region id ops true).wp P Q a w
theorem zus {n0:Nat} (hl0:∀id,X.K0 id→id<n0) {s:S} {a:Act} {w:World} {K:S→Prop} (h:Sat X s a w) (hk:vpreI n0 s K):∃s',Sat X s' a w∧K s':=by
 unfold vpreI at hk
 obtain⟨l,hk⟩:=hk
 obtain⟨I,g,hs⟩:=h
 obtain⟨s',I',g',hs',hk2⟩:=zmz hl0 l hs hk
 exact⟨s',⟨I',g',hs'⟩,hk2⟩
theorem zpo {n0:Nat} (hl0:∀id,X.K0 id→id<n0) {s:S} {a:Act} {w:World} {K:S→Prop} (h:Sat X s a w) (hk:zop n0 s K):∃s',Sat X s' a w∧K s':=by
 unfold zop at hk
 split at hk
 ·exact⟨s,h,hk⟩
 ·unfold vpreI at hk
  obtain⟨l,hk⟩:=hk
  obtain⟨I,g,hs⟩:=h
  obtain⟨s',I',g',hs',hk2⟩:=zmz hl0 l hs hk
  exact⟨s',⟨I',g',hs'⟩,hk2⟩
theorem zxd (hT:TOk P T) (hE:EOk P T) (hD:zna P T) (n0:Nat) (hlow:∀id,X.K0 id→id<n0) (c:Code):∀{Qv:Exit→S→Prop} {Q:Exit→Act→World→Prop} {s:S} {a:Act} {w:World},Sat X s a w→vwp n0 T P c Qv s →
  (∀e s' a' w',Sat X s' a' w'→Qv e s'→Q e a' w')→c.wp P Q a w:=by
 induction c with
 |skip=>intro Qv Q s a w h hk hQ;exact wp_skip (hQ _ _ _ _ h hk)
 |region id ops draw =>
  intro Qv Q s a w h hk hQ
  cases draw with
  |true =>
   have hk:vpreI n0 s fun s=>zse T P ops.toList s (Qv .normal):=hk
   obtain⟨s1,h1,hk1⟩:=zus hlow h hk
   exact hD X id ops s1 a w _ Q h1 hk1 fun s' a' w' h' hk'=>hQ _ _ _ _ h' hk'
  |false =>
   have hk:zop n0 s fun s=>vops T P ops.toList ops.toList s (Qv .normal):=hk
   obtain⟨s1,h1,hk1⟩:=zpo hlow h hk
   exact wp_region_list (zx8 hT hE ops.toList h1 hk1 fun s' a' w' h' hk'=>hQ _ _ _ _ h' hk')
 |seq x y ihx ihy =>
  intro Qv Q s a w h hk hQ
  refine wp_seq (ihx h hk fun e s' a' w' h' hk'=>?_)
  cases e with
  |normal=>exact ihy h' hk' hQ
  |_=>exact hQ _ _ _ _ h' hk'
 |cond c x y ihx ihy =>
  intro Qv Q s a w h hk hQ
  obtain⟨I,g,hs⟩:=h
  have hc:=hs.eval c
  have hk:zw3 c (vwp n0 T P x) (vwp n0 T P y) Qv s:=hk
  unfold zw3 at hk
  split at hk
  ·rename_i he;rw[he]at hc;exact wp_cond_true hc.tt_inv (ihx ⟨I,g,hs⟩ hk hQ)
  ·rename_i he;rw[he]at hc;exact wp_cond_false hc.ff_inv (ihy ⟨I,g,hs⟩ hk hQ)
  ·rename_i p he
   rw[he]at hc
   obtain⟨k1,k2⟩:=zd8 hk
   exact wp_cond_split hc.bool_inv (fun hp=>ihx ⟨I,g,hs⟩ (k1 hp) hQ) (fun hp=>ihy ⟨I,g,hs⟩ (k2 hp) hQ)
  ·exact hk.elim
 |block id c ih =>
  intro Qv Q s a w h hk hQ
  refine wp_block (ih h hk fun e s' a' w' h' hk'=>?_)
  cases e with
  |exit i =>
   simp only[Exit.inBlock]
   simp only at hk'
   split at hk'
   ·rename_i he
    rw[if_pos (Nat.eq_of_beq_eq_true he)];exact hQ _ _ _ _ h' hk'
   ·rename_i he
    rw[if_neg (Nat.ne_of_beq_eq_false he)];exact hQ _ _ _ _ h' hk'
  |_=>exact hQ _ _ _ _ h' hk'
 |loop c ih =>
  intro Qv Q s a w h hk hQ
  have hk:vloop n0 (vwp n0 T P c) Qv s:=hk
  unfold vloop at hk
  obtain⟨ι,st,μ,i0,hn,h0,hr⟩:=hk
  refine wp_loop_ghost (fun n a w=>∃i,μ i=n∧Sat X (st i) a w) (μ i0) ⟨i0,rfl,h.ent h0 hlow fun id hid=>Nat.lt_of_lt_of_le (hlow id hid) (hn i0)⟩ ?_
  rintro n a w ⟨i,rfl,hi⟩
  refine ih hi (hr i) fun e s' a' w' h' hk'=>?_
  cases e with
  |normal =>
   obtain⟨i',he,hlt⟩:=hk'
   exact⟨μ i',hlt,i',rfl,h'.ent he hlow fun id hid=>Nat.lt_of_lt_of_le (hlow id hid) (hn i')⟩
  |_=>exact hQ _ _ _ _ h' hk'
 |exit id=>intro Qv Q s a w h hk hQ;exact wp_exit (hQ _ _ _ _ h hk)
 |ret=>intro Qv Q s a w h hk hQ;exact wp_ret (hQ _ _ _ _ h hk)
 |rangeFunc=>intro Qv Q s a w h hk hQ;exact hk.elim
 |scope=>intro Qv Q s a w h hk hQ;exact hk.elim
 |label=>intro Qv Q s a w h hk hQ;exact hk.elim
 |goto=>intro Qv Q s a w h hk hQ;exact hk.elim
 |refuse=>intro Qv Q s a w h hk hQ;exact hk.elim
def zmt (tmps:Array Value):ResultVar→Sem Value
 |.tmp t=>pure (tmps.getD t undef)
 |.cell x t=>do loadVar t (←asAddr (tmps.getD x undef))
theorem zwz (fn:Func) (tmps:Array Value):results fn tmps=(do let vs ←fn.results.mapM (zmt tmps);pure (if h:vs.size=1 then vs[0]else .tuple vs)):=by
 unfold results
 congr 1
theorem zua (hT:TOk P T) (h:St X I g s a w) (rs:List ResultVar):∀{KV:List V→Prop},ze5 T s rs KV →
  ∃ys vals,(rs.mapM (zmt a.tmps)).run P w=.ok vals w∧RVs I g s.nx w ys vals∧KV ys:=by
 induction rs with
 |nil=>intro KV hk;exact⟨[],[],by simp,⟨rfl,by simp⟩,hk⟩
 |cons r t ih =>
  intro KV hk
  cases r with
  |tmp k =>
   simp only[ze5,V.force_eq]at hk
   obtain⟨ys,vals,r1,r2,r3⟩:=ih hk
   refine⟨zaw s.env k::ys,a.tmps.getD k undef::vals,?_,⟨by simp[r2.1],fun i x v hx hv=>?_⟩,r3⟩
   ·simp only[List.mapM_cons,Sem.run_bind,zmt,Sem.run_pure,Result.andThen_ok,r1]
   ·cases i with
    |zero=>cases hx;cases hv;exact h.slots k
    |succ i=>exact r2.2 i x v (by simpa using hx) (by simpa using hv)
  |cell k ty =>
   simp only[ze5]at hk
   obtain⟨y,val,r1,r2,r3⟩:=znb hT h.heap (h.slots k) hk
   obtain⟨ys,vals,q1,q2,q3⟩:=ih r3
   refine⟨y::ys,val::vals,?_,⟨by simp[q2.1],fun i x v hx hv=>?_⟩,q3⟩
   ·have:(zmt a.tmps (.cell k ty)).run P w=.ok val w:=by
     show(do loadVar ty (←asAddr (a.tmps.getD k undef)):Sem Value).run P w=_
     have hs:=h.slots k
     generalize a.tmps.getD k undef=vv at r1 hs⊢
     cases vv with
     |pointer p =>
      cases p with
      |some p=>simpa [Instr.loadAt,Instr.sureAddr,asAddr]using r1
      |none=>simp[Instr.loadAt,Instr.sureAddr]at r1
     |_=>simp[Instr.loadAt,Instr.sureAddr]at r1
    simp only[List.mapM_cons,Sem.run_bind,this,Sem.run_pure,Result.andThen_ok,q1]
   ·cases i with
    |zero=>cases hx;cases hv;exact r2
    |succ i=>exact q2.2 i x v (by simpa using hx) (by simpa using hv)
theorem zuv (hT:TOk P T) (h:St X I g s a w) {fn:Func} {KV:List V→Prop} (hk:ze5 T s fn.results.toList KV) :
  ∃ys val,(results fn a.tmps).run P w=.ok val w∧RV I g s.nx w (zdq ys) val∧KV ys:=by
 obtain⟨ys,vals,r1,r2,r3⟩:=zua hT h fn.results.toList hk
 have hm:(fn.results.mapM (zmt a.tmps)).run P w=.ok vals.toArray w:=by
  rw[Array.mapM_eq_mapM_toList]
  simp only[Sem.run_map,r1,Result.andThen_ok]
 have hr:(results fn a.tmps).run P w=.ok (if h:vals.toArray.size=1 then vals.toArray[0]else .tuple vals.toArray) w:=by
  rw[zwz]
  simp only[Sem.run_bind]
  rw[hm]
  rfl
 refine⟨ys,_,hr,?_,r3⟩
 match ys,vals,r2 with
 |[],[],r2=>exact .tup [] [] rfl (by simp)
 |[y],[v],r2=>exact r2.2 0 y v rfl rfl
 |y1::y2::ys,v1::v2::vs,r2 =>
  have:¬(v1::v2::vs).toArray.size=1:=by simp
  rw[dif_neg this]
  exact .tup _ _ r2.1 r2.2
 |[],v::vs,r2=>have:=r2.1;simp at this
 |y::ys,[],r2=>have:=r2.1;simp at this
 |[y],v1::v2::vs,r2=>have:=r2.1;simp at this
 |y1::y2::ys,[v],r2=>have:=r2.1;simp at this
theorem zwt (args:List V):∀(k j:Nat),zaw (zk8 args k) j=if k≤j then(args[j-k]?).getD .any else .any:=by
 induction args with
 |nil=>intro k j;simp[zk8,zaw]
 |cons v t ih =>
  intro k j
  simp only[zk8,zc1,ih]
  by_cases h1:k=j
  ·subst h1;simp
  ·by_cases h2:k≤j
   ·rw[if_neg h1,if_pos (by omega),if_pos h2,show j-k=(j-(k+1))+1 from by omega,List.getElem?_cons_succ]
   ·rw[if_neg h1,if_neg (by omega),if_neg h2]
theorem zk4 (hT:TOk P T) (hE:EOk P T) (hD:zna P T) {f n:Nat} {fn:Func} {c:Code} {args:List V} {hin:List (Nat×O)} {R:Nat→V→List (Nat×O)→Prop} {E:S→V→Prop} (hER:∀s v,E s v→vendX n hin R s v)
  (hf : P.funcs[f]? = some fn) (hname : (fn.name == "runtime.NumGoroutine") = false) (hb : fn.body = some c) (hnt : Nat.ble args.length fn.ntmps = true)
  (h:zud T P fn c n args E hin):zce P f n args hin R:=by
 refine⟨⟨fn,hf,hname,by rw[hb];rfl⟩,fun W I g argv hI hH hlen hargs=>?_⟩
 have hnt:=Nat.le_of_ble_eq_true hnt
 refine calls_of_wp hf hb ?_
 let X:Cx:=⟨W,I,Dom g W hin,fun id=>∃o,(id,o)∈hin∧o.isBox=true,g⟩
 have h0:Sat X {nt:=fn.ntmps,nx:=n,env:=zk8 args 0,hp:=hin} {tmps:=argv.toArray++Array.replicate (fn.ntmps-argv.toArray.size) undef,defers:=[]} W:=by
  refine⟨I,g,rfl,by simp;omega,fun j=>?_,hH,hI,fun _ h=>h,fun b hb=>.inl hb,fun b hb=>.inr hb,fun id o hm hb hK=>rfl,⟨rfl,rfl,rfl,Nat.le_refl _,fun _ _ _=>rfl⟩,fun id ⟨o,hm,_⟩=>(hH.obj id o hm).1⟩
  show RV I g n W (zaw (zk8 args 0) j) _
  rw[zwt,if_pos (Nat.zero_le j),Nat.sub_zero]
  cases hq:args[j]? with
  |none=>exact .any _
  |some x =>
   have hj:j<args.length:=(List.getElem?_eq_some_iff.1 hq).1
   have hj':j<argv.length:=by omega
   have:(argv.toArray++Array.replicate (fn.ntmps-argv.toArray.size) undef).getD j undef=argv[j]:=by
    rw[Array.getD_eq_getD_getElem?,Array.getElem?_append_left (by simpa using hj')]
    simp[hj']
   rw[this]
   exact hargs j x _ hq (List.getElem?_eq_getElem hj')
 have hK:∀id,X.K0 id→id<n:=fun id hid=>by obtain⟨o,hm,_⟩:=hid;exact(hH.obj id o hm).1
 have hend:∀e s' a' w',Sat X s' a' w'→(e=.normal∨e=.ret)→(zop n s' fun s'=>ze5 T s' fn.results.toList fun vs=>E s' (zdq vs))→bodyPost P fn (fun e w'=>∃m res hout,R m res hout∧zte W I g hin m res hout e w') e a' w':=by
  rintro e s' a' w' hs0 he hk0
  obtain⟨s',⟨I1,g1,hs⟩,hk⟩:=zpo hK hs0 hk0
  obtain⟨ys,val,r1,r2,r3⟩:=zuv hT hs hk
  replace r3:=hER _ _ r3
  unfold vendX at r3
  obtain⟨m,res,hout,hR,hst0,r3⟩:=r3
  unfold vend at r3
  obtain⟨fz,bk,r3⟩:=r3
  obtain⟨s2,I2,vs2,hs2,hv2,⟨k1,k2,k3,k4,k5,k6,k7,k8⟩,hI2,hnx,hnt2⟩:=zew fz s' I1 [zdq ys] [val] _ hs ⟨rfl,fun i x v hx hv=>by
   cases i with
   |zero=>cases hx;cases hv;exact r2
   |succ i=>simp at hx⟩ r3
  replace hs2:=hs2.cnv
  have hnd:=zcj.1 k3
  have hlen2:=Nat.eq_of_beq_eq_true k4
  have hH2:=hs2.heap.rename hnd (Nat.le_of_eq hlen2) k2 k6 k7
  have hres:RV I2 (fun i=>g1 (rnf bk i)) m w' res val:=by
   split at k1
   ·rename_i v
    have:=hv2.2 0 _ _ rfl rfl
    exact(V.nrm_RV k1 this).unren res rfl k5
   ·exact k1.elim
  have hP:a'.defers=[]∧∃v,(results fn a'.tmps).run P w'=.ok v w'∧∃m res hout,R m res hout∧zte W I g hin m res hout (.returned v) w':=by
   refine⟨hs.df,val,r1,m,res,hout,hR,val,I2,fun i=>g1 (rnf bk i),rfl,hs2.up,hs2.down,hs2.bound,hH2,hres,fun id o o' hmi hmo hbx=>?_,?_,hs2.fr⟩
   ·have hst:=zpl k8 id o' hmo hbx (hH.obj id o hmi).1
    obtain⟨o2,h1,h2⟩:=zjq k2 id o' hmo
    rw[hst]at h1
    show g1 (rnf bk id)=g id
    rw[hst]
    have hb2:o2.isBox=true:=by rw[O.nrm_box h2,O.isBox_map];exact hbx
    by_cases hob:o.isBox=true
    ·exact hs2.keep id o2 (zt h1) hb2 ⟨o,hmi,hob⟩
    ·exact(hob (zk1 hst0 id o' hmo hbx o (zco hH.nodup hmi))).elim
   ·rintro b ⟨i,o',hmi,hg⟩
    obtain⟨o2,h1,h2⟩:=zjq k2 i o' hmi
    exact hs2.own b ⟨_,o2,zt h1,hg.ren.nrm h2⟩
  rcases he with rfl|rfl
  ·exact hP
  ·exact hP
 refine zxd (X:=X) hT hE hD n hK c h0 h fun e s' a' w' hs hk=>?_
 cases e with
 |normal=>exact hend _ _ _ _ hs (.inl rfl) hk
 |ret=>exact hend _ _ _ _ hs (.inr rfl) hk
 |_=>exact hk.elim
theorem zp9 (hT:TOk P T) (hE:EOk P T) (hD:zna P T) {f n:Nat} {fn:Func} {c:Code} {args:List V} {hin:List (Nat×O)} {R:Nat→V→List (Nat×O)→Prop}
  (hf : P.funcs[f]? = some fn) (hname : (fn.name == "runtime.NumGoroutine") = false) (hb : fn.body = some c) (hnt : Nat.ble args.length fn.ntmps = true)
  (h:zti T P fn c n args hin R):zce P f n args hin R:=zk4 hT hE hD (fun _ _ h=>h) hf hname hb hnt h
theorem zr6 (hT:TOk P T) (hE:EOk P T) (hD:zna P T) {f n m:Nat} {fn:Func} {c:Code} {args:List V} {hin hout:List (Nat×O)} {res:V}
  (hf : P.funcs[f]? = some fn) (hname : (fn.name == "runtime.NumGoroutine") = false) (hb : fn.body = some c) (hnt : Nat.ble args.length fn.ntmps = true) (hst : za3 hin hout = true)
  (h:zwv T P fn c n args hin m res hout):zr P f n args hin m res hout:=by
 have hx:zce P f n args hin fun m' res' hout'=>m'=m∧res'=res∧hout'=hout :=
  zk4 hT hE hD (E:=fun s v=>vend n m res hout s v) (fun s v h=>by unfold vendX;exact⟨m,res,hout,⟨rfl,rfl,rfl⟩,hst,h⟩) hf hname hb hnt h
 refine⟨hx.1,fun W I g argv h1 h2 h3 h4=>(hx.2 W I g argv h1 h2 h3 h4).mono fun e w' he=>?_⟩
 obtain⟨m',res',hout',⟨rfl,rfl,rfl⟩,he⟩:=he
 exact he
end
end Go.VL
namespace Go.VL
set_option linter.unusedVariables false
set_option linter.unusedSimpArgs false
section
variable {P : Program} {T : TT} {X : Cx} {I : Nat → Prop} {g : Gam} {s : S} {a : Act} {w : World} {o : Oper} {K : S → Prop}
 {N:Act→World→Prop} {Q:Exit→Act→World→Prop}
theorem zdo {xs:List V} {i:Nat}:i∈za9 xs↔∃x∈xs,i∈V.ids x:=by
 induction xs with
 |nil=>simp[za9]
 |cons x t ih=>simp[za9,ih]
theorem zgu {xs:List V} {k:Nat} {x:V} (h:xs[k]? = some x) {i:Nat} (hi:i∈V.ids x):i∈za9 xs :=
 zdo.2 ⟨x,List.mem_of_getElem? h,hi⟩
theorem RV.ids_lt {n:Nat} {v:V} {val:Value} (h:RV I g n w v val):∀i∈v.ids,i<n:=by
 induction h with
 |ptr id i st j b cl hn hg=>intro k hk;simp[V.ids]at hk;omega
 |slc id len b cap hn hg=>intro k hk;simp[V.ids]at hk;omega
 |slc0 id hn hg=>intro k hk;simp[V.ids]at hk;omega
 |agg xs vs hl h ih =>
  intro i hi
  simp only[V.ids]at hi
  obtain⟨x,hx,hi⟩:=zdo.1 hi
  obtain⟨k,hk⟩:=List.getElem?_of_mem hx
  have hlt:k<vs.length:=by rw[←hl];exact(List.getElem?_eq_some_iff.1 hk).1
  exact ih k x _ hk (List.getElem?_eq_getElem hlt) i hi
 |tup xs vs hl h ih =>
  intro i hi
  simp only[V.ids]at hi
  obtain⟨x,hx,hi⟩:=zdo.1 hi
  obtain⟨k,hk⟩:=List.getElem?_of_mem hx
  have hlt:k<vs.length:=by rw[←hl];exact(List.getElem?_eq_some_iff.1 hk).1
  exact ih k x _ hk (List.getElem?_eq_getElem hlt) i hi
 |fn f xs vs hl h ih =>
  intro i hi
  simp only[V.ids]at hi
  obtain⟨x,hx,hi⟩:=zdo.1 hi
  obtain⟨k,hk⟩:=List.getElem?_of_mem hx
  have hlt:k<vs.length:=by rw[←hl];exact(List.getElem?_eq_some_iff.1 hk).1
  exact ih k x _ hk (List.getElem?_eq_getElem hlt) i hi
 |_=>intro k hk;simp[V.ids]at hk
theorem RV.move {n n':Nat} {g':Gam} {v:V} {val:Value} (h:RV I g n w v val):(∀i∈v.ids,i<n'∧g' i=g i)→RV I g' n' w v val:=by
 induction h with
 |any v=>intro _;exact .any v
 |tt=>intro _;exact .tt
 |ff=>intro _;exact .ff
 |nil=>intro _;exact .nil
 |c x v h=>intro _;exact .c x v h
 |iptr row b off val hI hc hr=>intro _;exact .iptr row b off val hI hc hr
 |ptr id i st j b cl hn hg=>intro hi;obtain⟨h1,h2⟩:=hi id (by simp[V.ids]);exact .ptr id i st j b cl h1 (h2.trans hg)
 |slc id len b cap hn hg=>intro hi;obtain⟨h1,h2⟩:=hi id (by simp[V.ids]);exact .slc id len b cap h1 (h2.trans hg)
 |slc0 id hn hg=>intro hi;obtain⟨h1,h2⟩:=hi id (by simp[V.ids]);exact .slc0 id h1 (h2.trans hg)
 |agg xs vs hl h ih=>intro hi;exact .agg xs vs hl fun k x v hx hv=>ih k x v hx hv fun i h1=>hi i (by simp only[V.ids];exact zgu hx h1)
 |tup xs vs hl h ih=>intro hi;exact .tup xs vs hl fun k x v hx hv=>ih k x v hx hv fun i h1=>hi i (by simp only[V.ids];exact zgu hx h1)
 |fn f xs vs hl h ih=>intro hi;exact .fn f xs vs hl fun k x v hx hv=>ih k x v hx hv fun i h1=>hi i (by simp only[V.ids];exact zgu hx h1)
theorem zrh {hs:List (Nat×List V)} {k:Nat} {us:List V} (hm:(k,us)∈hs) {i:Nat} (hi:i∈za9 us):i∈zia hs:=by
 induction hs with
 |nil=>cases hm
 |cons q t ih =>
  obtain⟨a,b⟩:=q
  simp only[zia,List.mem_append]
  rcases List.mem_cons.1 hm with hm|hm
  ·cases hm;exact .inl hi
  ·exact .inr (ih hm)
theorem zr1 {hs:List (Nat×List V)} {i:Nat} (hi:i∈zia hs):∃k us,(k,us)∈hs∧i∈za9 us:=by
 induction hs with
 |nil=>simp[zia]at hi
 |cons q t ih =>
  obtain⟨a,b⟩:=q
  simp only[zia,List.mem_append]at hi
  rcases hi with hi|hi
  ·exact⟨a,b,List.mem_cons_self,hi⟩
  ·obtain⟨k,us,h1,h2⟩:=ih hi;exact⟨k,us,List.mem_cons_of_mem _ h1,h2⟩
theorem RO.move {n n' id id':Nat} {g':Gam} {ob:O} (h:RO I g n w id ob) (hid:g' id'=g id) (hi:∀i∈ob.ids,i<n'∧g' i=g i):RO I g' n' w id' ob:=by
 cases h with
 |box pre bs post b cl cells ty hg hb hl h1 h2 h3 =>
  exact .box pre bs post b cl cells ty (hid.trans hg) hb hl (fun k x v hx hv=>(h1 k x v hx hv).move fun i h=>hi i (by simp only[O.ids];exact List.mem_append_left _ (zgu hx h))) h2
   (fun k x v hx hv=>(h3 k x v hx hv).move fun i h=>hi i (by simp only[O.ids];exact List.mem_append_right _ (zgu hx h)))
 |none x hg hs h0=>exact .none x (hid.trans hg) hs h0
 |arr x b cap cells ty hg hs hb hl hcap h ht=>exact .arr x b cap cells ty (hid.trans hg) hs hb hl hcap h ht
 |hol x hi' vs b cap cells ty hg hs hb hl hcap hhi hv h h2 ht =>
  exact .hol x hi' vs b cap cells ty (hid.trans hg) hs hb hl hcap hhi hv h (fun j hj =>
   let ⟨u,v,a1,a2,a3,a4⟩:=h2 j hj;⟨u,v,a1,a2,a3,a4.move fun i hm=>hi i (by simp only[O.ids];exact zgu a1 hm)⟩) ht
 |deep0 p f x hg hs h0=>exact .deep0 p f x (hid.trans hg) hs h0
 |deep p f x hs b cap cells ty hg hsl hb hl hcap hh hkn ht h2 hd hty =>
  exact .deep p f x hs b cap cells ty (hid.trans hg) hsl hb hl hcap hh hkn ht (fun k us hm j hj =>
   let ⟨u,v,a1,a2,a3,a4⟩:=h2 k us hm j hj;⟨u,v,a1,a2,a3,a4.move fun i hm'=>hi i (by simp only[O.ids];exact zrh hm (zgu a1 hm'))⟩) hd hty
theorem RO.ids_lt {n id:Nat} {ob:O} (h:RO I g n w id ob):∀i∈ob.ids,i<n:=by
 cases h with
 |box pre bs post b cl cells ty hg hb hl h1 h2 h3 =>
  intro i hi
  simp only[O.ids]at hi
  rcases List.mem_append.1 hi with hi|hi
  ·obtain⟨x,hx,hi⟩:=zdo.1 hi
   obtain⟨k,hk⟩:=List.getElem?_of_mem hx
   have:=(List.getElem?_eq_some_iff.1 hk).1
   exact(h1 k x _ hk (List.getElem?_eq_getElem (by omega))).ids_lt i hi
  ·obtain⟨x,hx,hi⟩:=zdo.1 hi
   obtain⟨k,hk⟩:=List.getElem?_of_mem hx
   have:=(List.getElem?_eq_some_iff.1 hk).1
   exact(h3 k x _ hk (List.getElem?_eq_getElem (by omega))).ids_lt i hi
 |hol x hi' vs b cap cells ty hg hs hb hl hcap hhi hv h h2 =>
  intro i hi
  simp only[O.ids]at hi
  obtain⟨x,hx,hi⟩:=zdo.1 hi
  obtain⟨k,hk⟩:=List.getElem?_of_mem hx
  have:=(List.getElem?_eq_some_iff.1 hk).1
  obtain⟨u,v,a1,a2,a3,a4⟩:=h2 k (by omega)
  rw[hk]at a1;cases a1
  exact a4.ids_lt i hi
 |deep p f x hs b cap cells ty hg hsl hb hl hcap hh hkn ht h2 hd hty =>
  intro i hi
  simp only[O.ids]at hi
  obtain⟨q,us,hm,hi⟩:=zr1 hi
  obtain⟨x,hx,hi⟩:=zdo.1 hi
  obtain⟨k,hk⟩:=List.getElem?_of_mem hx
  have:=(List.getElem?_eq_some_iff.1 hk).1
  obtain⟨u,v,a1,a2,a3,a4⟩:=h2 q us hm k (by rw[←(hh q us hm).2];exact this)
  rw[hk]at a1;cases a1
  exact a4.ids_lt i hi
 |_=>intro i hi;simp[O.ids,zia]at hi
theorem zcp (dst:Option Nat) (v:V) (env:List (Nat×V)) (j:Nat):zaw (zcb dst v env) j=if dst=some j then v else zaw env j:=by
 cases dst with
 |none=>rfl
 |some d=>simp only[zcb,zc1,Option.some.injEq]
mutual
theorem V.ids_of_lt {n:Nat}:∀{v:V},v.idsLt n=true→∀i∈v.ids,i<n
 |.ptr i a b c,h,j,hj=>by simp only[V.ids,List.mem_singleton]at hj;simp only[V.idsLt,Nat.blt_eq]at h;omega
 |.slc i,h,j,hj=>by simp only[V.ids,List.mem_singleton]at hj;simp only[V.idsLt,Nat.blt_eq]at h;omega
 |.agg xs,h,j,hj=>by simp only[V.ids]at hj;simp only[V.idsLt]at h;exact zi4 h j hj
 |.tup xs,h,j,hj=>by simp only[V.ids]at hj;simp only[V.idsLt]at h;exact zi4 h j hj
 |.fn f xs,h,j,hj=>by simp only[V.ids]at hj;simp only[V.idsLt]at h;exact zi4 h j hj
 |.any,_,j,hj=>by simp[V.ids]at hj
 |.tt,_,j,hj=>by simp[V.ids]at hj
 |.ff,_,j,hj=>by simp[V.ids]at hj
 |.nil,_,j,hj=>by simp[V.ids]at hj
 |.c _,_,j,hj=>by simp[V.ids]at hj
 |.iptr _,_,j,hj=>by simp[V.ids]at hj
theorem zi4 {n:Nat}:∀{xs:List V},zz n xs=true→∀i∈za9 xs,i<n
 |[],_,j,hj=>by simp[za9]at hj
 |x::t,h,j,hj=>by
  simp only[zz]at h
  split at h
  ·rename_i h1
   simp only[za9,List.mem_append]at hj
   rcases hj with hj|hj
   ·exact V.ids_of_lt h1 j hj
   ·exact zi4 h j hj
  ·cases h
end
def Ef.bump (dst:Option Nat) (e:Ef) (s:S):S :=
 match e with
 |.new st h ob=>⟨s.nt,s.nx+1,zcb dst (Ef.val? s.nx (.new st h ob)) s.env,(s.nx,ob)::s.hp⟩
 |.fx sets news _ st _=>⟨s.nt,s.nx+news.length,zcb dst (st.ren fun j=>s.nx+j) s.env,zbm (fun j=>s.nx+j) (zak 0 news)++zdv sets s.hp⟩
 |.mv id z=>⟨s.nt,s.nx+1,zcb dst (.slc s.nx) s.env,(s.nx,.arr z)::zbx s.hp id⟩
 |e=>e.apply 0 dst s
theorem zee {hp:List (Nat×O)} {id i:Nat} {o:O} (h:(i,o)∈zbx hp id):(i,o)∈hp∧i≠id:=by
 induction hp with
 |nil=>cases h
 |cons q t ih =>
  obtain⟨k,v⟩:=q
  simp only[zbx]at h
  split at h
  ·obtain⟨h1,h2⟩:=ih h;exact⟨List.mem_cons_of_mem _ h1,h2⟩
  ·rename_i hk
   rcases List.mem_cons.1 h with h|h
   ·cases h;exact⟨List.mem_cons_self,Nat.ne_of_beq_eq_false hk⟩
   ·obtain⟨h1,h2⟩:=ih h;exact⟨List.mem_cons_of_mem _ h1,h2⟩
theorem zjd (hp:List (Nat×O)) (id:Nat):(zbx hp id).Sublist hp:=by
 induction hp with
 |nil=>exact List.Sublist.refl _
 |cons q t ih =>
  obtain⟨k,v⟩:=q
  simp only[zbx]
  split
  ·exact ih.cons _
  ·exact ih.cons_cons _
theorem zlq (hp:List (Nat×O)) (id i:Nat):zq (zbx hp id) i=if id=i then none else zq hp i:=by
 induction hp with
 |nil=>simp[zbx,zq]
 |cons q t ih =>
  obtain⟨k,v⟩:=q
  simp only[zbx]
  split
  ·rename_i hk
   have hk:=Nat.eq_of_beq_eq_true hk
   subst hk
   rw[ih,zaz]
   by_cases c:k=i
   ·rw[if_pos c,if_pos c]
   ·rw[if_neg c,if_neg c,if_neg c]
  ·rename_i hk
   have hk:=Nat.ne_of_beq_eq_false hk
   rw[zaz,zaz,ih]
   by_cases c:k=i
   ·rw[if_pos c,if_pos c,if_neg (fun e=>hk (c.trans e.symm))]
   ·rw[if_neg c,if_neg c]
theorem Sat.rename {st:V} {hst:st.idsLt 1=true} {ob:O} {dst:Option Nat} {a':Act} {w':World} (h:St X I g s a w) {k:Nat} (hk:k<s.nx) (hkey:zq s.hp k=none)
  (henv:∀j,k∉(zaw s.env j).ids) (hhp:∀i o,(i,o)∈s.hp→k∉o.ids) (hob:∀i∈ob.ids,i<s.nx∧i≠k) (hK:¬X.K0 k)
  (h1:Sat X (Ef.bump dst (.new st hst ob) s) a' w'):Sat X ((Ef.new st hst ob).apply k dst s) a' w':=by
 obtain⟨I',g1,h1⟩:=h1
 have hkk:∀o,(k,o)∉s.hp:=fun o hm=>by rw[zco h.heap.nodup hm]at hkey;cases hkey
 refine⟨I',fun i=>if i=k then g1 s.nx else g1 i,?_⟩
 have hne:∀i o,(i,o)∈s.hp→i≠k:=fun i o hm e=>hkk o (e▸hm)
 have hlt:∀i o,(i,o)∈s.hp→i<s.nx:=fun i o hm=>(h.heap.obj i o hm).1
 have hnw:∀{b},Own (fun i=>if i=k then g1 s.nx else g1 i) w' k ob b→Own g1 w' s.nx ob b:=fun {b} ho=>ho.congr (by simp) fun _ _ _=>rfl
 have hol:∀{i o b},(i,o)∈s.hp→Own (fun i=>if i=k then g1 s.nx else g1 i) w' i o b→Own g1 w' i o b:=fun {i o b} hm ho=>ho.congr (by simp[hne i o hm]) fun _ _ _=>rfl
 refine⟨h1.df,h1.sz,fun j=>?_,⟨?_,?_,?_,?_⟩,h1.bound,h1.up,h1.down,?_,?_,h1.fr,h.low⟩
 ·have hj:=h1.slots j
  simp only[Ef.bump,Ef.apply,zcp]at hj⊢
  by_cases c:dst=some j
  ·rw[if_pos c]at hj⊢
   simp only[Ef.val?]at hj⊢
   have h1:=RV.unren (r:=fun _=>s.nx) hj st rfl hst
   exact h1.reren (r:=fun _=>k) fun i hi=>⟨hk,by rw[if_pos rfl]⟩
  ·rw[if_neg c]at hj⊢
   refine hj.move fun i hi=>⟨(h.slots j).ids_lt i hi,?_⟩
   rw[if_neg (show ¬i=k from fun e=>henv j (e▸hi))]
 ·intro i o' hm
  simp only[Ef.apply]at hm
  rcases List.mem_cons.1 hm with hm|hm
  ·cases hm
   exact⟨hk,(h1.heap.obj s.nx ob List.mem_cons_self).2.move (by simp) fun i hi=>⟨(hob i hi).1,by rw[if_neg (hob i hi).2]⟩⟩
  ·have hr:=(h1.heap.obj i o' (List.mem_cons_of_mem _ hm)).2
   exact⟨hlt i o' hm,hr.move (by rw[if_neg (hne i o' hm)]) fun j hj=>⟨(h.heap.obj i o' hm).2.ids_lt j hj,by rw[if_neg (show ¬j=k from fun e=>hhp i o' hm (e▸hj))]⟩⟩
 ·intro i o' b hm hg
  simp only[Ef.apply]at hm
  rcases List.mem_cons.1 hm with hm|hm
  ·cases hm
   exact h1.heap.apart s.nx ob b List.mem_cons_self (hnw hg)
  ·exact h1.heap.apart i o' b (List.mem_cons_of_mem _ hm) (hol hm hg)
 ·simp only[Ef.apply,List.map_cons,List.nodup_cons]
  refine⟨fun hm=>?_,h.heap.nodup⟩
  obtain⟨⟨i,o'⟩,h2,h3⟩:=List.mem_map.1 hm
  simp only at h3
  exact hkk o' (h3▸h2)
 ·intro i o1 i' o2 b hm hm' hg hg'
  simp only[Ef.apply]at hm hm'
  rcases List.mem_cons.1 hm with hm|hm<;>rcases List.mem_cons.1 hm' with hm'|hm'
  ·cases hm;cases hm';rfl
  ·cases hm
   have:=h1.heap.inj s.nx ob i' o2 b List.mem_cons_self (List.mem_cons_of_mem _ hm') (hnw hg) (hol hm' hg')
   have:=hlt i' o2 hm'
   omega
  ·cases hm'
   have:=h1.heap.inj i o1 s.nx ob b (List.mem_cons_of_mem _ hm) List.mem_cons_self (hol hm hg) (hnw hg')
   have:=hlt i o1 hm
   omega
  ·exact h1.heap.inj i o1 i' o2 b (List.mem_cons_of_mem _ hm) (List.mem_cons_of_mem _ hm') (hol hm hg) (hol hm' hg')
 ·rintro b ⟨i,o',hm,hg⟩
  simp only[Ef.apply]at hm
  rcases List.mem_cons.1 hm with hm|hm
  ·cases hm
   exact h1.own b ⟨s.nx,ob,List.mem_cons_self,hnw hg⟩
  ·exact h1.own b ⟨i,o',List.mem_cons_of_mem _ hm,hol hm hg⟩
 ·intro i o' hm hb hKi
  simp only[Ef.apply]at hm
  rcases List.mem_cons.1 hm with hm|hm
  ·cases hm;exact absurd hKi hK
  ·simp only[if_neg (hne i o' hm)]
   exact h1.keep i o' (List.mem_cons_of_mem _ hm) hb hKi
theorem zj8 {k:Nat} {l:List O} {i:Nat} {ob:O} (h:(i,ob)∈zak k l):∃j,i=k+j∧l[j]? = some ob:=by
 induction l generalizing k with
 |nil=>cases h
 |cons o t ih =>
  simp only[zak]at h
  rcases List.mem_cons.1 h with h|h
  ·cases h;exact⟨0,rfl,rfl⟩
  ·obtain⟨j,h1,h2⟩:=ih h;exact⟨j+1,by omega,h2⟩
theorem zey {k:Nat} {l:List O} {j:Nat} {ob:O} (h:l[j]? = some ob):(k+j,ob)∈zak k l:=by
 induction l generalizing k j with
 |nil=>cases h
 |cons o t ih =>
  cases j with
  |zero=>cases h;simp[zak]
  |succ j =>
   have:=ih (k:=k+1) (j:=j) (by simpa using h)
   simp only[zak]
   rw[show k+(j+1)=k+1+j by omega]
   exact List.mem_cons_of_mem _ this
theorem zmu {k j0:Nat} {l:List O} {i:Nat} {ob:O} (h:(i,ob)∈zd2 k j0 l):∃j,i=k+20*(j0+j)∧l[j]? = some ob:=by
 induction l generalizing j0 with
 |nil=>cases h
 |cons o t ih =>
  simp only[zd2]at h
  rcases List.mem_cons.1 h with h|h
  ·cases h;exact⟨0,rfl,rfl⟩
  ·obtain⟨j,h1,h2⟩:=ih h;exact⟨j+1,by rw[h1];congr 2;omega,h2⟩
theorem zzd {k j0:Nat} {l:List O} {j:Nat} {ob:O} (h:l[j]? = some ob):(k+20*(j0+j),ob)∈zd2 k j0 l:=by
 induction l generalizing j0 j with
 |nil=>cases h
 |cons o t ih =>
  cases j with
  |zero=>cases h;simp[zd2]
  |succ j =>
   have:=ih (j0:=j0+1) (j:=j) (by simpa using h)
   simp only[zd2]
   rw[show j0+(j+1)=j0+1+j by omega]
   exact List.mem_cons_of_mem _ this
theorem zek {k j0:Nat} {l:List O} {i:Nat}:i∈(zd2 k j0 l).map (·.1)↔∃j,j<l.length∧i=k+20*(j0+j):=by
 constructor
 ·intro h
  obtain⟨⟨i',ob⟩,h1,rfl⟩:=List.mem_map.1 h
  obtain⟨j,h2,h3⟩:=zmu h1
  exact⟨j,(List.getElem?_eq_some_iff.1 h3).1,h2⟩
 ·rintro⟨j,h1,rfl⟩
  exact List.mem_map.2 ⟨_,zzd (List.getElem?_eq_getElem h1),rfl⟩
theorem znw (k:Nat) (l:List O):∀j0,((zd2 k j0 l).map (·.1)).Nodup:=by
 induction l with
 |nil=>intro _;simp[zd2]
 |cons o t ih =>
  intro j0
  simp only[zd2,List.map_cons,List.nodup_cons]
  refine⟨fun h=>?_,ih _⟩
  obtain⟨j,h1,h2⟩:=zek.1 h
  omega
theorem zrp {l:List O} (h:zka l=true):∀(j:Nat) ob,l[j]? = some ob→ob.ids=[]∧∀fl,ob.map fl=ob:=by
 induction l with
 |nil=>intro j ob hj;cases hj
 |cons o t ih =>
  simp only[zka]at h
  intro j ob hj
  cases j with
  |zero =>
   cases hj
   split at h
   ·exact⟨rfl,fun _=>rfl⟩
   ·exact⟨rfl,fun _=>rfl⟩
   ·cases h
  |succ j =>
   split at h
   ·exact ih h j ob (by simpa using hj)
   ·exact ih h j ob (by simpa using hj)
   ·cases h
theorem Sat.renames {st:V} {news:List O} {hp2:List (Nat×O)} {dst:Option Nat} {a':Act} {w':World} (h:St X I g s a w) (hst:st.idsLt news.length=true) (hpure:∀(j:Nat) ob,news[j]? = some ob→ob.ids=[]∧∀fl,ob.map fl=ob) {k:Nat}
  (hk:∀j,j<news.length→k+20*j<s.nx∧zq s.hp (k+20*j)=none∧(∀q,k+20*j∉(zaw s.env q).ids)∧(∀i o,(i,o)∈hp2→k+20*j∉o.ids)∧¬X.K0 (k+20*j))
  (hkeys:∀i o,(i,o)∈hp2→∃o',(i,o')∈s.hp) (hnd:(hp2.map (·.1)).Nodup) (hids:∀i o,(i,o)∈hp2→∀q∈o.ids,q<s.nx)
  (h1:Sat X ⟨s.nt,s.nx+news.length,zcb dst (st.ren fun j=>s.nx+j) s.env,zbm (fun j=>s.nx+j) (zak 0 news)++hp2⟩ a' w') :
  Sat X ⟨s.nt,s.nx,zcb dst (st.ren fun j=>k+20*j) s.env,zd2 k 0 news++hp2⟩ a' w':=by
 obtain⟨I',g1,h1⟩:=h1
 obtain⟨g2,hg2a,hg2b⟩:∃g2:Gam,(∀j,j<news.length→g2 (k+20*j)=g1 (s.nx+j))∧∀i,(∀j,j<news.length→i≠k+20*j)→g2 i=g1 i:=by
  refine⟨fun i=>if hj:∃j,j<news.length∧k+20*j=i then g1 (s.nx+hj.choose)else g1 i,fun j hj=>?_,fun i hi=>?_⟩
  ·have hex:∃q,q<news.length∧k+20*q=k+20*j:=⟨j,hj,rfl⟩
   simp only[hex,dif_pos]
   have:=hex.choose_spec.2
   rw[show hex.choose=j by omega]
  ·show(if hj:∃j,j<news.length∧k+20*j=i then g1 (s.nx+hj.choose)else g1 i)=g1 i
   rw[dif_neg];rintro⟨j,hj,he⟩;exact hi j hj he.symm
 have hlt:∀i o,(i,o)∈hp2→i<s.nx:=fun i o hm=>by obtain⟨o',h3⟩:=hkeys i o hm;exact(h.heap.obj i o' h3).1
 have hne:∀i o,(i,o)∈hp2→∀j,j<news.length→i≠k+20*j:=fun i o hm j hj e=>by
  obtain⟨o',h3⟩:=hkeys i o hm
  have:=(hk j hj).2.1
  rw[←e,zco h.heap.nodup h3]at this;cases this
 have hm1:∀{j ob},news[j]? = some ob→(s.nx+j,ob)∈zbm (fun j=>s.nx+j) (zak 0 news)++hp2:=fun {j ob} hj=>by
  refine List.mem_append_left _ ?_
  have h3:∀(l:List (Nat×O)) i o,(i,o)∈l→(s.nx+i,o.map (zag fun j=>s.nx+j))∈zbm (fun j=>s.nx+j) l:=by
   intro l
   induction l with
   |nil=>intro i o hm;cases hm
   |cons q t ih =>
    obtain⟨a,b⟩:=q
    intro i o hm
    rcases List.mem_cons.1 hm with hm|hm
    ·cases hm;simp[zbm]
    ·simp only[zbm];exact List.mem_cons_of_mem _ (ih i o hm)
  have:=h3 _ _ _ (zey (k:=0) hj)
  rwa [Nat.zero_add,(hpure j ob hj).2]at this
 have hm2:∀{i o},(i,o)∈hp2→(i,o)∈zbm (fun j=>s.nx+j) (zak 0 news)++hp2:=fun hm=>List.mem_append_right _ hm
 have hmem:∀{i o},(i,o)∈zd2 k 0 news++hp2→(∃j,j<news.length∧i=k+20*j∧news[j]? = some o)∨(i,o)∈hp2:=fun {i o} hm=>by
  rcases List.mem_append.1 hm with hm|hm
  ·obtain⟨j,h3,h4⟩:=zmu hm
   rw[Nat.zero_add]at h3
   exact .inl ⟨j,(List.getElem?_eq_some_iff.1 h4).1,h3,h4⟩
  ·exact .inr hm
 have own1:∀{j ob b},j<news.length→Own g2 w' (k+20*j) ob b→Own g1 w' (s.nx+j) ob b:=fun {j ob b} hj ho=>ho.congr (hg2a j hj) fun _ _ _=>rfl
 have own2:∀{i o b},(i,o)∈hp2→Own g2 w' i o b→Own g1 w' i o b:=fun {i o b} hm ho=>ho.congr (hg2b i fun j hj=>hne i o hm j hj) fun _ _ _=>rfl
 refine⟨I',g2,h1.df,h1.sz,fun q=>?_,⟨?_,?_,?_,?_⟩,h1.bound,h1.up,h1.down,?_,?_,h1.fr,h.low⟩
 ·have hj:=h1.slots q
  simp only[zcp]at hj⊢
  by_cases c:dst=some q
  ·rw[if_pos c]at hj⊢
   have h3:=RV.unren (r:=fun j=>s.nx+j) hj st rfl hst
   exact h3.reren (r:=fun j=>k+20*j) fun i hi=>⟨(hk i hi).1,hg2a i hi⟩
  ·rw[if_neg c]at hj⊢
   refine hj.move fun i hi=>⟨(h.slots q).ids_lt i hi,hg2b i fun j hj e=>(hk j hj).2.2.1 q (e▸hi)⟩
 ·intro i o hm
  rcases hmem hm with ⟨j,hj,rfl,ho⟩|hm
  ·refine⟨(hk j hj).1,(h1.heap.obj _ _ (hm1 ho)).2.move (hg2a j hj) fun i hi=>?_⟩
   rw[(hpure j o ho).1]at hi;cases hi
  ·exact⟨hlt i o hm,(h1.heap.obj _ _ (hm2 hm)).2.move (hg2b i fun j hj=>hne i o hm j hj) fun q hq=>⟨hids i o hm q hq,hg2b q fun j hj e=>(hk j hj).2.2.2.1 i o hm (e▸hq)⟩⟩
 ·intro i o b hm ho
  rcases hmem hm with ⟨j,hj,rfl,hoj⟩|hm
  ·exact h1.heap.apart _ _ b (hm1 hoj) (own1 hj ho)
  ·exact h1.heap.apart _ _ b (hm2 hm) (own2 hm ho)
 ·show(List.map _ (zd2 k 0 news++hp2)).Nodup
  rw[List.map_append,List.nodup_append]
  refine⟨znw _ _ _,hnd,fun x hx y hy e=>?_⟩
  obtain⟨j,hj,rfl⟩:=zek.1 hx
  obtain⟨⟨i,o⟩,hm,rfl⟩:=List.mem_map.1 hy
  rw[Nat.zero_add]at e
  exact hne i o hm j hj e.symm
 ·intro i o i' o' b hm hm' ho ho'
  rcases hmem hm with ⟨j,hj,rfl,hoj⟩|hm<;>rcases hmem hm' with ⟨j',hj',rfl,hoj'⟩|hm'
  ·have:=h1.heap.inj _ _ _ _ b (hm1 hoj) (hm1 hoj') (own1 hj ho) (own1 hj' ho')
   have:j=j':=by omega
   rw[this]
  ·have:=h1.heap.inj _ _ _ _ b (hm1 hoj) (hm2 hm') (own1 hj ho) (own2 hm' ho')
   have:=hlt i' o' hm'
   omega
  ·have:=h1.heap.inj _ _ _ _ b (hm2 hm) (hm1 hoj') (own2 hm ho) (own1 hj' ho')
   have:=hlt i o hm
   omega
  ·exact h1.heap.inj _ _ _ _ b (hm2 hm) (hm2 hm') (own2 hm ho) (own2 hm' ho')
 ·rintro b ⟨i,o,hm,ho⟩
  rcases hmem hm with ⟨j,hj,rfl,hoj⟩|hm
  ·exact h1.own b ⟨_,_,hm1 hoj,own1 hj ho⟩
  ·exact h1.own b ⟨_,_,hm2 hm,own2 hm ho⟩
 ·intro i o hm hb hK
  rcases hmem hm with ⟨j,hj,rfl,hoj⟩|hm
  ·exact absurd hK (hk j hj).2.2.2.2
  ·rw[hg2b i fun j hj=>hne i o hm j hj]
   exact h1.keep i o (hm2 hm) hb hK
end
end Go.VL
