/- V-logic: Math1 Math2 Math3 Math4 Math5 Math6 TMath1 TMath2 PT1 PT2 TV -/
import Derived.Test.YtfogmgldlemngaaVEA
namespace Go.VL
set_option linter.unusedVariables false
set_option linter.unusedSimpArgs false
theorem zmd {xs:List Int} {n:Int} {k:Nat} (hk:(xs.take k).contains n=false) (h:k<xs.length) (hne:xs.getD k 0≠n):(xs.take (k+1)).contains n=false:=by
 rw[List.take_add_one,List.contains_eq_any_beq,List.any_append]at *
 simp[h]at *
 exact⟨hk,fun e=>hne e.symm⟩
theorem zeg {α:Type} {p:α→Bool} {xs:List α} {k:Nat} (d:α) (hk:(xs.take k).all p=true) (h:k<xs.length) (hp:p (xs.getD k d)=true):(xs.take (k+1)).all p=true:=by
 rw[List.take_add_one,List.all_append,hk]
 simp[h]at *
 exact hp
theorem zh3 {α:Type} {p:α→Bool} {xs:List α} {k:Nat} (hk:(xs.take k).all p=true) (h:¬k<xs.length):xs.all p=true:=by
 rwa [List.take_of_length_le (by omega)]at hk
theorem zf6 {α:Type} {p:α→Bool} {xs:List α} {k:Nat} (d:α) (h:k<xs.length) (hp:p (xs.getD k d)=false):xs.all p=false:=by
 cases hq:xs.all p with
 |false=>rfl
 |true =>
  rw[List.all_eq_true]at hq
  have:=hq (xs.getD k d) (by simp[h])
  rw[hp]at this;cases this
abbrev Asc (xs:List Int):Prop:=xs.Pairwise (· < ·)
theorem zez {xs:List Int} (h:Asc xs) {i j:Nat} (hij:i<j) (hj:j<xs.length):xs.getD i 0<xs.getD j 0:=by
 have:=List.pairwise_iff_getElem.1 h i j (by omega) hj hij
 simpa [hj,show i<xs.length by omega]using this
theorem z3e {xs:List Int} (h:∀i,i+1<xs.length→xs.getD i 0<xs.getD (i+1) 0):Asc xs:=by
 refine List.pairwise_iff_getElem.2 fun i j hi hj hij=>?_
 have key:∀d,i+d+1<xs.length→xs.getD i 0<xs.getD (i+d+1) 0:=by
  intro d
  induction d with
  |zero=>exact h i
  |succ d ih=>intro hd;exact Int.lt_trans (ih (by omega)) (h (i+d+1) (by omega))
 have:=key (j-i-1) (by omega)
 rw[show i+(j-i-1)+1=j by omega]at this
 simpa [hi,hj]using this
theorem zon {xs:List Int} {k:Nat} (hk:Asc (xs.take k)) (h:k<xs.length) (hp:0<k→xs.getD (k-1) 0<xs.getD k 0):Asc (xs.take (k+1)):=by
 refine z3e fun i hi=>?_
 simp only[List.length_take]at hi
 rw[zik _ _ _ _ (by omega),zik _ _ _ _ (by omega)]
 by_cases c:i+1<k
 ·have:=zez hk (i:=i) (j:=i+1) (by omega) (by simp;omega)
  rwa [zik _ _ _ _ (by omega),zik _ _ _ _ (by omega)]at this
 ·have:=hp (by omega)
  rwa [show k-1=i by omega,show k=i+1 by omega]at this
def za2 (xs:List Int):Bool:=decide (Asc xs)&&xs.all (fun x=>decide (0≤x∧x≤99))
def szI (n:Nat) (k:Int):Int:=if k-n<0 then -1 else k-n
theorem yfe {n:Nat} {k m:Int} (h:k≤m) (hm:0≤m):szI n k≤m:=by unfold szI;split<;>omega
theorem z3d {n:Nat} {k:Int} (h:¬szI n k<0):(n:Int)≤k:=by unfold szI at h;split at h<;>omega
theorem yej {α:Type} (d z:α) {xs:List α} {k:Nat} (h:k<xs.length):(xs.take k++List.replicate (xs.length-k) z).set k (xs.getD k d)=xs.take (k+1)++List.replicate (xs.length-(k+1)) z:=by
 rw[zat d h,List.set_append_right _ _ (by simp;omega),List.append_assoc]
 congr 1
 rw[show xs.length-k=(xs.length-(k+1))+1 by omega,List.replicate_succ,show k-(xs.take k).length=0 by simp;omega]
 rfl
theorem z35 {α:Type} (z:α) {xs:List α} {k:Nat} (h:¬k<xs.length):xs.take k++List.replicate (xs.length-k) z=xs:=by
 rw[List.take_of_length_le (by omega),show xs.length-k=0 by omega];simp
abbrev atL (c:List Lk) (i:Int):Lk:=c.getD i.toNat ⟨[],0,0⟩
structure Path (c:List Lk) (q:List Int):Prop where
 len:q.length=c.length
 one:0<c.length
 rng:∀i,i<c.length→0≤q.getD i 0∧q.getD i 0<(c.length:Int)
 first:q.getD 0 0=0
 next:∀i,i+1<c.length→(atL c (q.getD i 0)).right=q.getD (i+1) 0
 last:(atL c (q.getD (c.length-1) 0)).high=100
 all:∀j:Int,0≤j→j<c.length→∃i,i<c.length∧q.getD i 0=j
 inj:∀s t,s<c.length→t<c.length→q.getD s 0=q.getD t 0→s=t
theorem Path.mv {c:List Lk} {q:List Int} (p:Path c q) {n:Int} (hn:n≤99) {i:Nat} (hi:i<c.length) (h:(c.getD (q.getD i 0).toNat ⟨[],0,0⟩).high≤n):i+1<c.length∧(c.getD (q.getD i 0).toNat ⟨[],0,0⟩).right=q.getD (i+1) 0:=by
 by_cases hl:i+1<c.length
 ·exact⟨hl,p.next i hl⟩
 ·have:i=c.length-1:=by omega
  have h2:=p.last
  rw[←this]at h2
  have h2:(c.getD (q.getD i 0).toNat ⟨[],0,0⟩).high=100:=h2
  omega
def zit (code:List Int) (p:Int):Int :=
 code.getD (p.tmod code.length).toNat 0*131+code.getD ((p*7+3).tmod code.length).toNat 0*1117+p*29+p.tdiv code.length*53
def zah (code:List Int) (p n:Int):Int :=
 if n<1 then 0 else if (code.length:Int)=0 then 0 else if p<code.length then(code.getD p.toNat 0).tmod n
 else(zkn .xor .i64 (zit code p) ((zit code p).tdiv 64)).tmod n
structure CodeOk (code:List Int):Prop where
 len:code.length≤2000
 byte:∀i,0≤code.getD i 0∧code.getD i 0≤255
theorem z24 {a b:Int} (h0:0≤a) (h1:a<9223372036854775808) (h2:0≤b) (h3:b<9223372036854775808):0≤zkn .xor .i64 a b∧zkn .xor .i64 a b<9223372036854775808:=by
 obtain⟨a,rfl⟩:=Int.eq_ofNat_of_zero_le h0
 obtain⟨b,rfl⟩:=Int.eq_ofNat_of_zero_le h2
 have ha:a<2 ^ 63:=by omega
 have hb:b<2 ^ 63:=by omega
 have hx:=Nat.xor_lt_two_pow ha hb
 have e:(BitVec.ofInt 64 (a:Int) ^^^ BitVec.ofInt 64 (b:Int)).toNat=a ^^^ b:=by
  rw[BitVec.toNat_xor,BitVec.toNat_ofInt,BitVec.toNat_ofInt]
  congr 1<;>omega
 have e2:zkn .xor .i64 (a:Int) (b:Int)=IntKind.i64.wrap ((a ^^^ b:Nat):Int):=by
  show IntKind.i64.wrap ((BitVec.ofInt 64 (a:Int) ^^^ BitVec.ofInt 64 (b:Int)).toNat:Int)=_
  rw[e]
 rw[e2,IntKind.wrap_i64]
 omega
theorem zyx {code:List Int} (h:CodeOk code) {p:Int} (h0:0≤p) (h1:p≤1099511627776):0≤zit code p∧zit code p<9223372036854775808:=by
 have a:=h.byte (p.tmod code.length).toNat
 have b:=h.byte ((p*7+3).tmod code.length).toNat
 have c:0≤p.tdiv code.length:=Int.tdiv_nonneg h0 (Int.natCast_nonneg _)
 have d:p.tdiv code.length≤p:=Int.tdiv_le_self _ h0
 unfold zit
 omega
theorem zdl {code:List Int} (h:CodeOk code) {p n:Int} (h0:0≤p) (h1:p≤1099511627776):0≤zah code p n∧(1≤n→zah code p n<n):=by
 unfold zah
 have hm:=zyx h h0 h1
 have hd:0≤(zit code p).tdiv 64∧(zit code p).tdiv 64<9223372036854775808:=⟨Int.tdiv_nonneg hm.1 (by decide),by have:=Int.tdiv_le_self 64 hm.1;omega⟩
 have hx:=z24 hm.1 hm.2 hd.1 hd.2
 split
 ·exact⟨Int.le_refl _,fun _=>by omega⟩
 ·split
  ·exact⟨Int.le_refl _,fun _=>by omega⟩
  ·split
   ·exact⟨Int.tmod_nonneg _ (h.byte _).1,fun hn=>Int.tmod_lt_of_pos _ (by omega)⟩
   ·exact⟨Int.tmod_nonneg _ hx.1,fun hn=>Int.tmod_lt_of_pos _ (by omega)⟩
def belF (xs:List Int) (n:Int):Nat:=(xs.takeWhile fun x=>decide (x<n)).length
theorem zvm (xs:List Int) (n:Int):belF xs n≤xs.length:=(List.takeWhile_sublist _).length_le
theorem zvp (n:Int):∀(xs:List Int) (k:Nat),(xs.take k).all (fun x=>decide (x<n))=true→k≤xs.length→(k<xs.length→¬xs.getD k 0<n)→k=belF xs n:=by
 intro xs
 induction xs with
 |nil=>intro k _ h _;simp at h;simp[belF,h]
 |cons a t ih =>
  intro k h1 h2 h3
  cases k with
  |zero =>
   have:=h3 (by simp)
   simp at this
   simp[belF,List.takeWhile_cons,this]
  |succ k =>
   simp only[List.take_succ_cons,List.all_cons,Bool.and_eq_true,decide_eq_true_eq]at h1
   have:=ih k h1.2 (by simpa using h2) (fun h=>by simpa using h3 (by simpa using h))
   simp only[belF,List.takeWhile_cons]at *
   rw[if_pos (by simpa using h1.1)]
   simp;omega
end Go.VL
namespace Go.VL
set_option linter.unusedVariables false
set_option linter.unusedSimpArgs false
abbrev zb (ps:List Pg) (i:Int):Pg:=ps.getD i.toNat ⟨[],[],[]⟩
def pgF (ps:List Pg) (root:Int):Nat→Int→Int→Int→Bool
 |0,_,_,_=>false
 |d+1,at_,low,high =>
  if za2 (zb ps at_).keys=false then false
  else if 4<(zb ps at_).keys.length then false
  else if ((zb ps at_).keys.all fun x=>decide (low≤x∧x≤high))=false then false
  else if at_≠root∧(zb ps at_).keys.length<2 then false
  else if d=0 then(if (zb ps at_).kids.length≠0 then false else if (zb ps at_).vals.length≠(zb ps at_).keys.length then false else(zb ps at_).vals.all fun x=>decide (-1000≤x∧x≤1000))
  else if (zb ps at_).keys.length=0 then false
  else if (zb ps at_).vals.length≠0 then false
  else if (zb ps at_).kids.length≠(zb ps at_).keys.length+1 then false
  else if ((zb ps at_).kids.all fun x=>decide (0≤x∧x≤(ps.length:Int)-1))=false then false
  else(List.range (zb ps at_).kids.length).all fun i =>
   pgF ps root d ((zb ps at_).kids.getD i 0) (if 0<i then(zb ps at_).keys.getD (i-1) 0 else low) (if i<(zb ps at_).keys.length then(zb ps at_).keys.getD i 0-1 else high)
def hgF (ps:List Pg):Nat→Int→Int→Int
 |0,_,n=>n
 |f+1,at_,n=>if 0≤at_∧at_≤(ps.length:Int)-1∧0<(zb ps at_).kids.length then hgF ps f ((zb ps at_).kids.getD 0 0) (n+1)else n
def wkF (ps:List Pg):Nat→Int→List Int
 |0,_=>[]
 |d+1,at_=>at_::(zb ps at_).kids.flatMap (wkF ps d)
def wkOk (ps:List Pg):Nat→Int→Prop
 |0,_=>False
 |d+1,at_=>0≤at_∧at_<ps.length∧(zb ps at_).kids.length≤5∧∀k∈(zb ps at_).kids,wkOk ps d k
def wkB:Nat→Nat
 |0=>0
 |d+1=>1+5*wkB d
theorem zg5 {ps:List Pg} (d:Nat):∀{at_:Int},wkOk ps d at_→(wkF ps d at_).length≤wkB d:=by
 induction d with
 |zero=>intro at_ h;exact h.elim
 |succ d ih =>
  intro at_ h
  obtain⟨_,_,h3,h4⟩:=h
  have key:∀l:List Int,(∀k∈l,wkOk ps d k)→(l.flatMap (wkF ps d)).length≤l.length*wkB d:=by
   intro l
   induction l with
   |nil=>intro _;simp
   |cons a t iht =>
    intro hl
    rw[List.flatMap_cons,List.length_append,List.length_cons,Nat.add_mul]
    have:=ih (hl a List.mem_cons_self)
    have:=iht fun k hk=>hl k (List.mem_cons_of_mem _ hk)
    omega
  have h5:=key _ h4
  have h6:(zb ps at_).kids.length*wkB d≤5*wkB d:=Nat.mul_le_mul_right _ h3
  simp only[wkF,wkB,List.length_cons]
  omega
theorem zk9 {ps:List Pg} {root:Int} (d:Nat):∀{at_ low high:Int},0≤at_→at_<ps.length→pgF ps root d at_ low high=true→wkOk ps d at_:=by
 induction d with
 |zero=>intro at_ low high _ _ h;cases h
 |succ d ih =>
  intro at_ low high h0 h1 h
  unfold pgF at h
  repeat' split at h
  all_goals first|(cases h;done)|skip
  ·rename_i g1 g2 g3 g4 g5 g6 g7
   refine⟨h0,h1,by omega,fun k hk=>?_⟩
   have:=List.eq_nil_of_length_eq_zero (Decidable.of_not_not g6)
   rw[this]at hk;cases hk
  ·rename_i g1 g2 g3 g4 g5 g6 g7 g8 g9
   have g8':(zb ps at_).kids.length=(zb ps at_).keys.length+1:=Decidable.of_not_not g8
   refine⟨h0,h1,by rw[g8'];omega,fun k hk=>?_⟩
   rw[Bool.not_eq_false,List.all_eq_true]at g9
   have h9:=g9 k hk
   simp only[decide_eq_true_eq]at h9
   obtain⟨i,hi,rfl⟩:=List.getElem_of_mem hk
   rw[List.all_eq_true]at h
   have:=h i (List.mem_range.2 hi)
   have e:(zb ps at_).kids.getD i 0=(zb ps at_).kids[i]:=by rw[List.getD_eq_getElem?_getD,List.getElem?_eq_getElem hi];rfl
   rw[e]at this
   exact ih h9.1 (by omega) this
section
variable {ps : List Pg} {root : Int} {d : Nat} {at_ low high : Int} {V : Bool} (hV : pgF ps root (d + 1) at_ low high = V)
include hV
theorem z1t (h:za2 (ps.getD at_.toNat ⟨[],[],[]⟩).keys=false):V=false:=by
 rw[←hV];unfold pgF;rw[if_pos h]
theorem z1s (h:4<(ps.getD at_.toNat ⟨[],[],[]⟩).keys.length):V=false:=by
 rw[←hV];unfold pgF;rw[if_pos (c:=4<_) h];simp only[ite_self]
theorem z1u (h:((ps.getD at_.toNat ⟨[],[],[]⟩).keys.all fun x=>decide (low≤x∧x≤high))=false):V=false:=by
 rw[←hV];unfold pgF;rw[if_pos (c:=_=false) h];simp only[ite_self]
theorem z1q (h:at_≠root) (h2:(ps.getD at_.toNat ⟨[],[],[]⟩).keys.length<2):V=false:=by
 rw[←hV];unfold pgF;rw[if_pos (c:=_∧_) ⟨h,h2⟩];simp only[ite_self]
theorem pgF_5 (hd:d=0) (h:(ps.getD at_.toNat ⟨[],[],[]⟩).kids.length≠0):V=false:=by
 rw[←hV];unfold pgF;rw[if_pos hd,if_pos (c:=_≠0) h];simp only[ite_self]
theorem pgF_6 (hd:d=0) (h:(ps.getD at_.toNat ⟨[],[],[]⟩).vals.length≠(ps.getD at_.toNat ⟨[],[],[]⟩).keys.length):V=false:=by
 rw[←hV];unfold pgF;rw[if_pos hd,if_pos (c:=(ps.getD at_.toNat ⟨[],[],[]⟩).vals.length≠(ps.getD at_.toNat ⟨[],[],[]⟩).keys.length) h];simp only[ite_self]
theorem pgF_8 (hd:d≠0) (h:(ps.getD at_.toNat ⟨[],[],[]⟩).keys.length=0):V=false:=by
 rw[←hV];unfold pgF;rw[if_neg hd,if_pos (c:=(ps.getD at_.toNat ⟨[],[],[]⟩).keys.length=0) h];simp only[ite_self]
theorem pgF_9 (hd:d≠0) (h:(ps.getD at_.toNat ⟨[],[],[]⟩).vals.length≠0):V=false:=by
 rw[←hV];unfold pgF;rw[if_neg hd,if_pos (c:=(ps.getD at_.toNat ⟨[],[],[]⟩).vals.length≠0) h];simp only[ite_self]
theorem z3u (hd:d≠0) (h:(ps.getD at_.toNat ⟨[],[],[]⟩).kids.length≠(ps.getD at_.toNat ⟨[],[],[]⟩).keys.length+1):V=false:=by
 rw[←hV];unfold pgF;rw[if_neg hd,if_pos (c:=(ps.getD at_.toNat ⟨[],[],[]⟩).kids.length≠(ps.getD at_.toNat ⟨[],[],[]⟩).keys.length+1) h];simp only[ite_self]
theorem z3r (hd:d≠0) (h:((ps.getD at_.toNat ⟨[],[],[]⟩).kids.all fun x=>decide (0≤x∧x≤(ps.length:Int)-1))=false):V=false:=by
 rw[←hV];unfold pgF;rw[if_neg hd,if_pos (c:=((ps.getD at_.toNat ⟨[],[],[]⟩).kids.all fun x=>decide (0≤x∧x≤(ps.length:Int)-1))=false) h];simp only[ite_self]
theorem zy3 (h1:za2 (ps.getD at_.toNat ⟨[],[],[]⟩).keys=true) (h2:¬4<(ps.getD at_.toNat ⟨[],[],[]⟩).keys.length) (h3:((ps.getD at_.toNat ⟨[],[],[]⟩).keys.all fun x=>decide (low≤x∧x≤high))=true) (h4:¬(at_≠root∧(ps.getD at_.toNat ⟨[],[],[]⟩).keys.length<2)) :
  V=(if d=0 then(if (ps.getD at_.toNat ⟨[],[],[]⟩).kids.length≠0 then false else if (ps.getD at_.toNat ⟨[],[],[]⟩).vals.length≠(ps.getD at_.toNat ⟨[],[],[]⟩).keys.length then false else(ps.getD at_.toNat ⟨[],[],[]⟩).vals.all fun x=>decide (-1000≤x∧x≤1000))
   else if (ps.getD at_.toNat ⟨[],[],[]⟩).keys.length=0 then false
   else if (ps.getD at_.toNat ⟨[],[],[]⟩).vals.length≠0 then false
   else if (ps.getD at_.toNat ⟨[],[],[]⟩).kids.length≠(ps.getD at_.toNat ⟨[],[],[]⟩).keys.length+1 then false
   else if ((ps.getD at_.toNat ⟨[],[],[]⟩).kids.all fun x=>decide (0≤x∧x≤(ps.length:Int)-1))=false then false
   else(List.range (ps.getD at_.toNat ⟨[],[],[]⟩).kids.length).all fun i =>
    pgF ps root d ((ps.getD at_.toNat ⟨[],[],[]⟩).kids.getD i 0) (if 0<i then(ps.getD at_.toNat ⟨[],[],[]⟩).keys.getD (i-1) 0 else low) (if i<(ps.getD at_.toNat ⟨[],[],[]⟩).keys.length then(ps.getD at_.toNat ⟨[],[],[]⟩).keys.getD i 0-1 else high)):=by
 rw[←hV,pgF]
 rw[if_neg (c:=za2 (ps.getD at_.toNat ⟨[],[],[]⟩).keys=false) (by rw[h1];decide),if_neg (c:=4<(ps.getD at_.toNat ⟨[],[],[]⟩).keys.length) h2,if_neg (c:=((ps.getD at_.toNat ⟨[],[],[]⟩).keys.all fun x=>decide (low≤x∧x≤high))=false) (by rw[h3];decide),if_neg (c:=at_≠root∧(ps.getD at_.toNat ⟨[],[],[]⟩).keys.length<2) h4]
theorem pgF_7 (hd:d=0) (h1:za2 (ps.getD at_.toNat ⟨[],[],[]⟩).keys=true) (h2:¬4<(ps.getD at_.toNat ⟨[],[],[]⟩).keys.length) (h3:((ps.getD at_.toNat ⟨[],[],[]⟩).keys.all fun x=>decide (low≤x∧x≤high))=true) (h4:¬(at_≠root∧(ps.getD at_.toNat ⟨[],[],[]⟩).keys.length<2)) (h5:(ps.getD at_.toNat ⟨[],[],[]⟩).kids.length=0) (h6:(ps.getD at_.toNat ⟨[],[],[]⟩).vals.length=(ps.getD at_.toNat ⟨[],[],[]⟩).keys.length) :
  V=(ps.getD at_.toNat ⟨[],[],[]⟩).vals.all fun x=>decide (-1000≤x∧x≤1000):=by
 rw[zy3 hV h1 h2 h3 h4,if_pos hd,if_neg (c:=(ps.getD at_.toNat ⟨[],[],[]⟩).kids.length≠0) (by omega),if_neg (c:=(ps.getD at_.toNat ⟨[],[],[]⟩).vals.length≠(ps.getD at_.toNat ⟨[],[],[]⟩).keys.length) (by omega)]
theorem z3s (hd:d≠0) (h1:za2 (ps.getD at_.toNat ⟨[],[],[]⟩).keys=true) (h2:¬4<(ps.getD at_.toNat ⟨[],[],[]⟩).keys.length) (h3:((ps.getD at_.toNat ⟨[],[],[]⟩).keys.all fun x=>decide (low≤x∧x≤high))=true) (h4:¬(at_≠root∧(ps.getD at_.toNat ⟨[],[],[]⟩).keys.length<2)) (h5:(ps.getD at_.toNat ⟨[],[],[]⟩).keys.length≠0) (h6:(ps.getD at_.toNat ⟨[],[],[]⟩).vals.length=0)
  (h7:(ps.getD at_.toNat ⟨[],[],[]⟩).kids.length=(ps.getD at_.toNat ⟨[],[],[]⟩).keys.length+1) (h8:((ps.getD at_.toNat ⟨[],[],[]⟩).kids.all fun x=>decide (0≤x∧x≤(ps.length:Int)-1))=true) :
  V=(List.range (ps.getD at_.toNat ⟨[],[],[]⟩).kids.length).all fun i =>
    pgF ps root d ((ps.getD at_.toNat ⟨[],[],[]⟩).kids.getD i 0) (if 0<i then(ps.getD at_.toNat ⟨[],[],[]⟩).keys.getD (i-1) 0 else low) (if i<(ps.getD at_.toNat ⟨[],[],[]⟩).keys.length then(ps.getD at_.toNat ⟨[],[],[]⟩).keys.getD i 0-1 else high):=by
 rw[zy3 hV h1 h2 h3 h4,if_neg hd,if_neg (c:=(ps.getD at_.toNat ⟨[],[],[]⟩).keys.length=0) h5,if_neg (c:=(ps.getD at_.toNat ⟨[],[],[]⟩).vals.length≠0) (by omega),if_neg (c:=(ps.getD at_.toNat ⟨[],[],[]⟩).kids.length≠(ps.getD at_.toNat ⟨[],[],[]⟩).keys.length+1) (by omega),if_neg (c:=((ps.getD at_.toNat ⟨[],[],[]⟩).kids.all fun x=>decide (0≤x∧x≤(ps.length:Int)-1))=false) (by rw[h8];decide)]
end
theorem zo0 {n i:Nat} {p:Nat→Bool} (hi:i<n) (h:p i=false):(List.range n).all p=false:=by
 cases hq:(List.range n).all p with
 |false=>rfl
 |true=>rw[List.all_eq_true]at hq;rw[hq i (List.mem_range.2 hi)]at h;cases h
theorem zqx {n:Nat} {p:Nat→Bool} (h:∀j,j<n→p j=true):(List.range n).all p=true:=by
 rw[List.all_eq_true];exact fun j hj=>h j (List.mem_range.1 hj)
theorem zsz {xs:List Int} {p:Int→Bool} (h:xs.all p=true) {i:Nat} (hi:i<xs.length):p (xs.getD i 0)=true:=by
 rw[List.all_eq_true]at h
 have e:xs.getD i 0=xs[i]:=by rw[List.getD_eq_getElem?_getD,List.getElem?_eq_getElem hi];rfl
 rw[e];exact h _ (List.getElem_mem hi)
theorem z2r {xs:List Int} (h:za2 xs=true) (i:Nat):0≤xs.getD i 0∧xs.getD i 0≤99:=by
 unfold za2 at h
 rw[Bool.and_eq_true]at h
 by_cases hi:i<xs.length
 ·exact of_decide_eq_true (zsz (p:=fun x=>decide (0≤x∧x≤99)) h.2 hi)
 ·rw[List.getD_eq_getElem?_getD,List.getElem?_eq_none (Nat.le_of_not_lt hi)]
  exact⟨Int.le_refl 0,(by decide:(0:Int)≤99)⟩
end Go.VL
namespace Go.VL
set_option linter.unusedVariables false
set_option linter.unusedSimpArgs false
theorem z0w {ps:List Pg} {d:Nat} {l:List Int} (h:∀k∈l,wkOk ps d k):(l.flatMap (wkF ps d)).length≤l.length*wkB d:=by
 induction l with
 |nil=>simp
 |cons a t iht =>
  rw[List.flatMap_cons,List.length_append,List.length_cons,Nat.add_mul]
  have:=zg5 d (h a List.mem_cons_self)
  have:=iht fun k hk=>h k (List.mem_cons_of_mem _ hk)
  omega
theorem zzt (f:Int→List Int) (l:List Int) (i:Nat) (h:i<l.length):(l.take (i+1)).flatMap f=(l.take i).flatMap f++f (l.getD i 0):=by
 rw[zat (0:Int) h,List.flatMap_append,List.flatMap_cons,List.flatMap_nil,List.append_nil]
theorem zfs {d e:Nat} (h:d≤e):wkB d≤wkB e:=by
 induction e with
 |zero =>
  have:d=0:=by omega
  subst this;exact Nat.le_refl _
 |succ e ih =>
  by_cases c:d≤e
  ·have:=ih c;simp only[wkB];omega
  ·have:d=e+1:=by omega
   subst this;exact Nat.le_refl _
theorem zqp {ps:List Pg} {f:Nat} {at_ n:Int} (h1:0≤at_∧at_≤(ps.length:Int)-1) (h2:0<(ps.getD at_.toNat ⟨[],[],[]⟩).kids.length):hgF ps (f+1) at_ n=hgF ps f ((ps.getD at_.toNat ⟨[],[],[]⟩).kids.getD 0 0) (n+1):=by
 rw[hgF,if_pos (c:=0≤at_∧at_≤(ps.length:Int)-1∧0<(zb ps at_).kids.length) ⟨h1.1,h1.2,h2⟩]
theorem zqm {ps:List Pg} {f:Nat} {at_ n:Int} (h:¬(0≤at_∧at_≤(ps.length:Int)-1)∨¬0<(ps.getD at_.toNat ⟨[],[],[]⟩).kids.length):hgF ps (f+1) at_ n=n:=by
 rw[hgF,if_neg (c:=0≤at_∧at_≤(ps.length:Int)-1∧0<(zb ps at_).kids.length) (fun c=>h.elim (fun h=>h ⟨c.1,c.2.1⟩) fun h=>h c.2.2)]
theorem hg_b {ps:List Pg} (f:Nat):∀{at_ n:Int},n≤hgF ps f at_ n∧hgF ps f at_ n≤n+f:=by
 induction f with
 |zero=>intro at_ n;exact⟨Int.le_refl _,by simp[hgF]⟩
 |succ f ih =>
  intro at_ n
  rw[hgF]
  split
  ·have:=ih (at_:=(zb ps at_).kids.getD 0 0) (n:=n+1);omega
  ·omega
def vTree (root:Int) (ps:List Pg):Bool :=
 if ¬(1≤(ps.length:Int)∧(ps.length:Int)≤16)then false
 else if ¬(0≤root∧root≤(ps.length:Int)-1)then false
 else if 3<hgF ps 3 root 1 then false
 else if pgF ps root (hgF ps 3 root 1).toNat root 0 99=false then false
 else if ¬(wkF ps (hgF ps 3 root 1).toNat root).Nodup then false
 else decide ((wkF ps (hgF ps 3 root 1).toNat root).length=ps.length)
section
variable {root : Int} {ps : List Pg} {V : Bool} {d : Nat} (hV : vTree root ps = V) (hH : hgF ps 3 root 1 = (d : Int) + 1)
include hV
theorem vT_1 (h:¬(1≤(ps.length:Int)∧(ps.length:Int)≤16)):V=false:=by
 rw[←hV];unfold vTree;rw[if_pos h]
theorem vT_2 (h:¬(0≤root∧root≤(ps.length:Int)-1)):V=false:=by
 rw[←hV];unfold vTree;rw[if_pos h];simp only[ite_self]
theorem vT_3 (h:3<hgF ps 3 root 1):V=false:=by
 rw[←hV];unfold vTree;rw[if_pos h];simp only[ite_self]
include hH
theorem vT_n:(hgF ps 3 root 1).toNat=d+1:=by
 have:=hV
 rw[hH];omega
theorem vT_4 (h:pgF ps root (d+1) root 0 99=false):V=false:=by
 rw[←hV];unfold vTree;rw[vT_n hV hH,if_pos h];simp only[ite_self]
theorem vT_5 (h:¬(wkF ps (d+1) root).Nodup):V=false:=by
 rw[←hV];unfold vTree;rw[vT_n hV hH,if_pos (c:=¬(wkF ps (d+1) root).Nodup) h];simp only[ite_self]
theorem vT_6 (h1:1≤(ps.length:Int)∧(ps.length:Int)≤16) (h2:0≤root∧root≤(ps.length:Int)-1) (h3:¬3<hgF ps 3 root 1) (h4:pgF ps root (d+1) root 0 99=true) (h5:(wkF ps (d+1) root).Nodup):V=decide ((wkF ps (d+1) root).length=ps.length):=by
 rw[←hV];unfold vTree
 rw[if_neg (fun c=>c h1),if_neg (fun c=>c h2),if_neg h3,vT_n hV hH,if_neg (by rw[h4];decide),if_neg (fun c=>c h5)]
end
theorem zwf {l:List Int} {i:Nat} (hi:i<l.length) (h:(l.take i).Nodup) (hn:(l.take i).contains (l.getD i 0)=false):(l.take (i+1)).Nodup:=by
 rw[zat (0:Int) hi,List.nodup_append]
 refine⟨h,by simp,fun x hx y hy=>?_⟩
 rw[List.mem_singleton]at hy
 subst hy
 intro e
 subst e
 rw[List.contains_iff_mem.2 hx]at hn;cases hn
theorem zzi {l:List Int} {i:Nat} (hi:i<l.length) (hn:(l.take i).contains (l.getD i 0)=true):¬l.Nodup:=by
 intro h
 have h2:=h.sublist (List.take_sublist (i+1) l)
 rw[zat (0:Int) hi,List.nodup_append]at h2
 exact h2.2.2 _ (List.contains_iff_mem.1 hn) _ List.mem_cons_self rfl
end Go.VL
namespace Go.VL
set_option linter.unusedVariables false
set_option linter.unusedSimpArgs false
def Seg (F:Int→Int→Int→Prop):Int→Int→List Int→List Int→Prop
 |lo,hi,[],[c]=>F c lo hi
 |lo,hi,k::ks,c::cs=>F c lo (k-1)∧Seg F k hi ks cs
 |_,_,_,_=>False
def zca (F:Int→Int→Int→Prop):Int→List Int→List Int→Int→Prop
 |lo,[],[],l=>l=lo
 |lo,k::ks,c::cs,l=>F c lo (k-1)∧zca F k ks cs l
 |_,_,_,_=>False
def zc3 (F:Int→Int→Int→Prop) (r hi:Int):List Int→List Int→Prop
 |[],[]=>r=hi
 |k::ks,c::cs=>r=k-1∧Seg F k hi ks (c::cs)
 |_,_=>False
section
variable {F G : Int → Int → Int → Prop}
theorem Seg.len:∀{ks cs:List Int} {lo hi:Int},Seg F lo hi ks cs→cs.length=ks.length+1
 |[],[],_,_,h=>h.elim
 |[],[_],_,_,_=>rfl
 |[],_::_::_,_,_,h=>h.elim
 |_::_,[],_,_,h=>h.elim
 |_::ks,_::cs,_,_,h=>by have:=Seg.len h.2;simp only[List.length_cons];omega
theorem zca.len:∀{ks cs:List Int} {lo l:Int},zca F lo ks cs l→cs.length=ks.length
 |[],[],_,_,_=>rfl
 |[],_::_,_,_,h=>h.elim
 |_::_,[],_,_,h=>h.elim
 |_::ks,_::cs,_,_,h=>by have:=zca.len h.2;simp only[List.length_cons];omega
theorem zc3.len {r hi:Int}:∀{ks cs:List Int},zc3 F r hi ks cs→cs.length=ks.length
 |[],[],_=>rfl
 |[],_::_,h=>h.elim
 |_::_,[],h=>h.elim
 |_::ks,_::cs,h=>by have:=Seg.len h.2;simp only[List.length_cons]at this⊢;omega
theorem zk0 {hi c:Int}:∀{KA A KB B:List Int} {lo:Int},A.length=KA.length→B.length=KB.length →
  (Seg F lo hi (KA++KB) (A++c::B)↔∃l r,zca F lo KA A l∧F c l r∧zc3 F r hi KB B):=by
 intro KA
 induction KA with
 |nil =>
  intro A KB B lo hA hB
  have:A=[]:=List.eq_nil_of_length_eq_zero (by simpa using hA)
  subst this
  cases KB with
  |nil =>
   have:B=[]:=List.eq_nil_of_length_eq_zero (by simpa using hB)
   subst this
   exact⟨fun h=>⟨lo,hi,rfl,h,rfl⟩,fun⟨l,r,h1,h2,h3⟩=>by cases h1;cases h3;exact h2⟩
  |cons k ks =>
   cases B with
   |nil=>simp at hB
   |cons b bs =>
    exact⟨fun h=>⟨lo,k-1,rfl,h.1,rfl,h.2⟩,fun⟨l,r,h1,h2,h3,h4⟩=>by cases h1;cases h3;exact⟨h2,h4⟩⟩
 |cons k ks ih =>
  intro A KB B lo hA hB
  cases A with
  |nil=>simp at hA
  |cons a as =>
   have:=ih (A:=as) (KB:=KB) (B:=B) (lo:=k) (by simpa using hA) hB
   constructor
   ·intro h
    obtain⟨l,r,h1,h2,h3⟩:=this.1 h.2
    exact⟨l,r,⟨h.1,h1⟩,h2,h3⟩
   ·rintro⟨l,r,h1,h2,h3⟩
    exact⟨h1.1,this.2 ⟨l,r,h1.2,h2,h3⟩⟩
theorem zm8 {r hi k c:Int} {ks cs:List Int} (hl:cs.length=ks.length):zc3 F r hi (k::ks) (c::cs)↔r=k-1∧∃r',F c k r'∧zc3 F r' hi ks cs:=by
 have:=zk0 (F:=F) (hi:=hi) (c:=c) (KA:=[]) (A:=[]) (KB:=ks) (B:=cs) (lo:=k) rfl hl
 constructor
 ·rintro⟨h1,h2⟩
  obtain⟨l,r',g1,g2,g3⟩:=this.1 h2
  cases g1
  exact⟨h1,r',g2,g3⟩
 ·rintro⟨h1,r',h2,h3⟩
  exact⟨h1,this.2 ⟨k,r',rfl,h2,h3⟩⟩
theorem zt6 {hi c d k:Int} {KA A KB B:List Int} {lo:Int} (hA:A.length=KA.length) (hB:B.length=KB.length) :
  Seg F lo hi (KA++k::KB) (A++c::d::B)↔∃l r,zca F lo KA A l∧F c l (k-1)∧F d k r∧zc3 F r hi KB B:=by
 rw[zk0 hA (by simp[hB])]
 constructor
 ·rintro⟨l,r,h1,h2,h3⟩
  obtain⟨rfl,r',h4,h5⟩:=(zm8 hB).1 h3
  exact⟨l,r',h1,h2,h4,h5⟩
 ·rintro⟨l,r,h1,h2,h3,h4⟩
  exact⟨l,k-1,h1,h2,(zm8 hB).2 ⟨rfl,r,h3,h4⟩⟩
theorem zpm {hi k:Int} {ks2 cs2:List Int}:∀{ks1 cs1:List Int} {lo:Int},cs1.length=ks1.length+1 →
  (Seg F lo hi (ks1++k::ks2) (cs1++cs2)↔Seg F lo (k-1) ks1 cs1∧Seg F k hi ks2 cs2):=by
 intro ks1
 induction ks1 with
 |nil =>
  intro cs1 lo h
  match cs1,h with
  |[c],_=>exact Iff.rfl
 |cons k1 ks1 ih =>
  intro cs1 lo h
  match cs1,h with
  |c::cs,h =>
   have:=ih (cs1:=cs) (lo:=k1) (by simpa using h)
   constructor
   ·intro h
    obtain⟨h1,h2⟩:=this.1 h.2
    exact⟨⟨h.1,h1⟩,h2⟩
   ·rintro⟨h1,h2⟩
    exact⟨h1.1,this.2 ⟨h1.2,h2⟩⟩
theorem Seg.imp {hi:Int}:∀{ks cs:List Int} {lo:Int},(∀c∈cs,∀l r,F c l r→G c l r)→Seg F lo hi ks cs→Seg G lo hi ks cs
 |[],[],_,_,h=>h.elim
 |[],[c],_,hf,h=>hf c (by simp) _ _ h
 |[],_::_::_,_,_,h=>h.elim
 |_::_,[],_,_,h=>h.elim
 |_::ks,c::cs,_,hf,h=>⟨hf c (by simp) _ _ h.1,Seg.imp (fun x hx=>hf x (List.mem_cons_of_mem _ hx)) h.2⟩
theorem zca.imp {l:Int}:∀{ks cs:List Int} {lo:Int},(∀c∈cs,∀l r,F c l r→G c l r)→zca F lo ks cs l→zca G lo ks cs l
 |[],[],_,_,h=>h
 |[],_::_,_,_,h=>h.elim
 |_::_,[],_,_,h=>h.elim
 |_::ks,c::cs,_,hf,h=>⟨hf c (by simp) _ _ h.1,zca.imp (fun x hx=>hf x (List.mem_cons_of_mem _ hx)) h.2⟩
theorem zc3.imp {r hi:Int}:∀{ks cs:List Int},(∀c∈cs,∀l r,F c l r→G c l r)→zc3 F r hi ks cs→zc3 G r hi ks cs
 |[],[],_,h=>h
 |[],_::_,_,h=>h.elim
 |_::_,[],_,h=>h.elim
 |_::ks,c::cs,hf,h=>⟨h.1,Seg.imp hf h.2⟩
theorem Seg.mem {hi:Int}:∀{ks cs:List Int} {lo:Int},Seg F lo hi ks cs→∀c∈cs,∃l r,F c l r
 |[],[],_,h,_,_=>h.elim
 |[],[c],_,h,x,hx=>by rw[List.mem_singleton]at hx;subst hx;exact⟨_,_,h⟩
 |[],_::_::_,_,h,_,_=>h.elim
 |_::_,[],_,h,_,_=>h.elim
 |_::ks,c::cs,_,h,x,hx=>by
  rcases List.mem_cons.1 hx with rfl|hx
  ·exact⟨_,_,h.1⟩
  ·exact Seg.mem h.2 x hx
theorem zv5 {hi:Int}:∀{ks cs:List Int} {lo:Int},cs.length=ks.length+1 →
  (Seg F lo hi ks cs↔∀i,i<cs.length→F (cs.getD i 0) (if 0<i then ks.getD (i-1) 0 else lo) (if i<ks.length then ks.getD i 0-1 else hi)):=by
 intro ks
 induction ks with
 |nil =>
  intro cs lo h
  match cs,h with
  |[c],_ =>
   constructor
   ·intro h i hi
    have:i=0:=by simpa using hi
    subst this
    exact h
   ·intro h
    exact h 0 (by simp)
 |cons k ks ih =>
  intro cs lo h
  match cs,h with
  |c::cs,h =>
   have h':cs.length=ks.length+1:=by simpa using h
   have:=ih (cs:=cs) (lo:=k) h'
   constructor
   ·intro hs i hi
    cases i with
    |zero=>simpa using hs.1
    |succ i =>
     have:=this.1 hs.2 i (by simpa using hi)
     simp only[List.getD_cons_succ,Nat.zero_lt_succ,if_true,Nat.add_sub_cancel,List.length_cons,Nat.succ_lt_succ_iff,Nat.add_lt_add_iff_right]
     cases i with
     |zero=>simpa using this
     |succ i=>simpa using this
   ·intro hs
    refine⟨by simpa using hs 0 (by simp),this.2 fun i hi=>?_⟩
    have:=hs (i+1) (by simpa using hi)
    cases i with
    |zero=>simpa using this
    |succ i=>simpa using this
theorem Seg.bounds {hi:Int} (hF:∀c l r,F c l r→l≤r):∀{ks cs:List Int} {lo:Int},Seg F lo hi ks cs→lo≤hi∧(∀k∈ks,lo<k∧k≤hi)∧ks.Pairwise (· < ·)
 |[],[],_,h=>h.elim
 |[],[c],_,h=>⟨hF _ _ _ h,by simp,by simp⟩
 |[],_::_::_,_,h=>h.elim
 |_::_,[],_,h=>h.elim
 |k::ks,c::cs,lo,h=>by
  have h1:=hF _ _ _ h.1
  obtain⟨h2,h3,h4⟩:=Seg.bounds hF h.2
  refine⟨by omega,fun x hx=>?_,?_⟩
  ·rcases List.mem_cons.1 hx with rfl|hx
   ·omega
   ·have:=h3 x hx;omega
  ·rw[List.pairwise_cons]
   exact⟨fun x hx=>(h3 x hx).1,h4⟩
end
end Go.VL
namespace Go.VL
set_option linter.unusedVariables false
set_option linter.unusedSimpArgs false
theorem zcf {a:Int} {t:List Int}:Asc (a::t)↔(∀x∈t,a<x)∧Asc t:=List.pairwise_cons
theorem z2x {a b:List Int}:Asc (a++b)↔Asc a∧Asc b∧∀x∈a,∀y∈b,x<y:=List.pairwise_append
def zab (p:Pg):List Pr:=List.zipWith Pr.mk p.keys p.vals
structure LeafOk (p:Pg) (lo hi:Int):Prop where
 asc:Asc p.keys
 rng:∀k∈p.keys,lo≤k∧k≤hi
 kids:p.kids=[]
 len:p.vals.length=p.keys.length
 vrng:∀v∈p.vals,-1000≤v∧v≤1000
def zaa (ps:List Pg):Nat→Pg→Int→Int→Prop
 |0,_,_,_=>False
 |1,p,lo,hi=>LeafOk p lo hi
 |d+2,p,lo,hi=>p.vals=[]∧Seg (fun c l r=>0≤c∧c<ps.length∧2≤(zb ps c).keys.length∧(zb ps c).keys.length≤4∧zaa ps (d+1) (zb ps c) l r) lo hi p.keys p.kids
def Fit (ps:List Pg) (d mn mx:Nat) (a lo hi:Int):Prop :=
 0≤a∧a<ps.length∧mn≤(zb ps a).keys.length∧(zb ps a).keys.length≤mx∧zaa ps d (zb ps a) lo hi
def bw (ps:List Pg):Nat→Pg→List Int
 |0,_=>[]
 |d+1,p=>p.kids.flatMap (wkF ps d)
theorem zaf (ps:List Pg) (d:Nat) (a:Int):wkF ps (d+1) a=a::bw ps (d+1) (zb ps a):=rfl
def prF (ps:List Pg):Nat→Pg→List Pr
 |0,_=>[]
 |1,p=>zab p
 |d+2,p=>p.kids.flatMap fun c=>prF ps (d+1) (zb ps c)
def lvF (ps:List Pg):Nat→Int→List Int
 |0,_=>[]
 |1,a=>[a]
 |d+2,a=>(zb ps a).kids.flatMap (lvF ps (d+1))
def upF (xs:List Int) (n:Int):Nat:=(xs.takeWhile fun x=>decide (x≤n)).length
def ptF (ps:List Pg) (key:Int):Nat→Int→List Int
 |0,_=>[]
 |1,a=>[a]
 |d+2,a=>a::ptF ps key (d+1) ((zb ps a).kids.getD (upF (zb ps a).keys key) 0)
theorem Fit.le {ps:List Pg}:∀{d mn mx:Nat} {a lo hi:Int},Fit ps d mn mx a lo hi→1≤mn→lo≤hi
 |0,_,_,_,_,_,h,_=>h.2.2.2.2.elim
 |1,mn,_,a,lo,hi,h,hm=>by
  obtain⟨_,_,h3,_,h5⟩:=h
  match hk:(zb ps a).keys with
  |[]=>rw[hk]at h3;simp at h3;omega
  |k::t=>have:=LeafOk.rng h5 k (by rw[hk];simp);omega
 |d+2,mn,_,a,lo,hi,h,hm=>(Seg.bounds (fun c l r hc=>Fit.le (d:=d+1) hc (by decide)) h.2.2.2.2.2).1
theorem Fit.le' {ps:List Pg} {d:Nat}:∀c l r,Fit ps d 2 4 c l r→l≤r:=fun c l r h=>h.le (by decide)
theorem Fit.mono {ps:List Pg} {d mn mx mn' mx':Nat} {a lo hi:Int} (h:Fit ps d mn mx a lo hi) (h1:mn'≤mn) (h2:mx≤mx'):Fit ps d mn' mx' a lo hi :=
 ⟨h.1,h.2.1,Nat.le_trans h1 h.2.2.1,Nat.le_trans h.2.2.2.1 h2,h.2.2.2.2⟩
theorem zaa.keys {ps:List Pg}:∀{d:Nat} {p:Pg} {lo hi:Int},zaa ps d p lo hi→Asc p.keys∧∀k∈p.keys,lo≤k∧k≤hi
 |0,_,_,_,h=>h.elim
 |1,p,_,_,h=>⟨LeafOk.asc h,LeafOk.rng h⟩
 |d+2,p,lo,hi,h=>by
  obtain⟨_,h2,h3⟩:=Seg.bounds (fun c l r hc=>Fit.le (d:=d+1) hc (by decide)) h.2
  exact⟨h3,fun k hk=>⟨Int.le_of_lt (h2 k hk).1,(h2 k hk).2⟩⟩
theorem zaa.kidsLen {ps:List Pg} {d:Nat} {p:Pg} {lo hi:Int} (h:zaa ps (d+2) p lo hi):p.kids.length=p.keys.length+1:=Seg.len h.2
theorem zaa.bwLt {ps:List Pg}:∀{d:Nat} {p:Pg} {lo hi:Int},zaa ps d p lo hi→∀a∈bw ps d p,0≤a∧a<ps.length
 |0,_,_,_,h=>h.elim
 |1,p,_,_,h=>fun a ha=>by simp only[bw,LeafOk.kids h,List.flatMap_nil]at ha;cases ha
 |d+2,p,lo,hi,h=>fun a ha=>by
  obtain⟨c,hc,hac⟩:=List.mem_flatMap.1 ha
  obtain⟨l,r,hf⟩:=Seg.mem h.2 c hc
  rcases List.mem_cons.1 hac with rfl|hac
  ·exact⟨hf.1,hf.2.1⟩
  ·exact zaa.bwLt hf.2.2.2.2 a hac
theorem Fit.wkLt {ps:List Pg} {d mn mx:Nat} {a lo hi:Int} (h:Fit ps (d+1) mn mx a lo hi):∀x∈wkF ps (d+1) a,0≤x∧x<ps.length:=fun x hx=>by
 rcases List.mem_cons.1 hx with rfl|hx
 ·exact⟨h.1,h.2.1⟩
 ·exact zaa.bwLt h.2.2.2.2 x hx
theorem zgj {ps:List Pg} {d:Nat} {p:Pg} {c x:Int} (hc:c∈p.kids) (hx:x∈wkF ps d c):x∈bw ps (d+1) p:=List.mem_flatMap.2 ⟨c,hc,hx⟩
theorem zas {ps:List Pg} {d:Nat} {a:Int}:a∈wkF ps (d+1) a:=List.mem_cons_self
theorem flatMap_congr' {α β:Type} {l:List α} {f g:α→List β} (h:∀x∈l,f x=g x):l.flatMap f=l.flatMap g:=by
 induction l with
 |nil=>rfl
 |cons a t ih=>rw[List.flatMap_cons,List.flatMap_cons,h a (by simp),ih fun x hx=>h x (List.mem_cons_of_mem _ hx)]
theorem zaa.frame {ps ps':List Pg} (hl:ps.length≤ps'.length):∀{d:Nat} {p:Pg} {lo hi:Int},zaa ps d p lo hi→(∀a∈bw ps d p,zb ps' a=zb ps a) →
  zaa ps' d p lo hi∧bw ps' d p=bw ps d p∧prF ps' d p=prF ps d p
 |0,_,_,_,h,_=>h.elim
 |1,p,_,_,h,_=>⟨h,by simp only[bw,LeafOk.kids h,List.flatMap_nil],rfl⟩
 |d+2,p,lo,hi,h,hs=>by
  have key:∀c∈p.kids,∀l r,Fit ps (d+1) 2 4 c l r→zb ps' c=zb ps c∧zaa ps' (d+1) (zb ps c) l r∧bw ps' (d+1) (zb ps c)=bw ps (d+1) (zb ps c)∧prF ps' (d+1) (zb ps c)=prF ps (d+1) (zb ps c):=fun c hc l r hf =>
   ⟨hs c (zgj hc zas),zaa.frame hl hf.2.2.2.2 fun a ha=>hs a (zgj hc (List.mem_cons_of_mem _ ha))⟩
  refine⟨⟨h.1,Seg.imp (fun c hc l r hf=>?_) h.2⟩,?_,?_⟩
  ·obtain⟨k1,k2,_⟩:=key c hc l r hf
   refine⟨hf.1,?_,?_,?_,?_⟩
   ·have:=hf.2.1;omega
   ·rw[k1];exact hf.2.2.1
   ·rw[k1];exact hf.2.2.2.1
   ·rw[k1];exact k2
  ·refine flatMap_congr' fun c hc=>?_
   obtain⟨l,r,hf⟩:=Seg.mem h.2 c hc
   obtain⟨k1,_,k3,_⟩:=key c hc l r hf
   rw[zaf,zaf,k1,k3]
  ·refine flatMap_congr' fun c hc=>?_
   obtain⟨l,r,hf⟩:=Seg.mem h.2 c hc
   obtain⟨k1,_,_,k4⟩:=key c hc l r hf
   rw[k1,k4]
theorem Fit.frame {ps ps':List Pg} (hl:ps.length≤ps'.length) {d mn mx:Nat} {a lo hi:Int} (h:Fit ps (d+1) mn mx a lo hi) (hs:∀x∈wkF ps (d+1) a,zb ps' x=zb ps x) :
  Fit ps' (d+1) mn mx a lo hi∧wkF ps' (d+1) a=wkF ps (d+1) a∧prF ps' (d+1) (zb ps' a)=prF ps (d+1) (zb ps a):=by
 have h1:=hs a zas
 obtain⟨k1,k2,k3⟩:=zaa.frame hl h.2.2.2.2 fun x hx=>hs x (List.mem_cons_of_mem _ hx)
 refine⟨⟨h.1,?_,?_,?_,?_⟩,?_,?_⟩
 ·have:=h.2.1;omega
 ·rw[h1];exact h.2.2.1
 ·rw[h1];exact h.2.2.2.1
 ·rw[h1];exact k1
 ·rw[zaf,zaf,h1,k2]
 ·rw[h1,k3]
theorem zdi {p:Pg} (h:p.vals.length=p.keys.length):(zab p).map Pr.key=p.keys:=by
 unfold zab
 rw[List.map_zipWith]
 generalize p.vals=vs at h
 generalize p.keys=ks at h⊢
 induction ks generalizing vs with
 |nil=>simp
 |cons k ks ih =>
  cases vs with
  |nil=>simp at h
  |cons v vs=>simp only[List.zipWith_cons_cons,ih vs (by simpa using h)]
theorem zq8 {p:Pg} (h:p.vals.length=p.keys.length):(zab p).map Pr.value=p.vals:=by
 unfold zab
 rw[List.map_zipWith]
 generalize p.vals=vs at h⊢
 generalize p.keys=ks at h
 induction ks generalizing vs with
 |nil=>cases vs with
  |nil=>rfl
  |cons v vs=>simp at h
 |cons k ks ih =>
  cases vs with
  |nil=>simp at h
  |cons v vs=>simp only[List.zipWith_cons_cons,ih vs (by simpa using h)]
theorem zby (p:Pg) (h:p.vals.length=p.keys.length):(zab p).length=p.keys.length:=by
 rw[←zdi h,List.length_map]
def zae (row:List Pr):Pg:=⟨row.map Pr.key,[],row.map Pr.value⟩
theorem ze3 (row:List Pr):zab (zae row)=row:=by
 unfold zab zae
 induction row with
 |nil=>rfl
 |cons a t ih=>simp only[List.map_cons,List.zipWith_cons_cons,List.cons.injEq,true_and];exact ih
theorem zwi {p:Pg} (h:p.vals.length=p.keys.length) (hk:p.kids=[]):zae (zab p)=p:=by
 unfold zae
 rw[zdi h,zq8 h,←hk]
structure RowOk (row:List Pr) (lo hi:Int):Prop where
 asc:Asc (row.map Pr.key)
 rng:∀x∈row,lo≤x.key∧x.key≤hi
 vrng:∀x∈row,-1000≤x.value∧x.value≤1000
theorem zfr {row:List Pr} {lo hi:Int}:LeafOk (zae row) lo hi↔RowOk row lo hi:=by
 constructor
 ·intro h
  exact⟨h.asc,fun x hx=>h.rng _ (List.mem_map.2 ⟨x,hx,rfl⟩),fun x hx=>h.vrng _ (List.mem_map.2 ⟨x,hx,rfl⟩)⟩
 ·intro h
  refine⟨h.asc,fun k hk=>?_,rfl,by simp[zae],fun v hv=>?_⟩
  ·obtain⟨x,hx,rfl⟩:=List.mem_map.1 hk;exact h.rng x hx
  ·obtain⟨x,hx,rfl⟩:=List.mem_map.1 hv;exact h.vrng x hx
theorem LeafOk.row {p:Pg} {lo hi:Int} (h:LeafOk p lo hi):RowOk (zab p) lo hi:=by
 rw[←zfr,zwi h.len h.kids];exact h
theorem RowOk.append {A B:List Pr} {lo k hi:Int} (hA:RowOk A lo (k-1)) (hB:RowOk B k hi) (h1:lo≤k) (h2:k-1≤hi):RowOk (A++B) lo hi:=by
 refine⟨?_,fun x hx=>?_,fun x hx=>?_⟩
 ·rw[List.map_append]
  refine List.pairwise_append.2 ⟨hA.asc,hB.asc,fun x hx y hy=>?_⟩
  obtain⟨a,ha,rfl⟩:=List.mem_map.1 hx
  obtain⟨b,hb,rfl⟩:=List.mem_map.1 hy
  have:=hA.rng a ha
  have:=hB.rng b hb
  omega
 ·rcases List.mem_append.1 hx with hx|hx
  ·have:=hA.rng x hx;omega
  ·have:=hB.rng x hx;omega
 ·rcases List.mem_append.1 hx with hx|hx
  ·exact hA.vrng x hx
  ·exact hB.vrng x hx
theorem RowOk.wide {A:List Pr} {lo hi lo' hi':Int} (h:RowOk A lo hi) (h1:lo'≤lo) (h2:hi≤hi'):RowOk A lo' hi' :=
 ⟨h.asc,fun x hx=>by have:=h.rng x hx;omega,h.vrng⟩
theorem Seg.row {F:Int→Int→Int→Prop} {g:Int→List Pr} {hi:Int} (hF:∀c l r,F c l r→l≤r):∀{ks cs:List Int} {lo:Int},(∀c∈cs,∀l r,F c l r→RowOk (g c) l r)→Seg F lo hi ks cs→RowOk (cs.flatMap g) lo hi
 |[],[],_,_,h=>h.elim
 |[],[c],_,hg,h=>by simpa using hg c (by simp) _ _ h
 |[],_::_::_,_,_,h=>h.elim
 |_::_,[],_,_,h=>h.elim
 |k::ks,c::cs,lo,hg,h=>by
  rw[List.flatMap_cons]
  have h1:=hF _ _ _ h.1
  have h2:=(Seg.bounds hF h.2).1
  exact RowOk.append (hg c (by simp) _ _ h.1) (Seg.row hF (fun x hx=>hg x (List.mem_cons_of_mem _ hx)) h.2) (by omega) (by omega)
theorem zaa.row {ps:List Pg}:∀{d:Nat} {p:Pg} {lo hi:Int},zaa ps d p lo hi→RowOk (prF ps d p) lo hi
 |0,_,_,_,h=>h.elim
 |1,p,_,_,h=>LeafOk.row h
 |d+2,p,lo,hi,h=>Seg.row (F:=Fit ps (d+1) 2 4) Fit.le' (fun c _ l r hc=>zaa.row hc.2.2.2.2) h.2
structure VT (root:Int) (ps:List Pg) (h:Nat):Prop where
 l1:1≤ps.length
 l16:ps.length≤16
 h1:1≤h
 h3:h≤3
 fit:Fit ps h (if h=1 then 0 else 1) 4 root 0 99
 nd:(wkF ps h root).Nodup
 all:(wkF ps h root).length=ps.length
theorem zde {xs:List Int}:za2 xs=true↔Asc xs∧∀k∈xs,0≤k∧k≤99:=by
 unfold za2
 rw[Bool.and_eq_true,decide_eq_true_eq,List.all_eq_true]
 exact⟨fun h=>⟨h.1,fun k hk=>of_decide_eq_true (h.2 k hk)⟩,fun h=>⟨h.1,fun k hk=>decide_eq_true (h.2 k hk)⟩⟩
theorem zhz {xs:List Int} {lo hi:Int}:(xs.all fun x=>decide (lo≤x∧x≤hi))=true↔∀k∈xs,lo≤k∧k≤hi:=by
 rw[List.all_eq_true]
 exact⟨fun h k hk=>of_decide_eq_true (h k hk),fun h k hk=>decide_eq_true (h k hk)⟩
theorem zfc {ps:List Pg} {root:Int} {d:Nat} {a lo hi:Int}:pgF ps root (d+1) a lo hi=true ↔
  za2 (zb ps a).keys=true∧(zb ps a).keys.length≤4∧(∀k∈(zb ps a).keys,lo≤k∧k≤hi)∧(a=root∨2≤(zb ps a).keys.length) ∧
  (if d=0 then(zb ps a).kids=[]∧(zb ps a).vals.length=(zb ps a).keys.length∧∀v∈(zb ps a).vals,-1000≤v∧v≤1000
   else 1≤(zb ps a).keys.length∧(zb ps a).vals=[]∧(zb ps a).kids.length=(zb ps a).keys.length+1∧(∀k∈(zb ps a).kids,0≤k∧k<ps.length) ∧
    Seg (fun c l r=>pgF ps root d c l r=true) lo hi (zb ps a).keys (zb ps a).kids):=by
 rw[pgF]
 by_cases g1:za2 (zb ps a).keys=false
 ·rw[if_pos g1,g1];simp
 rw[if_neg g1]
 rw[Bool.not_eq_false]at g1
 by_cases g2:4<(zb ps a).keys.length
 ·rw[if_pos g2];simp only[Bool.false_eq_true,false_iff];intro h;omega
 rw[if_neg g2]
 by_cases g3:((zb ps a).keys.all fun x=>decide (lo≤x∧x≤hi))=false
 ·rw[if_pos g3];simp only[Bool.false_eq_true,false_iff];intro h
  rw[zhz.2 h.2.2.1]at g3;cases g3
 rw[if_neg g3]
 rw[Bool.not_eq_false,zhz]at g3
 by_cases g4:a≠root∧(zb ps a).keys.length<2
 ·rw[if_pos g4];simp only[Bool.false_eq_true,false_iff];intro h
  rcases h.2.2.2.1 with h|h
  ·exact g4.1 h
  ·omega
 rw[if_neg g4]
 have g4':a=root∨2≤(zb ps a).keys.length:=by
  by_cases e:a=root
  ·exact .inl e
  ·exact .inr (by have:=fun h=>g4 ⟨e,h⟩;omega)
 by_cases g5:d=0
 ·rw[if_pos g5,if_pos g5]
  by_cases g6:(zb ps a).kids.length≠0
  ·rw[if_pos g6];simp only[Bool.false_eq_true,false_iff];intro h
   rw[h.2.2.2.2.1]at g6;exact g6 rfl
  rw[if_neg g6]
  have g6:=List.eq_nil_of_length_eq_zero (Decidable.of_not_not g6)
  by_cases g7:(zb ps a).vals.length≠(zb ps a).keys.length
  ·rw[if_pos g7];simp only[Bool.false_eq_true,false_iff];intro h
   exact g7 h.2.2.2.2.2.1
  rw[if_neg g7,zhz]
  exact⟨fun h=>⟨g1,by omega,g3,g4',g6,Decidable.of_not_not g7,h⟩,fun h=>h.2.2.2.2.2.2⟩
 rw[if_neg g5,if_neg g5]
 by_cases g6:(zb ps a).keys.length=0
 ·rw[if_pos g6];simp only[Bool.false_eq_true,false_iff];intro h
  have:=h.2.2.2.2.1;omega
 rw[if_neg g6]
 by_cases g7:(zb ps a).vals.length≠0
 ·rw[if_pos g7];simp only[Bool.false_eq_true,false_iff];intro h
  rw[h.2.2.2.2.2.1]at g7;exact g7 rfl
 rw[if_neg g7]
 have g7:=List.eq_nil_of_length_eq_zero (Decidable.of_not_not g7)
 by_cases g8:(zb ps a).kids.length≠(zb ps a).keys.length+1
 ·rw[if_pos g8];simp only[Bool.false_eq_true,false_iff];intro h
  exact g8 h.2.2.2.2.2.2.1
 rw[if_neg g8]
 have g8:=Decidable.of_not_not g8
 by_cases g9:((zb ps a).kids.all fun x=>decide (0≤x∧x≤(ps.length:Int)-1))=false
 ·rw[if_pos g9];simp only[Bool.false_eq_true,false_iff];intro h
  rw[zhz.2 (fun k hk=>by have:=h.2.2.2.2.2.2.2.1 k hk;omega)]at g9;cases g9
 rw[if_neg g9]
 rw[Bool.not_eq_false,zhz]at g9
 rw[zv5 g8,List.all_eq_true]
 exact⟨fun h=>⟨g1,by omega,g3,g4',by omega,g7,g8,fun k hk=>by have:=g9 k hk;omega,fun i hi=>h i (List.mem_range.2 hi)⟩,fun h i hi=>h.2.2.2.2.2.2.2.2 i (List.mem_range.1 hi)⟩
theorem zno {ps:List Pg} {root:Int}:∀{d:Nat} {a lo hi:Int},pgF ps root d a lo hi=true→0≤a→a<ps.length→(∀x∈bw ps d (zb ps a),x≠root) →
  Fit ps d (if a=root then(if d=1 then 0 else 1)else 2) 4 a lo hi
 |0,_,_,_,h,_,_,_=>by cases h
 |1,a,lo,hi,h,h0,h1,hr=>by
  obtain⟨g1,g2,g3,g4,g5⟩:=zfc.1 h
  rw[if_pos rfl]at g5
  refine⟨h0,h1,?_,g2,(zde.1 g1).1,g3,g5.1,g5.2.1,g5.2.2⟩
  split
  ·simp
  ·rename_i e;exact g4.resolve_left e
 |d+2,a,lo,hi,h,h0,h1,hr=>by
  obtain⟨g1,g2,g3,g4,g5⟩:=zfc.1 h
  rw[if_neg (by omega)]at g5
  obtain⟨k1,k2,k3,k4,k5⟩:=g5
  refine⟨h0,h1,?_,g2,k2,Seg.imp (fun c hc l r hp=>?_) k5⟩
  ·split
   ·rw[if_neg (by omega)];exact k1
   ·rename_i e;exact g4.resolve_left e
  ·have:=zno (d:=d+1) hp (k4 c hc).1 (k4 c hc).2 fun x hx=>hr x (zgj hc (List.mem_cons_of_mem _ hx))
   rwa [if_neg (hr c (zgj hc zas))]at this
theorem znm {ps:List Pg} {root:Int}:∀{d mn:Nat} {a lo hi:Int},Fit ps d mn 4 a lo hi→0≤lo→hi≤99→(a=root∨2≤mn)→(2≤d→1≤mn)→pgF ps root d a lo hi=true
 |0,_,_,_,_,h,_,_,_,_=>h.2.2.2.2.elim
 |1,mn,a,lo,hi,h,h0,h1,h2,h3=>by
  obtain⟨f1,f2,f3,f4,f5⟩:=h
  refine zfc.2 ⟨zde.2 ⟨LeafOk.asc f5,fun k hk=>by have:=LeafOk.rng f5 k hk;omega⟩,f4,LeafOk.rng f5,h2.imp id fun h=>by omega,?_⟩
  rw[if_pos rfl];exact⟨LeafOk.kids f5,LeafOk.len f5,LeafOk.vrng f5⟩
 |d+2,mn,a,lo,hi,h,h0,h1,h2,h3=>by
  obtain⟨f1,f2,f3,f4,f5⟩:=h
  obtain⟨b1,b2⟩:=zaa.keys f5
  obtain⟨b3,b4,_⟩:=Seg.bounds (F:=Fit ps (d+1) 2 4) Fit.le' f5.2
  have:=h3 (by omega)
  refine zfc.2 ⟨zde.2 ⟨b1,fun k hk=>by have:=b2 k hk;omega⟩,f4,b2,h2.imp id fun h=>by omega,?_⟩
  rw[if_neg (by omega)]
  refine⟨by omega,f5.1,zaa.kidsLen f5,fun k hk=>?_,?_⟩
  ·obtain⟨l,r,hf⟩:=Seg.mem f5.2 k hk;exact⟨hf.1,hf.2.1⟩
  ·
   have key:∀{ks cs:List Int} {l:Int},lo≤l→Seg (Fit ps (d+1) 2 4) l hi ks cs→Seg (fun c l r=>pgF ps root (d+1) c l r=true) l hi ks cs:=by
    intro ks
    induction ks with
    |nil =>
     intro cs l hl hs
     match cs,hs with
     |[c],hs=>exact znm (d:=d+1) hs (by omega) h1 (.inr (Nat.le_refl _)) fun _=>by omega
    |cons k ks ih =>
     intro cs l hl hs
     match cs,hs with
     |c::cs,hs =>
      have q1:=Fit.le' _ _ _ hs.1
      have q2:=(Seg.bounds Fit.le' hs.2).1
      exact⟨znm (d:=d+1) hs.1 (by omega) (by omega) (.inr (Nat.le_refl _)) fun _=>by omega,ih (by omega) hs.2⟩
   exact key (Int.le_refl _) f5.2
theorem Fit.height {ps:List Pg}:∀{d mn mx f:Nat} {a lo hi n:Int},Fit ps d mn mx a lo hi→d≤f+1→hgF ps f a n=n+d-1
 |0,_,_,_,_,_,_,_,h,_=>h.2.2.2.2.elim
 |1,mn,mx,f,a,lo,hi,n,h,hd=>by
  cases f with
  |zero=>simp only[hgF];omega
  |succ f =>
   rw[zqm (.inr (by rw[LeafOk.kids h.2.2.2.2];simp))]
   omega
 |d+2,mn,mx,f,a,lo,hi,n,h,hd=>by
  cases f with
  |zero=>omega
  |succ f =>
   have hl:=zaa.kidsLen h.2.2.2.2
   have h0:=h.1
   have h1:=h.2.1
   rw[zqp (by omega) (by show 0<(zb ps a).kids.length;omega)]
   obtain⟨l,r,hc⟩:=Seg.mem h.2.2.2.2.2 ((zb ps a).kids.getD 0 0) (by
    have hh:0<(zb ps a).kids.length:=by omega
    have e:(zb ps a).kids.getD 0 0=(zb ps a).kids[0]:=by rw[List.getD_eq_getElem?_getD,List.getElem?_eq_getElem hh];rfl
    rw[e];exact List.getElem_mem hh)
   have:=Fit.height (d:=d+1) (f:=f) (n:=n+1) hc (by omega)
   show hgF ps f ((zb ps a).kids.getD 0 0) (n+1)=_
   rw[this];omega
theorem VT.hg {root:Int} {ps:List Pg} {h:Nat} (v:VT root ps h):hgF ps 3 root 1=h:=by
 have:=v.h3
 rw[v.fit.height (by omega)];omega
theorem zdk {root:Int} {ps:List Pg}:vTree root ps=true↔∃h,VT root ps h:=by
 constructor
 ·intro h
  unfold vTree at h
  repeat' split at h
  all_goals first|(cases h;done)|skip
  rename_i g1 g2 g3 g4 g5
  rw[Bool.not_eq_false]at g4
  have g1:=Decidable.of_not_not g1
  have g2:=Decidable.of_not_not g2
  have g5:=Decidable.of_not_not g5
  have hb:=hg_b (ps:=ps) 3 (at_:=root) (n:=1)
  generalize hH:(hgF ps 3 root 1).toNat=H at *
  have hH1:1≤H∧H≤3:=by omega
  obtain⟨d,rfl⟩:∃d,H=d+1:=⟨H-1,by omega⟩
  have hf:=zno g4 g2.1 (by omega) (fun x hx e=>by
   rw[zaf,List.nodup_cons]at g5
   exact g5.1 (e▸hx))
  rw[if_pos rfl]at hf
  exact⟨d+1,by omega,by omega,by omega,by omega,hf,g5,of_decide_eq_true h⟩
 ·rintro⟨h,v⟩
  have hg:=v.hg
  have l1:=v.l1
  have l16:=v.l16
  have h1:=v.h1
  have h3:=v.h3
  have f1:=v.fit.1
  have f2:=v.fit.2.1
  obtain⟨d,rfl⟩:∃d,h=d+1:=⟨h-1,by omega⟩
  have:=vT_6 (V:=vTree root ps) rfl (d:=d) (by rw[hg];rfl) (by omega) (by omega) (by omega)
   (znm v.fit (by omega) (by omega) (.inl rfl) fun hd=>by rw[if_neg (by omega)];omega) v.nd
  rw[this,v.all];simp
end Go.VL
namespace Go.VL
abbrev trV (root:Int) (ps:List Pg):V:=.agg [.c (.int .i64 root),.c (.pgs ps)]
abbrev pgV (p:Pg):V:=.agg [.c (.nums .i64 p.keys),.c (.nums .i64 p.kids),.c (.nums .i64 p.vals)]
abbrev prV (x:Pr):V:=.agg [.c (.int .i64 x.key),.c (.int .i64 x.value)]
abbrev inV (x:Pg):V:=.agg [.c (.nums .i64 x.keys),.c (.nums .i64 x.kids)]
structure pB (ps:List Pg):Prop where
 len:ps.length≤4294967296
 keys:∀i,(zb ps i).keys.length≤4294967296
 kids:∀i,(zb ps i).kids.length≤4294967296
 vals:∀i,(zb ps i).vals.length≤4294967296
end Go.VL
