/- V-logic: PT33 TrQa TrQb TrQc TrQd TrQe TrQf TrQg TrQh TrQi TrXp PT27 PT34 PT35 PT36 TrXl -/
import Derived.Test.YtdbhfajlffaneaaVW5
import Derived.Test.YtdbhfajlffaneaaVW3
import Derived.Test.YtdbhfajlffaneaaVT7
import Derived.Test.YtdbhfajlffaneaaVW1
import Derived.Test.YtdbhfajlffaneaaVPD
import Derived.Test.YtdbhfajlffaneaaVPE
import Derived.Test.YtdbhfajlffaneaaVW4
import Derived.Handy
namespace Go.VL
set_option linter.unusedVariables false
set_option linter.unusedSimpArgs false
def reT (ops:List Opn) (now:Int×List Pg) (i:Int):Int×List Pg :=
 if (z4e ops i.toNat).kind=0 then now
 else match zqc now.1 now.2 ⟨(z4e ops i.toNat).key,(z4e ops i.toNat).value⟩with
  |some r=>r
  |none=>now
def wtF (ops:List Opn) (now:Int×List Pg) (i:Int):Int :=
 if (z4e ops i.toNat).kind=0 then(if (z4e ops i.toNat).key∈(psF now.1 now.2).map Pr.key then zei (psF now.1 now.2) (z4e ops i.toNat).key else 9999)
 else match zqc now.1 now.2 ⟨(z4e ops i.toNat).key,(z4e ops i.toNat).value⟩with
  |some _=>(z4e ops i.toNat).value
  |none=>9999
structure RunR (ops:List Opn) (t:Int×List Pg) (s:RS):Prop where
 tr:s.done.foldl (reT ops) t=(s.root,s.ps)
 gt:∀i,i<s.done.length→s.got.getD (s.done.getD i 0).toNat 0=wtF ops ((s.done.take i).foldl (reT ops) t) (s.done.getD i 0)
 op:∀i,i<ops.length→(i:Int)∉s.done→s.got.getD i 0=0
theorem RunR.zero (root:Int) (ps:List Pg) (ops:List Opn):RunR ops (root,ps) (r0F root ps ops.length):=by
 refine⟨rfl,fun i hi=>absurd hi (Nat.not_lt_zero _),fun i _ _=>?_⟩
 unfold r0F
 rw[List.getD_eq_getElem?_getD,List.getElem?_replicate]
 split<;>rfl
theorem RunR.fin {ops:List Opn} {t:Int×List Pg} {k:Nat} {s:RS} (hI:RunI ops k s) (h:RunR ops t s) {w:Nat} (hw:w<ops.length) (h1:(w:Int)∉s.done) {R:Int×List Pg} {x:Int} (hR:reT ops (s.root,s.ps) w=R) (hx:wtF ops (s.root,s.ps) w=x) :
  RunR ops t ⟨R.1,R.2,s.held.set w [],s.done++[(w:Int)],s.got.set w x⟩:=by
 refine⟨?_,fun i hi=>?_,fun i hi hd=>?_⟩
 ·show(s.done++[(w:Int)]).foldl (reT ops) t=(R.1,R.2)
  rw[List.foldl_append,h.tr]
  show reT ops (s.root,s.ps) w=_
  rw[hR]
 ·show(s.got.set w x).getD ((s.done++[(w:Int)]).getD i 0).toNat 0=wtF ops (((s.done++[(w:Int)]).take i).foldl (reT ops) t) ((s.done++[(w:Int)]).getD i 0)
  have hi:i<(s.done++[(w:Int)]).length:=hi
  rw[List.length_append,List.length_singleton]at hi
  rw[zdp,List.take_append_of_le_length (by omega)]
  by_cases c:i<s.done.length
  ·rw[if_pos c,z4s,if_neg]
   ·exact h.gt i c
   ·rintro⟨e,_⟩
    have hm:=zaq 0 c
    have:=(hI.dn _ hm).1
    exact h1 (by rw[show(w:Int)=s.done.getD i 0 by omega];exact hm)
  ·have e:i=s.done.length:=by omega
   subst e
   rw[if_neg c,Nat.sub_self]
   show(s.got.set w x).getD (w:Int).toNat 0=wtF ops ((s.done.take s.done.length).foldl (reT ops) t) w
   rw[List.take_length,h.tr,hx,Int.toNat_natCast,z4s,if_pos ⟨rfl,by rw[hI.gl];exact hw⟩]
 ·show(s.got.set w x).getD i 0=0
  change (i:Int)∉s.done++[(w:Int)]at hd
  rw[List.mem_append,not_or]at hd
  rw[z4s,if_neg]
  ·exact h.op i hi hd.1
  ·rintro⟨e,_⟩
   exact hd.2 (by rw[e];exact List.mem_singleton.2 rfl)
theorem RunR.step {ops:List Opn} {t:Int×List Pg} {k:Nat} {s:RS} (hI:RunI ops k s) (h:RunR ops t s) {w:Nat} (hw:w<ops.length):RunR ops t (piF ops s w):=by
 have hc:=z74 ops s w
 generalize piF ops s w=u at hc
 cases hc with
 |same q=>exact h
 |down h1 h2 h3=>exact⟨h.tr,h.gt,h.op⟩
 |get h1 h2 h3 h4 =>
  refine h.fin hI hw h1 (R:=(s.root,s.ps)) ?_ ?_
  ·unfold reT;rw[Int.toNat_natCast,if_pos h4]
  ·unfold wtF;rw[Int.toNat_natCast,if_pos h4]
 |put h1 h2 h3 h4 r h5 =>
  refine h.fin hI hw h1 (R:=r) ?_ ?_
  ·unfold reT;rw[Int.toNat_natCast,if_neg h4,h5]
  ·unfold wtF;rw[Int.toNat_natCast,if_neg h4,h5]
 |putNo h1 h2 h3 h4 h5 =>
  refine h.fin hI hw h1 (R:=(s.root,s.ps)) ?_ ?_
  ·unfold reT;rw[Int.toNat_natCast,if_neg h4,h5]
  ·unfold wtF;rw[Int.toNat_natCast,if_neg h4,h5]
def z6b (n:Nat) (picks:List Int):Prop:=∀x∈picks,0≤x∧x<n
structure RunA (root:Int) (ps:List Pg) (ops:List Opn) (picks:List Int):Prop where
 i:RunI ops picks.length (ruF root ps ops picks)
 p:RunP ops (htF root ps) (fun j=>picks.count (j:Int)) (ruF root ps ops picks)
 r:RunR ops (root,ps) (ruF root ps ops picks)
theorem z43 (root:Int) (ps:List Pg) (ops:List Opn) (picks:List Int) (x:Int):ruF root ps ops (picks++[x])=piF ops (ruF root ps ops picks) x.toNat:=by
 unfold ruF
 rw[List.foldl_append];rfl
theorem runA {root:Int} {ps:List Pg} {ops:List Opn} (hv:vTree root ps=true) (ho:z4m ops=true):∀(n:Nat) (picks:List Int),picks.length=n→z6b ops.length picks→RunA root ps ops picks
 |0,picks,hl,hp=>by
  have:picks=[]:=List.eq_nil_of_length_eq_zero hl
  subst this
  exact⟨RunI.zero hv,RunP.zero hv,RunR.zero root ps ops⟩
 |n+1,picks,hl,hp=>by
  obtain⟨l,x,rfl,hl'⟩:=zv8 hl
  obtain⟨x0,x1⟩:=hp x (by simp)
  have A:=runA hv ho n l hl' fun y hy=>hp y (List.mem_append_left _ hy)
  have hw:x.toNat<ops.length:=by omega
  refine⟨?_,?_,?_⟩
  ·rw[z43,List.length_append]
   exact A.i.step ho hw
  ·rw[z43]
   have:=A.p.step A.i ho hw
   have e:(fun j:Nat=>(l++[x]).count (j:Int))=fun j:Nat=>l.count (j:Int)+(if j=x.toNat then 1 else 0):=funext fun j=>by
    rw[List.count_append,List.count_singleton]
    congr 1
    by_cases c:j=x.toNat
    ·rw[if_pos c,if_pos (by rw[beq_iff_eq];omega)]
    ·rw[if_neg c,if_neg (by rw[beq_iff_eq];omega)]
   rw[e];exact this
  ·rw[z43]
   exact A.r.step A.i hw
structure RunL (root:Int) (ps:List Pg) (ops:List Opn) (w c:Nat) (s:RS):Prop where
 t:s.root=root∧s.ps=ps
 d:s.done=[]
 hl:s.held.length=ops.length
 o:∀i,i≠w→s.held.getD i []=[]
 p:∃j,OpP s (z4e ops w) (s.held.getD w []) j∧j+(s.held.getD w []).length=c
structure RunG (root:Int) (ps:List Pg) (ops:List Opn) (cnt:Nat→Nat) (s:RS):Prop where
 t:s.root=root∧s.ps=ps
 hl:s.held.length=ops.length
 p:∀w,w<ops.length→((w:Int)∈s.done∧htF root ps≤cnt w)∨((w:Int)∉s.done∧cnt w<htF root ps∧∃j,OpP s (z4e ops w) (s.held.getD w []) j∧j+(s.held.getD w []).length=cnt w)
open Go.Proofs
set_option maxRecDepth 10000
end Go.VL
namespace Go.VL
open Go.Proofs
set_option maxRecDepth 10000
set_option linter.unusedSimpArgs false
set_option linter.unusedVariables false
end Go.VL
namespace Go.VL
open Go.Proofs
set_option maxRecDepth 10000
set_option linter.unusedSimpArgs false
set_option linter.unusedVariables false
end Go.VL
namespace Go.VL
open Go.Proofs
set_option maxRecDepth 10000
set_option linter.unusedSimpArgs false
set_option linter.unusedVariables false
end Go.VL
namespace Go.VL
open Go.Proofs
set_option maxRecDepth 10000
set_option linter.unusedSimpArgs false
set_option linter.unusedVariables false
structure RunV (root:Int) (ps:List Pg) (ops:List Opn) (picks:List Int):Prop where
 vt:vTree root ps=true
 vo:z4m ops=true
 pl:picks.length≤16
 pk:z6b ops.length picks
theorem z7o {n i:Nat} {picks:List Int} (h:z6b n picks):z6b n (picks.take i):=fun x hx=>h x (List.mem_of_mem_take hx)
theorem RunV.at {root:Int} {ps:List Pg} {ops:List Opn} {picks:List Int} (h:RunV root ps ops picks) (i:Nat):RunA root ps ops (picks.take i):=runA h.vt h.vo _ _ rfl (z7o h.pk)
theorem RunV.all {root:Int} {ps:List Pg} {ops:List Opn} {picks:List Int} (h:RunV root ps ops picks):RunA root ps ops picks:=runA h.vt h.vo _ _ rfl h.pk
end Go.VL
namespace Go.VL
open Go.Proofs
set_option maxRecDepth 10000
set_option linter.unusedSimpArgs false
set_option linter.unusedVariables false
theorem z45 {n0 m:Nat} {res:V} {hout:List (Nat×O)} {s:S} {v:V} (h:vend n0 m res hout s v):vend n0 m res hout s v:=h
end Go.VL
namespace Go.VL
open Go.Proofs
set_option maxRecDepth 10000
set_option linter.unusedSimpArgs false
set_option linter.unusedVariables false
end Go.VL
namespace Go.VL
open Go.Proofs
set_option maxRecDepth 10000
set_option linter.unusedSimpArgs false
set_option linter.unusedVariables false
end Go.VL
namespace Go.VL
open Go.Proofs
set_option maxRecDepth 10000
set_option linter.unusedSimpArgs false
set_option linter.unusedVariables false
end Go.VL
namespace Go.VL
open Go.Proofs
set_option maxRecDepth 10000
set_option linter.unusedSimpArgs false
set_option linter.unusedVariables false
theorem yeg (code : List Int) (hl : code.length ≤ 1048576) (hc : CodeOk (code.take 2000)) : zce Try.prog 18 0 [.c (.nums .u8 code)] [] (fun m res hout => ∃ (root : Int) (ps : List Pg) (l : List Int), pB ps ∧ ps.length ≤ 16 ∧ l.length ≤ 100 ∧ m = 0 ∧ res = .tup [trV root ps, .c (.nums .i64 l)] ∧ hout = []) := by
  refine spx (fn := Try.f18) _ ?_
  conv => whnf
  repeat' (refine zal [] [1] (zff code hl) ⟨rfl, rfl, rfl, (by repeat first | exact trivial | refine ⟨rfl, ?_⟩), ⟨rfl, rfl, rfl, rfl, rfl, rfl⟩, ?_⟩; conv => whnf)
  refine zbw [] [1] (zgw (code.take 2000) hc 0 (by omega) (by omega)) ⟨rfl, rfl, rfl, (by repeat first | exact trivial | refine ⟨rfl, ?_⟩), ⟨rfl, rfl, rfl⟩, ?_⟩
  rintro m res hout ⟨root, ps, p, hp, hps, p0, p1, rfl, rfl, rfl⟩
  refine ⟨⟨rfl, rfl, rfl⟩, ?_⟩
  have htk := zlk root ps hp
  have hb := zww root ps
  generalize tkF root ps = K at *
  have ho1 := zjy (code.take 2000) hc p [3, 6, 1, 10, 0] (by omega) (by omega) (by simp) (by simp)
  have b1 := znu (xs := [3, 6, 1, 10, 0]) (lo := 0) (hi := 10) (by decide) (by decide) (by decide) (zah (code.take 2000) p ([3, 6, 1, 10, 0] : List Int).length).toNat
  generalize ([3, 6, 1, 10, 0] : List Int).getD (zah (code.take 2000) p ([3, 6, 1, 10, 0] : List Int).length).toNat 0 = N at *
  generalize code.take 2000 = cd at *
  conv => whnf
  repeat' first
    | (refine zp (htk) rfl rfl ?_; conv => whnf)
    | (refine zal [4] [1] ho1 ?_; (conv => whnf); refine ⟨rfl, rfl, rfl, (by repeat first | exact trivial | refine ⟨rfl, ?_⟩), ⟨rfl, rfl, rfl, rfl, rfl, rfl⟩, ?_⟩; conv => whnf)
  refine zy2 (fun (M L : List Int) (q z : Int) => M.length ≤ 1000 ∧ L.length + z.toNat ≤ 10 ∧ 0 ≤ q ∧ q + 2 * z ≤ 100000 ∧ 0 ≤ z) (fun M L q z => ⟨55, 4, [(2, .ptr 0 0 0 0), (4, .ptr 1 0 0 0), (5, .ptr 2 0 0 0), (6, .c (.nums .i64 M)), (7, .slc 3), (8, .c (.int .i64 z))], [(0, .box [.c (.int .i64 0), .nil] [] []), (1, .box [.c (.nums .u8 cd), .c (.int .i64 q)] [] []), (2, .box [.c (.int .i64 root), .c (.pgs ps)] [] []), (3, .arr (.nums .i64 L))]⟩) (fun M L q z => z.toNat) K [] (p + 1) N ⟨hb.1, by simp; omega, by omega, by omega, b1.1⟩ (fun _ _ _ _ => Nat.zero_le _) (ydn [] [0, 1, 2, 3]) (fun M L q z hi => ?_)
  obtain ⟨i0, i1, i2, i3, i4⟩ := hi
  have hsp := zqq cd hc q 100 L i2 (by omega) (by omega)
  have hsl := zoa cd q L 100
  by_cases c : 0 < z
  · by_cases c2 : 0 < M.length
    · have hp1 := zcs cd hc q M.length (by omega) (by omega) (by omega)
      have hpb := zdl hc (p := q) (n := (M.length : Int)) (by omega) (by omega)
      have hpb2 := hpb.2 (by omega)
      have hpb1 := hpb.1
      generalize zah cd q M.length = A at *
      have hci := zcn (M.take A.toNat) (by rw [List.length_take]; omega)
      conv => whnf
      repeat' first
        | (refine zn ?_ ?_; (focus ((try simp only [qA]) <;> (try simp only [wA]) <;> omega)); conv => whnf)
        | (refine za (by (try simp only [wA, wL]) <;> omega) ?_; conv => whnf)
        | (refine zg (by (try simp only [wA, wL]) <;> omega) (by (try simp only [wA, wL]) <;> omega) ?_; conv => whnf)
        | (refine zal [] [1] (hp1) ⟨rfl, rfl, rfl, (by repeat first | exact trivial | refine ⟨rfl, ?_⟩), ⟨rfl, rfl, rfl, rfl, rfl, rfl⟩, ?_⟩; conv => whnf)
        | (refine z8 (hci) rfl ?_; conv => whnf)
      refine ⟨⟨(M.take A.toNat ++ M.drop (A + 1).toNat, L ++ ([] ++ [M.getD A.toNat 0]), q + 1, z - 1), ?_⟩, (ydn [5] [0, 1, 2, 3]), by dsimp only; omega⟩; (try dsimp only)
      exact ⟨by rw [List.length_append, List.length_take, List.length_drop]; omega, by simp; omega, by omega, by omega, by omega⟩
    · conv => whnf
      repeat' first
        | (refine za (by kernel_rfl) ?_; conv => whnf)
        | (refine zn ?_ ?_; (focus ((try simp only [qA]) <;> (try simp only [wA]) <;> omega)); conv => whnf)
        | (refine zm ?_ ?_; (focus ((try simp only [qA]) <;> (try simp only [wA]) <;> omega)); conv => whnf)
        | ((refine ze9 [.fz [3]] ?_; (conv => whnf); fail_if_success (guard_target =~ False)); conv => whnf)
        | (refine zbr 1 hsp rfl rfl rfl rfl rfl rfl rfl rfl rfl ?_; conv => whnf)
      exact za1 0 (.tup [trV root ps, .c (.nums .i64 (zos cd q L 100))]) [] ⟨root, ps, _, hp, hps, by omega, rfl, rfl, rfl⟩ rfl (zu [] [])
  · conv => whnf
    repeat' first
      | (refine za (by kernel_rfl) ?_; conv => whnf)
      | (refine zm ?_ ?_; (focus ((try simp only [qA]) <;> (try simp only [wA]) <;> omega)); conv => whnf)
      | ((refine ze9 [.fz [3]] ?_; (conv => whnf); fail_if_success (guard_target =~ False)); conv => whnf)
      | (refine zbr 1 hsp rfl rfl rfl rfl rfl rfl rfl rfl rfl ?_; conv => whnf)
    exact za1 0 (.tup [trV root ps, .c (.nums .i64 (zos cd q L 100))]) [] ⟨root, ps, _, hp, hps, by omega, rfl, rfl, rfl⟩ rfl (zu [] [])
end Go.VL
namespace Go.VL
set_option linter.unusedVariables false
set_option linter.unusedSimpArgs false
end Go.VL
namespace Go.VL
set_option linter.unusedVariables false
set_option linter.unusedSimpArgs false
def rk (gn : Nat → Bool) : Nat → Nat
  | 0 => 0
  | i + 1 => rk gn i + (if gn i = true then 0 else 1)
def frk (gn : Nat → Bool) (x : Int) : Int := if x < 0 then x else (rk gn x.toNat : Int)
def keP (f : Int → Int) (p : Pg) : Pg := ⟨p.keys, p.kids.map f, p.vals⟩
def keL (gn : Nat → Bool) (f : Int → Int) : Nat → List Pg → List Pg
  | _, [] => []
  | i, p :: t => if gn i = true then keL gn f (i + 1) t else keP f p :: keL gn f (i + 1) t
def z4h (gn : Nat → Bool) (g : Nat) : Nat → Bool := fun i => gn i || i == g
theorem yfp (gn : Nat → Bool) : ∀ i, rk gn i ≤ i
  | 0 => Nat.le_refl _
  | i + 1 => by
    have := yfp gn i
    unfold rk; split <;> omega
theorem z7e (gn : Nat → Bool) {i j : Nat} (h : i ≤ j) : rk gn i ≤ rk gn j := by
  induction j with
  | zero => have : i = 0 := by omega
            subst this; exact Nat.le_refl _
  | succ j ih =>
    by_cases c : i = j + 1
    · subst c; exact Nat.le_refl _
    · have := ih (by omega)
      have e : rk gn (j + 1) = rk gn j + (if gn j = true then 0 else 1) := rfl
      rw [e]; omega
theorem rk_lt (gn : Nat → Bool) {g i : Nat} (hg : gn g = false) (h : g < i) : rk gn g < rk gn i := by
  have h1 := z7e gn (show g + 1 ≤ i from h)
  have e : rk gn (g + 1) = rk gn g + (if gn g = true then 0 else 1) := rfl
  rw [hg, if_neg (by decide)] at e
  omega
theorem z93 {gn : Nat → Bool} {g : Nat} (hg : gn g = false) : ∀ i, rk (z4h gn g) i + (if g < i then 1 else 0) = rk gn i
  | 0 => by rw [if_neg (by omega)]; rfl
  | i + 1 => by
    have ih := z93 hg i
    have e1 : rk (z4h gn g) (i + 1) = rk (z4h gn g) i + (if z4h gn g i = true then 0 else 1) := rfl
    have e2 : rk gn (i + 1) = rk gn i + (if gn i = true then 0 else 1) := rfl
    by_cases c : i = g
    · subst c
      have e3 : z4h gn i i = true := by unfold z4h; simp
      rw [if_neg (by omega)] at ih
      rw [e1, e2, e3, hg, if_pos rfl, if_pos (by omega), if_neg (by decide)]; omega
    · have e3 : z4h gn g i = gn i := by
        unfold z4h
        rw [beq_eq_false_iff_ne.2 c, Bool.or_false]
      rw [e1, e2, e3]
      by_cases c2 : g < i
      · rw [if_pos c2] at ih
        rw [if_pos (show g < i + 1 by omega)]; omega
      · rw [if_neg c2] at ih
        rw [if_neg (show ¬ g < i + 1 by omega)]; omega
theorem z7f {gn : Nat → Bool} {g : Int} (h0 : 0 ≤ g) (hg : gn g.toNat = false) (x : Int) : adj (frk gn g) (frk gn x) = frk (z4h gn g.toNat) x := by
  have ha := z93 hg x.toNat
  unfold adj frk
  rw [if_neg (show ¬ g < 0 by omega)]
  by_cases c : x < 0
  · rw [if_pos c, if_pos c, if_neg (by omega)]
  · rw [if_neg c, if_neg c]
    by_cases c2 : g.toNat < x.toNat
    · have := rk_lt gn hg c2
      rw [if_pos c2] at ha
      rw [if_pos (by omega)]; omega
    · have := z7e gn (show x.toNat ≤ g.toNat by omega)
      rw [if_neg c2] at ha
      rw [if_neg (by omega)]; omega
theorem z88 {gn : Nat → Bool} {g : Nat} {f f' : Int → Int} {c : Int} (hf : ∀ x, adj c (f x) = f' x) : ∀ {l : List Pg} {i : Nat}, g < i → (keL gn f i l).map (ziu c) = keL (z4h gn g) f' i l
  | [], _, _ => rfl
  | p :: t, i, h => by
    have e : z4h gn g i = gn i := by unfold z4h; rw [beq_eq_false_iff_ne.2 (by omega), Bool.or_false]
    have ih := z88 (gn := gn) (l := t) (i := i + 1) hf (Nat.lt_succ_of_lt h)
    unfold keL
    rw [e]
    by_cases c2 : gn i = true
    · rw [if_pos c2, if_pos c2, ih]
    · rw [if_neg c2, if_neg c2, List.map_cons, ih]
      congr 1
      unfold ziu keP
      rw [List.map_map]
      congr 1
      exact List.map_congr_left fun x _ => hf x
theorem z82 {gn : Nat → Bool} {g : Nat} {f f' : Int → Int} {c : Int} (hg : gn g = false) (hf : ∀ x, adj c (f x) = f' x) : ∀ {l : List Pg} {i : Nat}, i ≤ g → g < i + l.length →
    ((keL gn f i l).eraseIdx (rk gn g - rk gn i)).map (ziu c) = keL (z4h gn g) f' i l
  | [], i, h1, h2 => by simp at h2; omega
  | p :: t, i, h1, h2 => by
    rw [List.length_cons] at h2
    by_cases e : i = g
    · subst e
      have e3 : z4h gn i i = true := by unfold z4h; simp
      rw [Nat.sub_self, keL, hg, if_neg (by decide), keL, e3, if_pos rfl]
      show (keL gn f (i + 1) t).map (ziu c) = _
      exact z88 hf (Nat.lt_succ_self _)
    · have e2 : z4h gn g i = gn i := by unfold z4h; rw [beq_eq_false_iff_ne.2 e, Bool.or_false]
      have ih := z82 hg hf (l := t) (i := i + 1) (by omega) (by omega)
      have er : rk gn (i + 1) = rk gn i + (if gn i = true then 0 else 1) := rfl
      by_cases c2 : gn i = true
      · rw [if_pos c2] at er
        rw [keL, if_pos c2, keL, e2, if_pos c2, ← ih, er]; rfl
      · rw [if_neg c2] at er
        have hl := z7e gn (show i + 1 ≤ g by omega)
        rw [keL, if_neg c2, keL, e2, if_neg c2, ← ih]
        rw [show rk gn g - rk gn i = (rk gn g - rk gn (i + 1)) + 1 by omega, List.eraseIdx_cons_succ, List.map_cons]
        congr 1
        unfold ziu keP
        rw [List.map_map]
        congr 1
        exact List.map_congr_left fun x _ => hf x
theorem ya4 {gn : Nat → Bool} {g : Int} {ps : List Pg} (h0 : 0 ≤ g) (h1 : g < ps.length) (hg : gn g.toNat = false) : zct (keL gn (frk gn) 0 ps) (frk gn g) = keL (z4h gn g.toNat) (frk (z4h gn g.toNat)) 0 ps := by
  have h := z82 hg (fun x => z7f h0 hg x) (l := ps) (i := 0) (Nat.zero_le _) (by omega)
  unfold zct
  have e : (frk gn g).toNat = rk gn g.toNat - rk gn 0 := by
    unfold frk
    rw [if_neg (by omega)]
    show _ = rk gn g.toNat - 0
    omega
  rw [e]; exact h
def z5k : (Nat → Bool) → List Int → Nat → Bool
  | gn, [] => gn
  | gn, g :: t => z5k (z4h gn g.toNat) t
theorem z8n {ps : List Pg} {rt : Int} : ∀ {gs : List Int} {gn : Nat → Bool}, gs.Nodup → (∀ g ∈ gs, 0 ≤ g ∧ g < ps.length ∧ gn g.toNat = false) →
    zmq (frk gn) gs (frk gn rt, keL gn (frk gn) 0 ps) = (frk (z5k gn gs) rt, keL (z5k gn gs) (frk (z5k gn gs)) 0 ps)
  | [], _, _, _ => rfl
  | g :: t, gn, hn, hg => by
    obtain ⟨g0, g1, g2⟩ := hg g (by simp)
    rw [List.nodup_cons] at hn
    have ef : (fun x => adj (frk gn g) (frk gn x)) = frk (z4h gn g.toNat) := funext fun x => z7f g0 g2 x
    show zmq (fun x => adj (frk gn g) (frk gn x)) t (adj (frk gn g) (frk gn rt), zct (keL gn (frk gn) 0 ps) (frk gn g)) = _
    rw [ef, z7f g0 g2, ya4 g0 g1 g2]
    refine z8n hn.2 fun x hx => ?_
    obtain ⟨x0, x1, x2⟩ := hg x (List.mem_cons_of_mem _ hx)
    refine ⟨x0, x1, ?_⟩
    unfold z4h
    rw [x2, Bool.false_or, beq_eq_false_iff_ne]
    intro e
    exact hn.1 (by rw [show g = x by omega]; exact hx)
theorem z9c : ∀ i, rk (fun _ => false) i = i
  | 0 => rfl
  | i + 1 => by
    have e : rk (fun _ => false) (i + 1) = rk (fun _ => false) i + 1 := rfl
    rw [e, z9c i]
theorem z6v (x : Int) : frk (fun _ => false) x = x := by
  unfold frk
  split
  · rfl
  · rw [z9c]; omega
theorem z8g : ∀ {l : List Pg} {i : Nat}, keL (fun _ => false) (frk fun _ => false) i l = l
  | [], _ => rfl
  | p :: t, i => by
    unfold keL
    rw [if_neg (by decide), z8g]
    congr 1
    unfold keP
    obtain ⟨a, b, c⟩ := p
    congr 1
    exact (List.map_congr_left fun x _ => z6v x).trans (List.map_id' b)
def wgF (gn : Nat → Bool) (rt : Int) (ps : List Pg) : Int × List Pg := (frk gn rt, keL gn (frk gn) 0 ps)
theorem yf1 {ps : List Pg} {rt : Int} {gs : List Int} (hn : gs.Nodup) (hg : ∀ g ∈ gs, 0 ≤ g ∧ g < ps.length) : zmq id gs (rt, ps) = wgF (z5k (fun _ => false) gs) rt ps := by
  have h := z8n (ps := ps) (rt := rt) (gn := fun _ => false) hn fun g hq => ⟨(hg g hq).1, (hg g hq).2, rfl⟩
  rw [z8g, z6v] at h
  have e : (id : Int → Int) = frk fun _ => false := funext fun x => (z6v x).symm
  rw [e]; exact h
def gnB (gone : List Bool) : Nat → Bool := fun i => gone.getD i false
theorem yb3 {gone : List Bool} {g : Nat} (h : g < gone.length) : gnB (gone.set g true) = z4h (gnB gone) g := funext fun i => by
  unfold gnB z4h
  rw [z7 _ _ _ _ _ h]
  by_cases c : i = g
  · subst c; rw [if_pos rfl]; simp
  · rw [if_neg c, beq_eq_false_iff_ne.2 c, Bool.or_false]
theorem yba (n : Nat) : gnB (List.replicate n false) = fun _ => false := funext fun i => by
  unfold gnB
  rw [List.getD_eq_getElem?_getD, List.getElem?_replicate]
  split <;> rfl
theorem z8b {gn : Nat → Bool} {f : Int → Int} {p : Pg} : ∀ {l : List Pg} {i : Nat}, keL gn f i (l ++ [p]) = keL gn f i l ++ (if gn (i + l.length) = true then [] else [keP f p])
  | [], i => by
    show keL gn f i [p] = [] ++ _
    rw [List.length_nil, Nat.add_zero, List.nil_append]
    unfold keL
    split <;> rfl
  | q :: t, i => by
    have ih := z8b (gn := gn) (f := f) (p := p) (l := t) (i := i + 1)
    rw [List.cons_append, List.length_cons]
    unfold keL
    rw [ih, show i + 1 + t.length = i + (t.length + 1) by omega]
    by_cases c : gn i = true
    · rw [if_pos c, if_pos c]
    · rw [if_neg c, if_neg c]; rfl
theorem yfh {gn : Nat → Bool} {f : Int → Int} {ps : List Pg} {i : Nat} (h : i < ps.length) : keL gn f 0 (ps.take (i + 1)) = keL gn f 0 (ps.take i) ++ (if gn i = true then [] else [keP f (ps.getD i ⟨[], [], []⟩)]) := by
  rw [zat ⟨[], [], []⟩ h, z8b, List.length_take, Nat.min_eq_left (by omega), Nat.zero_add]
end Go.VL
namespace Go.VL
set_option linter.unusedVariables false
set_option linter.unusedSimpArgs false
def jnF (root : Int) (ps : List Pg) (key : Int) : Nat := (zao ps key (htF root ps) root).2.length
def z4o (root : Int) (ps : List Pg) (key : Int) : Option (Int × List Pg) :=
  if vTree root ps = true ∧ ((psF root ps).map Pr.key).contains key = true then some (zf4 root ps (htF root ps) key) else none
structure DropF (root : Int) (ps : List Pg) (key : Int) (r : Int × List Pg) : Prop where
  v0 : vTree root ps = true
  hk : key ∈ (psF root ps).map Pr.key
  rng : 0 ≤ key ∧ key ≤ 99
  eq : r = zf4 root ps (htF root ps) key
  vt : vTree r.1 r.2 = true
  prs : psF r.1 r.2 = zbq (psF root ps) key
  ht : htF r.1 r.2 + z1x root ps (htF root ps) key = htF root ps
  c1 : z1x root ps (htF root ps) key ≤ 1
  len : r.2.length + jnF root ps key + z1x root ps (htF root ps) key = ps.length
  jl : jnF root ps key + 1 ≤ htF root ps
theorem z7g {root : Int} {ps : List Pg} {key : Int} {r : Int × List Pg} (h : z4o root ps key = some r) : DropF root ps key r := by
  unfold z4o at h
  split at h
  · rename_i c
    cases h
    obtain ⟨h1, h2⟩ := c
    have h2 := List.contains_iff_mem.1 h2
    have v := za0 h1
    have q := z0t v.v0 h2
    have h3 := v.h3
    have l16 := v.l16
    have ql := q.len
    have hv : vTree (zf4 root ps (htF root ps) key).1 (zf4 root ps (htF root ps) key).2 = true := zdk.2 ⟨_, q.vt.vt (by omega) (by omega)⟩
    obtain ⟨e1, e2⟩ := q.vt.psF hv
    have qc := q.ch
    refine ⟨h1, h2, ?_, rfl, hv, ?_, ?_, q.cl, q.len, q.jl⟩
    · obtain ⟨y, hy, rfl⟩ := List.mem_map.1 h2
      exact (zaa.row v.fit.2.2.2.2).rng y hy
    · rw [e2]; exact q.prs
    · rw [e1]; omega
  · cases h
def z4n : Int × List Pg → List Int → Option (Int × List Pg)
  | s, [] => some s
  | s, x :: t => match z4o s.1 s.2 x with
    | none => none
    | some r => z4n r t
theorem z6h {s : Int × List Pg} {ys : List Int} : ∀ {xs : List Int} {s : Int × List Pg}, z4n s (xs ++ ys) = match z4n s xs with
    | none => none
    | some r => z4n r ys
  | [], _ => rfl
  | x :: t, s => by
    show (match z4o s.1 s.2 x with
      | none => none
      | some r => z4n r (t ++ ys)) = match (match z4o s.1 s.2 x with
      | none => none
      | some r => z4n r t) with
      | none => none
      | some r => z4n r ys
    cases z4o s.1 s.2 x with
    | none => rfl
    | some r => exact z6h (s := s)
theorem ycx {s : Int × List Pg} {xs : List Int} {i : Nat} (hi : i < xs.length) {r : Int × List Pg} (h : z4n s (xs.take i) = some r) : z4n s (xs.take (i + 1)) = z4o r.1 r.2 (xs.getD i 0) := by
  rw [zat 0 hi, z6h (s := s), h]
  show (match z4o r.1 r.2 (xs.getD i 0) with
      | none => none
      | some r => some r) = _
  cases z4o r.1 r.2 (xs.getD i 0) <;> rfl
theorem yev {s : Int × List Pg} {xs : List Int} {i : Nat} (h : z4n s (xs.take i) = none) : z4n s xs = none := by
  rw [← List.take_append_drop i xs, z6h (s := s), h]
theorem yef {xs : List Int} : ∀ {s r : Int × List Pg}, vTree s.1 s.2 = true → z4n s xs = some r → vTree r.1 r.2 = true := by
  induction xs with
  | nil => intro s r hv h; cases h; exact hv
  | cons x t ih =>
    intro s r hv h
    have h : (match z4o s.1 s.2 x with
      | none => none
      | some r => z4n r t) = some r := h
    cases g : z4o s.1 s.2 x with
    | none => rw [g] at h; cases h
    | some q => rw [g] at h; exact ih (z7g g).vt h
def yae (root : Int) (ps : List Pg) (xs : List Int) : Option (Int × List Pg) := if vTree root ps = true ∧ xs.length ≤ 24 then z4n (root, ps) xs else none
theorem ycq {root : Int} {ps : List Pg} {xs : List Int} {r : Int × List Pg} (h : yae root ps xs = some r) : vTree root ps = true ∧ xs.length ≤ 24 ∧ z4n (root, ps) xs = some r := by
  unfold yae at h
  split at h
  · rename_i c; exact ⟨c.1, c.2, h⟩
  · cases h
end Go.VL
namespace Go.VL
set_option linter.unusedVariables false
set_option linter.unusedSimpArgs false
def z6j (G:List Int):List Bool:=G.foldl (fun l g=>l.set g.toNat true) (List.replicate 16 false)
theorem ycy (G:List Int) (g:Int):z6j (G++[g])=(z6j G).set g.toNat true:=by
 unfold z6j;rw[List.foldl_append];rfl
theorem z7r:∀{G:List Int} {l:List Bool},(∀g∈G,g.toNat<l.length)→(G.foldl (fun l g=>l.set g.toNat true) l).length=l.length∧gnB (G.foldl (fun l g=>l.set g.toNat true) l)=z5k (gnB l) G
 |[],l,_=>⟨rfl,rfl⟩
 |g::t,l,h=>by
  obtain⟨e1,e2⟩:=z7r (G:=t) (l:=l.set g.toNat true) fun x hx=>by rw[List.length_set];exact h x (List.mem_cons_of_mem _ hx)
  rw[List.length_set]at e1
  rw[yb3 (h g List.mem_cons_self)]at e2
  exact⟨e1,e2⟩
theorem yc1 (G:List Int):(z6j G).length=16:=by
 suffices h:∀(G:List Int) (l:List Bool),(G.foldl (fun l g=>l.set g.toNat true) l).length=l.length by
  unfold z6j;rw[h,List.length_replicate]
 intro G
 induction G with
 |nil=>intro l;rfl
 |cons g t ih=>intro l;show(t.foldl _ (l.set g.toNat true)).length=_;rw[ih,List.length_set]
theorem yfg {G:List Int} (h:∀g∈G,0≤g∧g<16):gnB (z6j G)=z5k (fun _=>false) G:=by
 have:=(z7r (G:=G) (l:=List.replicate 16 false) fun g hg=>by rw[List.length_replicate];have:=h g hg;omega).2
 rw[yba]at this
 exact this
def nuL (gn:Nat→Bool) (n:Nat):List Int:=(List.range n).map fun k=>(rk gn k:Int)
theorem z7j (gn:Nat→Bool) (n:Nat):(nuL gn n).length=n:=by unfold nuL;simp
theorem ya3 (gn:Nat→Bool) (n:Nat):nuL gn (n+1)=nuL gn n++[(rk gn n:Int)]:=by
 unfold nuL;rw[List.range_succ,List.map_append];rfl
def nuA (gn:Nat→Bool) (n:Nat):List Int:=nuL gn n++List.replicate (16-n) 0
theorem yfv {gn:Nat→Bool} {n:Nat} (h:n≤16):(nuA gn n).length=16:=by
 unfold nuA;rw[List.length_append,z7j,List.length_replicate];omega
theorem ye5 {gn:Nat→Bool} {n:Nat} (h:n<16):(nuA gn n).set n (rk gn n:Int)=nuA gn (n+1):=by
 unfold nuA
 rw[List.set_append,z7j,if_neg (by omega),Nat.sub_self,ya3,List.append_assoc,show 16-n=(16-(n+1))+1 by omega,List.replicate_succ]
 rfl
theorem yb2 {gn:Nat→Bool} {n k:Nat} (h:k<n):(nuA gn n).getD k 0=(rk gn k:Int):=by
 unfold nuA
 rw[List.getD_eq_getElem?_getD,List.getElem?_append_left (by rw[z7j];exact h)]
 unfold nuL
 rw[List.getElem?_map,List.getElem?_range h];rfl
theorem ye4 {gn:Nat→Bool} {n:Nat} {c:Int} (h0:0≤c) (h:c<n):(nuA gn n).getD c.toNat 0=frk gn c:=by
 rw[yb2 (by omega)]
 unfold frk
 rw[if_neg (by omega)]
def reL (f:Int→Int) (cs:List Int) (k:Nat):List Int:=(cs.take k).map f++cs.drop k
theorem yfz (f:Int→Int) (cs:List Int) (k:Nat):(reL f cs k).length=cs.length:=by
 unfold reL;rw[List.length_append,List.length_map,List.length_take,List.length_drop];omega
theorem ye3 {f:Int→Int} {cs:List Int} {k:Nat} (h:k<cs.length):(reL f cs k).getD k 0=cs.getD k 0:=by
 unfold reL
 rw[List.getD_eq_getElem?_getD,List.getElem?_append_right (by rw[List.length_map,List.length_take];omega),List.length_map,List.length_take,Nat.min_eq_left (by omega),Nat.sub_self,List.getElem?_drop,Nat.add_zero,←List.getD_eq_getElem?_getD]
theorem yfu {f:Int→Int} {cs:List Int} {k:Nat} (h:k<cs.length):(reL f cs k).set k (f (cs.getD k 0))=reL f cs (k+1):=by
 unfold reL
 rw[List.set_append,List.length_map,List.length_take,Nat.min_eq_left (by omega),if_neg (by omega),Nat.sub_self,zg0 0 h,zat 0 h,List.map_append,List.append_assoc]
 rfl
theorem yfx (f:Int→Int) (cs:List Int):reL f cs cs.length=cs.map f:=by
 unfold reL;rw[List.take_length,List.drop_length,List.append_nil]
theorem yf4 (gn:Nat→Bool) (i:Nat):rk gn (i+1)=rk gn i+(if gn i=true then 0 else 1):=rfl
theorem yel {i:Nat}:∀{gs:List Int} {gn:Nat→Bool},gn i=true→z5k gn gs i=true
 |[],_,h=>h
 |g::t,gn,h=>yel (gs:=t) (gn:=z4h gn g.toNat) (by unfold z4h;rw[h];rfl)
theorem yer {g:Int}:∀{gs:List Int} {gn:Nat→Bool},g∈gs→z5k gn gs g.toNat=true
 |x::t,gn,h=>by
  rcases List.mem_cons.1 h with rfl|h
  ·exact yel (gs:=t) (gn:=z4h gn g.toNat) (by unfold z4h;simp)
  ·exact yer (gs:=t) (gn:=z4h gn x.toNat) h
theorem ydc {root key:Int} {ps:List Pg} {d mn:Nat} {R:List Pg×List Int} (v:VT0 root ps (d+1)) (hok:DropOk ps key (d+1) mn root 0 99 R) {i:Int} (h0:0≤i) (h1:i<R.1.length) (hn:i∉R.2):∀c∈(zb R.1 i).kids,0≤c∧c<R.1.length:=by
 intro c hc
 have hl:=hok.len
 have hm:=hok.perm.mem_iff.1 (v.cover (i:=i) h0 (by omega))
 have hm:=(List.mem_append.1 hm).resolve_right hn
 obtain⟨d',mn',lo',hi',q⟩:=ztr hok.fit hm
 match d',q with
 |0,q=>exact q.2.2.2.2.elim
 |1,q=>rw[LeafOk.kids q.2.2.2.2]at hc;cases hc
 |d+2,q =>
  obtain⟨l,r,hf⟩:=Seg.mem q.2.2.2.2.2 c hc
  exact⟨hf.1,hf.2.1⟩
def mlF (qs:List Pg) (a b k:Int):List Pg×Bool×Int :=
 if (zcr (zb qs a) k (zb qs b)).keys.length≤4 then(qs.set a.toNat (zcr (zb qs a) k (zb qs b)),true,0)
 else((qs.set a.toNat (zam (zcr (zb qs a) k (zb qs b))).1).set b.toNat (zam (zcr (zb qs a) k (zb qs b))).2.2,false,(zam (zcr (zb qs a) k (zb qs b))).2.1)
theorem yfl (qs:List Pg) (up:Int) (f:Nat) {a b k:Int} (ha:(zb qs up).kids.getD f 0=a) (hb:(zb qs up).kids.getD (f+1) 0=b) (hk:(zb qs up).keys.getD f 0=k) :
  zcd qs up f=if (mlF qs a b k).2.1=true then((mlF qs a b k).1.set up.toNat (zf9 (zb qs up) (f+1)),[b])else((mlF qs a b k).1.set up.toNat ⟨(zb qs up).keys.set f (mlF qs a b k).2.2,(zb qs up).kids,(zb qs up).vals⟩,[]):=by
 unfold zcd mlF
 rw[ha,hb,hk]
 by_cases c:(zcr (zb qs a) k (zb qs b)).keys.length≤4
 ·rw[if_pos c,if_pos c,if_pos rfl]
 ·rw[if_neg c,if_neg c,if_neg (fun q=>by cases q)]
theorem DAt.seg {ps:List Pg} {key:Int} {d:Nat} {a c:Int} (h:DAt ps key (d+2) a) (hc:(zb ps a).kids.getD (upF (zb ps a).keys key) 0=c) :
  ∃lo hi:Int,0≤lo∧hi≤99∧Seg (Fit (zao ps key (d+1) c).1 (d+1) 1 4) lo hi (zb ps a).keys (zb ps a).kids:=by
 obtain⟨mn,lo,hi,hf,hn,hl,hh,hm,hk,hlo0,hhi9⟩:=h
 obtain⟨h0,h1,h2,h3,hv0,hseg⟩:=hf
 have hseg:Seg (Fit ps (d+1) 2 4) lo hi (zb ps a).keys (zb ps a).kids:=hseg
 obtain⟨KA,KB,A,B,c',l,r,e1,e2,e3,e4,e5,e6,s1,s2,s3,g1,g2⟩:=Seg.route hh hl hseg
 rw[e6]at hc
 subst hc
 have m:Mid ps d a lo hi KA KB A B c' l r:=zp5 hn hseg e1 e2 e4 e5 s1 s3
 have hk':=(m.has g1 g2).1 hk
 have P:=zoj s2 (fun _=>by decide) m.nc g1 g2 hk'
 generalize zao ps key (d+1) c'=R at P⊢
 have hlen:=P.len
 have mf:=m.frame (ps':=R.1) (by omega) fun y y0 y1 y2 y3=>P.out y y0 y3
 refine⟨lo,hi,hlo0,hhi9,?_⟩
 rw[m.ks,m.cs]
 exact(zk0 m.lA m.lB).2 ⟨l,r,mf.sL.imp fun c _ l r hf=>hf.mono (by decide) (Nat.le_refl _),P.fit,mf.sR.imp fun c _ l r hf=>hf.mono (by decide) (Nat.le_refl _)⟩
theorem DAt.rows {ps:List Pg} {key:Int} {d:Nat} {a c:Int} (h:DAt ps key (d+2) a) (hc:(zb ps a).kids.getD (upF (zb ps a).keys key) 0=c) {i:Nat} (hi:i<(zb ps a).keys.length)
  (hl:(zb (zao ps key (d+1) c).1 ((zb ps a).kids.getD i 0)).kids.length=0) :
  zdb (zab (zb (zao ps key (d+1) c).1 ((zb ps a).kids.getD i 0))++zab (zb (zao ps key (d+1) c).1 ((zb ps a).kids.getD (i+1) 0)))=true:=by
 obtain⟨lo,hi',h0,h9,hs⟩:=h.seg hc
 generalize (zao ps key (d+1) c).1=R at *
 have hlen:=hs.len
 have hF:∀c l r,Fit R (d+1) 1 4 c l r→l≤r:=fun c l r hf=>hf.le (by decide)
 have ek:(zb ps a).keys=(zb ps a).keys.take i++(zb ps a).keys.getD i 0::(zb ps a).keys.drop (i+1):=by rw[←zg0 0 hi,List.take_append_drop]
 have ec:(zb ps a).kids=(zb ps a).kids.take i++(zb ps a).kids.getD i 0::(zb ps a).kids.getD (i+1) 0::(zb ps a).kids.drop (i+2):=by rw[←zg0 0 (show i+1<_ by omega),←zg0 0 (show i<_ by omega),List.take_append_drop]
 rw[ek,ec]at hs
 obtain⟨l,r,s1,f1,f2,s2⟩:=(zt6 (by rw[List.length_take,List.length_take];omega) (by rw[List.length_drop,List.length_drop];omega)).1 hs
 have b1:=zca.le hF s1
 have b2:=zc3.le hF s2
 have b3:=hF _ _ _ f1
 have b4:=hF _ _ _ f2
 match d,f1,f2 with
 |0,f1,f2 =>
  have o1:LeafOk _ _ _:=f1.2.2.2.2
  have o2:LeafOk _ _ _:=f2.2.2.2.2
  have n1:=f1.2.2.2.1
  have n2:=f2.2.2.2.1
  refine zln.2 ⟨(RowOk.append o1.row o2.row (by omega) (by omega)).wide (by omega) (by omega),?_⟩
  rw[List.length_append,zby _ o1.len,zby _ o2.len];omega
 |d+1,f1,f2 =>
  have:=zaa.kidsLen f1.2.2.2.2
  omega
theorem yd4 {ps:List Pg} {key:Int} {h i:Nat} {root:Int} (ha:DAt ps key h root) (hi:i+1<h) {f:Nat} (hf:f<(zb ps ((ptF ps key h root).getD i 0)).keys.length)
  (hl:(zb (zao ps key (h-(i+1)) ((ptF ps key h root).getD (i+1) 0)).1 ((zb ps ((ptF ps key h root).getD i 0)).kids.getD f 0)).kids.length=0) :
  zdb (zab (zb (zao ps key (h-(i+1)) ((ptF ps key h root).getD (i+1) 0)).1 ((zb ps ((ptF ps key h root).getD i 0)).kids.getD f 0))++zab (zb (zao ps key (h-(i+1)) ((ptF ps key h root).getD (i+1) 0)).1 ((zb ps ((ptF ps key h root).getD i 0)).kids.getD (f+1) 0)))=true:=by
 have h1:=zqw ha (show i<h by omega)
 obtain⟨e,he⟩:∃e,h-(i+1)=e+1:=⟨h-(i+1)-1,by omega⟩
 rw[show h-i=e+2 by omega]at h1
 rw[he]at hl⊢
 exact h1.rows (zhv hi).symm hf hl
end Go.VL
namespace Go.VL
open Go.Proofs Go.RowKit Go.Lib
set_option maxRecDepth 10000
set_option linter.unusedSimpArgs false
set_option linter.unusedVariables false
theorem yah (L:List (List Pr)) (hL:L.length≤1024) (h:L.flatten.length≤1048576):zr Try.prog 100 0 [.c (.prss L)] [] 1 (.slc 0) [(0,.arr (.prs L.flatten))]:=by
 have hs:∀k,k<L.length→(L.take k).flatten.length+(L.getD k []).length≤1048576∧(L.take (k+1)).flatten=(L.take k).flatten++L.getD k []:=fun k hk=>by
  have e:(L.take (k+1)).flatten=(L.take k).flatten++L.getD k []:=by rw[zat [] hk,List.flatten_append];simp
  have e2:=congrArg (fun M=>(List.flatten M).length) (List.take_append_drop (k+1) L)
  simp only[List.flatten_append,List.length_append,e]at e2
  exact⟨by omega,e⟩
 refine spi (fn:=Try.f100) _ ?_
 conv=>whnf
 refine zd0 (fun(k:Nat) (n:Nat)=>k≤L.length∧n=(L.take k).flatten.length) (fun k n=>⟨36,0,[(0,.c (.prss L)),(3,.c (.int .i64 n)),(9,.c (.prss L)),(10,.c (.int .i64 L.length)),(11,.c (.int .i64 k))],[]⟩) (fun k _=>L.length-k) 0 0 ⟨Nat.zero_le _,rfl⟩ (fun _ _=>Nat.zero_le _) zbn (fun k n hk=>?_)
 obtain⟨hk,hn⟩:=hk
 by_cases hk2:k<L.length
 ·obtain⟨e1,e2⟩:=hs k hk2
  rw[←hn]at e1
  replace e2:n+(L.getD k []).length=(L.take (k+1)).flatten.length:=by rw[e2,hn,List.length_append]
  conv=>whnf
  repeat' first
   |(refine zn ?_ ?_;(focus ((try simp only[qA])<;>(try simp only[wA])<;>omega));conv=>whnf)
   |(refine zm ?_ ?_;(focus ((try simp only[qA])<;>(try simp only[wA])<;>omega));conv=>whnf)
   |(refine za (by(try simp only[wA,wL])<;>omega) ?_;conv=>whnf)
   |(refine zg (by(try simp only[wA,wL])<;>omega) (by(try simp only[wA,wL])<;>omega) ?_;conv=>whnf)
  exact⟨⟨(k+1,n+(L.getD k []).length),by omega,e2⟩,zbn,by dsimp only;omega⟩
 ·rw[List.take_of_length_le (by omega)]at hn
  conv=>whnf
  repeat' first|(refine zm ?_ ?_;(focus ((try simp only[qA])<;>(try simp only[wA])<;>omega));conv=>whnf)|(refine z8 (z9r n (by omega)) rfl ?_;conv=>whnf)
  refine zd0 (fun(k:Nat) (M:List Pr)=>k≤L.length∧M=(L.take k).flatten) (fun k M=>⟨36,1,[(6,.slc 0),(25,.c (.prss L)),(26,.c (.int .i64 L.length)),(27,.c (.int .i64 k))],[(0,.arr (.prs M))]⟩) (fun k _=>L.length-k) 0 [] ⟨Nat.zero_le _,rfl⟩ (fun _ _=>Nat.zero_le _) (ydn [] [0]) (fun k M hk=>?_)
  obtain⟨hk,hM⟩:=hk
  by_cases hk2:k<L.length
  ·obtain⟨e1,e2⟩:=hs k hk2
   rw[←hM]at e1 e2
   conv=>whnf
   repeat' first
    |(refine zn ?_ ?_;(focus ((try simp only[qA])<;>(try simp only[wA])<;>omega));conv=>whnf)
    |(refine za (by(try simp only[wA,wL])<;>omega) ?_;conv=>whnf)
    |(refine zg (by(try simp only[wA,wL])<;>omega) (by(try simp only[wA,wL])<;>omega) ?_;conv=>whnf)
   exact⟨⟨(k+1,M++L.getD k []),by omega,e2.symm⟩,(ydn [] [0]),by dsimp only;omega⟩
  ·rw[List.take_of_length_le (by omega)]at hM
   subst hM
   conv=>whnf
   repeat' (refine zm ?_ ?_;(focus ((try simp only[qA])<;>(try simp only[wA])<;>omega));conv=>whnf)
   exact(zu [] [0])
theorem ydg (a b:List Pr) (h:a.length+b.length≤1000000):zr Try.prog 100 0 [.c (.prss [a,b])] [] 1 (.slc 0) [(0,.arr (.prs (a++b)))]:=by
 have:=yah [a,b] (by simp) (by simp;omega)
 rwa [show [a,b].flatten=a++b by simp]at this
theorem ybj (a b:List Int) (h:a.length+b.length≤1000000):zr Try.prog 111 0 [.c (.numss [a,b])] [] 1 (.slc 0) [(0,.arr (.nums .i64 (a++b)))]:=by
 have:=z8v [a,b] (by simp) (by simp;omega)
 rwa [show [a,b].flatten=a++b by simp]at this
theorem ydp (W:World) (A B:Obj):ydj W ((W.alloc A).alloc B):=by
 refine⟨rfl,rfl,rfl,?_,fun b hb=>?_⟩
 ·show _≤((W.heap.push A).push B).size
  rw[Array.size_push,Array.size_push];omega
 ·show((W.heap.push A).push B)[b]? = _
  rw[Array.getElem?_push,if_neg (by rw[Array.size_push];omega),Array.getElem?_push,if_neg (by omega)]
theorem ydh (a1 a2 a3:Option Addr) (l1 l2 l3 c1 c2 c3:Nat) (W:World):Calls Try.prog 25 #[.agg #[.slice a1 l1 c1,.slice a2 l2 c2,.slice a3 l3 c3]] W fun e w'=>e=.returned (.agg #[.slice a1 l1 c1,.slice a2 l2 c2])∧ydj W w':=by
 go_enter Try.func25,Try.ntmps25
 go_wp2
 go_returns
 exact⟨rfl,ydp _ _ _⟩
theorem ydi (a1 a2:Option Addr) (l1 l2 c1 c2:Nat) (W:World):Calls Try.prog 76 #[.agg #[.slice a1 l1 c1,.slice a2 l2 c2]] W fun e w'=>e=.returned (.agg #[.slice a1 l1 c1,.slice a2 l2 c2,.slice none 0 0])∧ydj W w':=by
 go_enter Try.func76,Try.ntmps76
 go_wp2
 go_returns
 exact⟨rfl,ydp _ _ _⟩
theorem ydo {I:Nat→Prop} {g:Gam} {n:Nat} {w:World} {id:Nat} {v:Value} (h:RV I g n w (.slc id) v):(∃a l c,v=.slice a l c)∧∀w',RV I g n w' (.slc id) v:=by
 obtain⟨h1,⟨b,cap,len,h2,rfl⟩|⟨h2,rfl⟩⟩:=RV.slc_inv h
 ·exact⟨⟨_,_,_,rfl⟩,fun w'=>.slc id len b cap h1 h2⟩
 ·exact⟨⟨_,_,_,rfl⟩,fun w'=>.slc0 id h1 h2⟩
theorem ycu (a b c:Nat):z7c Try.prog 25 [.agg [.slc a,.slc b,.slc c]] (.agg [.slc a,.slc b]):=by
 refine⟨⟨_,Try.func25,by kernel_rfl,by kernel_rfl⟩,fun W I g n argv hI hl ha=>?_⟩
 obtain⟨v,rfl⟩:∃v,argv=[v]:=by
  match argv,hl with
  |[v],_=>exact⟨v,rfl⟩
 obtain⟨vs,rfl,h1,h2⟩:=RV.agg_inv (ha 0 _ _ rfl rfl)
 obtain⟨x,y,z,rfl⟩:∃x y z,vs=[x,y,z]:=by
  match vs,h1 with
  |[x,y,z],_=>exact⟨x,y,z,rfl⟩
 obtain⟨⟨a1,l1,c1,rfl⟩,k1⟩:=ydo (h2 0 _ _ rfl rfl)
 obtain⟨⟨a2,l2,c2,rfl⟩,k2⟩:=ydo (h2 1 _ _ rfl rfl)
 obtain⟨⟨a3,l3,c3,rfl⟩,_⟩:=ydo (h2 2 _ _ rfl rfl)
 refine(ydh a1 a2 a3 l1 l2 l3 c1 c2 c3 W).mono fun e w'=>?_
 rintro⟨rfl,hg⟩
 refine⟨_,rfl,hg,?_⟩
 refine .agg _ [.slice a1 l1 c1,.slice a2 l2 c2] rfl fun i p q hp hq=>?_
 match i with
 |0=>cases hp;cases hq;exact k1 w'
 |1=>cases hp;cases hq;exact k2 w'
 |i+2=>cases hp
theorem ycp (a b:Nat):z7c Try.prog 76 [.agg [.slc a,.slc b]] (.agg [.slc a,.slc b,.nil]):=by
 refine⟨⟨_,Try.func76,by kernel_rfl,by kernel_rfl⟩,fun W I g n argv hI hl ha=>?_⟩
 obtain⟨v,rfl⟩:∃v,argv=[v]:=by
  match argv,hl with
  |[v],_=>exact⟨v,rfl⟩
 obtain⟨vs,rfl,h1,h2⟩:=RV.agg_inv (ha 0 _ _ rfl rfl)
 obtain⟨x,y,rfl⟩:∃x y,vs=[x,y]:=by
  match vs,h1 with
  |[x,y],_=>exact⟨x,y,rfl⟩
 obtain⟨⟨a1,l1,c1,rfl⟩,k1⟩:=ydo (h2 0 _ _ rfl rfl)
 obtain⟨⟨a2,l2,c2,rfl⟩,k2⟩:=ydo (h2 1 _ _ rfl rfl)
 refine(ydi a1 a2 l1 l2 c1 c2 W).mono fun e w'=>?_
 rintro⟨rfl,hg⟩
 refine⟨_,rfl,hg,?_⟩
 refine .agg _ [.slice a1 l1 c1,.slice a2 l2 c2,.slice none 0 0] rfl fun i p q hp hq=>?_
 match i with
 |0=>cases hp;cases hq;exact k1 w'
 |1=>cases hp;cases hq;exact k2 w'
 |2=>cases hp;cases hq;exact .nil
 |i+3=>cases hp
theorem ydk (xs:List Pr) (hl:xs.length≤4294967296):zr Try.prog 43 0 [.c (.prs xs)] [] 2 (.agg [.slc 0,.nil,.slc 1]) [(0,.arr (.nums .i64 (xs.map Pr.key))),(1,.arr (.nums .i64 (xs.map Pr.value)))]:=by
 refine spi (fn:=Try.f43) _ ?_
 conv=>whnf
 repeat' first|(refine z8 (zko xs hl) rfl ?_;conv=>whnf)|(refine z8 (zr8 xs hl) rfl ?_;conv=>whnf)
 exact(zu [] [1,2])
theorem ycz (p:Pg) (hk:p.kids.length=p.keys.length+1) (h1:1≤p.keys.length) (hl:p.keys.length≤1000):zr Try.prog 103 0 [inV p] [] 4 (.tup [.agg [.slc 0,.slc 1],.c (.int .i64 (p.keys.getD (p.keys.length / 2) 0)),.agg [.slc 2,.slc 3]])
  [(0,.arr (.nums .i64 (p.keys.take (p.keys.length / 2)))),(1,.arr (.nums .i64 (p.kids.take (p.keys.length / 2+1)))),(2,.arr (.nums .i64 (p.keys.drop (p.keys.length / 2+1)))),(3,.arr (.nums .i64 (p.kids.drop (p.keys.length / 2+1))))]:=by
 obtain⟨ks,cs,vs⟩:=p
 dsimp only[inV]at *
 have hd:(ks.length:Int).tdiv 2=(ks.length:Int) / 2:=Int.tdiv_eq_ediv_of_nonneg (by omega)
 refine spi (fn:=Try.f103) _ ?_
 conv=>whnf
 repeat' first
  |(refine za (by kernel_rfl) ?_;conv=>whnf)
  |(refine za (by(try simp only[wA,wL])<;>omega) ?_;conv=>whnf)
  |(refine zg (by(try simp only[wA,wL])<;>omega) (by(try simp only[wA,wL])<;>omega) ?_;conv=>whnf)
  |(refine zar (zvt _ (by first|(rw[w7];omega)|(rw[w8];omega))) rfl rfl ?_;conv=>whnf)
  |(refine ze ?_;conv=>whnf)
 exact(zu [] [7,13,108,114])
theorem ydm (p:Pg) (place:Nat) (h0:1≤place) (h1:place≤p.keys.length) (hk:p.kids.length=p.keys.length+1) (hl:p.keys.length≤1000) :
  zr Try.prog 77 0 [inV p,.c (.int .i64 place)] [] 2 (.agg [.slc 0,.slc 1]) [(0,.arr (.nums .i64 (zf9 p place).keys)),(1,.arr (.nums .i64 (zf9 p place).kids))]:=by
 have hck:=zvt p.keys (by omega)
 have hcc:=zvt p.kids (by omega)
 have hik:=z8p p.keys (place-1) ((place:Int)-1) place (by omega) (by omega) (by omega)
 have hic:=z8p p.kids place place ((place:Int)+1) rfl rfl (by omega)
 rw[show place-1+1=place by omega]at hik
 unfold zf9
 dsimp only
 generalize p.keys.take (place-1)++p.keys.drop place=K2 at *
 generalize p.kids.take place++p.kids.drop (place+1)=C2 at *
 obtain⟨ks,cs,vs⟩:=p
 dsimp only[inV]at *
 refine spi (fn:=Try.f77) _ ?_
 conv=>whnf
 repeat' first
  |(refine za (by kernel_rfl) ?_;conv=>whnf)
  |(refine zg (by(try simp only[wA,wL])<;>omega) (by(try simp only[wA,wL])<;>omega) ?_;conv=>whnf)
  |(refine zar (hck) rfl rfl ?_;conv=>whnf)
  |(refine zar (hcc) rfl rfl ?_;conv=>whnf)
  |(refine z7v 4 hik rfl rfl rfl rfl ?_;conv=>whnf)
  |(refine z7v 11 hic rfl rfl rfl rfl ?_;conv=>whnf)
  |(refine ze ?_;conv=>whnf)
 exact(zu [] [8,15])
theorem ydl (p q:Pg) (key:Int) (hl:p.keys.length+q.keys.length≤1000) (hl2:p.kids.length+q.kids.length≤1000) :
  zr Try.prog 102 0 [inV p,.c (.int .i64 key),inV q] [] 2 (.agg [.slc 0,.slc 1]) [(0,.arr (.nums .i64 (p.keys++key::q.keys))),(1,.arr (.nums .i64 (p.kids++q.kids)))]:=by
 have h1:=yaz p.keys [key] q.keys (by simp;omega)
 have h2:=ybj p.kids q.kids (by omega)
 rw[show p.keys++([key]++q.keys)=p.keys++key::q.keys from rfl]at h1
 obtain⟨ks,cs,vs⟩:=p
 obtain⟨ks2,cs2,vs2⟩:=q
 dsimp only[inV]at *
 generalize ks++key::ks2=K2 at *
 generalize cs++cs2=C2 at *
 refine spi (fn:=Try.f102) _ ?_
 conv=>whnf
 repeat' first
  |(refine za (by kernel_rfl) ?_;conv=>whnf)
  |(refine zar (h1) rfl rfl ?_;conv=>whnf)
  |(refine zar (h2) rfl rfl ?_;conv=>whnf)
  |(refine zo ?_;conv=>whnf)
  |(refine ze ?_;conv=>whnf)
 exact(zu [] [10,16])
theorem z71 (xs:List Pr) (key:Int) (hl:xs.length≤1000) (hv:za2 (xs.map Pr.key)=true) (hm:key∈xs.map Pr.key):zr Try.prog 70 0 [.c (.prs xs),.c (.int .i64 key)] [] 1 (.tup [.slc 0,.tt]) [(0,.arr (.prs (zbq xs key)))]:=by
 have hp:=zto xs key (by omega) hv
 have hc:=z6i xs (by omega)
 obtain⟨e1,e2,e3⟩:=zs7 hm (zde.1 hv).1
 rw[List.contains_iff_mem.2 hm]at hp
 have hd:=yas xs (belF (xs.map Pr.key) key) (belF (xs.map Pr.key) key) ((belF (xs.map Pr.key) key:Int)+1) rfl rfl e2
 rw[e1]at hd
 clear e1 e3
 generalize belF (xs.map Pr.key) key=B at *
 generalize zbq xs key=D at *
 refine spi (fn:=Try.f70) _ ?_
 conv=>whnf
 repeat' first
  |(refine zm ?_ ?_;(focus (first|rfl|exact bne_self_eq_false _));conv=>whnf)
  |(refine zg (by(try simp only[wA,wL])<;>omega) (by(try simp only[wA,wL])<;>omega) ?_;conv=>whnf)
  |(refine zp (hp) rfl rfl ?_;conv=>whnf)
  |(refine z8 (hc) rfl ?_;conv=>whnf)
  |(refine zal [] [0] (hd) ⟨rfl,rfl,rfl,(by repeat first|exact trivial|refine⟨rfl,?_⟩),⟨rfl,rfl,rfl,rfl,rfl,rfl⟩,?_⟩;conv=>whnf)
 exact(zu [] [0])
theorem z7l (xs:List Pr) (key:Int) (hl:xs.length≤1000) (hv:za2 (xs.map Pr.key)=true) (hm:key∉xs.map Pr.key):zr Try.prog 70 0 [.c (.prs xs),.c (.int .i64 key)] [] 1 (.tup [.slc 0,.ff]) [(0,.arr (.prs xs))]:=by
 have hp:=zto xs key (by omega) hv
 have hc:=z6i xs (by omega)
 rw[show(xs.map Pr.key).contains key=false by rw[Bool.eq_false_iff];exact fun q=>hm (List.contains_iff_mem.1 q)]at hp
 generalize belF (xs.map Pr.key) key=B at *
 refine spi (fn:=Try.f70) _ ?_
 conv=>whnf
 repeat' first
  |(refine zn ?_ ?_;(focus (first|rfl|exact beq_self_eq_true _));conv=>whnf)
  |(refine zp (hp) rfl rfl ?_;conv=>whnf)
  |(refine z8 (hc) rfl ?_;conv=>whnf)
 exact(zu [] [0])
theorem yco (xs:List Pr) (key:Int) (hl:xs.length≤1000) (hv:zdb xs=true) (hm:key∈xs.map Pr.key):zr Try.prog 41 0 [.c (.prs xs),.c (.int .i64 key)] [] 1 (.tup [.slc 0,.tt]) [(0,.arr (.prs (zbq xs key)))]:=by
 have hvr:=zw7 xs (by omega)
 rw[hv]at hvr
 have hrk:=(zln.1 hv).1
 have h:=z71 xs key hl (zde.2 ⟨hrk.asc,fun k hk=>by obtain⟨y,hy,rfl⟩:=List.mem_map.1 hk;exact hrk.rng y hy⟩) hm
 refine spi (fn:=Try.f41) _ ?_
 conv=>whnf
 repeat' first
  |(refine zm ?_ ?_;(focus (first|rfl|exact bne_self_eq_false _));conv=>whnf)
  |(refine zp (hvr) rfl rfl ?_;conv=>whnf)
  |(refine z8 (h) rfl ?_;conv=>whnf)
 exact(zu [] [0])
theorem yci (xs:List Pr) (key:Int) (hl:xs.length≤1000) (hv:zdb xs=true) (hm:key∉xs.map Pr.key):zr Try.prog 41 0 [.c (.prs xs),.c (.int .i64 key)] [] 0 (.tup [.nil,.ff]) []:=by
 have hvr:=zw7 xs (by omega)
 rw[hv]at hvr
 have hrk:=(zln.1 hv).1
 have h:=z7l xs key hl (zde.2 ⟨hrk.asc,fun k hk=>by obtain⟨y,hy,rfl⟩:=List.mem_map.1 hk;exact hrk.rng y hy⟩) hm
 refine spi (fn:=Try.f41) _ ?_
 conv=>whnf
 repeat' first
  |(refine zm ?_ ?_;(focus (first|rfl|exact bne_self_eq_false _));conv=>whnf)
  |(refine zp (hvr) rfl rfl ?_;conv=>whnf)
  |(refine z8 (h) rfl ?_;conv=>whnf)
 exact(zu [] [])
theorem yct (root:Int) (ps:List Pg) (hp:pB ps) (hl:ps.length≤1000):zr Try.prog 38 0 [trV root ps] [] 1 (.agg [.c (.int .i64 root),.slc 0]) [(0,.deep false 0 (.pgs ps) [])]:=by
 refine spi (fn:=Try.f38) _ ?_
 conv=>whnf
 repeat' first
  |(refine za (by kernel_rfl) ?_;conv=>whnf)
  |(refine za (by(try simp only[wA,wL])<;>omega) ?_;conv=>whnf)
  |(refine zlj ?_;conv=>whnf)
  |(refine ze ?_;conv=>whnf)
 refine zd0 (fun(i:Nat) (L:List Pg)=>i≤ps.length∧L=ps.take i++List.replicate (ps.length-i) ⟨[],[],[]⟩) (fun i L=>⟨37,3,[(2,.ptr 0 0 0 0),(3,.ptr 1 0 0 0),(14,.c (.pgs ps)),(15,.c (.int .i64 ps.length)),(16,.c (.int .i64 i))],[(0,.box [.c (.int .i64 0),.nil] [] []),(1,.box [.c (.int .i64 root),.slc 2] [] []),(2,.deep false 0 (.pgs L) [])]⟩) (fun i _=>ps.length-i) 0 (List.replicate ps.length ⟨[],[],[]⟩) ⟨Nat.zero_le _,rfl⟩ (fun _ _=>Nat.zero_le _) (ydn [] [1,9,7]) (fun i L hi=>?_)
 obtain⟨hi,hL⟩:=hi
 have k1:=hp.keys i
 have k2:=hp.kids i
 have k3:=hp.vals i
 dsimp only[zb,Int.toNat_natCast]at k1 k2 k3
 have hLl:=congrArg List.length hL
 rw[List.length_append,List.length_take,List.length_replicate]at hLl
 by_cases c:i<ps.length
 ·have c1:=zvt (ps.getD i ⟨[],[],[]⟩).keys k1
  have c2:=zvt (ps.getD i ⟨[],[],[]⟩).kids k2
  have c3:=zvt (ps.getD i ⟨[],[],[]⟩).vals k3
  conv=>whnf
  repeat' first
   |(refine za (by kernel_rfl) ?_;conv=>whnf)
   |(refine zn ?_ ?_;(focus ((try simp only[qA])<;>(try simp only[wA])<;>omega));conv=>whnf)
   |(refine za (by(try simp only[wA,wL])<;>omega) ?_;conv=>whnf)
   |(refine zg (by(try simp only[wA,wL])<;>omega) (by(try simp only[wA,wL])<;>omega) ?_;conv=>whnf)
   |(refine zar (c1) rfl rfl ?_;conv=>whnf)
   |(refine zar (c2) rfl rfl ?_;conv=>whnf)
   |(refine zar (c3) rfl rfl ?_;conv=>whnf)
   |(refine ze ?_;conv=>whnf)
  have hst:L.set i (ps.getD i ⟨[],[],[]⟩)=ps.take (i+1)++List.replicate (ps.length-(i+1)) ⟨[],[],[]⟩:=by rw[hL,zog _ _ c (by rw[List.length_take];omega),zat ⟨[],[],[]⟩ c]
  refine⟨⟨(i+1,L.set i (ps.getD i ⟨[],[],[]⟩)),⟨by dsimp only;omega,hst⟩⟩,(zsg [.cl 2] [] [0,1,2] ?_),by dsimp only;omega⟩
  conv=>whnf
  exact⟨by repeat first|exact trivial|refine⟨rfl,?_⟩,⟨rfl,rfl,rfl,trivial⟩,rfl,rfl,rfl,rfl,rfl,rfl,rfl⟩
 ·rw[List.take_of_length_le (by omega),show ps.length-i=0 by omega,List.replicate_zero,List.append_nil]at hL
  subst hL
  conv=>whnf
  repeat' first|(refine zm ?_ ?_;(focus ((try simp only[qA])<;>(try simp only[wA])<;>omega));conv=>whnf)|(refine ze ?_;conv=>whnf)
  exact(zu [] [2])
end Go.VL
