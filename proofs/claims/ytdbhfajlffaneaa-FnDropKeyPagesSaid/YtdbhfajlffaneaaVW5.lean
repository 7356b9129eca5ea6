/- V-logic: TrZa TrZb TrPd TrPe TrDp PT27 PT34 PT35 PT36 TrHb PT30 -/
import Derived.Test.YtdbhfajlffaneaaVT2
import Derived.Test.YtdbhfajlffaneaaVEF
import Derived.Test.YtdbhfajlffaneaaVMA
import Derived.Test.YtdbhfajlffaneaaVT7
import Derived.Test.YtdbhfajlffaneaaVTrPa
import Derived.Test.YtdbhfajlffaneaaVEG
import Derived.Test.YtdbhfajlffaneaaVW3
import Derived.Test.YtdbhfajlffaneaaVW1
import Derived.Test.YtdbhfajlffaneaaVPD
import Derived.Test.YtdbhfajlffaneaaVPE
namespace Go.VL
open Go.Proofs
set_option maxRecDepth 10000
set_option linter.unusedSimpArgs false
set_option linter.unusedVariables false
theorem zw2 {α:Type} [DecidableEq α] (d:α) {xs ys:List α} (hl:xs.length=ys.length) (h:∀i,i<xs.length→xs.getD i d=ys.getD i d):xs=ys:=by
 apply List.ext_getElem hl
 intro i h1 h2
 have:=h i h1
 rwa [List.getD_eq_getElem?_getD,List.getD_eq_getElem?_getD,List.getElem?_eq_getElem h1,List.getElem?_eq_getElem h2]at this
theorem zn3 (xs ys:List Int) (h1:xs.length≤4294967296) (h2:ys.length≤4294967296):zr Try.prog 64 0 [.c (.nums .i64 xs),.c (.nums .i64 ys)] [] 0 (.c (.bool (decide (xs=ys)))) []:=by
 obtain⟨X,hX⟩:∃X,decide (xs=ys)=X:=⟨_,rfl⟩
 rw[hX]
 by_cases hl:xs.length=ys.length
 ·skip
  refine spi (fn:=Try.f64) _ ?_
  conv=>whnf
  repeat' (refine zm ?_ ?_;(focus ((try simp only[qA])<;>(try simp only[wA])<;>omega));conv=>whnf)
  refine zau (fun i:Nat=>∀k,k<i→xs.getD k 0=ys.getD k 0) (fun i=>⟨26,0,[(0,.c (.nums .i64 xs)),(1,.c (.nums .i64 ys)),(5,.c (.int .i64 i))],[]⟩) (fun i=>xs.length-i) 0 (fun k hk=>absurd hk (Nat.not_lt_zero _)) (fun _=>Nat.zero_le _) zbn (fun i hi=>?_)
  conv=>whnf
  repeat' first
   |(refine za (by kernel_rfl) ?_;conv=>whnf)
   |(refine za (by(try simp only[wA,wL])<;>omega) ?_;conv=>whnf)
   |(refine zk (fun h=>?_) (fun h=>?_)<;>(try simp only[qA]at h)<;>(try simp only[wA]at h)<;>conv=>whnf)
   |refine zc ?_
   |refine zd ?_
   |(refine zg (by(try simp only[wA,wL])<;>omega) (by(try simp only[wA,wL])<;>omega) ?_;conv=>whnf)
   |(refine ze ?_;conv=>whnf)
  ·rw[←hX]
   exact decide_eq_false fun q=>h (by rw[q])
  ·refine⟨⟨i+1,fun k hk=>?_⟩,zbn,by dsimp only;omega⟩
   rcases Nat.lt_or_ge k i with c|c
   ·exact hi k c
   ·obtain rfl:k=i:=by omega
    exact h
  ·rw[←hX]
   exact decide_eq_true (zw2 0 hl fun k hk=>hi k (by omega))
 ·have:X=false:=by
   rw[←hX]
   exact decide_eq_false fun q=>hl (by rw[q])
  rw[this]
  refine spi (fn:=Try.f64) _ ?_
  conv=>whnf
  repeat' first|(refine zn ?_ ?_;(focus ((try simp only[qA])<;>(try simp only[wA])<;>omega));conv=>whnf)|refine zd ?_
  all_goals rfl
theorem zbh (xs:List Int) (h:xs.length≤4294967296):zr Try.prog 64 0 [.c (.nums .i64 xs),.c (.nums .i64 xs)] [] 0 (.c (.bool true)) []:=by
 have:=zn3 xs xs h h
 rwa [decide_eq_true rfl]at this
end Go.VL
namespace Go.VL
open Go.Proofs
set_option maxRecDepth 10000
set_option linter.unusedSimpArgs false
set_option linter.unusedVariables false
theorem zj2 (ps:List Pg) (hp:pB ps):zr Try.prog 29 0 [.c (.pgs ps),.c (.pgs ps)] [] 0 (.c (.bool true)) []:=by
 have k4:=hp.len
 refine spi (fn:=Try.f29) _ ?_
 conv=>whnf
 repeat' (refine zm ?_ ?_;(focus ((try simp only[qA])<;>(try simp only[wA])<;>omega));conv=>whnf)
 refine zau (fun i:Nat=>i≤ps.length) (fun i=>⟨57,0,[(0,.c (.pgs ps)),(1,.c (.pgs ps)),(5,.c (.int .i64 i))],[]⟩) (fun i=>ps.length-i) 0 (Nat.zero_le _) (fun _=>Nat.zero_le _) zbn (fun i hi=>?_)
 have k1:=zbh _ (hp.keys i)
 have k2:=zbh _ (hp.kids i)
 have k3:=zbh _ (hp.vals i)
 dsimp only[zb,Int.toNat_natCast]at k1 k2 k3
 conv=>whnf
 repeat' first
  |(refine za (by kernel_rfl) ?_;conv=>whnf)
  |(refine zn ?_ ?_;(focus ((try simp only[qA])<;>(try simp only[wA])<;>omega));conv=>whnf)
  |(refine za (by(try simp only[wA,wL])<;>omega) ?_;conv=>whnf)
  |(refine zk (fun h=>?_) (fun h=>?_)<;>(try simp only[qA]at h)<;>(try simp only[wA]at h)<;>conv=>whnf)
  |refine zc ?_
  |(refine zg (by(try simp only[wA,wL])<;>omega) (by(try simp only[wA,wL])<;>omega) ?_;conv=>whnf)
  |(refine zw (k1) rfl rfl ?_;conv=>whnf)
  |(refine zw (k2) rfl rfl ?_;conv=>whnf)
  |(refine zw (k3) rfl rfl ?_;conv=>whnf)
  |(refine ze ?_;conv=>whnf)
 ·refine⟨⟨i+1,?_⟩,zbn,by dsimp only;omega⟩;(try dsimp only)
  omega
 ·rfl
theorem zqk:zr Try.prog 29 0 [.nil,.nil] [] 0 (.c (.bool true)) [] :=
 zkb (args:=[.c (.pgs []),.c (.pgs [])]) ⟨.inr ⟨rfl,_,rfl,rfl,rfl⟩,.inr ⟨rfl,_,rfl,rfl,rfl⟩,trivial⟩ (zj2 [] ⟨by decide,by intro i;simp[zb],by intro i;simp[zb],by intro i;simp[zb]⟩)
theorem z2b (root:Int) (ps:List Pg) (hp:pB ps):zr Try.prog 15 0 [trV root ps,trV root ps] [] 0 (.c (.bool true)) []:=by
 refine spi (fn:=Try.f15) _ ?_
 conv=>whnf
 repeat' first
  |(refine zn ?_ ?_;(focus ((try simp only[qA])<;>(try simp only[wA])<;>omega));conv=>whnf)
  |refine zh ?_
  |(refine zp (zj2 _ hp) rfl rfl ?_;conv=>whnf)
 all_goals rfl
theorem z3a:zr Try.prog 15 0 [.agg [.c (.int .i64 0),.nil],.agg [.c (.int .i64 0),.nil]] [] 0 (.c (.bool true)) []:=by
 refine spi (fn:=Try.f15) _ ?_
 conv=>whnf
 repeat' first|(refine zn ?_ ?_;(focus ((try simp only[qA])<;>(try simp only[wA])<;>omega));conv=>whnf)|refine zh ?_|(refine zp (zqk) rfl rfl ?_;conv=>whnf)
 all_goals rfl
theorem z1w (code:List Int) (hl:code.length≤1048576) (hc:CodeOk (code.take 2000)):zce Try.prog 21 0 [.c (.nums .u8 code)] [] ztv:=by
 refine spx (fn:=Try.f21) _ ?_
 conv=>whnf
 repeat' (refine zal [] [1] (zff code hl) ⟨rfl,rfl,rfl,(by repeat first|exact trivial|refine⟨rfl,?_⟩),⟨rfl,rfl,rfl,rfl,rfl,rfl⟩,?_⟩;conv=>whnf)
 refine zbw [] [1] (zgw (code.take 2000) hc 0 (by omega) (by omega)) ⟨rfl,rfl,rfl,(by repeat first|exact trivial|refine⟨rfl,?_⟩),⟨rfl,rfl,rfl⟩,?_⟩
 rintro m res hout ⟨root,ps,p,hp,hps,p0,p1,rfl,rfl,rfl⟩
 refine⟨⟨rfl,rfl,rfl⟩,?_⟩
 have htk:=zlk root ps hp
 have hb:=zww root ps
 generalize tkF root ps=K at *
 have hkn:=zmp (code.take 2000) hc p (by omega) (by omega) K hb.1 hb.2
 have hkb:=zxx hc (p:=p) (by omega) (by omega) hb.2
 generalize knV (code.take 2000) p K=key at *
 generalize knP (code.take 2000) p K=p' at *
 conv=>whnf
 repeat' first
  |(refine za (by kernel_rfl) ?_;conv=>whnf)
  |(refine zw (htk) rfl rfl ?_;conv=>whnf)
  |(refine zbr 1 hkn rfl rfl rfl rfl rfl rfl rfl rfl rfl ?_;conv=>whnf)
  |(refine ze ?_;conv=>whnf)
 refine za1 0 (.tup [trV root ps,.c (.int .i64 key)]) [] ⟨root,ps,key,hp,hps,hkb,rfl,rfl,rfl⟩ rfl ?_
 exact(zu [] [])
end Go.VL
namespace Go.VL
open Go.Proofs
set_option maxRecDepth 10000
set_option linter.unusedSimpArgs false
set_option linter.unusedVariables false
end Go.VL
namespace Go.VL
open Go.Proofs
set_option maxRecDepth 10000
set_option linter.unusedSimpArgs false
set_option linter.unusedVariables false
end Go.VL
namespace Go.VL
open Go.Proofs
set_option maxRecDepth 10000
set_option linter.unusedSimpArgs false
set_option linter.unusedVariables false
theorem yca (code:List Int) (hl:code.length≤1048576) (hc:CodeOk (code.take 2000)):zce Try.prog 12 0 [.c (.nums .u8 code)] [] ztv:=by
 refine spx (fn:=Try.f12) _ ?_
 conv=>whnf
 skip
 refine zbw [] [] (z1w code hl hc) ⟨rfl,rfl,rfl,(by repeat first|exact trivial|refine⟨rfl,?_⟩),⟨rfl,rfl,rfl⟩,?_⟩
 rintro m res hout ⟨root,ps,key,hp,hps,hkb,rfl,rfl,rfl⟩
 refine⟨⟨rfl,rfl,rfl⟩,?_⟩
 conv=>whnf
 skip
 exact za1 0 (.tup [trV root ps,.c (.int .i64 key)]) [] ⟨root,ps,key,hp,hps,hkb,rfl,rfl,rfl⟩ rfl (zu [] [])
end Go.VL
namespace Go.VL
set_option linter.unusedVariables false
set_option linter.unusedSimpArgs false
end Go.VL
namespace Go.VL
set_option linter.unusedVariables false
set_option linter.unusedSimpArgs false
def rk (gn : Nat → Bool) : Nat → Nat
  | 0 => 0
  | i + 1 => rk gn i + (if gn i = true then 0 else 1)
def frk (gn : Nat → Bool) (x : Int) : Int := if x < 0 then x else (rk gn x.toNat : Int)
def keP (f : Int → Int) (p : Pg) : Pg := ⟨p.keys, p.kids.map f, p.vals⟩
def keL (gn : Nat → Bool) (f : Int → Int) : Nat → List Pg → List Pg
  | _, [] => []
  | i, p :: t => if gn i = true then keL gn f (i + 1) t else keP f p :: keL gn f (i + 1) t
def z4h (gn : Nat → Bool) (g : Nat) : Nat → Bool := fun i => gn i || i == g
theorem yfp (gn : Nat → Bool) : ∀ i, rk gn i ≤ i
  | 0 => Nat.le_refl _
  | i + 1 => by
    have := yfp gn i
    unfold rk; split <;> omega
theorem z7e (gn : Nat → Bool) {i j : Nat} (h : i ≤ j) : rk gn i ≤ rk gn j := by
  induction j with
  | zero => have : i = 0 := by omega
            subst this; exact Nat.le_refl _
  | succ j ih =>
    by_cases c : i = j + 1
    · subst c; exact Nat.le_refl _
    · have := ih (by omega)
      have e : rk gn (j + 1) = rk gn j + (if gn j = true then 0 else 1) := rfl
      rw [e]; omega
theorem rk_lt (gn : Nat → Bool) {g i : Nat} (hg : gn g = false) (h : g < i) : rk gn g < rk gn i := by
  have h1 := z7e gn (show g + 1 ≤ i from h)
  have e : rk gn (g + 1) = rk gn g + (if gn g = true then 0 else 1) := rfl
  rw [hg, if_neg (by decide)] at e
  omega
theorem z93 {gn : Nat → Bool} {g : Nat} (hg : gn g = false) : ∀ i, rk (z4h gn g) i + (if g < i then 1 else 0) = rk gn i
  | 0 => by rw [if_neg (by omega)]; rfl
  | i + 1 => by
    have ih := z93 hg i
    have e1 : rk (z4h gn g) (i + 1) = rk (z4h gn g) i + (if z4h gn g i = true then 0 else 1) := rfl
    have e2 : rk gn (i + 1) = rk gn i + (if gn i = true then 0 else 1) := rfl
    by_cases c : i = g
    · subst c
      have e3 : z4h gn i i = true := by unfold z4h; simp
      rw [if_neg (by omega)] at ih
      rw [e1, e2, e3, hg, if_pos rfl, if_pos (by omega), if_neg (by decide)]; omega
    · have e3 : z4h gn g i = gn i := by
        unfold z4h
        rw [beq_eq_false_iff_ne.2 c, Bool.or_false]
      rw [e1, e2, e3]
      by_cases c2 : g < i
      · rw [if_pos c2] at ih
        rw [if_pos (show g < i + 1 by omega)]; omega
      · rw [if_neg c2] at ih
        rw [if_neg (show ¬ g < i + 1 by omega)]; omega
theorem z7f {gn : Nat → Bool} {g : Int} (h0 : 0 ≤ g) (hg : gn g.toNat = false) (x : Int) : adj (frk gn g) (frk gn x) = frk (z4h gn g.toNat) x := by
  have ha := z93 hg x.toNat
  unfold adj frk
  rw [if_neg (show ¬ g < 0 by omega)]
  by_cases c : x < 0
  · rw [if_pos c, if_pos c, if_neg (by omega)]
  · rw [if_neg c, if_neg c]
    by_cases c2 : g.toNat < x.toNat
    · have := rk_lt gn hg c2
      rw [if_pos c2] at ha
      rw [if_pos (by omega)]; omega
    · have := z7e gn (show x.toNat ≤ g.toNat by omega)
      rw [if_neg c2] at ha
      rw [if_neg (by omega)]; omega
theorem z88 {gn : Nat → Bool} {g : Nat} {f f' : Int → Int} {c : Int} (hf : ∀ x, adj c (f x) = f' x) : ∀ {l : List Pg} {i : Nat}, g < i → (keL gn f i l).map (ziu c) = keL (z4h gn g) f' i l
  | [], _, _ => rfl
  | p :: t, i, h => by
    have e : z4h gn g i = gn i := by unfold z4h; rw [beq_eq_false_iff_ne.2 (by omega), Bool.or_false]
    have ih := z88 (gn := gn) (l := t) (i := i + 1) hf (Nat.lt_succ_of_lt h)
    unfold keL
    rw [e]
    by_cases c2 : gn i = true
    · rw [if_pos c2, if_pos c2, ih]
    · rw [if_neg c2, if_neg c2, List.map_cons, ih]
      congr 1
      unfold ziu keP
      rw [List.map_map]
      congr 1
      exact List.map_congr_left fun x _ => hf x
theorem z82 {gn : Nat → Bool} {g : Nat} {f f' : Int → Int} {c : Int} (hg : gn g = false) (hf : ∀ x, adj c (f x) = f' x) : ∀ {l : List Pg} {i : Nat}, i ≤ g → g < i + l.length →
    ((keL gn f i l).eraseIdx (rk gn g - rk gn i)).map (ziu c) = keL (z4h gn g) f' i l
  | [], i, h1, h2 => by simp at h2; omega
  | p :: t, i, h1, h2 => by
    rw [List.length_cons] at h2
    by_cases e : i = g
    · subst e
      have e3 : z4h gn i i = true := by unfold z4h; simp
      rw [Nat.sub_self, keL, hg, if_neg (by decide), keL, e3, if_pos rfl]
      show (keL gn f (i + 1) t).map (ziu c) = _
      exact z88 hf (Nat.lt_succ_self _)
    · have e2 : z4h gn g i = gn i := by unfold z4h; rw [beq_eq_false_iff_ne.2 e, Bool.or_false]
      have ih := z82 hg hf (l := t) (i := i + 1) (by omega) (by omega)
      have er : rk gn (i + 1) = rk gn i + (if gn i = true then 0 else 1) := rfl
      by_cases c2 : gn i = true
      · rw [if_pos c2] at er
        rw [keL, if_pos c2, keL, e2, if_pos c2, ← ih, er]; rfl
      · rw [if_neg c2] at er
        have hl := z7e gn (show i + 1 ≤ g by omega)
        rw [keL, if_neg c2, keL, e2, if_neg c2, ← ih]
        rw [show rk gn g - rk gn i = (rk gn g - rk gn (i + 1)) + 1 by omega, List.eraseIdx_cons_succ, List.map_cons]
        congr 1
        unfold ziu keP
        rw [List.map_map]
        congr 1
        exact List.map_congr_left fun x _ => hf x
theorem ya4 {gn : Nat → Bool} {g : Int} {ps : List Pg} (h0 : 0 ≤ g) (h1 : g < ps.length) (hg : gn g.toNat = false) : zct (keL gn (frk gn) 0 ps) (frk gn g) = keL (z4h gn g.toNat) (frk (z4h gn g.toNat)) 0 ps := by
  have h := z82 hg (fun x => z7f h0 hg x) (l := ps) (i := 0) (Nat.zero_le _) (by omega)
  unfold zct
  have e : (frk gn g).toNat = rk gn g.toNat - rk gn 0 := by
    unfold frk
    rw [if_neg (by omega)]
    show _ = rk gn g.toNat - 0
    omega
  rw [e]; exact h
def z5k : (Nat → Bool) → List Int → Nat → Bool
  | gn, [] => gn
  | gn, g :: t => z5k (z4h gn g.toNat) t
theorem z8n {ps : List Pg} {rt : Int} : ∀ {gs : List Int} {gn : Nat → Bool}, gs.Nodup → (∀ g ∈ gs, 0 ≤ g ∧ g < ps.length ∧ gn g.toNat = false) →
    zmq (frk gn) gs (frk gn rt, keL gn (frk gn) 0 ps) = (frk (z5k gn gs) rt, keL (z5k gn gs) (frk (z5k gn gs)) 0 ps)
  | [], _, _, _ => rfl
  | g :: t, gn, hn, hg => by
    obtain ⟨g0, g1, g2⟩ := hg g (by simp)
    rw [List.nodup_cons] at hn
    have ef : (fun x => adj (frk gn g) (frk gn x)) = frk (z4h gn g.toNat) := funext fun x => z7f g0 g2 x
    show zmq (fun x => adj (frk gn g) (frk gn x)) t (adj (frk gn g) (frk gn rt), zct (keL gn (frk gn) 0 ps) (frk gn g)) = _
    rw [ef, z7f g0 g2, ya4 g0 g1 g2]
    refine z8n hn.2 fun x hx => ?_
    obtain ⟨x0, x1, x2⟩ := hg x (List.mem_cons_of_mem _ hx)
    refine ⟨x0, x1, ?_⟩
    unfold z4h
    rw [x2, Bool.false_or, beq_eq_false_iff_ne]
    intro e
    exact hn.1 (by rw [show g = x by omega]; exact hx)
theorem z9c : ∀ i, rk (fun _ => false) i = i
  | 0 => rfl
  | i + 1 => by
    have e : rk (fun _ => false) (i + 1) = rk (fun _ => false) i + 1 := rfl
    rw [e, z9c i]
theorem z6v (x : Int) : frk (fun _ => false) x = x := by
  unfold frk
  split
  · rfl
  · rw [z9c]; omega
theorem z8g : ∀ {l : List Pg} {i : Nat}, keL (fun _ => false) (frk fun _ => false) i l = l
  | [], _ => rfl
  | p :: t, i => by
    unfold keL
    rw [if_neg (by decide), z8g]
    congr 1
    unfold keP
    obtain ⟨a, b, c⟩ := p
    congr 1
    exact (List.map_congr_left fun x _ => z6v x).trans (List.map_id' b)
def wgF (gn : Nat → Bool) (rt : Int) (ps : List Pg) : Int × List Pg := (frk gn rt, keL gn (frk gn) 0 ps)
theorem yf1 {ps : List Pg} {rt : Int} {gs : List Int} (hn : gs.Nodup) (hg : ∀ g ∈ gs, 0 ≤ g ∧ g < ps.length) : zmq id gs (rt, ps) = wgF (z5k (fun _ => false) gs) rt ps := by
  have h := z8n (ps := ps) (rt := rt) (gn := fun _ => false) hn fun g hq => ⟨(hg g hq).1, (hg g hq).2, rfl⟩
  rw [z8g, z6v] at h
  have e : (id : Int → Int) = frk fun _ => false := funext fun x => (z6v x).symm
  rw [e]; exact h
def gnB (gone : List Bool) : Nat → Bool := fun i => gone.getD i false
theorem yb3 {gone : List Bool} {g : Nat} (h : g < gone.length) : gnB (gone.set g true) = z4h (gnB gone) g := funext fun i => by
  unfold gnB z4h
  rw [z7 _ _ _ _ _ h]
  by_cases c : i = g
  · subst c; rw [if_pos rfl]; simp
  · rw [if_neg c, beq_eq_false_iff_ne.2 c, Bool.or_false]
theorem yba (n : Nat) : gnB (List.replicate n false) = fun _ => false := funext fun i => by
  unfold gnB
  rw [List.getD_eq_getElem?_getD, List.getElem?_replicate]
  split <;> rfl
theorem z8b {gn : Nat → Bool} {f : Int → Int} {p : Pg} : ∀ {l : List Pg} {i : Nat}, keL gn f i (l ++ [p]) = keL gn f i l ++ (if gn (i + l.length) = true then [] else [keP f p])
  | [], i => by
    show keL gn f i [p] = [] ++ _
    rw [List.length_nil, Nat.add_zero, List.nil_append]
    unfold keL
    split <;> rfl
  | q :: t, i => by
    have ih := z8b (gn := gn) (f := f) (p := p) (l := t) (i := i + 1)
    rw [List.cons_append, List.length_cons]
    unfold keL
    rw [ih, show i + 1 + t.length = i + (t.length + 1) by omega]
    by_cases c : gn i = true
    · rw [if_pos c, if_pos c]
    · rw [if_neg c, if_neg c]; rfl
theorem yfh {gn : Nat → Bool} {f : Int → Int} {ps : List Pg} {i : Nat} (h : i < ps.length) : keL gn f 0 (ps.take (i + 1)) = keL gn f 0 (ps.take i) ++ (if gn i = true then [] else [keP f (ps.getD i ⟨[], [], []⟩)]) := by
  rw [zat ⟨[], [], []⟩ h, z8b, List.length_take, Nat.min_eq_left (by omega), Nat.zero_add]
end Go.VL
namespace Go.VL
set_option linter.unusedVariables false
set_option linter.unusedSimpArgs false
def jnF (root : Int) (ps : List Pg) (key : Int) : Nat := (zao ps key (htF root ps) root).2.length
def z4o (root : Int) (ps : List Pg) (key : Int) : Option (Int × List Pg) :=
  if vTree root ps = true ∧ ((psF root ps).map Pr.key).contains key = true then some (zf4 root ps (htF root ps) key) else none
structure DropF (root : Int) (ps : List Pg) (key : Int) (r : Int × List Pg) : Prop where
  v0 : vTree root ps = true
  hk : key ∈ (psF root ps).map Pr.key
  rng : 0 ≤ key ∧ key ≤ 99
  eq : r = zf4 root ps (htF root ps) key
  vt : vTree r.1 r.2 = true
  prs : psF r.1 r.2 = zbq (psF root ps) key
  ht : htF r.1 r.2 + z1x root ps (htF root ps) key = htF root ps
  c1 : z1x root ps (htF root ps) key ≤ 1
  len : r.2.length + jnF root ps key + z1x root ps (htF root ps) key = ps.length
  jl : jnF root ps key + 1 ≤ htF root ps
theorem z7g {root : Int} {ps : List Pg} {key : Int} {r : Int × List Pg} (h : z4o root ps key = some r) : DropF root ps key r := by
  unfold z4o at h
  split at h
  · rename_i c
    cases h
    obtain ⟨h1, h2⟩ := c
    have h2 := List.contains_iff_mem.1 h2
    have v := za0 h1
    have q := z0t v.v0 h2
    have h3 := v.h3
    have l16 := v.l16
    have ql := q.len
    have hv : vTree (zf4 root ps (htF root ps) key).1 (zf4 root ps (htF root ps) key).2 = true := zdk.2 ⟨_, q.vt.vt (by omega) (by omega)⟩
    obtain ⟨e1, e2⟩ := q.vt.psF hv
    have qc := q.ch
    refine ⟨h1, h2, ?_, rfl, hv, ?_, ?_, q.cl, q.len, q.jl⟩
    · obtain ⟨y, hy, rfl⟩ := List.mem_map.1 h2
      exact (zaa.row v.fit.2.2.2.2).rng y hy
    · rw [e2]; exact q.prs
    · rw [e1]; omega
  · cases h
end Go.VL
namespace Go.VL
set_option linter.unusedVariables false
set_option linter.unusedSimpArgs false
def z6j (G:List Int):List Bool:=G.foldl (fun l g=>l.set g.toNat true) (List.replicate 16 false)
theorem ycy (G:List Int) (g:Int):z6j (G++[g])=(z6j G).set g.toNat true:=by
 unfold z6j;rw[List.foldl_append];rfl
theorem z7r:∀{G:List Int} {l:List Bool},(∀g∈G,g.toNat<l.length)→(G.foldl (fun l g=>l.set g.toNat true) l).length=l.length∧gnB (G.foldl (fun l g=>l.set g.toNat true) l)=z5k (gnB l) G
 |[],l,_=>⟨rfl,rfl⟩
 |g::t,l,h=>by
  obtain⟨e1,e2⟩:=z7r (G:=t) (l:=l.set g.toNat true) fun x hx=>by rw[List.length_set];exact h x (List.mem_cons_of_mem _ hx)
  rw[List.length_set]at e1
  rw[yb3 (h g List.mem_cons_self)]at e2
  exact⟨e1,e2⟩
theorem yc1 (G:List Int):(z6j G).length=16:=by
 suffices h:∀(G:List Int) (l:List Bool),(G.foldl (fun l g=>l.set g.toNat true) l).length=l.length by
  unfold z6j;rw[h,List.length_replicate]
 intro G
 induction G with
 |nil=>intro l;rfl
 |cons g t ih=>intro l;show(t.foldl _ (l.set g.toNat true)).length=_;rw[ih,List.length_set]
theorem yfg {G:List Int} (h:∀g∈G,0≤g∧g<16):gnB (z6j G)=z5k (fun _=>false) G:=by
 have:=(z7r (G:=G) (l:=List.replicate 16 false) fun g hg=>by rw[List.length_replicate];have:=h g hg;omega).2
 rw[yba]at this
 exact this
def nuL (gn:Nat→Bool) (n:Nat):List Int:=(List.range n).map fun k=>(rk gn k:Int)
theorem z7j (gn:Nat→Bool) (n:Nat):(nuL gn n).length=n:=by unfold nuL;simp
theorem ya3 (gn:Nat→Bool) (n:Nat):nuL gn (n+1)=nuL gn n++[(rk gn n:Int)]:=by
 unfold nuL;rw[List.range_succ,List.map_append];rfl
def nuA (gn:Nat→Bool) (n:Nat):List Int:=nuL gn n++List.replicate (16-n) 0
theorem yfv {gn:Nat→Bool} {n:Nat} (h:n≤16):(nuA gn n).length=16:=by
 unfold nuA;rw[List.length_append,z7j,List.length_replicate];omega
theorem ye5 {gn:Nat→Bool} {n:Nat} (h:n<16):(nuA gn n).set n (rk gn n:Int)=nuA gn (n+1):=by
 unfold nuA
 rw[List.set_append,z7j,if_neg (by omega),Nat.sub_self,ya3,List.append_assoc,show 16-n=(16-(n+1))+1 by omega,List.replicate_succ]
 rfl
theorem yb2 {gn:Nat→Bool} {n k:Nat} (h:k<n):(nuA gn n).getD k 0=(rk gn k:Int):=by
 unfold nuA
 rw[List.getD_eq_getElem?_getD,List.getElem?_append_left (by rw[z7j];exact h)]
 unfold nuL
 rw[List.getElem?_map,List.getElem?_range h];rfl
theorem ye4 {gn:Nat→Bool} {n:Nat} {c:Int} (h0:0≤c) (h:c<n):(nuA gn n).getD c.toNat 0=frk gn c:=by
 rw[yb2 (by omega)]
 unfold frk
 rw[if_neg (by omega)]
def reL (f:Int→Int) (cs:List Int) (k:Nat):List Int:=(cs.take k).map f++cs.drop k
theorem yfz (f:Int→Int) (cs:List Int) (k:Nat):(reL f cs k).length=cs.length:=by
 unfold reL;rw[List.length_append,List.length_map,List.length_take,List.length_drop];omega
theorem ye3 {f:Int→Int} {cs:List Int} {k:Nat} (h:k<cs.length):(reL f cs k).getD k 0=cs.getD k 0:=by
 unfold reL
 rw[List.getD_eq_getElem?_getD,List.getElem?_append_right (by rw[List.length_map,List.length_take];omega),List.length_map,List.length_take,Nat.min_eq_left (by omega),Nat.sub_self,List.getElem?_drop,Nat.add_zero,←List.getD_eq_getElem?_getD]
theorem yfu {f:Int→Int} {cs:List Int} {k:Nat} (h:k<cs.length):(reL f cs k).set k (f (cs.getD k 0))=reL f cs (k+1):=by
 unfold reL
 rw[List.set_append,List.length_map,List.length_take,Nat.min_eq_left (by omega),if_neg (by omega),Nat.sub_self,zg0 0 h,zat 0 h,List.map_append,List.append_assoc]
 rfl
theorem yfx (f:Int→Int) (cs:List Int):reL f cs cs.length=cs.map f:=by
 unfold reL;rw[List.take_length,List.drop_length,List.append_nil]
theorem yf4 (gn:Nat→Bool) (i:Nat):rk gn (i+1)=rk gn i+(if gn i=true then 0 else 1):=rfl
theorem yel {i:Nat}:∀{gs:List Int} {gn:Nat→Bool},gn i=true→z5k gn gs i=true
 |[],_,h=>h
 |g::t,gn,h=>yel (gs:=t) (gn:=z4h gn g.toNat) (by unfold z4h;rw[h];rfl)
theorem yer {g:Int}:∀{gs:List Int} {gn:Nat→Bool},g∈gs→z5k gn gs g.toNat=true
 |x::t,gn,h=>by
  rcases List.mem_cons.1 h with rfl|h
  ·exact yel (gs:=t) (gn:=z4h gn g.toNat) (by unfold z4h;simp)
  ·exact yer (gs:=t) (gn:=z4h gn x.toNat) h
theorem ydc {root key:Int} {ps:List Pg} {d mn:Nat} {R:List Pg×List Int} (v:VT0 root ps (d+1)) (hok:DropOk ps key (d+1) mn root 0 99 R) {i:Int} (h0:0≤i) (h1:i<R.1.length) (hn:i∉R.2):∀c∈(zb R.1 i).kids,0≤c∧c<R.1.length:=by
 intro c hc
 have hl:=hok.len
 have hm:=hok.perm.mem_iff.1 (v.cover (i:=i) h0 (by omega))
 have hm:=(List.mem_append.1 hm).resolve_right hn
 obtain⟨d',mn',lo',hi',q⟩:=ztr hok.fit hm
 match d',q with
 |0,q=>exact q.2.2.2.2.elim
 |1,q=>rw[LeafOk.kids q.2.2.2.2]at hc;cases hc
 |d+2,q =>
  obtain⟨l,r,hf⟩:=Seg.mem q.2.2.2.2.2 c hc
  exact⟨hf.1,hf.2.1⟩
def mlF (qs:List Pg) (a b k:Int):List Pg×Bool×Int :=
 if (zcr (zb qs a) k (zb qs b)).keys.length≤4 then(qs.set a.toNat (zcr (zb qs a) k (zb qs b)),true,0)
 else((qs.set a.toNat (zam (zcr (zb qs a) k (zb qs b))).1).set b.toNat (zam (zcr (zb qs a) k (zb qs b))).2.2,false,(zam (zcr (zb qs a) k (zb qs b))).2.1)
theorem yfl (qs:List Pg) (up:Int) (f:Nat) {a b k:Int} (ha:(zb qs up).kids.getD f 0=a) (hb:(zb qs up).kids.getD (f+1) 0=b) (hk:(zb qs up).keys.getD f 0=k) :
  zcd qs up f=if (mlF qs a b k).2.1=true then((mlF qs a b k).1.set up.toNat (zf9 (zb qs up) (f+1)),[b])else((mlF qs a b k).1.set up.toNat ⟨(zb qs up).keys.set f (mlF qs a b k).2.2,(zb qs up).kids,(zb qs up).vals⟩,[]):=by
 unfold zcd mlF
 rw[ha,hb,hk]
 by_cases c:(zcr (zb qs a) k (zb qs b)).keys.length≤4
 ·rw[if_pos c,if_pos c,if_pos rfl]
 ·rw[if_neg c,if_neg c,if_neg (fun q=>by cases q)]
theorem DAt.seg {ps:List Pg} {key:Int} {d:Nat} {a c:Int} (h:DAt ps key (d+2) a) (hc:(zb ps a).kids.getD (upF (zb ps a).keys key) 0=c) :
  ∃lo hi:Int,0≤lo∧hi≤99∧Seg (Fit (zao ps key (d+1) c).1 (d+1) 1 4) lo hi (zb ps a).keys (zb ps a).kids:=by
 obtain⟨mn,lo,hi,hf,hn,hl,hh,hm,hk,hlo0,hhi9⟩:=h
 obtain⟨h0,h1,h2,h3,hv0,hseg⟩:=hf
 have hseg:Seg (Fit ps (d+1) 2 4) lo hi (zb ps a).keys (zb ps a).kids:=hseg
 obtain⟨KA,KB,A,B,c',l,r,e1,e2,e3,e4,e5,e6,s1,s2,s3,g1,g2⟩:=Seg.route hh hl hseg
 rw[e6]at hc
 subst hc
 have m:Mid ps d a lo hi KA KB A B c' l r:=zp5 hn hseg e1 e2 e4 e5 s1 s3
 have hk':=(m.has g1 g2).1 hk
 have P:=zoj s2 (fun _=>by decide) m.nc g1 g2 hk'
 generalize zao ps key (d+1) c'=R at P⊢
 have hlen:=P.len
 have mf:=m.frame (ps':=R.1) (by omega) fun y y0 y1 y2 y3=>P.out y y0 y3
 refine⟨lo,hi,hlo0,hhi9,?_⟩
 rw[m.ks,m.cs]
 exact(zk0 m.lA m.lB).2 ⟨l,r,mf.sL.imp fun c _ l r hf=>hf.mono (by decide) (Nat.le_refl _),P.fit,mf.sR.imp fun c _ l r hf=>hf.mono (by decide) (Nat.le_refl _)⟩
theorem DAt.rows {ps:List Pg} {key:Int} {d:Nat} {a c:Int} (h:DAt ps key (d+2) a) (hc:(zb ps a).kids.getD (upF (zb ps a).keys key) 0=c) {i:Nat} (hi:i<(zb ps a).keys.length)
  (hl:(zb (zao ps key (d+1) c).1 ((zb ps a).kids.getD i 0)).kids.length=0) :
  zdb (zab (zb (zao ps key (d+1) c).1 ((zb ps a).kids.getD i 0))++zab (zb (zao ps key (d+1) c).1 ((zb ps a).kids.getD (i+1) 0)))=true:=by
 obtain⟨lo,hi',h0,h9,hs⟩:=h.seg hc
 generalize (zao ps key (d+1) c).1=R at *
 have hlen:=hs.len
 have hF:∀c l r,Fit R (d+1) 1 4 c l r→l≤r:=fun c l r hf=>hf.le (by decide)
 have ek:(zb ps a).keys=(zb ps a).keys.take i++(zb ps a).keys.getD i 0::(zb ps a).keys.drop (i+1):=by rw[←zg0 0 hi,List.take_append_drop]
 have ec:(zb ps a).kids=(zb ps a).kids.take i++(zb ps a).kids.getD i 0::(zb ps a).kids.getD (i+1) 0::(zb ps a).kids.drop (i+2):=by rw[←zg0 0 (show i+1<_ by omega),←zg0 0 (show i<_ by omega),List.take_append_drop]
 rw[ek,ec]at hs
 obtain⟨l,r,s1,f1,f2,s2⟩:=(zt6 (by rw[List.length_take,List.length_take];omega) (by rw[List.length_drop,List.length_drop];omega)).1 hs
 have b1:=zca.le hF s1
 have b2:=zc3.le hF s2
 have b3:=hF _ _ _ f1
 have b4:=hF _ _ _ f2
 match d,f1,f2 with
 |0,f1,f2 =>
  have o1:LeafOk _ _ _:=f1.2.2.2.2
  have o2:LeafOk _ _ _:=f2.2.2.2.2
  have n1:=f1.2.2.2.1
  have n2:=f2.2.2.2.1
  refine zln.2 ⟨(RowOk.append o1.row o2.row (by omega) (by omega)).wide (by omega) (by omega),?_⟩
  rw[List.length_append,zby _ o1.len,zby _ o2.len];omega
 |d+1,f1,f2 =>
  have:=zaa.kidsLen f1.2.2.2.2
  omega
theorem yd4 {ps:List Pg} {key:Int} {h i:Nat} {root:Int} (ha:DAt ps key h root) (hi:i+1<h) {f:Nat} (hf:f<(zb ps ((ptF ps key h root).getD i 0)).keys.length)
  (hl:(zb (zao ps key (h-(i+1)) ((ptF ps key h root).getD (i+1) 0)).1 ((zb ps ((ptF ps key h root).getD i 0)).kids.getD f 0)).kids.length=0) :
  zdb (zab (zb (zao ps key (h-(i+1)) ((ptF ps key h root).getD (i+1) 0)).1 ((zb ps ((ptF ps key h root).getD i 0)).kids.getD f 0))++zab (zb (zao ps key (h-(i+1)) ((ptF ps key h root).getD (i+1) 0)).1 ((zb ps ((ptF ps key h root).getD i 0)).kids.getD (f+1) 0)))=true:=by
 have h1:=zqw ha (show i<h by omega)
 obtain⟨e,he⟩:∃e,h-(i+1)=e+1:=⟨h-(i+1)-1,by omega⟩
 rw[show h-i=e+2 by omega]at h1
 rw[he]at hl⊢
 exact h1.rows (zhv hi).symm hf hl
end Go.VL
namespace Go.VL
open Go.Proofs
set_option maxRecDepth 10000
set_option linter.unusedSimpArgs false
set_option linter.unusedVariables false
end Go.VL
namespace Go.VL
set_option linter.unusedVariables false
set_option linter.unusedSimpArgs false
structure RS where
 root:Int
 ps:List Pg
 held:List (List Int)
 done:List Int
 got:List Int
abbrev z4e (ops:List Opn) (w:Nat):Opn:=ops.getD w ⟨0,0,0⟩
def laF (h:List Int):Int:=h.getD (h.length-1) 0
def nxF (root:Int) (ps:List Pg) (h:List Int) (key:Int):Int :=
 if h.length=0 then root else(zb ps (laF h)).kids.getD (upF (zb ps (laF h)).keys key) 0
def z4j (ops:List Opn) (held:List (List Int)) (w:Nat) (page:Int):Bool :=
 (List.range ops.length).any fun i=>decide (i≠w)&&(held.getD i []).contains page&&decide ((z4e ops i).kind=1∨(z4e ops w).kind=1)
def fiF (ops:List Opn) (s:RS) (w:Nat):RS :=
 if (z4e ops w).kind=0 then
  ⟨s.root,s.ps,s.held.set w [],s.done++[(w:Int)],s.got.set w (if (z4e ops w).key∈(psF s.root s.ps).map Pr.key then zei (psF s.root s.ps) (z4e ops w).key else 9999)⟩
 else match zqc s.root s.ps ⟨(z4e ops w).key,(z4e ops w).value⟩with
  |some r=>⟨r.1,r.2,s.held.set w [],s.done++[(w:Int)],s.got.set w (z4e ops w).value⟩
  |none=>⟨s.root,s.ps,s.held.set w [],s.done++[(w:Int)],s.got.set w 9999⟩
def h2F (root:Int) (ps:List Pg) (h:List Int) (kind page:Int):List Int:=if sfF root ps kind page=true then [page]else h++[page]
def piF (ops:List Opn) (s:RS) (w:Nat):RS :=
 if (w:Int)∈s.done then s
 else if z4j ops s.held w (nxF s.root s.ps (s.held.getD w []) (z4e ops w).key)=true then s
 else if (zb s.ps (nxF s.root s.ps (s.held.getD w []) (z4e ops w).key)).kids.length=0 then fiF ops s w
 else⟨s.root,s.ps,s.held.set w (h2F s.root s.ps (s.held.getD w []) (z4e ops w).kind (nxF s.root s.ps (s.held.getD w []) (z4e ops w).key)),s.done,s.got⟩
def r0F (root:Int) (ps:List Pg) (n:Nat):RS:=⟨root,ps,List.replicate n [],[],List.replicate n 0⟩
def ruF (root:Int) (ps:List Pg) (ops:List Opn) (picks:List Int):RS:=picks.foldl (fun s w=>piF ops s w.toNat) (r0F root ps ops.length)
def vOp (o:Opn):Bool:=decide ((0≤o.kind∧o.kind≤1)∧(0≤o.key∧o.key≤99)∧(-1000≤o.value∧o.value≤1000)∧(o.kind=0→o.value=0))
def z4m (ops:List Opn):Bool:=ops.all vOp&&decide (ops.length≤4)
def InP (ps:List Pg) (h:List Int):Prop:=∀a∈h,0≤a∧a<ps.length∧(zb ps a).kids.length≠0
structure RunI (ops:List Opn) (k:Nat) (s:RS):Prop where
 vt:vTree s.root s.ps=true
 hl:s.held.length=ops.length
 gl:s.got.length=ops.length
 hin:∀w,InP s.ps (s.held.getD w [])
 hk:∀w,(s.held.getD w []).length≤k
 dn:∀x∈s.done,0≤x∧x<ops.length∧s.held.getD x.toNat []=[]
 nd:s.done.Nodup
 dl:s.done.length≤k
 gb:∀i,-1000≤s.got.getD i 0∧s.got.getD i 0≤9999
theorem z62 {ps:List Pg} {x:Pr} (hv:-1000≤x.value∧x.value≤1000):∀{d:Nat} {a:Int},At ps x.key (d+1) a→∀i:Int,0≤i→i<ps.length→((zb (zbb ps x (d+1) a) i).kids.length=0↔(zb ps i).kids.length=0)
 |0,a,h,i,h0,h1=>by
  obtain⟨_,_,_,hf,_⟩:=h
  show(zb (ps.set a.toNat _) i).kids.length=0↔_
  rw[zc9 hf.1 hf.2.1 h0]
  split
  ·rename_i e
   subst e
   rw[LeafOk.kids hf.2.2.2.2]
   exact⟨fun _=>rfl,fun _=>rfl⟩
  ·exact Iff.rfl
 |d+1,a,h,i,h0,h1=>by
  obtain⟨hd,hna⟩:=h.down
  obtain⟨_,_,_,hf,_⟩:=h
  have ih:=z62 hv hd
  obtain⟨mn,lo,hi,_,_,P⟩:=At.put hv hd
  obtain⟨_,_,_,hfc,_⟩:=hd
  rw[show d+1+1=d+2 from rfl,zz5]
  have hPl:=P.len
  have hkl:(zb ps a).kids.length≠0:=by have:=zaa.kidsLen hf.2.2.2.2;omega
  generalize (zb ps a).kids.getD (upF (zb ps a).keys x.key) 0=c at *
  generalize zbb ps x (d+1) c=ps1 at *
  have l1:(ps1.length:Int)≥ps.length:=by split at hPl<;>omega
  unfold zmw
  split
  ·rw[zc9 hf.1 (by rw[List.length_append,List.length_set];have:=hf.2.1;simp;omega) h0]
   split
   ·rename_i e
    subst e
    constructor
    ·intro q
     unfold zfu at q
     simp at q
    ·intro q;exact absurd q hkl
   ·rw[zlv h0,List.length_set,if_pos (by omega),zc9 hfc.1 (by have:=hfc.2.1;omega) h0]
    split
    ·rename_i e
     subst e
     rw[←ih i h0 h1]
     unfold zam
     split
     ·rename_i q
      rw[q];simp[zae]
     ·rename_i q
      constructor
      ·intro hq
       simp only[List.length_take]at hq
       omega
      ·intro hq;exact absurd hq q
    ·exact ih i h0 h1
  ·exact ih i h0 h1
theorem z9k {root:Int} {ps:List Pg} {x:Pr} {r:Int×List Pg} (h:zqc root ps x=some r) {i:Int} (h0:0≤i) (h1:i<ps.length):(zb r.2 i).kids.length=0↔(zb ps i).kids.length=0:=by
 have F:=z4k h
 obtain⟨_,_,rfl,_⟩:=zrm h
 have v:=za0 F.v0
 obtain⟨d,hd⟩:∃d,htF root ps=d+1:=⟨htF root ps-1,by have:=v.h1;omega⟩
 rw[hd]at v⊢
 have ha:=v.v0.at F.rng.1.1 F.rng.1.2
 have hi:=z62 F.rng.2 ha i h0 h1
 obtain⟨mn,lo,hi',_,_,P⟩:=At.put F.rng.2 ha
 have hPf:=P.fit
 have hPl:=P.len
 unfold zer
 generalize zbb ps x (d+1) root=ps1 at *
 have l1:(ps1.length:Int)≥ps.length:=by split at hPl<;>omega
 split
 ·show(zb (ps1.set root.toNat (zam (zb ps1 root)).1++_) i).kids.length=0↔_
  rw[zlv h0,List.length_set,if_pos (by omega),zc9 hPf.1 hPf.2.1 h0]
  split
  ·rename_i e
   subst e
   rw[←hi]
   unfold zam
   split
   ·rename_i q
    rw[q];simp[zae]
   ·rename_i q
    constructor
    ·intro hq
     simp only[List.length_take]at hq
     omega
    ·intro hq;exact absurd hq q
  ·exact hi
 ·exact hi
theorem ya8 {root:Int} {ps:List Pg} {x:Pr} {r:Int×List Pg} (h:zqc root ps x=some r):ps.length≤r.2.length:=by
 have:=(z4k h).len
 omega
theorem z7p {root:Int} {ps:List Pg} (h:vTree root ps=true) {a:Int} (h0:0≤a) (h1:a<ps.length) (hk:(zb ps a).kids.length≠0) (key:Int) :
  upF (zb ps a).keys key<(zb ps a).kids.length∧0≤(zb ps a).kids.getD (upF (zb ps a).keys key) 0∧(zb ps a).kids.getD (upF (zb ps a).keys key) 0<ps.length:=by
 have v:=za0 h
 obtain⟨d',mn',lo',hi',q⟩:=ztr v.fit (v.v0.cover h0 h1)
 match d',q with
 |0,q=>exact q.2.2.2.2.elim
 |1,q=>rw[LeafOk.kids q.2.2.2.2]at hk;exact absurd rfl hk
 |d+2,q =>
  obtain⟨g1,l,r,g2⟩:=q.kid (key:=key)
  exact⟨g1,g2.1,g2.2.1⟩
theorem z7d {h:List Int} (hn:h.length≠0):laF h∈h:=zaq 0 (by omega)
theorem z8h {root:Int} {ps:List Pg} (h:vTree root ps=true) {hs:List Int} (hi:InP ps hs) (key:Int):0≤nxF root ps hs key∧nxF root ps hs key<ps.length:=by
 unfold nxF
 split
 ·exact(za0 h).v0.pos
 ·rename_i c
  obtain⟨a0,a1,a2⟩:=hi _ (z7d c)
  exact(z7p h a0 a1 a2 key).2
theorem z4s {α:Type} (d:α) (l:List α) (i j:Nat) (x:α):(l.set i x).getD j d=if j=i∧i<l.length then x else l.getD j d:=by
 by_cases c:i<l.length
 ·rw[z7 _ _ _ _ _ c]
  by_cases e:j=i
  ·rw[if_pos e,if_pos ⟨e,c⟩]
  ·rw[if_neg e,if_neg fun q=>e q.1]
 ·rw[List.set_eq_of_length_le (by omega),if_neg fun q=>c q.2]
theorem InP.put {root:Int} {ps:List Pg} {x:Pr} {r:Int×List Pg} (h:zqc root ps x=some r) {hs:List Int} (hi:InP ps hs):InP r.2 hs:=fun a ha=>by
 obtain⟨a0,a1,a2⟩:=hi a ha
 have:=ya8 h
 exact⟨a0,by omega,fun q=>a2 ((z9k h a0 a1).1 q)⟩
inductive PiC (ops:List Opn) (s:RS) (w:Nat):RS→Prop
 |same (h:(w:Int)∈s.done∨z4j ops s.held w (nxF s.root s.ps (s.held.getD w []) (z4e ops w).key)=true):PiC ops s w s
 |down (h1:(w:Int)∉s.done) (h2:z4j ops s.held w (nxF s.root s.ps (s.held.getD w []) (z4e ops w).key)=false) (h3:(zb s.ps (nxF s.root s.ps (s.held.getD w []) (z4e ops w).key)).kids.length≠0) :
   PiC ops s w ⟨s.root,s.ps,s.held.set w (h2F s.root s.ps (s.held.getD w []) (z4e ops w).kind (nxF s.root s.ps (s.held.getD w []) (z4e ops w).key)),s.done,s.got⟩
 |get (h1:(w:Int)∉s.done) (h2:z4j ops s.held w (nxF s.root s.ps (s.held.getD w []) (z4e ops w).key)=false) (h3:(zb s.ps (nxF s.root s.ps (s.held.getD w []) (z4e ops w).key)).kids.length=0) (h4:(z4e ops w).kind=0) :
   PiC ops s w ⟨s.root,s.ps,s.held.set w [],s.done++[(w:Int)],s.got.set w (if (z4e ops w).key∈(psF s.root s.ps).map Pr.key then zei (psF s.root s.ps) (z4e ops w).key else 9999)⟩
 |put (h1:(w:Int)∉s.done) (h2:z4j ops s.held w (nxF s.root s.ps (s.held.getD w []) (z4e ops w).key)=false) (h3:(zb s.ps (nxF s.root s.ps (s.held.getD w []) (z4e ops w).key)).kids.length=0) (h4:(z4e ops w).kind≠0) (r:Int×List Pg) (h5:zqc s.root s.ps ⟨(z4e ops w).key,(z4e ops w).value⟩=some r) :
   PiC ops s w ⟨r.1,r.2,s.held.set w [],s.done++[(w:Int)],s.got.set w (z4e ops w).value⟩
 |putNo (h1:(w:Int)∉s.done) (h2:z4j ops s.held w (nxF s.root s.ps (s.held.getD w []) (z4e ops w).key)=false) (h3:(zb s.ps (nxF s.root s.ps (s.held.getD w []) (z4e ops w).key)).kids.length=0) (h4:(z4e ops w).kind≠0) (h5:zqc s.root s.ps ⟨(z4e ops w).key,(z4e ops w).value⟩=none) :
   PiC ops s w ⟨s.root,s.ps,s.held.set w [],s.done++[(w:Int)],s.got.set w 9999⟩
theorem z74 (ops:List Opn) (s:RS) (w:Nat):PiC ops s w (piF ops s w):=by
 unfold piF
 split
 ·rename_i h;exact .same (.inl h)
 ·rename_i h1
  split
  ·rename_i h;exact .same (.inr h)
  ·rename_i h2
   have h2:=eq_false_of_ne_true h2
   split
   ·rename_i h3
    unfold fiF
    split
    ·rename_i h4;exact .get h1 h2 h3 h4
    ·rename_i h4
     split
     ·rename_i r h5;exact .put h1 h2 h3 h4 r h5
     ·rename_i h5;exact .putNo h1 h2 h3 h4 h5
   ·rename_i h3;exact .down h1 h2 h3
theorem z5c {ops:List Opn} (h:z4m ops=true) {w:Nat} (hw:w<ops.length):(0≤(z4e ops w).kind∧(z4e ops w).kind≤1)∧(0≤(z4e ops w).key∧(z4e ops w).key≤99)∧(-1000≤(z4e ops w).value∧(z4e ops w).value≤1000)∧((z4e ops w).kind=0→(z4e ops w).value=0):=by
 unfold z4m at h
 rw[Bool.and_eq_true,List.all_eq_true]at h
 have:=h.1 _ (zaq ⟨0,0,0⟩ hw)
 unfold vOp at this
 exact of_decide_eq_true this
theorem ybi {root:Int} {ps:List Pg} (h:vTree root ps=true) (k:Int):-1000≤zei (psF root ps) k∧zei (psF root ps) k≤1000:=by
 have hr:=zaa.row (za0 h).fit.2.2.2.2
 by_cases c:k∈(psF root ps).map Pr.key
 ·obtain⟨y,hy,rfl⟩:=List.mem_map.1 c
  rw[zhx (ybt h) hy]
  exact hr.vrng y hy
 ·rw[z6w c];omega
theorem RunI.zero {root:Int} {ps:List Pg} {ops:List Opn} (h:vTree root ps=true):RunI ops 0 (r0F root ps ops.length):=by
 have e:∀w,(r0F root ps ops.length).held.getD w []=[]:=fun w=>by
  unfold r0F
  rw[List.getD_eq_getElem?_getD,List.getElem?_replicate]
  split<;>rfl
 refine⟨h,List.length_replicate,List.length_replicate,fun w=>?_,fun w=>?_,fun x hx=>(by cases hx),List.nodup_nil,Nat.le_refl _,fun i=>?_⟩
 ·rw[e];exact fun a ha=>by cases ha
 ·rw[e];exact Nat.le_refl _
 ·unfold r0F
  rw[List.getD_eq_getElem?_getD,List.getElem?_replicate]
  split<;>exact⟨by decide,by decide⟩
theorem RunI.step {ops:List Opn} {k:Nat} {s:RS} (h:RunI ops k s) (ho:z4m ops=true) {w:Nat} (hw:w<ops.length):RunI ops (k+1) (piF ops s w):=by
 have hvo:=z5c ho hw
 have hset:∀(x:List Int) (j:Nat),(s.held.set w x).getD j []=if j=w then x else s.held.getD j []:=fun x j=>by
  rw[z4s]
  by_cases e:j=w
  ·rw[if_pos e,if_pos ⟨e,by rw[h.hl];exact hw⟩]
  ·rw[if_neg e,if_neg fun q=>e q.1]
 have hgs:∀(x:Int),-1000≤x∧x≤9999→∀i,-1000≤(s.got.set w x).getD i 0∧(s.got.set w x).getD i 0≤9999:=fun x hx i=>by
  rw[z4s]
  split
  ·exact hx
  ·exact h.gb i
 have fin:∀(R:Int) (P:List Pg) (x:Int),(w:Int)∉s.done→vTree R P=true→(∀hs,InP s.ps hs→InP P hs)→(-1000≤x∧x≤9999)→RunI ops (k+1) ⟨R,P,s.held.set w [],s.done++[(w:Int)],s.got.set w x⟩:=fun R P x h1 hv hp hx=>by
  refine⟨hv,by rw[List.length_set];exact h.hl,by rw[List.length_set];exact h.gl,fun j=>?_,fun j=>?_,fun y hy=>?_,?_,?_,hgs x hx⟩
  ·show InP P ((s.held.set w []).getD j [])
   rw[hset]
   split
   ·exact fun a ha=>by cases ha
   ·exact hp _ (h.hin j)
  ·show((s.held.set w []).getD j []).length≤k+1
   rw[hset]
   split
   ·exact Nat.zero_le _
   ·exact Nat.le_succ_of_le (h.hk j)
  ·show 0≤y∧y<ops.length∧(s.held.set w []).getD y.toNat []=[]
   rw[hset]
   rcases List.mem_append.1 hy with hy|hy
   ·obtain⟨q1,q2,q3⟩:=h.dn y hy
    refine⟨q1,q2,?_⟩
    split
    ·rfl
    ·exact q3
   ·rw[List.mem_singleton]at hy
    subst hy
    exact⟨by omega,by omega,by rw[if_pos (by omega)]⟩
  ·refine List.nodup_append.2 ⟨h.nd,by simp,fun a ha b hb=>?_⟩
   rw[List.mem_singleton]at hb
   subst hb
   exact fun e=>h1 (e▸ha)
  ·show(s.done++[(w:Int)]).length≤k+1
   rw[List.length_append]
   have:=h.dl
   simp;omega
 have hc:=z74 ops s w
 generalize piF ops s w=t at hc
 cases hc with
 |same q=>exact⟨h.vt,h.hl,h.gl,h.hin,fun j=>by have:=h.hk j;omega,h.dn,h.nd,by have:=h.dl;omega,h.gb⟩
 |down h1 h2 h3 =>
  have hn:=z8h h.vt (h.hin w) (z4e ops w).key
  refine⟨h.vt,by rw[List.length_set];exact h.hl,h.gl,fun j=>?_,fun j=>?_,fun y hy=>?_,h.nd,by have:=h.dl;show s.done.length≤k+1;omega,h.gb⟩
  ·show InP s.ps ((s.held.set w _).getD j [])
   rw[hset]
   split
   ·unfold h2F
    split
    ·intro a ha
     rw[List.mem_singleton]at ha
     subst ha
     exact⟨hn.1,hn.2,h3⟩
    ·intro a ha
     rcases List.mem_append.1 ha with ha|ha
     ·exact h.hin w a ha
     ·rw[List.mem_singleton]at ha
      subst ha
      exact⟨hn.1,hn.2,h3⟩
   ·exact h.hin j
  ·show((s.held.set w _).getD j []).length≤k+1
   rw[hset]
   split
   ·unfold h2F
    have:=h.hk w
    split
    ·simp
    ·rw[List.length_append,List.length_singleton];omega
   ·exact Nat.le_succ_of_le (h.hk j)
  ·show 0≤y∧y<ops.length∧(s.held.set w _).getD y.toNat []=[]
   obtain⟨q1,q2,q3⟩:=h.dn y hy
   refine⟨q1,q2,?_⟩
   rw[hset,if_neg]
   ·exact q3
   ·intro e
    exact h1 (by rw[show(w:Int)=y by omega];exact hy)
 |get h1 h2 h3 h4 =>
  refine fin _ _ _ h1 h.vt (fun _ q=>q) ?_
  split
  ·have:=ybi h.vt (z4e ops w).key;omega
  ·omega
 |put h1 h2 h3 h4 r h5=>exact fin _ _ _ h1 (z4k h5).vt (fun hs q=>q.put h5) (by omega)
 |putNo h1 h2 h3 h4 h5=>exact fin _ _ _ h1 h.vt (fun _ q=>q) (by omega)
end Go.VL
