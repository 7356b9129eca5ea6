/- V-logic: TrZa TrZb TrPf Un TrPg TrLv TrPd TrPe TrLw -/
import Derived.Test.YtfogmgldlemngaaVT2
import Derived.Test.YtfogmgldlemngaaVEF
import Derived.Test.YtfogmgldlemngaaVMA
import Derived.Test.YtfogmgldlemngaaVT7
import Derived.Test.YtfogmgldlemngaaVW3
import Derived.Test.YtfogmgldlemngaaVPD
import Derived.Test.YtfogmgldlemngaaVW4
import Derived.Test.YtfogmgldlemngaaVEG
namespace Go.VL
open Go.Proofs
set_option maxRecDepth 10000
set_option linter.unusedSimpArgs false
set_option linter.unusedVariables false
theorem zw2 {α:Type} [DecidableEq α] (d:α) {xs ys:List α} (hl:xs.length=ys.length) (h:∀i,i<xs.length→xs.getD i d=ys.getD i d):xs=ys:=by
 apply List.ext_getElem hl
 intro i h1 h2
 have:=h i h1
 rwa [List.getD_eq_getElem?_getD,List.getD_eq_getElem?_getD,List.getElem?_eq_getElem h1,List.getElem?_eq_getElem h2]at this
theorem zn3 (xs ys:List Int) (h1:xs.length≤4294967296) (h2:ys.length≤4294967296):zr Try.prog 6 0 [.c (.nums .i64 xs),.c (.nums .i64 ys)] [] 0 (.c (.bool (decide (xs=ys)))) []:=by
 obtain⟨X,hX⟩:∃X,decide (xs=ys)=X:=⟨_,rfl⟩
 rw[hX]
 by_cases hl:xs.length=ys.length
 ·skip
  refine spi (fn:=Try.f6) _ ?_
  conv=>whnf
  repeat' (refine zm ?_ ?_;(focus ((try simp only[qA])<;>(try simp only[wA])<;>omega));conv=>whnf)
  refine zau (fun i:Nat=>∀k,k<i→xs.getD k 0=ys.getD k 0) (fun i=>⟨26,0,[(0,.c (.nums .i64 xs)),(1,.c (.nums .i64 ys)),(5,.c (.int .i64 i))],[]⟩) (fun i=>xs.length-i) 0 (fun k hk=>absurd hk (Nat.not_lt_zero _)) (fun _=>Nat.zero_le _) zbn (fun i hi=>?_)
  conv=>whnf
  repeat' first
   |(refine za (by kernel_rfl) ?_;conv=>whnf)
   |(refine za (by(try simp only[wA,wL])<;>omega) ?_;conv=>whnf)
   |(refine zk (fun h=>?_) (fun h=>?_)<;>(try simp only[qA]at h)<;>(try simp only[wA]at h)<;>conv=>whnf)
   |refine zc ?_
   |refine zd ?_
   |(refine zg (by(try simp only[wA,wL])<;>omega) (by(try simp only[wA,wL])<;>omega) ?_;conv=>whnf)
   |(refine ze ?_;conv=>whnf)
  ·rw[←hX]
   exact decide_eq_false fun q=>h (by rw[q])
  ·refine⟨⟨i+1,fun k hk=>?_⟩,zbn,by dsimp only;omega⟩
   rcases Nat.lt_or_ge k i with c|c
   ·exact hi k c
   ·obtain rfl:k=i:=by omega
    exact h
  ·rw[←hX]
   exact decide_eq_true (zw2 0 hl fun k hk=>hi k (by omega))
 ·have:X=false:=by
   rw[←hX]
   exact decide_eq_false fun q=>hl (by rw[q])
  rw[this]
  refine spi (fn:=Try.f6) _ ?_
  conv=>whnf
  repeat' first|(refine zn ?_ ?_;(focus ((try simp only[qA])<;>(try simp only[wA])<;>omega));conv=>whnf)|refine zd ?_
  all_goals rfl
theorem zmf:zr Try.prog 6 0 [.nil,.nil] [] 0 (.c (.bool true)) [] :=
 zkb (args:=[.c (.nums .i64 []),.c (.nums .i64 [])]) ⟨.inr ⟨rfl,_,rfl,rfl,rfl⟩,.inr ⟨rfl,_,rfl,rfl,rfl⟩,trivial⟩ (zn3 [] [] (by decide) (by decide))
theorem zbh (xs:List Int) (h:xs.length≤4294967296):zr Try.prog 6 0 [.c (.nums .i64 xs),.c (.nums .i64 xs)] [] 0 (.c (.bool true)) []:=by
 have:=zn3 xs xs h h
 rwa [decide_eq_true rfl]at this
end Go.VL
namespace Go.VL
open Go.Proofs
set_option maxRecDepth 10000
set_option linter.unusedSimpArgs false
set_option linter.unusedVariables false
def zxs (m:Nat) (res:V) (hout:List (Nat×O)):Prop :=
 ∃(root:Int) (ps:List Pg),pB ps∧ps.length≤16∧m=0∧res=trV root ps∧hout=[]
theorem z2c (code:List Int) (hl:code.length≤1048576) (hc:CodeOk (code.take 2000)):zce Try.prog 4 0 [.c (.nums .u8 code)] [] zxs:=by
 refine spx (fn:=Try.f4) _ ?_
 conv=>whnf
 repeat' (refine zal [] [1] (zff code hl) ⟨rfl,rfl,rfl,(by repeat first|exact trivial|refine⟨rfl,?_⟩),⟨rfl,rfl,rfl,rfl,rfl,rfl⟩,?_⟩;conv=>whnf)
 refine zbw [] [1] (zgw (code.take 2000) hc 0 (by omega) (by omega)) ⟨rfl,rfl,rfl,(by repeat first|exact trivial|refine⟨rfl,?_⟩),⟨rfl,rfl,rfl⟩,?_⟩
 rintro m res hout ⟨root,ps,p,hp,hps,p0,p1,rfl,rfl,rfl⟩
 refine⟨⟨rfl,rfl,rfl⟩,?_⟩
 conv=>whnf
 skip
 refine za1 0 (trV root ps) [] ⟨root,ps,hp,hps,rfl,rfl,rfl⟩ rfl ?_
 exact(zu [] [])
end Go.VL
namespace Go.VL
open Go.Proofs
set_option maxRecDepth 10000
set_option linter.unusedSimpArgs false
set_option linter.unusedVariables false
theorem flS {ps : List Pg} {k : Nat} (h : k < ps.length) : (ps.take (k + 1)).flatMap pkF = (ps.take k).flatMap pkF ++ pkF (ps.getD k ⟨[], [], []⟩) := by
  rw [zat ⟨[], [], []⟩ h, List.flatMap_append]; simp
theorem yhs {p : Pg} (h : zin p = true) : (pkF p).length ≤ 100 := by
  obtain ⟨z1, z2⟩ := ztf h
  unfold pkF pkB
  simp; omega
theorem yhq {ps : List Pg} (hf : ∀ p ∈ ps, zin p = true) : (ps.flatMap pkF).length ≤ 100 * ps.length := by
  induction ps with
  | nil => exact Nat.zero_le _
  | cons p t ih =>
    rw [List.flatMap_cons, List.length_append, List.length_cons]
    have h1 := ih fun q hq => hf q (List.mem_cons_of_mem _ hq)
    have := yhs (hf p (List.mem_cons_self ..))
    omega
theorem yhz (root : Int) (ps : List Pg) (hl : ps.length ≤ 1000) (hf : ∀ p ∈ ps, zin p = true) : zr Try.prog 14 0 [trV root ps] [] 1 (.slc 0) [(0, .arr (.nums .i64 (zob root ps)))] := by
  unfold zob
  refine spi (fn := Try.f14) _ ?_
  conv => whnf
  skip
  refine zd0 (fun (k : Nat) (M : List Int) => k ≤ ps.length ∧ M = (ps.length : Int) :: root :: (ps.take k).flatMap pkF) (fun k M => ⟨27, 2, [(1, .ptr 0 0 0 0), (3, .slc 1), (4, .c (.int .i64 k))], [(0, .box [.c (.int .i64 root), .c (.pgs ps)] [] []), (1, .arr (.nums .i64 M))]⟩) (fun k _ => ps.length - k) 0 [(ps.length : Int), root] ⟨Nat.zero_le _, rfl⟩ (fun _ _ => Nat.zero_le _) (ydn [] [0, 1]) (fun k M hk => ?_)
  obtain ⟨hk, hM⟩ := hk
  have hml := congrArg List.length hM
  have hfl := yhq (ps := ps.take k) fun p hp => hf p (List.mem_of_mem_take hp)
  rw [List.length_cons, List.length_cons] at hml
  rw [List.length_take] at hfl
  by_cases c : k < ps.length
  · have hm := zaq ⟨[], [], []⟩ c
    have hp := sPackPage'_v _ (hf _ hm)
    have hS := flS c
    have hpl : (pkF (ps.getD k ⟨[], [], []⟩)).length ≤ 100 := yhs (hf _ hm)
    conv => whnf
    repeat' first
      | (refine zn ?_ ?_; (focus ((try simp only [qA]) <;> (try simp only [wA]) <;> omega)); conv => whnf)
      | (refine za (by (try simp only [wA, wL]) <;> omega) ?_; conv => whnf)
      | (refine zg (by (try simp only [wA, wL]) <;> omega) (by (try simp only [wA, wL]) <;> omega) ?_; conv => whnf)
      | (refine z8 (hp) rfl ?_; conv => whnf)
    exact ⟨⟨(k + 1, M ++ pkF (ps.getD k ⟨[], [], []⟩)), by omega, by rw [hM, hS]; rfl⟩, (ydn [] [0, 1]), by dsimp only; omega⟩
  · rw [List.take_of_length_le (by omega)] at hM
    subst hM
    conv => whnf
    repeat' (refine zm ?_ ?_; (focus ((try simp only [qA]) <;> (try simp only [wA]) <;> omega)); conv => whnf)
    exact (zu [] [1])
theorem yh2 (root : Int) (ps : List Pg) (hp : pB ps) (hv : vTree root ps = true) : zr Try.prog 5 0 [trV root ps] [] 1 (.slc 0) [(0, .arr (.nums .i64 (zob root ps)))] := by
  have hvt := zbi root ps hp
  have hl := (za0 hv).l16
  have hf := zrs hv
  rw [hv] at hvt
  unfold zob
  refine spi (fn := Try.f5) _ ?_
  conv => whnf
  repeat' first
    | (refine zm ?_ ?_; (focus (first | rfl | exact bne_self_eq_false _)); conv => whnf)
    | (refine yhk (hvt) rfl rfl ?_; conv => whnf)
  refine zd0 (fun (k : Nat) (M : List Int) => k ≤ ps.length ∧ M = (ps.length : Int) :: root :: (ps.take k).flatMap pkF) (fun k M => ⟨28, 1, [(3, .slc 0), (16, .c (.pgs ps)), (17, .c (.int .i64 ps.length)), (18, .c (.int .i64 k))], [(0, .arr (.nums .i64 M))]⟩) (fun k _ => ps.length - k) 0 [(ps.length : Int), root] ⟨Nat.zero_le _, rfl⟩ (fun _ _ => Nat.zero_le _) (ydn [] [1]) (fun k M hk => ?_)
  obtain ⟨hk, hM⟩ := hk
  have hml := congrArg List.length hM
  have hfl := yhq (ps := ps.take k) fun p hp => hf p (List.mem_of_mem_take hp)
  rw [List.length_cons, List.length_cons] at hml
  rw [List.length_take] at hfl
  by_cases c : k < ps.length
  · have hm := zaq ⟨[], [], []⟩ c
    have hp := yhm _ (hf _ hm)
    have hS := flS c
    have hpl : (pkF (ps.getD k ⟨[], [], []⟩)).length ≤ 100 := yhs (hf _ hm)
    conv => whnf
    repeat' first
      | (refine zn ?_ ?_; (focus ((try simp only [qA]) <;> (try simp only [wA]) <;> omega)); conv => whnf)
      | (refine za (by (try simp only [wA, wL]) <;> omega) ?_; conv => whnf)
      | (refine zg (by (try simp only [wA, wL]) <;> omega) (by (try simp only [wA, wL]) <;> omega) ?_; conv => whnf)
      | (refine z8 (hp) rfl ?_; conv => whnf)
    exact ⟨⟨(k + 1, M ++ pkF (ps.getD k ⟨[], [], []⟩)), by omega, by rw [hM, hS]; rfl⟩, (ydn [] [0]), by dsimp only; omega⟩
  · rw [List.take_of_length_le (by omega)] at hM
    subst hM
    conv => whnf
    repeat' (refine zm ?_ ?_; (focus ((try simp only [qA]) <;> (try simp only [wA]) <;> omega)); conv => whnf)
    exact (zu [] [0])
theorem yhy (root : Int) (ps : List Pg) (hp : pB ps) (hv : vTree root ps = false) : zr Try.prog 5 0 [trV root ps] [] 0 .nil [] := by
  have hvt := zbi root ps hp
  rw [hv] at hvt
  refine spi (fn := Try.f5) _ ?_
  conv => whnf
  repeat' first
    | (refine zn ?_ ?_; (focus (first | rfl | exact beq_self_eq_true _)); conv => whnf)
    | (refine yhk (hvt) rfl rfl ?_; conv => whnf)
  exact (zu [] [])
theorem yhx (root : Int) (ps : List Pg) (hp : pB ps) (hv : vTree root ps = true) : zr Try.prog 7 0 [trV root ps] [] 1 (.slc 0) [(0, .arr (.nums .i64 (zob root ps)))] := by
  have hvt := zay root ps hp
  have hpt := yhz root ps (by have := (za0 hv).l16; omega) (zrs hv)
  rw [hv] at hvt
  refine spi (fn := Try.f7) _ ?_
  conv => whnf
  repeat' first
    | (refine zm ?_ ?_; (focus (first | rfl | exact bne_self_eq_false _)); conv => whnf)
    | (refine yhk (hvt) rfl rfl ?_; conv => whnf)
    | (refine z8 (hpt) rfl ?_; conv => whnf)
  exact (zu [] [1])
theorem yhu (root : Int) (ps : List Pg) (hp : pB ps) (hv : vTree root ps = false) : zr Try.prog 7 0 [trV root ps] [] 0 .nil [] := by
  have hvt := zay root ps hp
  rw [hv] at hvt
  refine spi (fn := Try.f7) _ ?_
  conv => whnf
  repeat' first
    | (refine zn ?_ ?_; (focus (first | rfl | exact beq_self_eq_true _)); conv => whnf)
    | (refine yhk (hvt) rfl rfl ?_; conv => whnf)
  exact (zu [] [])
end Go.VL
namespace Go.VL
abbrev ztV:V:=.agg [.c (.int .i64 0),.nil]
def unR:Option (Int×List Pg)→List V
 |some (r,ps)=>[trV r ps,.tt]
 |none=>[ztV,.ff]
end Go.VL
namespace Go.VL
open Go.Proofs
set_option maxRecDepth 10000
set_option linter.unusedSimpArgs false
set_option linter.unusedVariables false
def unE (r : Int) : Option (List Pg × List Int) → Option (Int × List Pg)
  | some (ps, []) => if vTree r ps = true then some (r, ps) else none
  | _ => none
theorem unT_e {l : List Int} (g : ¬ (l.length < 2 ∨ ¬ (1 ≤ l.getD 0 0 ∧ l.getD 0 0 ≤ 16))) : unT l = unE (l.getD 1 0) (zkk (l.getD 0 0).toNat (l.drop 2)) := by
  unfold unT
  rw [if_neg g]
  cases zkk (l.getD 0 0).toNat (l.drop 2) with
  | none => rfl
  | some q => obtain ⟨ps, r⟩ := q; cases r <;> rfl
theorem nmD {xs : List Int} {k : Nat} (h : nmB xs) : nmB (xs.drop k) := by
  refine ⟨by have := h.1; rw [List.length_drop]; omega, fun i => ?_⟩
  rw [List.getD_eq_getElem?_getD, List.getElem?_drop, ← List.getD_eq_getElem?_getD]
  exact h.2 _
theorem yh6 {n k : Nat} {l r : List Int} {M : List Pg} (hk : k < n) (h : zkk n l = (zkk (n - k) r).map fun q => (M ++ q.1, q.2)) :
    (zow r = true → zkk n l = (zkk (n - (k + 1)) (r.drop (unS r))).map fun q => ((M ++ [unP r]) ++ q.1, q.2)) ∧ (zow r = false → zkk n l = none) := by
  obtain ⟨m, hm⟩ : ∃ m, n - k = m + 1 := ⟨n - k - 1, by omega⟩
  rw [h, hm, show n - (k + 1) = m by omega, zkk]
  constructor
  · intro q
    rw [if_pos q, Option.map_map]
    congr 1
    funext z
    simp
  · intro q
    rw [if_neg (by rw [q]; decide)]; rfl
theorem yie {ps : List Pg} (hl : ps.length ≤ 100) (hf : ∀ p ∈ ps, zin p = true) : pB ps := by
  have key : ∀ i : Int, (zb ps i).keys.length ≤ 4 ∧ (zb ps i).kids.length ≤ 5 ∧ (zb ps i).vals.length ≤ 4 := fun i => by
    by_cases c : i.toNat < ps.length
    · have := ztf (hf _ (zaq ⟨[], [], []⟩ c))
      show (ps.getD i.toNat _).keys.length ≤ 4 ∧ (ps.getD i.toNat _).kids.length ≤ 5 ∧ (ps.getD i.toNat _).vals.length ≤ 4
      omega
    · unfold zb
      rw [List.getD_eq_getElem?_getD, List.getElem?_eq_none (by omega)]; simp
  exact ⟨by omega, fun i => by have := key i; omega, fun i => by have := key i; omega, fun i => by have := key i; omega⟩
theorem yho (l : List Int) (hb : nmB l) : zr Try.prog 8 0 [.c (.nums .i64 l)] [] 0 (.tup (unR (unT l))) [] := by
  have hl := hb.1
  have h0 := hb.2 (Int.toNat 0)
  by_cases g : l.length < 2 ∨ ¬ (1 ≤ l.getD (Int.toNat 0) 0 ∧ l.getD (Int.toNat 0) 0 ≤ 16)
  · have e : unT l = none := by unfold unT; exact if_pos g
    rw [e]
    refine spi (fn := Try.f8) _ ?_
    conv => whnf
    repeat' first
      | (refine zn ?_ ?_; (focus ((try simp only [qA]) <;> (try simp only [wA]) <;> omega)); conv => whnf)
      | (refine za (by (try simp only [wA, wL]) <;> omega) ?_; conv => whnf)
      | (refine zk (fun h => ?_) (fun h => ?_) <;> (try simp only [qA] at h) <;> (try simp only [wA] at h) <;> conv => whnf)
    all_goals first | exact (zu [] []) | (exfalso; omega)
  · have e := unT_e g
    have g1 : 2 ≤ l.length := by omega
    have g2 : 1 ≤ l.getD (Int.toNat 0) 0 ∧ l.getD (Int.toNat 0) 0 ≤ 16 := by omega
    have hr := hb.2 (Int.toNat 1)
    have hN : zkk (l.getD (Int.toNat 0) 0).toNat (l.drop 2) = (zkk ((l.getD (Int.toNat 0) 0).toNat - 0) (l.drop 2)).map fun q => ([] ++ q.1, q.2) := by
      rw [Nat.sub_zero]
      cases zkk (l.getD (Int.toNat 0) 0).toNat (l.drop 2) <;> rfl
    have hdr := nmD (k := 2) hb
    change unT l = unE (l.getD (Int.toNat 1) 0) (zkk (l.getD (Int.toNat 0) 0).toNat _) at e
    obtain ⟨R, hR⟩ : ∃ R, l.drop 2 = R := ⟨_, rfl⟩
    obtain ⟨n, hn⟩ : ∃ n, (l.getD (Int.toNat 0) 0).toNat = n := ⟨_, rfl⟩
    obtain ⟨U, hU⟩ : ∃ U, unT l = U := ⟨_, rfl⟩
    have hR2 : l.drop (Int.toNat 2) = R := hR
    rw [hR, hn] at hN e
    rw [hR] at hdr
    rw [hU] at e ⊢
    have hz0 : l.getD (Int.toNat 0) 0 = (n : Int) := by omega
    clear g hn hR hU
    refine spi (fn := Try.f8) _ ?_
    conv => whnf
    repeat' first | (refine zm ?_ ?_; (focus ((try simp only [qA]) <;> (try simp only [wA]) <;> omega)); conv => whnf) | (refine za (by (try simp only [wA, wL]) <;> omega) ?_; conv => whnf)
    rw [hR2, hz0]
    refine zk5 (fun (k : Nat) (M : List Pg) (r : List Int) => k ≤ n ∧ M.length = k ∧ (∀ p ∈ M, zin p = true) ∧ nmB r ∧ zkk n R = (zkk (n - k) r).map fun q => (M ++ q.1, q.2)) (fun k M r => match k with
      | 0 => ⟨65, 2, [(2, .ptr 0 0 0 0), (4, .ptr 1 0 0 0), (5, .c (.nums .i64 r)), (33, .c (.int .i64 n)), (34, .c (.int .i64 0))], [(0, .box [.c (.int .i64 0), .nil] [] []), (1, .box [.c (.int .i64 (l.getD (Int.toNat 1) 0)), .nil] [] [])]⟩
      | k + 1 => ⟨65, 3, [(2, .ptr 0 0 0 0), (4, .ptr 1 0 0 0), (5, .c (.nums .i64 r)), (33, .c (.int .i64 n)), (34, .c (.int .i64 (k + 1 : Nat)))], [(0, .box [.c (.int .i64 0), .nil] [] []), (1, .box [.c (.int .i64 (l.getD (Int.toNat 1) 0)), .slc 2] [] []), (2, .arr (.pgs M))]⟩) (fun k M r => n - k) 0 [] R ⟨Nat.zero_le _, rfl, (fun p hp => by cases hp), hdr, hN⟩ (fun k _ _ => Nat.zero_le _) (ydn [] [0, 1]) (fun k M r hk => ?_)
    obtain ⟨hk, hMl, hMf, hrb, hun⟩ := hk
    clear hN hdr
    by_cases c : k < n
    · obtain ⟨s1, s2⟩ := yh6 c hun
      cases ho : zow r with
      | false =>
        have e2 := s2 ho
        rw [e2] at e
        change U = none at e
        subst e
        have hup := yht r hrb ho
        clear hun s1 s2 e2
        cases k with
        | zero =>
          conv => whnf
          repeat' first | (refine zn ?_ ?_; (focus ((try simp only [qA]) <;> (try simp only [wA]) <;> omega)); conv => whnf) | (refine yhk (hup) rfl rfl ?_; conv => whnf)
          exact (zu [] [])
        | succ k =>
          conv => whnf
          repeat' first | (refine zn ?_ ?_; (focus ((try simp only [qA]) <;> (try simp only [wA]) <;> omega)); conv => whnf) | (refine yhk (hup) rfl rfl ?_; conv => whnf)
          exact (zu [] [])
      | true =>
        have e2 := s1 ho
        have hup := yhw r hrb ho
        have hfp := (zjv.1 ho).2.1
        have hsl := (zjv.1 ho).1.len
        have hrl := hrb.1
        have hrb2 := nmD (k := unS r) hrb
        clear hun s1 s2
        cases k with
        | zero =>
          have e3 : M = [] := List.eq_nil_of_length_eq_zero hMl
          subst e3
          conv => whnf
          repeat' first
            | (refine zn ?_ ?_; (focus ((try simp only [qA]) <;> (try simp only [wA]) <;> omega)); conv => whnf)
            | (refine za (by (try simp only [wA, wL]) <;> omega) ?_; conv => whnf)
            | (refine zg (by (try simp only [wA, wL]) <;> omega) (by (try simp only [wA, wL]) <;> omega) ?_; conv => whnf)
            | (refine yhk (hup) rfl rfl ?_; conv => whnf)
            | (refine zo ?_; conv => whnf)
          refine ⟨⟨(1, [] ++ ([] ++ [unP r]), r.drop (unS r)), ?_⟩, (ydn [] [0, 1, 4]), by dsimp only; omega⟩; (try dsimp only)
          exact ⟨c, rfl, fun p hp => by rw [List.mem_singleton.1 hp]; exact hfp, hrb2, e2⟩
        | succ k =>
          conv => whnf
          repeat' first
            | (refine zn ?_ ?_; (focus ((try simp only [qA]) <;> (try simp only [wA]) <;> omega)); conv => whnf)
            | (refine za (by (try simp only [wA, wL]) <;> omega) ?_; conv => whnf)
            | (refine zg (by (try simp only [wA, wL]) <;> omega) (by (try simp only [wA, wL]) <;> omega) ?_; conv => whnf)
            | (refine yhk (hup) rfl rfl ?_; conv => whnf)
            | (refine zo ?_; conv => whnf)
          refine ⟨⟨(k + 1 + 1, M ++ ([] ++ [unP r]), r.drop (unS r)), ?_⟩, (ydn [] [0, 1, 2]), by dsimp only; omega⟩; (try dsimp only)
          refine ⟨c, by simp; omega, fun p hp => ?_, hrb2, e2⟩
          rcases List.mem_append.1 hp with hp | hp
          · exact hMf p hp
          · rw [List.mem_singleton.1 hp]; exact hfp
    · obtain rfl : k = n := by omega
      rw [Nat.sub_self] at hun
      change zkk k R = some (M ++ [], r) at hun
      rw [List.append_nil] at hun
      rw [hun] at e
      have hpM := yie (ps := M) (by omega) hMf
      have hvt := zbi (l.getD (Int.toNat 1) 0) M hpM
      clear hun
      have hrl := hrb.1
      cases k with
      | zero => exfalso; omega
      | succ k =>
        cases r with
        | nil =>
          change U = if vTree (l.getD (Int.toNat 1) 0) M = true then some (l.getD (Int.toNat 1) 0, M) else none at e
          subst e
          generalize vTree (l.getD (Int.toNat 1) 0) M = b at *
          cases b with
          | false =>
            conv => whnf
            repeat' first
              | (refine zn ?_ ?_; (focus (first | rfl | exact beq_self_eq_true _)); conv => whnf)
              | (refine zm ?_ ?_; (focus (first | rfl | exact bne_self_eq_false _)); conv => whnf)
              | (refine zm ?_ ?_; (focus ((try simp only [qA]) <;> (try simp only [wA]) <;> omega)); conv => whnf)
              | (refine zbo (hvt) rfl rfl rfl ?_; conv => whnf)
            exact (zu [] [])
          | true =>
            conv => whnf
            repeat' first
              | (refine zm ?_ ?_; (focus (first | rfl | exact bne_self_eq_false _)); conv => whnf)
              | (refine zm ?_ ?_; (focus ((try simp only [qA]) <;> (try simp only [wA]) <;> omega)); conv => whnf)
              | (refine zbo (hvt) rfl rfl rfl ?_; conv => whnf)
            exact (zu [2] [])
        | cons z t =>
          change U = none at e
          subst e
          have hlen : 0 < ((z :: t).length : Int) := by simp
          generalize z :: t = r at *
          conv => whnf
          repeat' first | (refine zn ?_ ?_; (focus ((try simp only [qA]) <;> (try simp only [wA]) <;> omega)); conv => whnf) | (refine zm ?_ ?_; (focus ((try simp only [qA]) <;> (try simp only [wA]) <;> omega)); conv => whnf)
          exact (zu [] [])
end Go.VL
namespace Go.VL
open Go.Proofs
set_option maxRecDepth 10000
set_option linter.unusedSimpArgs false
set_option linter.unusedVariables false
theorem yh9 {xs : List Int} (hl : xs.length ≤ 1048576) (h : ∀ x ∈ xs, -1048576 ≤ x ∧ x ≤ 1048576) : nmB xs := ⟨hl, fun i => z9a (P := fun x => -1048576 ≤ x ∧ x ≤ 1048576) h (by decide) i⟩
theorem yh5 {xs : List Int} (h : nmB xs) {x : Int} (hx : x ∈ xs) : -1048576 ≤ x ∧ x ≤ 1048576 := by
  obtain ⟨j, hj⟩ := List.mem_iff_getElem?.1 hx
  have := h.2 j
  rw [List.getD_eq_getElem?_getD, hj] at this
  exact this
theorem yid {root : Int} {ps : List Pg} (h : vTree root ps = true) : nmB (zob root ps) := by
  have hf := zrs h
  have hfl := yhq hf
  have v := za0 h
  have l16 := v.l16
  have e : (zob root ps).length = (ps.flatMap pkF).length + 2 := rfl
  refine yh9 (by omega) fun x hx => ?_
  have hx : x ∈ (ps.length : Int) :: root :: ps.flatMap pkF := hx
  rw [List.mem_cons, List.mem_cons, List.mem_flatMap] at hx
  obtain ⟨p0, p1⟩ := v.v0.pos
  rcases hx with rfl | rfl | ⟨p, hp, hx⟩
  · omega
  · omega
  · exact yh5 (yia (hf p hp)) hx
end Go.VL
namespace Go.VL
open Go.Proofs
set_option maxRecDepth 10000
set_option linter.unusedSimpArgs false
set_option linter.unusedVariables false
end Go.VL
namespace Go.VL
open Go.Proofs
set_option maxRecDepth 10000
set_option linter.unusedSimpArgs false
set_option linter.unusedVariables false
theorem nmT {xs:List Int} {k:Nat} (h:nmB xs):nmB (xs.take k):=by
 refine⟨by have:=h.1;rw[List.length_take];omega,fun i=>z9a (P:=fun x=>-1048576≤x∧x≤1048576) (fun x hx=>?_) (by decide) i⟩
 obtain⟨j,hj⟩:=List.mem_iff_getElem?.1 (List.mem_of_mem_take hx)
 have:=h.2 j
 rw[List.getD_eq_getElem?_getD,hj]at this
 exact this
end Go.VL
namespace Go.VL
open Go.Proofs
set_option maxRecDepth 10000
set_option linter.unusedSimpArgs false
set_option linter.unusedVariables false
theorem FnUnpackTreeTorn_v (code:List Int) (hl0:code.length≤9223372036854775807) (hb:∀x∈code,0≤x∧x≤255):zr Try.prog 3 0 [.c (.nums .u8 code)] [] 0 (.c (.bool true)) []:=by
 refine spi (fn:=Try.f3) _ ?_
 conv=>whnf
 repeat' first|(refine zk (fun h=>?_) (fun h=>?_)<;>(try simp only[qA]at h)<;>(try simp only[wA]at h)<;>conv=>whnf)|refine zc ?_
 ·rfl
 refine zbw [] [] (z2c code (by omega) (zie hb)) ⟨rfl,rfl,rfl,(by repeat first|exact trivial|refine⟨rfl,?_⟩),⟨rfl,rfl,rfl⟩,?_⟩
 rintro m res hout ⟨root,ps,hp,hps,rfl,rfl,rfl⟩
 refine⟨⟨rfl,rfl,rfl⟩,?_⟩
 conv=>whnf
 cases g:vTree root ps with
 |false =>
  have h1:=yhy root ps hp g
  have h2:=yhu root ps hp g
  repeat' first
   |(refine zn ?_ ?_;(focus (first|rfl|exact beq_self_eq_true _));conv=>whnf)
   |(refine zm ?_ ?_;(focus (first|rfl|exact bne_self_eq_false _));conv=>whnf)
   |refine zh ?_
   |(refine yhk (h1) rfl rfl ?_;conv=>whnf)
   |(refine yhk (h2) rfl rfl ?_;conv=>whnf)
   |(refine yhk (zmf) rfl rfl ?_;conv=>whnf)
  all_goals rfl
 |true =>
  have h1:=zdn (yh2 root ps hp g) rfl
  have h2:=zdn (yhx root ps hp g) rfl
  change zr _ _ _ _ _ _ (.c (.nums .i64 (zob root ps))) _ at h1 h2
  have e:(zob root ps).length=(ps.flatMap pkF).length+2:=rfl
  have hnm:=yid g
  have hfl:=yhq (zrs g)
  have hl:=hnm.1
  have he:=zbh (zob root ps) (by omega)
  have hL:(((zob root ps).length:Int)-1).toNat=(zob root ps).length-1:=by omega
  have h3:=yho ((zob root ps).take (((zob root ps).length:Int)-1).toNat) (nmT hnm)
  have h4:=yho ([]++zob root ps++([]++[0])) (yh9 (by simp;omega) fun x hx=>by
   rw[List.nil_append,List.nil_append,List.mem_append,List.mem_singleton]at hx
   rcases hx with hx|rfl
   ·exact yh5 hnm hx
   ·decide)
  have e3:=z4c (yh3 g)
  have e4:unT ([]++zob root ps++([]++[0]))=none:=z0r (yh3 g) 0
  rw[hL,e3,←hL]at h3
  rw[e4]at h4
  change zr _ _ _ _ _ _ (.tup [ztV,.ff]) _ at h3 h4
  generalize zob root ps=L at *
  repeat' first
   |(refine zm ?_ ?_;(focus (first|rfl|exact bne_self_eq_false _));conv=>whnf)
   |(refine zm ?_ ?_;(focus ((try simp only[qA])<;>(try simp only[wA])<;>omega));conv=>whnf)
   |(refine za (by(try simp only[wA,wL])<;>omega) ?_;conv=>whnf)
   |refine zc ?_
   |(refine zg (by(try simp only[wA,wL])<;>omega) (by(try simp only[wA,wL])<;>omega) ?_;conv=>whnf)
   |(refine yhk (h1) rfl rfl ?_;conv=>whnf)
   |(refine yhk (h2) rfl rfl ?_;conv=>whnf)
   |(refine yhk (he) rfl rfl ?_;conv=>whnf)
   |(refine yhk (h3) rfl rfl ?_;conv=>whnf)
   |(refine zal [2] [] (h4) ?_;(conv=>whnf);refine⟨rfl,rfl,rfl,(by repeat first|exact trivial|refine⟨rfl,?_⟩),⟨rfl,rfl,rfl,rfl,rfl,rfl⟩,?_⟩;conv=>whnf)
  all_goals rfl
end Go.VL
