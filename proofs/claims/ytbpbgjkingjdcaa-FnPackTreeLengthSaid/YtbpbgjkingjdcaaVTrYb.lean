/- V-logic: TrYb -/
import Derived.Test.YtbpbgjkingjdcaaVTrWc
import Derived.Test.YtbpbgjkingjdcaaVTrYa
import Derived.Test.YtbpbgjkingjdcaaVPE
import Derived.Test.YtbpbgjkingjdcaaVTrS
namespace Go.VL
open Go.Proofs
set_option maxRecDepth 10000
set_option linter.unusedSimpArgs false
set_option linter.unusedVariables false
theorem zjo (root key : Int) (ps : List Pg) (hp : pB ps) (hv : vTree root ps = true) : zr Try.prog 52 0 [trV root ps, .c (.int .i64 key)] [] 1 (.slc 0) [(0, .arr (.nums .i64 (ptF ps key (htF root ps) root)))] := by
 have k4 := hp.len
 have V := za0 hv
 have hvt := zbi root ps hp
 rw [hv] at hvt
 have hpg := fun a h0 h1 => zl6 hv (i := a) h0 h1
 obtain ⟨d, hd⟩ : ∃ d, htF root ps = d + 1 := ⟨htF root ps - 1, by have := V.h1; omega⟩
 have hd3 := V.h3
 have hl16 := V.l16
 have hf := V.fit
 rw [hd] at hf hd3 ⊢
 clear V hv
 obtain ⟨W, hW⟩ : ∃ W, ptF ps key (d + 1) root = W := ⟨_, rfl⟩
 rw [hW]
 refine spi (fn := Try.f52) _ ?_
 conv => whnf
 repeat' first | (refine zm ?_ ?_; (focus ((try simp only [qA]) <;> (try simp only [wA]) <;> omega)); conv => whnf) | (refine zp (hvt) rfl rfl ?_; conv => whnf)
 refine zk5 (fun (pre : List Int) (e : Nat) (a : Int) => pre.length + e ≤ 20 ∧ (∃ mn mx lo hi, Fit ps (e + 1) mn mx a lo hi) ∧ pre ++ ptF ps key (e + 1) a = W)
  (fun pre e a => ⟨35, 2, [(1, .c (.int .i64 key)), (2, .ptr 0 0 0 0), (5, .c (.int .i64 a)), (6, .slc 1)], [(0, .box [.c (.int .i64 root), .c (.pgs ps)] [] []), (1, .arr (.nums .i64 (pre ++ [a])))]⟩) (fun pre e a => e) [] d root ⟨by simp; omega, ⟨_, _, _, _, hf⟩, hW⟩ (fun _ _ _ => Nat.zero_le _) (z5 [] [0, 1]) (fun pre e a hi => ?_)
 obtain ⟨hle, ⟨mn', mx', lo', hi', hf'⟩, hw⟩ := hi
 have h0 := hf'.1
 have h1 := hf'.2.1
 have hpg := hpg a h0 h1
 have k1 := hp.keys a
 have k2 := hp.kids a
 by_cases he : e = 0
 ·subst he
  have hk := LeafOk.kids hf'.2.2.2.2
  have hk0 : (zb ps a).kids.length = 0 := by rw [hk]; rfl
  have hw' : pre ++ [a] = W := hw
  rw [hw']
  clear hpg hf' hk
  dsimp only [zb] at hk0 k1 k2
  conv => whnf
  repeat' first | (refine zm ?_ ?_; (focus ((try simp only [qA]) <;> (try simp only [wA]) <;> omega)); conv => whnf) | (refine za (by (try simp only [wA, wL]) <;> omega) ?_; conv => whnf)
  exact (zu [] [1])
 ·obtain ⟨e, rfl⟩ : ∃ e', e = e' + 1 := ⟨e - 1, by omega⟩
  have hkl := zaa.kidsLen hf'.2.2.2.2
  obtain ⟨hu, l, r, hk⟩ := hf'.kid (key := key)
  have hrk := zxe (zb ps a) key (hpg.inr hl16 (fun q => by rw [q] at hkl; simp at hkl))
  have hin := zxh (zb ps a)
  have hw' : (pre ++ [a]) ++ ptF ps key (e + 1) ((zb ps a).kids.getD (upF (zb ps a).keys key) 0) = W := by rw [← hw, List.append_assoc]; rfl
  generalize (zb ps a).kids.getD (upF (zb ps a).keys key) 0 = B at *
  clear hpg hf'
  dsimp only [zb] at hkl k1 k2 hrk hin
  conv => whnf
  repeat' first
   |(refine zn ?_ ?_; (focus ((try simp only [qA]) <;> (try simp only [wA]) <;> omega)); conv => whnf)
   |(refine za (by (try simp only [wA, wL]) <;> omega) ?_; conv => whnf)
   |(refine zp (hin) rfl rfl ?_; conv => whnf)
   |(refine zp (hrk) rfl rfl ?_; conv => whnf)
  refine ⟨⟨(pre ++ [a], e, B), ?_⟩, (z5 [] [0, 1]), by dsimp only; omega⟩; (try dsimp only)
  exact ⟨by simp; omega, ⟨_, _, _, _, hk⟩, hw'⟩
theorem zzm (root key : Int) (ps : List Pg) (hp : pB ps) (hv : vTree root ps = false) : zr Try.prog 52 0 [trV root ps, .c (.int .i64 key)] [] 0 .nil [] := by
 have hvt := zbi root ps hp
 rw [hv] at hvt
 refine spi (fn := Try.f52) _ ?_
 conv => whnf
 repeat' first | (refine zn ?_ ?_; (focus ((try simp only [qA]) <;> (try simp only [wA]) <;> omega)); conv => whnf) | (refine zp (hvt) rfl rfl ?_; conv => whnf)
 all_goals exact (zu [] [])
theorem zy9 (root key : Int) (ps : List Pg) (hp : pB ps) (hv : vTree root ps = true) : zr Try.prog 129 0 [trV root ps, .c (.int .i64 key)] [] 0 (.c (.int .i64 (lfF ps key (htF root ps) root))) [] := by
 have V := za0 hv
 have hpt := zjo root key ps hp hv
 obtain ⟨d, hd⟩ : ∃ d, htF root ps = d + 1 := ⟨htF root ps - 1, by have := V.h1; omega⟩
 have hd3 := V.h3
 rw [hd] at hpt hd3 ⊢
 have hl : (ptF ps key (d + 1) root).length = d + 1 := zg1
 rw [← zlt]
 generalize ptF ps key (d + 1) root = W at *
 refine spi (fn := Try.f129) _ ?_
 conv => whnf
 repeat' first
  |(refine za (by (try simp only [wA, wL]) <;> omega) ?_; conv => whnf)
  |refine zi ?_
  |(refine zg (by (try simp only [wA, wL]) <;> omega) (by (try simp only [wA, wL]) <;> omega) ?_; conv => whnf)
  |(refine z8 (hpt) rfl ?_; conv => whnf)
 show W.getD ((W.length : Int) - 1).toNat 0 = W.getD d 0
 rw [show ((W.length : Int) - 1).toNat = d by omega]
theorem z2e {l : List Int} {f : Int → List Int} : ∀ {i : Nat}, i < l.length → ((l.take i).flatMap f).length + (f (l.getD i 0)).length ≤ (l.flatMap f).length := by
 intro i h
 have e := zhn 0 f l i h
 have := congrArg List.length (show (l.take (i + 1)).flatMap f ++ (l.drop (i + 1)).flatMap f = l.flatMap f by rw [← List.flatMap_append, List.take_append_drop])
 rw [e, List.length_append, List.length_append] at this
 omega
theorem zr9 (root : Int) (ps : List Pg) (hp : pB ps) : ∀ (d : Nat) {mn mx : Nat} (a lo hi : Int) (out : List Int), Fit ps (d + 1) mn mx a lo hi → out.length + (lvF ps (d + 1) a).length ≤ 4294967296 → zr Try.prog 107 1 [trV root ps, .c (.int .i64 a), .slc 0] [(0, .arr (.nums .i64 out))] 1 (.slc 0) [(0, .arr (.nums .i64 (out ++ lvF ps (d + 1) a)))] := by
 intro d
 induction d with
 |zero =>
  intro mn mx a lo hi out hf hl
  have h0 := hf.1
  have h1 := hf.2.1
  have hk := LeafOk.kids hf.2.2.2.2
  have hk0 : (zb ps a).kids.length = 0 := by rw [hk]; rfl
  have hl : out.length + 1 ≤ 4294967296 := hl
  dsimp only [zb] at hk0
  refine spi (fn := Try.f107) _ ?_
  conv => whnf
  repeat' first | (refine zn ?_ ?_; (focus ((try simp only [qA]) <;> (try simp only [wA]) <;> omega)); conv => whnf) | (refine za (by (try simp only [wA, wL]) <;> omega) ?_; conv => whnf)
  exact (zu [] [0])
 |succ d ih =>
  intro mn mx a lo hi out hf hl
  have h0 := hf.1
  have h1 := hf.2.1
  have hkl := zaa.kidsLen hf.2.2.2.2
  have hsg := hf.2.2.2.2.2
  have k2 := hp.kids a
  obtain ⟨W, hW⟩ : ∃ W, lvF ps (d + 1 + 1) a = W := ⟨_, rfl⟩
  have hW' : (zb ps a).kids.flatMap (lvF ps (d + 1)) = W := hW
  rw [hW] at hl ⊢
  clear hW
  obtain ⟨p, hpp⟩ : ∃ p, zb ps a = p := ⟨_, rfl⟩
  rw [hpp] at hkl hsg k2 hW'
  replace hpp : ps.getD a.toNat ⟨[], [], []⟩ = p := hpp
  have hne : (ps.getD a.toNat ⟨[], [], []⟩).kids.length ≠ 0 := by rw [hpp]; omega
  refine spi (fn := Try.f107) _ ?_
  conv => whnf
  repeat' first | (refine zm ?_ ?_; (focus ((try simp only [qA]) <;> (try simp only [wA]) <;> omega)); conv => whnf) | (refine za (by (try simp only [wA, wL]) <;> omega) ?_; conv => whnf)
  rw [hpp]
  refine zd0 (fun (i : Nat) (L : List Int) => i ≤ p.kids.length ∧ L = out ++ (p.kids.take i).flatMap (lvF ps (d + 1))) (fun i L => ⟨38, 2, [(2, .slc 0), (3, .ptr 1 0 0 0), (26, .c (.nums .i64 p.kids)), (27, .c (.int .i64 p.kids.length)), (28, .c (.int .i64 i))], [(0, .arr (.nums .i64 L)), (1, .box [.c (.int .i64 root), .c (.pgs ps)] [] [])]⟩) (fun i L => p.kids.length - i) 0 out ⟨Nat.zero_le _, by simp⟩ (fun _ _ => Nat.le_succ 1) (z5 [] [0, 1]) (fun i L hi' => ?_)
  obtain ⟨hi', hL⟩ := hi'
  by_cases hil : i < p.kids.length
  ·obtain ⟨l, r, hfk⟩ := Seg.mem hsg _ (zaq 0 hil)
   have hfl := z2e (f := lvF ps (d + 1)) hil
   have hih := ih (p.kids.getD i 0) _ _ L hfk (by rw [hL, List.length_append]; rw [hW'] at hfl; omega)
   conv => whnf
   repeat' first
    |(refine zn ?_ ?_; (focus ((try simp only [qA]) <;> (try simp only [wA]) <;> omega)); conv => whnf)
    |(refine za (by (try simp only [wA, wL]) <;> omega) ?_; conv => whnf)
    |(refine zg (by (try simp only [wA, wL]) <;> omega) (by (try simp only [wA, wL]) <;> omega) ?_; conv => whnf)
    |(refine zal [] [0] (hih) ⟨rfl, rfl, rfl, (by repeat first | exact trivial | refine ⟨rfl, ?_⟩), ⟨rfl, rfl, rfl, rfl, rfl, rfl⟩, ?_⟩; conv => whnf)
   refine ⟨⟨(i + 1, L ++ lvF ps (d + 1) (p.kids.getD i 0)), ?_⟩, (z5 [] [0, 1]), by dsimp only; omega⟩; (try dsimp only)
   exact ⟨by omega, by rw [hL, List.append_assoc, ← zhn 0 _ _ _ hil]⟩
  ·rw [List.take_of_length_le (by omega), hW'] at hL
   rw [hL]
   conv => whnf
   repeat' (refine zm ?_ ?_; (focus ((try simp only [qA]) <;> (try simp only [wA]) <;> omega)); conv => whnf)
   exact (zu [] [0])
theorem zlp (root : Int) (ps : List Pg) (hp : pB ps) (hv : vTree root ps = true) : zr Try.prog 36 0 [trV root ps] [] 1 (.slc 0) [(0, .arr (.nums .i64 (lvF ps (htF root ps) root)))] := by
 have V := za0 hv
 have hvt := zbi root ps hp
 rw [hv] at hvt
 obtain ⟨d, hd⟩ : ∃ d, htF root ps = d + 1 := ⟨htF root ps - 1, by have := V.h1; omega⟩
 have hd3 := V.h3
 have hf := V.fit
 rw [hd] at hf hd3 ⊢
 have hl : (lvF ps (d + 1) root).length ≤ 97656 := by
  have hwl := zg5 _ (hf.wkOk (Nat.le_refl 4))
  have hw4 : wkB (d + 1) ≤ 97656 := Nat.le_trans (zfs (show d + 1 ≤ 8 by omega)) (by decide)
  rw [← zgq hf]
  exact Nat.le_trans (List.length_filter_le _ _) (by omega)
 have hb : zr Try.prog 107 0 [trV root ps, .c (.int .i64 root), .nil] [] 1 (.slc 0) [(0, .arr (.nums .i64 (lvF ps (d + 1) root)))] :=
  z1i (args := [trV root ps, .c (.int .i64 root)]) (x := .nums .i64 []) rfl rfl rfl (zr9 root ps hp d root _ _ [] hf (by simp; omega))
 refine spi (fn := Try.f36) _ ?_
 conv => whnf
 repeat' first
  |(refine zm ?_ ?_; (focus ((try simp only [qA]) <;> (try simp only [wA]) <;> omega)); conv => whnf)
  |(refine zp (hvt) rfl rfl ?_; conv => whnf)
  |(refine z8 (hb) rfl ?_; conv => whnf)
 exact (zu [] [1])
theorem zve (root : Int) (ps : List Pg) (hp : pB ps) (hv : vTree root ps = false) : zr Try.prog 36 0 [trV root ps] [] 0 .nil [] := by
 have hvt := zbi root ps hp
 rw [hv] at hvt
 refine spi (fn := Try.f36) _ ?_
 conv => whnf
 repeat' first | (refine zn ?_ ?_; (focus ((try simp only [qA]) <;> (try simp only [wA]) <;> omega)); conv => whnf) | (refine zp (hvt) rfl rfl ?_; conv => whnf)
 all_goals exact (zu [] [])
theorem zog {α : Type} (z x : α) {L : List α} {n i : Nat} (hi : i < n) (hl : L.length = i) : (L ++ List.replicate (n - i) z).set i x = (L ++ [x]) ++ List.replicate (n - (i + 1)) z := by
 obtain ⟨k, hk⟩ : ∃ k, n - i = k + 1 := ⟨n - i - 1, by omega⟩
 rw [hk, show n - (i + 1) = k by omega, List.set_append_right _ _ (by omega), hl, Nat.sub_self, List.replicate_succ, List.set_cons_zero, List.append_assoc]; rfl
theorem zmb (p : Pg) (h : p.vals.length = p.keys.length) (hl : p.keys.length ≤ 4294967296) : zr Try.prog 99 0 [pgV p] [] 1 (.slc 0) [(0, .arr (.prs (zab p)))] := by
 have hz := zby p h
 refine spi (fn := Try.f99) _ ?_
 conv => whnf
 repeat' (refine za (by (try simp only [wA, wL]) <;> omega) ?_; conv => whnf)
 refine zd0 (fun (i : Nat) (L : List Pr) => i ≤ p.keys.length ∧ L = (zab p).take i ++ List.replicate (p.keys.length - i) ⟨0, 0⟩) (fun i L => ⟨30, 2, [(1, .ptr 0 0 0 0), (3, .slc 1), (11, .c (.nums .i64 p.keys)), (12, .c (.int .i64 p.keys.length)), (13, .c (.int .i64 i))], [(0, .box [.c (.nums .i64 p.keys), .c (.nums .i64 p.kids), .c (.nums .i64 p.vals)] [] []), (1, .arr (.prs L))]⟩) (fun i L => p.keys.length - i) 0 (List.replicate p.keys.length ⟨0, 0⟩) ⟨Nat.zero_le _, rfl⟩ (fun _ _ => Nat.zero_le _) (z5 [] [0, 1]) (fun i L hi => ?_)
 obtain ⟨hi, hL⟩ := hi
 have hll : L.length = p.keys.length := by rw [hL, List.length_append, List.length_take, List.length_replicate]; omega
 conv => whnf
 repeat' first
  |(refine za (by (try simp only [wA, wL]) <;> omega) ?_; conv => whnf)
  |(refine zk (fun h => ?_) (fun h => ?_) <;> (try simp only [qA] at h) <;> (try simp only [wA] at h) <;> conv => whnf)
  |(refine zg (by (try simp only [wA, wL]) <;> omega) (by (try simp only [wA, wL]) <;> omega) ?_; conv => whnf)
 ·refine ⟨⟨(i + 1, L.set i ⟨p.keys.getD i 0, p.vals.getD i 0⟩), ?_⟩, (z5 [] [0, 1]), by dsimp only; omega⟩; (try dsimp only)
  refine ⟨by omega, ?_⟩
  rw [hL, zog _ _ (by omega) (by rw [List.length_take]; omega), zro p (by omega) (by omega)]; rfl
 ·rw [List.take_of_length_le (by omega), show p.keys.length - i = 0 by omega, List.replicate_zero, List.append_nil] at hL
  rw [hL]
  exact (zu [] [1])
theorem zih (root : Int) (ps : List Pg) (hp : pB ps) (hv : vTree root ps = true) : zr Try.prog 33 0 [trV root ps] [] 1 (.slc 0) [(0, .arr (.prs (psF root ps)))] := by
 have V := za0 hv
 have hlo := zlp root ps hp hv
 have hlen := (zdx hv).len
 unfold psF at hlen ⊢
 obtain ⟨d, hd⟩ : ∃ d, htF root ps = d + 1 := ⟨htF root ps - 1, by have := V.h1; omega⟩
 have hd3 := V.h3
 have hf := V.fit
 rw [hd] at hf hd3 hlo hlen ⊢
 have hfl := zec hf
 have hk4 := znl hf (Nat.le_refl 4)
 rw [← zft hf] at hlen ⊢
 have hl : (lvF ps (d + 1) root).length ≤ 97656 := by
  have hwl := zg5 _ (hf.wkOk (Nat.le_refl 4))
  have hw4 : wkB (d + 1) ≤ 97656 := Nat.le_trans (zfs (show d + 1 ≤ 8 by omega)) (by decide)
  rw [← zgq hf]
  exact Nat.le_trans (List.length_filter_le _ _) (by omega)
 clear V hf
 generalize lvF ps (d + 1) root = W at *
 refine spi (fn := Try.f33) _ ?_
 conv => whnf
 repeat' (refine z8 (hlo) rfl ?_; conv => whnf)
 refine zd0 (fun (i : Nat) (L : List Pr) => i ≤ W.length ∧ L = (W.take i).flatMap fun x => zab (zb ps x)) (fun i L => ⟨23, 3, [(1, .ptr 0 0 0 0), (3, .slc 2), (7, .slc 1), (8, .c (.int .i64 W.length)), (9, .c (.int .i64 i))], [(0, .box [.c (.int .i64 root), .c (.pgs ps)] [] []), (1, .arr (.nums .i64 W)), (2, .arr (.prs L))]⟩) (fun i L => W.length - i) 0 [] ⟨Nat.zero_le _, rfl⟩ (fun _ _ => Nat.zero_le _) (zsg [.nl 3 false (.prs .nil)] [] [0, 1, 2] ?_) ?_
 ·conv => whnf
  exact ⟨by repeat first | exact trivial | refine ⟨rfl, ?_⟩, by repeat first | exact trivial | refine ⟨rfl, ?_⟩, rfl, rfl, rfl, rfl, rfl, rfl, rfl⟩
 intro i L hi
 obtain ⟨hil, hL⟩ := hi
 by_cases hi2 : i < W.length
 ·obtain ⟨h0, h1, _, _, hlk⟩ := hfl (W.getD i 0) (zaq 0 hi2)
  have hlv := hlk.len
  have k1 := hk4 (W.getD i 0) (zaq 0 hi2)
  have hpl := zmb (zb ps (W.getD i 0)) hlv (by omega)
  have hst := zhn 0 (fun x => zab (zb ps x)) W i hi2
  have hln : (L ++ zab (zb ps (W.getD i 0))).length ≤ 100 := by
   refine Nat.le_trans ?_ hlen
   have := congrArg List.length (show (W.take (i + 1)).flatMap (fun x => zab (zb ps x)) ++ (W.drop (i + 1)).flatMap (fun x => zab (zb ps x)) = W.flatMap (fun x => zab (zb ps x)) by rw [← List.flatMap_append, List.take_append_drop])
   rw [hst, ← hL, List.length_append] at this
   omega
  rw [List.length_append] at hln
  dsimp only [zb] at hlv k1 hpl hln
  conv => whnf
  repeat' first
   |(refine zn ?_ ?_; (focus ((try simp only [qA]) <;> (try simp only [wA]) <;> omega)); conv => whnf)
   |(refine za (by (try simp only [wA, wL]) <;> omega) ?_; conv => whnf)
   |(refine zg (by (try simp only [wA, wL]) <;> omega) (by (try simp only [wA, wL]) <;> omega) ?_; conv => whnf)
   |(refine z8 (hpl) rfl ?_; conv => whnf)
  refine ⟨⟨(i + 1, L ++ zab (ps.getD (W.getD i 0).toNat ⟨[], [], []⟩)), ?_⟩, (z5 [] [0, 1, 2]), by dsimp only; omega⟩; (try dsimp only)
  exact ⟨by omega, by rw [hL, hst]⟩
 ·rw [List.take_of_length_le (by omega)] at hL
  subst hL
  conv => whnf
  repeat' (refine zm ?_ ?_; (focus ((try simp only [qA]) <;> (try simp only [wA]) <;> omega)); conv => whnf)
  exact (zu [] [2])
theorem zws (root : Int) (ps : List Pg) (hp : pB ps) (hv : vTree root ps = false) : zr Try.prog 33 0 [trV root ps] [] 0 .nil [] := by
 have hlo := zve root ps hp hv
 refine spi (fn := Try.f33) _ ?_
 conv => whnf
 repeat' (refine zp (hlo) rfl rfl ?_; conv => whnf)
 refine zau (fun _ : Unit => True) (fun _ => ⟨23, 0, [(3, .nil), (8, .c (.int .i64 0)), (9, .c (.int .i64 0))], []⟩) (fun _ => 0) () trivial (fun _ => Nat.zero_le _) zbn (fun _ _ => ?_)
 conv => whnf
 repeat' (refine zm ?_ ?_; (focus ((try simp only [qA]) <;> (try simp only [wA]) <;> omega)); conv => whnf)
 exact (zu [] [])
end Go.VL
