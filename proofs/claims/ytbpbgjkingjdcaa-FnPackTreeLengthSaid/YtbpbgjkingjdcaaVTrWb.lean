/- V-logic: TrWb -/
import Derived.Test.YtbpbgjkingjdcaaVTrW
namespace Go.VL
open Go.Proofs
set_option maxRecDepth 10000
set_option linter.unusedSimpArgs false
set_option linter.unusedVariables false
def VisR (root : Int) (ps : List Pg) (n : Nat) (a lo hi : Int) (f : Nat → Bool) (ld : Int) (m : Nat) (res : V) (hout : List (Nat × O)) : Prop :=
 ∃ (g : Nat → Bool) (ld' : Int), m = 1 ∧ res = .c (.bool (zen ps root n a lo hi (tab f, ld)).isSome) ∧ hout = [(0, .box [.c (.int .i64 root), .c (.pgs ps)] (tab g) [.c (.int .i64 ld')])] ∧ ∀ s', zen ps root n a lo hi (tab f, ld) = some s' → s' = (tab g, ld')
theorem zho {root : Int} {ps : List Pg} {n : Nat} {a lo hi ld ld' : Int} {f g : Nat → Bool} {b : Bool} (h : zen ps root n a lo hi (tab f, ld) = if b = true then some (tab g, ld') else none) : VisR root ps n a lo hi f ld 1 (.c (.bool b)) [(0, .box [.c (.int .i64 root), .c (.pgs ps)] (tab g) [.c (.int .i64 ld')])] :=
 ⟨g, ld', rfl, by rw [h]; cases b <;> rfl, rfl, fun s' hs => by rw [h] at hs; cases b <;> cases hs; rfl⟩
set_option maxHeartbeats 2000000 in
theorem z2q {root : Int} {ps : List Pg} (hp : pB ps) (hl : ps.length ≤ 16) : ∀ (n : Nat), n ≤ 3 → ∀ (a dep lo hi : Int) (f : Nat → Bool) (ld : Int), dep = 3 - n → zce Try.prog 138 1 [.ptr 0 0 0 0, .c (.int .i64 a), .c (.int .i64 dep), .c (.int .i64 lo), .c (.int .i64 hi)] [(0, .box [.c (.int .i64 root), .c (.pgs ps)] (tab f) [.c (.int .i64 ld)])] (VisR root ps n a lo hi f ld) := by
 intro n
 induction n with
 |zero =>
  intro _ a dep lo hi f ld hd
  refine spx (fn := Try.f138) _ ?_
  conv => whnf
  repeat' first | (refine zn ?_ ?_; (focus ((try simp only [qA]) <;> (try simp only [wA]) <;> omega)); conv => whnf) | (refine zk (fun h => ?_) (fun h => ?_) <;> (try simp only [qA] at h) <;> (try simp only [wA] at h) <;> conv => whnf)
  all_goals
   refine za1 1 (.c (.bool false)) [(0, .box [.c (.int .i64 root), .c (.pgs ps)] (tab f) [.c (.int .i64 ld)])] (zho rfl) rfl ?_
   exact (zu [] [0])
 |succ n ih =>
  intro hn a dep lo hi f ld hd
  have ih := ih (by omega)
  obtain ⟨f1, hf1⟩ : ∃ f1, (tab f).set a.toNat true = tab f1 := ⟨_, z23 f _ true⟩
  obtain ⟨p, hpp⟩ : ∃ p, zb ps a = p := ⟨_, rfl⟩
  have k1 := hp.keys a
  have k2 := hp.kids a
  have k3 := hp.vals a
  rw [hpp] at k1 k2 k3
  have hfr := zsa root ps (tab f1) ld a hp
  obtain ⟨FB, hFB⟩ : ∃ FB, zir (zb ps a) (decide (a = root)) = FB := ⟨_, rfl⟩
  have e : zen ps root (n + 1) a lo hi (tab f, ld) = if a < 0 ∨ (ps.length : Int) ≤ a ∨ (tab f).getD a.toNat false = true then none
   else if FB = false then none
   else if (p.keys.all fun x => decide (lo ≤ x ∧ x < hi)) = false then none
   else if p.kids.length = 0 then
    (if ld < 0 then some (tab f1, dep) else if ld = dep then some (tab f1, ld) else none)
   else zkg (zen ps root n) lo hi p.keys p.kids (tab f1, ld) := by
   subst hpp
   rw [zen, hFB, hf1]
   have : dep = 2 - (n : Int) := by omega
   subst this
   rfl
  rw [hFB] at hfr
  have hkl : FB = true → p.kids.length ≠ 0 → p.kids.length = p.keys.length + 1 := fun h1 h2 => by
   subst hpp
   rw [← hFB] at h1
   unfold zir at h1
   rw [if_pos (Nat.pos_of_ne_zero h2)] at h1
   repeat' split at h1
   all_goals first | (cases h1; done) | exact (of_decide_eq_true h1).2.2
  clear hFB
  replace hpp : ps.getD a.toNat ⟨[], [], []⟩ = p := hpp
  refine spx (fn := Try.f138) _ ?_
  conv => whnf
  repeat' first
   |(refine zm ?_ ?_; (focus ((try simp only [qA]) <;> (try simp only [wA]) <;> omega)); conv => whnf)
   |(refine za (by (try simp only [wA, wL]) <;> omega) ?_; conv => whnf)
   |(refine zk (fun h => ?_) (fun h => ?_) <;> (try simp only [qA] at h) <;> (try simp only [wA] at h) <;> conv => whnf)
  ·refine za1 1 (.c (.bool false)) [(0, .box [.c (.int .i64 root), .c (.pgs ps)] (tab f) [.c (.int .i64 ld)])] (zho (by rw [e, if_pos (.inl (by omega))]; rfl)) rfl ?_
   exact (zu [] [0])
  ·refine za1 1 (.c (.bool false)) [(0, .box [.c (.int .i64 root), .c (.pgs ps)] (tab f) [.c (.int .i64 ld)])] (zho (by rw [e, if_pos (.inr (.inl (by omega)))]; rfl)) rfl ?_
   exact (zu [] [0])
  ·refine za1 1 (.c (.bool false)) [(0, .box [.c (.int .i64 root), .c (.pgs ps)] (tab f) [.c (.int .i64 ld)])] (zho (by rw [e, if_pos (.inr (.inr (by assumption)))]; rfl)) rfl ?_
   exact (zu [] [0])
  rename_i ha0 ha1
  rw [if_neg (by rintro (q | q | q) <;> first | omega | (rw [h] at q; cases q))] at e
  rw [hf1]
  have hfr := hfr (by omega) (by omega)
  repeat' first
   |(refine za (by (try simp only [wA, wL]) <;> omega) ?_; conv => whnf)
   |(refine zk (fun h => ?_) (fun h => ?_) <;> (try simp only [qA] at h) <;> (try simp only [wA] at h) <;> conv => whnf)
   |(refine zal [] [0] (hfr) ⟨rfl, rfl, rfl, (by repeat first | exact trivial | refine ⟨rfl, ?_⟩), ⟨rfl, rfl, rfl, rfl, rfl, rfl⟩, ?_⟩; conv => whnf)
  ·refine za1 1 (.c (.bool false)) [(0, .box [.c (.int .i64 root), .c (.pgs ps)] (tab f1) [.c (.int .i64 ld)])] (zho (by rw [e, if_pos (by assumption)]; rfl)) rfl ?_
   exact (zu [] [0])
  rw [if_neg (by rw [h]; decide)] at e
  have hkl := hkl h
  rw [hpp]
  refine zau (fun k : Nat => (p.keys.take k).all (fun x => decide (lo ≤ x ∧ x < hi)) = true) (fun k => ⟨131, 2, [(0, .ptr 0 0 0 0), (2, .c (.int .i64 dep)), (3, .c (.int .i64 lo)), (4, .c (.int .i64 hi)), (11, .ptr 1 0 0 0), (60, .c (.nums .i64 p.keys)), (61, .c (.int .i64 p.keys.length)), (62, .c (.int .i64 k))], [(0, .box [.c (.int .i64 root), .c (.pgs ps)] (tab f1) [.c (.int .i64 ld)]), (1, .box [.c (.nums .i64 p.keys), .c (.nums .i64 p.kids), .c (.nums .i64 p.vals)] [] [])]⟩) (fun k => p.keys.length - k) 0 (by simp) (fun _ => Nat.le_succ 1) (z5 [] [0, 1]) (fun k hk => ?_)
  conv => whnf
  repeat' first
   |(refine za (by (try simp only [wA, wL]) <;> omega) ?_; conv => whnf)
   |(refine zk (fun h => ?_) (fun h => ?_) <;> (try simp only [qA] at h) <;> (try simp only [wA] at h) <;> conv => whnf)
   |(refine zg (by (try simp only [wA, wL]) <;> omega) (by (try simp only [wA, wL]) <;> omega) ?_; conv => whnf)
  ·have hx : (p.keys.all fun x => decide (lo ≤ x ∧ x < hi)) = false := zf6 0 (k := k) (by omega) (decide_eq_false (by omega))
   refine za1 1 (.c (.bool false)) [(0, .box [.c (.int .i64 root), .c (.pgs ps)] (tab f1) [.c (.int .i64 ld)])] (zho (by rw [e, if_pos hx]; rfl)) rfl ?_
   exact (zu [] [0])
  ·have hx : (p.keys.all fun x => decide (lo ≤ x ∧ x < hi)) = false := zf6 0 (k := k) (by omega) (decide_eq_false (by omega))
   refine za1 1 (.c (.bool false)) [(0, .box [.c (.int .i64 root), .c (.pgs ps)] (tab f1) [.c (.int .i64 ld)])] (zho (by rw [e, if_pos hx]; rfl)) rfl ?_
   exact (zu [] [0])
  ·refine ⟨⟨k + 1, zeg 0 hk (by omega) (decide_eq_true (by omega))⟩, (z5 [] [0, 1]), by dsimp only; omega⟩
  all_goals
   have hx : (p.keys.all fun x => decide (lo ≤ x ∧ x < hi)) = true := zh3 hk (by omega)
   rw [if_neg (by rw [hx]; decide)] at e
  ·rw [if_pos (by omega), if_pos (by omega)] at e
   refine za1 1 (.c (.bool (dep == dep))) [(0, .box [.c (.int .i64 root), .c (.pgs ps)] (tab f1) [.c (.int .i64 dep)])] (zho (by rw [e, if_pos (by simp)])) rfl ?_
   exact (zu [] [0])
  ·rw [if_pos (by omega), if_neg (by omega)] at e
   refine za1 1 (.c (.bool (ld == dep))) [(0, .box [.c (.int .i64 root), .c (.pgs ps)] (tab f1) [.c (.int .i64 ld)])] (zho (by rw [e]; simp only [beq_iff_eq])) rfl ?_
   exact (zu [] [0])
  rw [if_neg (by omega)] at e
  have hkl := hkl (by omega)
  rw [← ztm (by omega)] at e
  refine zk5 (fun (i : Nat) (g : Nat → Bool) (l : Int) => i ≤ p.kids.length ∧ zim (zen ps root n) lo hi p.keys p.kids i (tab f1, ld) = some (tab g, l)) (fun i g l => ⟨131, 2, [(0, .ptr 0 0 0 0), (2, .c (.int .i64 dep)), (3, .c (.int .i64 lo)), (4, .c (.int .i64 hi)), (11, .ptr 1 0 0 0), (95, .c (.nums .i64 p.kids)), (96, .c (.int .i64 p.kids.length)), (97, .c (.int .i64 i))], [(0, .box [.c (.int .i64 root), .c (.pgs ps)] (tab g) [.c (.int .i64 l)]), (1, .box [.c (.nums .i64 p.keys), .c (.nums .i64 p.kids), .c (.nums .i64 p.vals)] [] [])]⟩) (fun i g l => p.kids.length - i) 0 f1 ld ⟨Nat.zero_le _, rfl⟩ (fun _ _ _ => Nat.le_succ 1) (z5 [] [0, 1]) (fun i g l hi' => ?_)
  obtain ⟨hil, hu⟩ := hi'
  have hstep : zim (zen ps root n) lo hi p.keys p.kids (i + 1) (tab f1, ld) = zen ps root n (p.kids.getD i 0) (if 0 < i then p.keys.getD (i - 1) 0 else lo) (if i < p.keys.length then p.keys.getD i 0 else hi) (tab g, l) := by
   rw [zim, hu]; rfl
  obtain ⟨FR, hFR⟩ : ∃ FR, (if 0 < i then p.keys.getD (i - 1) 0 else lo) = FR := ⟨_, rfl⟩
  obtain ⟨TO, hTO⟩ : ∃ TO, (if i < p.keys.length then p.keys.getD i 0 else hi) = TO := ⟨_, rfl⟩
  have hv := ih (p.kids.getD i 0) (dep + 1) FR TO g l (by omega)
  rw [hFR, hTO] at hstep
  conv => whnf
  repeat' first
   |(refine za (by (try simp only [wA, wL]) <;> omega) ?_; conv => whnf)
   |(refine zk (fun h => ?_) (fun h => ?_) <;> (try simp only [qA] at h) <;> (try simp only [wA] at h) <;> conv => whnf)
   |(refine zg (by (try simp only [wA, wL]) <;> omega) (by (try simp only [wA, wL]) <;> omega) ?_; conv => whnf)
  rotate_right
  ·have hi2 : i = p.kids.length := by omega
   subst hi2
   refine za1 1 (.c (.bool true)) [(0, .box [.c (.int .i64 root), .c (.pgs ps)] (tab g) [.c (.int .i64 l)])] (zho (by rw [e, hu]; rfl)) rfl ?_
   exact (zu [] [0])
  all_goals first
   |(have q : p.keys.getD ((i : Int) - 1).toNat 0 = FR := by rw [w2, ← hFR, if_pos (by omega)]
     subst q)
   |(have q : lo = FR := by rw [← hFR, if_neg (by omega)]
     subst q)
  all_goals first
   |(have q : p.keys.getD ((i : Int)).toNat 0 = TO := by rw [w1, ← hTO, if_pos (by omega)]
     subst q)
   |(have q : hi = TO := by rw [← hTO, if_neg (by omega)]
     subst q)
  all_goals
   refine zbw [] [0] hv ⟨rfl, rfl, rfl, (by repeat first | exact trivial | refine ⟨rfl, ?_⟩), ⟨rfl, rfl, rfl⟩, ?_⟩
   rintro m res hout ⟨g', l', rfl, rfl, rfl, hs⟩
   refine ⟨⟨rfl, rfl, rfl⟩, ?_⟩
   conv => whnf
   repeat' first | (refine zk (fun h => ?_) (fun h => ?_) <;> (try simp only [qA] at h) <;> (try simp only [wA] at h) <;> conv => whnf) | (refine zg (by (try simp only [wA, wL]) <;> omega) (by (try simp only [wA, wL]) <;> omega) ?_; conv => whnf)
   ·refine za1 1 (.c (.bool false)) [(0, .box [.c (.int .i64 root), .c (.pgs ps)] (tab g') [.c (.int .i64 l')])] (zho (by rw [e, zzy (i := i + 1) (by rw [hstep]; simpa using h) _ (by omega)]; rfl)) rfl ?_
    exact (zu [] [0])
   ·obtain ⟨s', hs'⟩ := Option.isSome_iff_exists.1 h
    have := hs _ hs'
    subst this
    refine ⟨⟨(i + 1, g', l'), ?_⟩, (z5 [] [0, 1]), by dsimp only; omega⟩
    exact ⟨by omega, by rw [hstep]; exact hs'⟩
end Go.VL
