/- V-logic: TrL -/
import Derived.Test.YtbpbgjkingjdcaaVPD
import Derived.Test.YtbpbgjkingjdcaaVTrI
namespace Go.VL
open Go.Proofs
set_option maxRecDepth 10000
set_option linter.unusedSimpArgs false
set_option linter.unusedVariables false
theorem ztq {xs : List Int} {lo : Int} (h : Asc xs) (hb : ∀ k ∈ xs, lo ≤ k) : ∀ i, i < xs.length → lo + i ≤ xs.getD i 0
 |0, hi => by have := hb _ (zaq 0 hi); omega
 |i + 1, hi => by have := ztq h hb i (by omega); have := zez h (show i < i + 1 by omega) hi; omega
theorem zrn {l : List Pr} (h : RowOk l 0 99) : l.length ≤ 100 := by
 apply Classical.byContradiction
 intro hc
 have hl : (l.map Pr.key).length = l.length := List.length_map _
 have h1 := ztq (lo := 0) h.asc (fun k hk => by obtain ⟨y, hy, rfl⟩ := List.mem_map.1 hk; exact (h.rng y hy).1) 100 (by omega)
 have h2 := zaq 0 (show 100 < (l.map Pr.key).length by omega)
 obtain ⟨y, hy, e⟩ := List.mem_map.1 h2
 have := (h.rng y hy).2
 omega
theorem zue (root key : Int) (ps : List Pg) (hp : pB ps) (v : VT root ps (htF root ps)) : zr Try.prog 145 0 [trV root ps, .c (.int .i64 key)] [] 0 (.c (.bool (((psF root ps).map Pr.key).contains key))) [] := by
 obtain ⟨d, hd⟩ : ∃ d, htF root ps = d + 1 := ⟨htF root ps - 1, by have := v.h1; omega⟩
 have h3 := v.h3
 have hpo := zrf root ps hp d _ _ _ _ (hd ▸ v.fit) (by omega) (Nat.le_refl _)
 rw [show prF ps (d + 1) (zb ps root) = psF root ps by unfold psF; rw [hd]] at hpo
 have hle : (psF root ps).length ≤ 4294967296 := by
  have := zrn (zaa.row v.fit.2.2.2.2)
  unfold psF; omega
 generalize psF root ps = L at *
 have hk := zdt L hle
 have hi := zo5 (L.map Pr.key) key (by rw [List.length_map]; exact hle)
 refine spi (fn := Try.f145) _ ?_
 conv => whnf
 repeat' first
  |refine zh ?_
  |(refine z8 (hpo) rfl ?_; conv => whnf)
  |(refine zbe (hk) rfl rfl rfl rfl ?_; conv => whnf)
  |(refine zbo (hi) rfl rfl rfl ?_; conv => whnf)
 rfl
theorem z0k {ps : List Pg} {g i : Nat} (hi : i < ps.length) (hne : i ≠ g) : (ps.take (i + 1)).eraseIdx g = (ps.take i).eraseIdx g ++ [ps.getD i ⟨[], [], []⟩] := by
 rw [zat ⟨[], [], []⟩ hi]
 by_cases c : i < g
 ·rw [List.eraseIdx_of_length_le (by simp; omega), List.eraseIdx_of_length_le (by simp; omega)]
 ·rw [List.eraseIdx_append_of_lt_length (by simp; omega)]
theorem z1f {ps : List Pg} {g : Nat} (hi : g < ps.length) : (ps.take (g + 1)).eraseIdx g = (ps.take g).eraseIdx g := by
 have : (ps.take g).length = g := by simp; omega
 rw [zat ⟨[], [], []⟩ hi, List.eraseIdx_append_of_length_le (by omega), this, Nat.sub_self, List.eraseIdx_of_length_le (l := ps.take g) (by omega)]
 exact List.append_nil _
theorem zxy (p : Pg) (h1 : p.keys.length ≤ 4294967296) (h2 : p.kids.length ≤ 4294967296) (h3 : p.vals.length ≤ 4294967296) : zr Try.prog 197 0 [pgV p] [] 1 (.agg [.slc 0, .c (.nums .i64 p.kids), .c (.nums .i64 p.vals)]) [(0, .arr (.nums .i64 p.keys))] := by
 refine spi (fn := Try.f197) _ ?_
 conv => whnf
 repeat' first
  |(refine za (by kernel_rfl) ?_; conv => whnf)
  |(refine zar (zcn _ (by assumption)) rfl rfl ?_; conv => whnf)
  |(refine ze ?_; conv => whnf)
 (refine zbg [7, 10] [4] ?_; (conv => whnf); exact ⟨rfl, by repeat first | exact trivial | refine ⟨rfl, ?_⟩, rfl, rfl, rfl, rfl, rfl, rfl⟩)
theorem zx1 (p : Pg) (h1 : p.keys.length ≤ 4294967296) (h2 : p.kids.length ≤ 4294967296) (h3 : p.vals.length ≤ 4294967296) : zr Try.prog 197 0 [pgV p] [] 1 (.agg [.c (.nums .i64 p.keys), .slc 0, .c (.nums .i64 p.vals)]) [(0, .arr (.nums .i64 p.kids))] := by
 refine spi (fn := Try.f197) _ ?_
 conv => whnf
 repeat' first
  |(refine za (by kernel_rfl) ?_; conv => whnf)
  |(refine zar (zcn _ (by assumption)) rfl rfl ?_; conv => whnf)
  |(refine ze ?_; conv => whnf)
 (refine zbg [4, 10] [7] ?_; (conv => whnf); exact ⟨rfl, by repeat first | exact trivial | refine ⟨rfl, ?_⟩, rfl, rfl, rfl, rfl, rfl, rfl⟩)
theorem zoc {g : Int} {ys : List Int} {k : Nat} (h : k < ys.length) : (ys.set k (adj g (ys.getD k 0))).take (k + 1) ++ ((ys.set k (adj g (ys.getD k 0))).drop (k + 1)).map (adj g) = ys.take k ++ (ys.drop k).map (adj g) := by
 rw [zat 0 (by rw [List.length_set]; exact h), List.drop_set, if_pos (by omega), List.take_set_of_le (by omega), zg0 0 h, z7 _ _ _ _ _ h, if_pos rfl, List.map_cons, List.append_assoc]; rfl
theorem zzs (root g : Int) (ps : List Pg) (hp : pB ps) (h0 : 0 ≤ g) (h1 : g < ps.length) (hr : 0 ≤ root ∧ root < ps.length) (hk : ∀ i, ∀ c ∈ (zb ps i).kids, -1 ≤ c ∧ c ≤ 1000000) :
  zr Try.prog 190 0 [trV root ps, .c (.int .i64 g)] [] 1 (.agg [.c (.int .i64 (adj g root)), .slc 0]) [(0, .arr (.pgs (zct ps g)))] := by
 have k4 := hp.len
 obtain ⟨Z, hZ⟩ : ∃ Z, zct ps g = Z := ⟨_, rfl⟩
 rw [hZ]
 refine spi (fn := Try.f190) _ ?_
 conv => whnf
 repeat' first
  |(refine za (by kernel_rfl) ?_; conv => whnf)
  |(refine zk (fun h => ?_) (fun h => ?_) <;> (try simp only [qA] at h) <;> (try simp only [wA] at h) <;> conv => whnf)
  |(refine zg (by (try simp only [wA, wL]) <;> omega) (by (try simp only [wA, wL]) <;> omega) ?_; conv => whnf)
  |(refine zw (zov) rfl rfl ?_; conv => whnf)
  |(refine zw (zor) rfl rfl ?_; conv => whnf)
  |(refine zlj ?_; conv => whnf)
  |(refine ze ?_; conv => whnf)
 all_goals
  refine zau (fun i : Nat => i ≤ ps.length) (fun i => ⟨67, 4, [(1, .c (.int .i64 g)), (2, .ptr 0 0 0 0), (4, .ptr 1 0 0 0), (5, .ptr 2 0 0 0), (6, .c (.int .i64 i))], [(0, .box [.c (.int .i64 root), .c (.pgs ps)] [] []), (1, .box [.c (.int .i64 0), .nil] [] []), (2, .box [.c (.int .i64 (adj g root)), .slc 3] [] []), (3, .arr (.pgs (((ps.take i).eraseIdx g.toNat).map (ziu g))))]⟩) (fun i => ps.length - i) 0 (Nat.zero_le _) (fun _ => Nat.zero_le _) (zbd [] [0, 1, 12, 10] ⟨by repeat first | exact trivial | refine ⟨rfl, ?_⟩, ?_, rfl, rfl, rfl, rfl, rfl, rfl, rfl⟩) (fun i hi => ?_)
  ·refine ⟨rfl, rfl, congrArg (fun z => some (O.box [V.c (C.int .i64 z), .slc 10] [] [])) (by unfold adj; split <;> omega), rfl, trivial⟩
  have q1 := hp.keys i
  have q2 := hp.kids i
  have q3 := hp.vals i
  have hki := hk i
  dsimp only [zb, Int.toNat_natCast] at q1 q2 q3 hki
  have hel : ((ps.take i).eraseIdx g.toNat).length ≤ i := by rw [List.length_eraseIdx]; split <;> (rw [List.length_take]; omega)
  conv => whnf
  repeat' first
   |(refine za (by (try simp only [wA, wL]) <;> omega) ?_; conv => whnf)
   |(refine zk (fun h => ?_) (fun h => ?_) <;> (try simp only [qA] at h) <;> (try simp only [wA] at h) <;> conv => whnf)
   |(refine zg (by (try simp only [wA, wL]) <;> omega) (by (try simp only [wA, wL]) <;> omega) ?_; conv => whnf)
   |(refine zal [] [4] (zx1 (ps.getD i ⟨[], [], []⟩) q1 q2 q3) ⟨rfl, rfl, rfl, (by repeat first | exact trivial | refine ⟨rfl, ?_⟩), ⟨rfl, rfl, rfl, rfl, rfl, rfl⟩, ?_⟩; conv => whnf)
  ·refine ⟨⟨i + 1, ?_⟩, (zbd [] [0, 1, 2, 3] ⟨by repeat first | exact trivial | refine ⟨rfl, ?_⟩, ?_, rfl, rfl, rfl, rfl, rfl, rfl, rfl⟩), by dsimp only; omega⟩; (try dsimp only)
   ·omega
   ·refine ⟨rfl, rfl, rfl, congrArg (fun z => some (O.arr (C.pgs z))) ?_, trivial⟩
    have e : g.toNat = i := by omega
    rw [e, z1f (by omega)]
  ·refine zd0 (fun (ys : List Int) (k : Nat) => k ≤ ys.length ∧ ys.length ≤ 4294967296 ∧ (∀ c ∈ ys, -1 ≤ c ∧ c ≤ 1000000) ∧ ys.take k ++ (ys.drop k).map (adj g) = (ps.getD i ⟨[], [], []⟩).kids.map (adj g)) (fun ys k => ⟨67, 6, [(1, .c (.int .i64 g)), (2, .ptr 0 0 0 0), (4, .ptr 1 0 0 0), (5, .ptr 2 0 0 0), (6, .c (.int .i64 i)), (7, .ptr 4 0 0 0), (8, .c (.int .i64 k))], [(0, .box [.c (.int .i64 root), .c (.pgs ps)] [] []), (1, .box [.c (.int .i64 0), .nil] [] []), (2, .box [.c (.int .i64 (adj g root)), .slc 3] [] []), (3, .arr (.pgs (((ps.take i).eraseIdx g.toNat).map (ziu g)))), (4, .box [.c (.nums .i64 (ps.getD i ⟨[], [], []⟩).keys), .slc 5, .c (.nums .i64 (ps.getD i ⟨[], [], []⟩).vals)] [] []), (5, .arr (.nums .i64 ys))]⟩) (fun ys k => ys.length - k) (ps.getD i ⟨[], [], []⟩).kids 0 ⟨Nat.zero_le _, q2, fun c hc => by have := hki c hc; omega, rfl⟩ (fun _ _ => Nat.zero_le _) (z5 [] [0, 1, 2, 3, 5, 4]) (fun ys k hj => ?_)
   obtain ⟨j1, j2, j3, j4⟩ := hj
   have hx : k < ys.length → -1 ≤ ys.getD k 0 ∧ ys.getD k 0 ≤ 1000000 := fun hl => j3 _ (zaq 0 hl)
   conv => whnf
   repeat' first
    |(refine za (by kernel_rfl) ?_; conv => whnf)
    |(refine za (by (try simp only [wA, wL]) <;> omega) ?_; conv => whnf)
    |(refine zk (fun h => ?_) (fun h => ?_) <;> (try simp only [qA] at h) <;> (try simp only [wA] at h) <;> conv => whnf)
    |(refine zg (by (try simp only [wA, wL]) <;> omega) (by (try simp only [wA, wL]) <;> omega) ?_; conv => whnf)
    |(refine zw (zov) rfl rfl ?_; conv => whnf)
    |(refine zw (zor) rfl rfl ?_; conv => whnf)
    |(refine zo ?_; conv => whnf)
    |(refine ze ?_; conv => whnf)
   ·refine ⟨⟨(ys.set k (adj g (ys.getD k 0)), k + 1), ?_⟩, (zbd [] [0, 1, 2, 3, 4, 5] ⟨by repeat first | exact trivial | refine ⟨rfl, ?_⟩, ?_, rfl, rfl, rfl, rfl, rfl, rfl, rfl⟩), by dsimp only; rw [List.length_set]; omega⟩
    ·dsimp only
     refine ⟨by rw [List.length_set]; omega, by rw [List.length_set]; omega, fun c hc => ?_, (zoc (by omega)).trans j4⟩
     rcases List.mem_or_eq_of_mem_set hc with hc | rfl
     ·exact j3 c hc
     ·unfold adj; split <;> omega
    ·refine ⟨rfl, rfl, rfl, rfl, rfl, congrArg (fun z => some (O.arr (C.nums .i64 (ys.set k z)))) ?_, trivial⟩
     unfold adj; rw [if_pos (by assumption)]; rfl
   ·refine ⟨⟨(ys.set k (adj g (ys.getD k 0)), k + 1), ?_⟩, (zbd [] [0, 1, 2, 3, 4, 5] ⟨by repeat first | exact trivial | refine ⟨rfl, ?_⟩, ?_, rfl, rfl, rfl, rfl, rfl, rfl, rfl⟩), by dsimp only; rw [List.length_set]; omega⟩
    ·dsimp only
     refine ⟨by rw [List.length_set]; omega, by rw [List.length_set]; omega, fun c hc => ?_, (zoc (by omega)).trans j4⟩
     rcases List.mem_or_eq_of_mem_set hc with hc | rfl
     ·exact j3 c hc
     ·unfold adj; split <;> omega
    ·refine ⟨rfl, rfl, rfl, rfl, rfl, congrArg (fun z => some (O.arr (C.nums .i64 (ys.set k z)))) ?_, trivial⟩
     unfold adj; rw [if_neg (by assumption)]
     show ys.getD k 0 - 0 = _; omega
   ·refine ⟨⟨i + 1, ?_⟩, (zbd [] [0, 1, 2, 3] ⟨by repeat first | exact trivial | refine ⟨rfl, ?_⟩, ?_, rfl, rfl, rfl, rfl, rfl, rfl, rfl⟩), by dsimp only; omega⟩; (try dsimp only)
    ·omega
    ·refine ⟨rfl, rfl, rfl, congrArg (fun z => some (O.arr (C.pgs z))) ?_, trivial⟩
     rw [z0k (by omega) (by omega), List.map_append]
     rw [List.take_of_length_le (by omega), List.drop_of_length_le (by omega), List.map_nil, List.append_nil] at j4
     rw [j4]; rfl
  ·rw [List.take_of_length_le (by omega)]
   rw [show (ps.eraseIdx g.toNat).map (ziu g) = Z from hZ]
   exact (zu [] [3])
end Go.VL
