/- V-logic, part 3: representation is kept when the memory grows. -/
import Derived.Test.YtkdgodkamaicjaaVVc
namespace Go.VL
set_option linter.unusedVariables false
set_option linter.unusedSimpArgs false

theorem cell_block {w w' : World} {b o : Nat} (h : w'.heap[b]? = w.heap[b]?) : w'.cell? ⟨b, o, none⟩ = w.cell? ⟨b, o, none⟩ := by
  simp only [World.cell?, h]

theorem RC.mono {I I' : Nat → Prop} {w w' : World} (hI : ∀ b, I b → I' b) (hw : ∀ b, I b → w'.heap[b]? = w.heap[b]?) {c : C} {v : Value} (h : RC I w c v) : RC I' w' c v := by
  induction h with
  | int k n => exact .int k n
  | bool b => exact .bool b
  | empty c a cap hs h0 => exact .empty c a cap hs h0
  | sl c b off cap val hs hb hcap hc _ ih =>
    exact .sl c b off cap val hs (hI b hb) hcap (fun i j x h1 h2 => by rw [cell_block (hw b hb)]; exact hc i j x h1 h2) (fun i j x h1 h2 => ih i j x h1 h2)

theorem RV.mono {I I' : Nat → Prop} {g g' : Gam} {n n' : Nat} {w w' : World} (hI : ∀ b, I b → I' b) (hw : ∀ b, I b → w'.heap[b]? = w.heap[b]?)
    (hn : n ≤ n') (hg : ∀ id, id < n → g' id = g id) {x : V} {v : Value} (h : RV I g n w x v) : RV I' g' n' w' x v := by
  induction h with
  | any v => exact .any v
  | tt => exact .tt
  | ff => exact .ff
  | nil => exact .nil
  | c x v h => exact .c x v (h.mono hI hw)
  | agg xs vs hl _ ih => exact .agg xs vs hl fun i x v h1 h2 => ih i x v h1 h2
  | tup xs vs hl _ ih => exact .tup xs vs hl fun i x v h1 h2 => ih i x v h1 h2
  | fn f xs vs hl _ ih => exact .fn f xs vs hl fun i x v h1 h2 => ih i x v h1 h2
  | iptr row b off val hb hc hr =>
    exact .iptr row b off val (hI b hb) (fun j x h => by rw [cell_block (hw b hb)]; exact hc j x h) fun j x h => (hr j x h).mono hI hw
  | ptr id i st j b cl h1 h2 => exact .ptr id i st j b cl (by omega) (by rw [hg id h1, h2])
  | slc id len b cap h1 h2 => exact .slc id len b cap (by omega) (by rw [hg id h1, h2])
  | slc0 id h1 h2 => exact .slc0 id (by omega) (by rw [hg id h1, h2])

theorem NC.mono {w w' : World} {c : C} {v : Value} (h : NC w c v) (hw : ∀ b l n, v = .slice (some ⟨b, 0, none⟩) l n → w'.heap[b]? = w.heap[b]?) : NC w' c v := by
  cases h with
  | int k n => exact .int k n
  | bool b => exact .bool b
  | nil k => exact .nil k
  | sl k xs b cap cells ty hb hl hc h => exact .sl k xs b cap cells ty (by rw [hw b _ _ rfl]; exact hb) hl hc h

theorem Own.pri {g : Gam} {w : World} {id b : Nat} {o : O} {cl : Nat × Nat} (h : g id = some (b, cl)) : Own g w id o b := .inl ⟨cl, h⟩
theorem Nst.not {g : Gam} {w : World} {id b : Nat} {o : O} (h : Nst g w id o b) : ∃ p f x hs, o = .deep p f x hs := by
  cases o with
  | deep p f x hs => exact ⟨p, f, x, hs, rfl⟩
  | _ => exact h.elim
theorem Nst.congr {g g' : Gam} {w w' : World} {id id' b : Nat} {o : O} (hg : g' id' = g id) (hw : ∀ b cl, g id = some (b, cl) → w'.heap[b]? = w.heap[b]?) (h : Nst g' w' id' o b) : Nst g w id o b := by
  cases o with
  | deep p f x hs =>
    obtain ⟨b0, cl, k, off, len, cap, h1, h2, h3⟩ := h
    rw [hg] at h1
    exact ⟨b0, cl, k, off, len, cap, h1, h2, by rw [cell_block (hw b0 cl h1)] at h3; exact h3⟩
  | _ => exact h
theorem Own.congr {g g' : Gam} {w w' : World} {id id' b : Nat} {o : O} (hg : g' id' = g id) (hw : ∀ b cl, g id = some (b, cl) → w'.heap[b]? = w.heap[b]?) (h : Own g' w' id' o b) : Own g w id o b := by
  rcases h with ⟨cl, h⟩ | h
  · exact .inl ⟨cl, hg ▸ h⟩
  · exact .inr (h.congr hg hw)
theorem keysHs_map (fl : List V → List V) (hs : List (Nat × List V)) : keysHs (mapHs fl hs) = keysHs hs := by
  induction hs with
  | nil => rfl
  | cons x t ih => obtain ⟨i, vs⟩ := x; simp only [mapHs, keysHs, List.map_cons]; simp only [keysHs] at ih; rw [ih]
theorem mapHs_eq (fl : List V → List V) (hs : List (Nat × List V)) : mapHs fl hs = hs.map fun q => (q.1, fl q.2) := by
  induction hs with
  | nil => rfl
  | cons x t ih => obtain ⟨i, vs⟩ := x; simp [mapHs, ih]
theorem mem_mapHs {fl : List V → List V} {hs : List (Nat × List V)} {i : Nat} {us : List V} (h : (i, us) ∈ mapHs fl hs) : ∃ vs, (i, vs) ∈ hs ∧ us = fl vs := by
  rw [mapHs_eq] at h
  obtain ⟨⟨i', vs⟩, h1, h2⟩ := List.mem_map.1 h
  cases h2
  exact ⟨vs, h1, rfl⟩
theorem Nst.map {g : Gam} {w : World} {id b : Nat} {o : O} {fl : List V → List V} (h : Nst g w id (o.map fl) b) : Nst g w id o b := by
  cases o with
  | deep p f x hs => simpa only [Nst, O.map, keysHs_map] using h
  | _ => exact h
theorem Own.map {g : Gam} {w : World} {id b : Nat} {o : O} {fl : List V → List V} (h : Own g w id (o.map fl) b) : Own g w id o b := h.imp _root_.id Nst.map
/-- an object that is no such array has its block alone -/
theorem Own.nd {g : Gam} {w : World} {id b : Nat} {o : O} (ho : ∀ p f x hs, o ≠ .deep p f x hs) (h : Own g w id o b) : ∃ cl, g id = some (b, cl) := by
  rcases h with h | h
  · exact h
  · obtain ⟨p, f, x, hs, e⟩ := h.not; exact (ho p f x hs e).elim

theorem C.row_len (x : C) (i : Nat) (hs : x.isSl = true) : (x.row i).length = x.stride := by
  cases x <;> first | rfl | cases hs

/-- the block of an object, if it has one -/
theorem RO.mono {I I' : Nat → Prop} {g g' : Gam} {n n' : Nat} {w w' : World} (hI : ∀ b, I b → I' b) (hw : ∀ b, I b → w'.heap[b]? = w.heap[b]?)
    (hn : n ≤ n') (hg : ∀ id, id < n → g' id = g id) {id : Nat} (hid : id < n) {o : O} (hb : ∀ b, Own g w id o b → w'.heap[b]? = w.heap[b]?) (h : RO I g n w id o) : RO I' g' n' w' id o := by
  have hb' : ∀ b cl, g id = some (b, cl) → w'.heap[b]? = w.heap[b]? := fun b cl h => hb b (.pri h)
  cases h with
  | box pre bs post b cl cells ty hg' hb0 hl h1 h2 h3 =>
    exact .box pre bs post b cl cells ty (by rw [hg id hid, hg']) (by rw [hb' b cl hg']; exact hb0) hl
      (fun i x v a1 a2 => (h1 i x v a1 a2).mono hI hw hn hg) h2 (fun i x v a1 a2 => (h3 i x v a1 a2).mono hI hw hn hg)
  | none x hg' hs h0 => exact .none x (by rw [hg id hid, hg']) hs h0
  | arr x b cap cells ty hg' hs hb0 hl hcap h ht =>
    exact .arr x b cap cells ty (by rw [hg id hid, hg']) hs (by rw [hb' b _ hg']; exact hb0) hl hcap
      (fun i j y a1 a2 => let ⟨v, h1, h2⟩ := h i j y a1 a2; ⟨v, h1, h2.mono hI hw⟩) ht
  | hol x hi vs b cap cells ty hg' hs hb0 hl hcap hhi hv h h2 ht =>
    exact .hol x hi vs b cap cells ty (by rw [hg id hid, hg']) hs (by rw [hb' b _ hg']; exact hb0) hl hcap hhi hv
      (fun i j y a1 a2 a3 => let ⟨v, h1, h2⟩ := h i j y a1 a2 a3; ⟨v, h1, h2.mono hI hw⟩) (fun j hj => let ⟨u, v, a1, a2, a3, a4⟩ := h2 j hj; ⟨u, v, a1, a2, a3, a4.mono hI hw hn hg⟩) ht
  | deep0 p f x hg' hs h0 => exact .deep0 p f x (by rw [hg id hid, hg']) hs h0
  | deep p f x hs b cap cells ty hg' hsl hb0 hl hcap hh hkn h h2 hd ht =>
    refine .deep p f x hs b cap cells ty (by rw [hg id hid, hg']) hsl (by rw [hb' b _ hg']; exact hb0) hl hcap hh hkn (fun i j y a1 a2 a3 a4 => ?_) (fun i us hm j hj => let ⟨u, v, a1, a2, a3, a4⟩ := h2 i us hm j hj; ⟨u, v, a1, a2, a3, a4.mono hI hw hn hg⟩) hd ht
    obtain ⟨v, h3, h4⟩ := h i j y a1 a2 a3 a4
    refine ⟨v, h3, h4.mono fun b1 l n e => hb b1 (.inr ⟨b, _, i * x.stride + j, 0, l, n, hg', ⟨i, j, rfl, ?_, a1, a2, a3⟩, ?_⟩)⟩
    · have := (List.getElem?_eq_some_iff.1 a4).1; rwa [C.row_len _ _ hsl] at this
    · rw [cell_of_row w b _ cells.toArray ty (0, 0) hb0]; rw [← e]; simpa using h3

theorem HOk.mono {I I' : Nat → Prop} {g : Gam} {n n' : Nat} {w w' : World} {hp : List (Nat × O)} (h : HOk I g n w hp)
    (hI : ∀ b, I b → I' b) (hI' : ∀ b, I' b → I b ∨ w.heap.size ≤ b) (hw : ∀ b, I b → w'.heap[b]? = w.heap[b]?) (hn : n ≤ n')
    (hd : ∀ b, Dom g w hp b → w'.heap[b]? = w.heap[b]?) (hs : w.heap.size ≤ w'.heap.size) : HOk I' g n' w' hp := by
  have back : ∀ {id o b}, (id, o) ∈ hp → Own g w' id o b → Own g w id o b := fun hm ho => ho.congr rfl fun b cl hg => hd b ⟨_, _, hm, .pri hg⟩
  exact {
    obj := fun id o hm => ⟨by have := (h.obj id o hm).1; omega, (h.obj id o hm).2.mono hI hw hn (fun _ _ => rfl) (h.obj id o hm).1 fun b hb => hd b ⟨id, o, hm, hb⟩⟩
    apart := fun id o b hm hg => by
      obtain ⟨h1, h2⟩ := h.apart id o b hm (back hm hg)
      refine ⟨fun hc => ?_, by omega⟩
      rcases hI' b hc with h3 | h3
      · exact h1 h3
      · omega
    nodup := h.nodup
    inj := fun id o id' o' b h1 h2 g1 g2 => h.inj id o id' o' b h1 h2 (back h1 g1) (back h2 g2) }
theorem Dom.back {g : Gam} {w w' : World} {hp : List (Nat × O)} (hd : ∀ b, Dom g w hp b → w'.heap[b]? = w.heap[b]?) {b : Nat} (h : Dom g w' hp b) : Dom g w hp b := by
  obtain ⟨id, o, hm, ho⟩ := h
  exact ⟨id, o, hm, ho.congr rfl fun b cl hg => hd b ⟨_, _, hm, .pri hg⟩⟩

theorem V.force_eq (v : V) (K : V → Prop) : v.force K = K v := by
  cases v with
  | c x => cases x <;> rfl
  | _ => rfl
theorem C.force_eq (v : C) (K : C → Prop) : v.force K = K v := by cases v <;> rfl
theorem forceL_eq (l : List V) (K : List V → Prop) : forceL l K = K l := by
  induction l generalizing K with
  | nil => rfl
  | cons v t ih => simp only [forceL, V.force_eq, ih]
theorem forceE_eq (l : List (Nat × V)) (K : List (Nat × V) → Prop) : forceE l K = K l := by
  induction l generalizing K with
  | nil => rfl
  | cons v t ih => obtain ⟨k, v⟩ := v; simp only [forceE, V.force_eq, ih]
theorem forceHs_eq (l : List (Nat × List V)) (K : List (Nat × List V) → Prop) : forceHs l K = K l := by
  induction l generalizing K with
  | nil => rfl
  | cons v t ih => obtain ⟨k, v⟩ := v; simp only [forceHs, forceL_eq, ih]
theorem forceH_eq (l : List (Nat × O)) (K : List (Nat × O) → Prop) : forceH l K = K l := by
  induction l generalizing K with
  | nil => rfl
  | cons v t ih =>
    obtain ⟨k, o⟩ := v
    cases o <;> simp only [forceH, C.force_eq, forceL_eq, forceHs_eq, ih]
theorem S.force_eq (s : S) (K : S → Prop) : s.force K = K s := by
  cases s; simp only [S.force, forceE_eq, forceH_eq]
theorem S.withHp_eq (s : S) (hp : List (Nat × O)) (K : S → Prop) : s.withHp hp K = K { s with hp := hp } := by
  cases s; simp only [S.withHp, forceH_eq]
theorem S.put_none (s : S) (v : V) (K : S → Prop) : s.put none v K = K s := by cases s; rfl
theorem S.put_some (s : S) (d : Nat) (v : V) (K : S → Prop) : s.put (some d) v K = (d < s.nt ∧ K { s with env := (d, v) :: s.env }) := by
  cases s with
  | mk nt nx env hp =>
    simp only [S.put]
    cases h : Nat.blt d nt with
    | true => simp only [V.force_eq]; have : d < nt := Nat.blt_eq.mp h; simp [this]
    | false => have : ¬ d < nt := fun hc => by rw [Nat.blt_eq.mpr hc] at h; cases h
               simp [this]

theorem look_cons (k : Nat) (v : V) (t : List (Nat × V)) (j : Nat) : look ((k, v) :: t) j = if k = j then v else look t j := by
  simp only [look]
  cases h : Nat.beq k j with
  | true => have := Nat.eq_of_beq_eq_true h; simp [this]
  | false => have : k ≠ j := Nat.ne_of_beq_eq_false h; simp [this]
theorem lookH_cons (k : Nat) (v : O) (t : List (Nat × O)) (j : Nat) : lookH ((k, v) :: t) j = if k = j then some v else lookH t j := by
  simp only [lookH]
  cases h : Nat.beq k j with
  | true => have := Nat.eq_of_beq_eq_true h; simp [this]
  | false => have : k ≠ j := Nat.ne_of_beq_eq_false h; simp [this]
theorem lookH_mem {hp : List (Nat × O)} {j : Nat} {o : O} (h : lookH hp j = some o) : (j, o) ∈ hp := by
  induction hp with
  | nil => cases h
  | cons x t ih =>
    obtain ⟨k, v⟩ := x
    rw [lookH_cons] at h
    split at h
    · rename_i e; subst e; cases h; exact List.mem_cons_self
    · exact List.mem_cons_of_mem _ (ih h)
theorem mem_lookH {hp : List (Nat × O)} (hn : (hp.map (·.1)).Nodup) {j : Nat} {o : O} (h : (j, o) ∈ hp) : lookH hp j = some o := by
  induction hp with
  | nil => cases h
  | cons x t ih =>
    obtain ⟨k, v⟩ := x
    rw [lookH_cons]
    simp only [List.map_cons, List.nodup_cons] at hn
    rcases List.mem_cons.1 h with h | h
    · cases h; simp
    · have : k ≠ j := fun e => hn.1 (by rw [e]; exact List.mem_map.2 ⟨_, h, rfl⟩)
      rw [if_neg this]; exact ih hn.2 h

/-- the frame of a walk -/
structure Cx where
  W : World
  I0 : Nat → Prop
  D0 : Nat → Prop
  K0 : Nat → Prop
  g0 : Gam

structure St (X : Cx) (I : Nat → Prop) (g : Gam) (s : S) (a : Act) (w : World) : Prop where
  df : a.defers = []
  sz : a.tmps.size = s.nt
  slots : ∀ j, RV I g s.nx w (look s.env j) (a.tmps.getD j undef)
  heap : HOk I g s.nx w s.hp
  bound : ∀ b, I b → b < w.heap.size
  up : ∀ b, X.I0 b → I b
  down : ∀ b, I b → X.I0 b ∨ X.W.heap.size ≤ b ∨ X.D0 b
  own : ∀ b, Dom g w s.hp b → X.W.heap.size ≤ b ∨ X.D0 b
  keep : ∀ id o, (id, o) ∈ s.hp → o.isBox = true → X.K0 id → g id = X.g0 id
  fr : Fr X.D0 X.W w
  low : ∀ id, X.K0 id → id < s.nx

def Sat (X : Cx) (s : S) (a : Act) (w : World) : Prop := ∃ I g, St X I g s a w

theorem Act.getD_put (a : Act) (d : Nat) (v : Value) (h : d < a.tmps.size) (j : Nat) : (a.put (some d) v).tmps.getD j undef = if d = j then v else a.tmps.getD j undef := by
  simp only [Act.put, Array.getD_eq_getD_getElem?, Array.getElem?_setIfInBounds]
  by_cases e : d = j
  · subst e; simp [h]
  · simp [e]

theorem St.put {X : Cx} {I : Nat → Prop} {g : Gam} {s : S} {a : Act} {w : World} (h : St X I g s a w) {d : Nat} (hd : d < s.nt) {v : V} {val : Value}
    (hv : RV I g s.nx w v val) : St X I g { s with env := (d, v) :: s.env } (a.put (some d) val) w where
  df := h.df
  sz := by simp [Act.put, h.sz]
  slots := fun j => by
    rw [Act.getD_put a d val (by rw [h.sz]; exact hd), look_cons]
    split
    · exact hv
    · exact h.slots j
  heap := h.heap
  bound := h.bound
  up := h.up
  down := h.down
  own := h.own
  keep := h.keep
  fr := h.fr
  low := h.low

theorem St.putO {X : Cx} {I : Nat → Prop} {g : Gam} {s : S} {a : Act} {w : World} (h : St X I g s a w) {dst : Option Nat} {v : V} {val : Value}
    (hv : RV I g s.nx w v val) {K : S → Prop} (hk : s.put dst v K) : ∃ s', Sat X s' (a.put dst val) w ∧ K s' := by
  cases dst with
  | none => rw [S.put_none] at hk; exact ⟨s, ⟨I, g, h⟩, hk⟩
  | some d => rw [S.put_some] at hk; exact ⟨_, ⟨I, g, h.put hk.1 hv⟩, hk.2⟩

/-- a change of the memory that leaves all that is told of as it was -/
theorem St.world {X : Cx} {I : Nat → Prop} {g : Gam} {s : S} {a : Act} {w w' : World} (h : St X I g s a w)
    (ho : w'.os = w.os) (ht : w'.tape = w.tape) (hu : w'.output = w.output) (hs : w.heap.size ≤ w'.heap.size)
    (hb : ∀ b, b < w.heap.size → w'.heap[b]? = w.heap[b]?) : St X I g s a w' where
  df := h.df
  sz := h.sz
  slots := fun j => (h.slots j).mono (fun _ h => h) (fun b hI => hb b (h.bound b hI)) (Nat.le_refl _) fun _ _ => rfl
  heap := h.heap.mono (fun _ h => h) (fun _ h => .inl h) (fun b hI => hb b (h.bound b hI)) (Nat.le_refl _)
    (fun b ⟨id, o, hm, hg⟩ => hb b (h.heap.apart id o b hm hg).2) hs
  bound := fun b hI => Nat.lt_of_lt_of_le (h.bound b hI) hs
  up := h.up
  down := h.down
  own := fun b hd => h.own b (Dom.back (fun b ⟨id, o, hm, hg⟩ => hb b (h.heap.apart id o b hm hg).2) hd)
  keep := h.keep
  fr := ⟨ho.trans h.fr.os, ht.trans h.fr.tape, hu.trans h.fr.output, Nat.le_trans h.fr.size hs, fun b hlt hd => by
    rw [hb b (Nat.lt_of_lt_of_le hlt h.fr.size)]; exact h.fr.block b hlt hd⟩
  low := h.low

theorem finish_value {P : Program} {X : Cx} {I : Nat → Prop} {g : Gam} {s : S} {a : Act} {w w' : World} {o : Oper} {v : V} {val : Value} {K : S → Prop}
    {N : Act → World → Prop} {Q : Exit → Act → World → Prop}
    (hrun : (execOp a.eval o).run P w = .ok (.value val) w') (hst : St X I g s a w') (hv : RV I g s.nx w' v val) (hk : s.put o.dst v K)
    (hN : ∀ s' a' w', Sat X s' a' w' → K s' → N a' w') : o.wp P a w N Q := by
  obtain ⟨s', h1, h2⟩ := hst.putO hv hk
  simp only [Oper.wp, hrun, Oper.upon]
  exact hN s' _ _ h1 h2

theorem finish_skip {P : Program} {X : Cx} {I : Nat → Prop} {g : Gam} {s : S} {a : Act} {w w' : World} {o : Oper} {K : S → Prop}
    {N : Act → World → Prop} {Q : Exit → Act → World → Prop}
    (hrun : (execOp a.eval o).run P w = .ok .skip w') (hst : St X I g s a w') (hk : s.put o.dst (.tup []) K)
    (hN : ∀ s' a' w', Sat X s' a' w' → K s' → N a' w') : o.wp P a w N Q := by
  obtain ⟨s', h1, h2⟩ := hst.putO (v := .tup []) (val := undef) (RV.tup [] [] rfl (by simp)) hk
  simp only [Oper.wp, hrun, Oper.upon]
  exact hN s' _ _ h1 h2
end Go.VL
