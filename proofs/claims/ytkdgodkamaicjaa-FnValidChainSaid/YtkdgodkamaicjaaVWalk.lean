/- V-logic, part 26: the moves of a walk. -/
import Derived.Test.YtkdgodkamaicjaaVSound23
import Derived.Laws.BitsLemmas
namespace Go.VL
set_option linter.unusedVariables false
set_option linter.unusedSimpArgs false

theorem spec_intro {P : Program} {T : TT} (hT : TOk P T) (hE : EOk P T) (hm : P.follows .mixedOrders = true) {f n m : Nat} {fn : Func} {args : List V} {hin hout : List (Nat × O)} {res : V} (c : Code)
    (hf : P.funcs[f]? = some fn) (hname : (fn.name == "runtime.NumGoroutine") = false) (hb : fn.body = some c) (hnt : Nat.ble args.length fn.ntmps = true) (hst : boxesStay2 hin hout = true)
    (h : vbody T P fn c n args hin m res hout) : Spec P f n args hin m res hout := spec_of_vbody hT hE (draw_ok hT hE hm) hf hname hb hnt hst h

theorem vneed_i {c K : Prop} (h : c) (k : K) : vneed c K := by unfold vneed; exact ⟨h, k⟩
theorem vif_i {p : Bool} {A B : Prop} (h : p = true → A) (k : p = false → B) : vif p A B := by unfold vif; exact ⟨h, k⟩
theorem vint_i {k : IntKind} {r : Int} {K : V → Prop} (h : k.wrap r = r) (hk : K (.c (.int k r))) : vint k r K := by unfold vint; exact .inl ⟨h, hk⟩
theorem vint_w {k : IntKind} {r : Int} {K : V → Prop} (hk : K (.c (.int k (k.wrap r)))) : vint k r K := by unfold vint; exact .inr hk
theorem vpre_g {n0 : Nat} {s : S} {K : S → Prop} (l : List Gh) (h : vgh n0 l s K) : vpreI n0 s K := by unfold vpreI; exact ⟨l, h⟩
theorem vpre_no {n0 : Nat} {s : S} {K : S → Prop} (h : K s) : vpreI n0 s K := vpre_g [] h
theorem vch_l {A B : Prop} (h : A) : vch A B := by unfold vch; exact .inl h
theorem vch_r {A B : Prop} (h : B) : vch A B := by unfold vch; exact .inr h
theorem vloop_i {n0 : Nat} {body : (Exit → S → Prop) → S → Prop} {Q : Exit → S → Prop} {s : S} (ι : Type) (st : ι → S) (μ : ι → Nat) (i0 : ι) (hn : ∀ i, n0 ≤ (st i).nx) (h0 : Ent n0 s (st i0))
   (h : ∀ i, body (fun e s' => match e with
      | .normal => ∃ i', Ent n0 s' (st i') ∧ μ i' < μ i
      | e => Q e s') (st i)) : vloop n0 body Q s := by unfold vloop; exact ⟨ι, st, μ, i0, hn, h0, h⟩

/-- no objects on either side -/
theorem ent_0 {n0 : Nat} {s s' : S} (h1 : entE (rnf []) s.env s'.env) (h2 : s.nt = s'.nt) (h3 : Nat.ble s'.nx 0 = true) (h4 : idsLtE s'.nx s'.env = true) (h5 : s'.hp = []) : Ent n0 s s' := by
  unfold Ent; exact ⟨[], [], [], h1, by rw [h5]; trivial, h2, rfl, h3, h4, by rw [h5]; rfl, by rw [h5]; rfl, by rw [h5]; rfl⟩
theorem ent_g {n0 : Nat} {s s' : S} (l : List Gh) (fz bk : List Nat) (h : vgh n0 l s fun s => vfz fz s [] fun s _ =>
    entE (rnf bk) s.env s'.env ∧ entH (rnf bk) (cnvH s.hp) s'.hp ∧
    (s.nt = s'.nt ∧ nodupN bk = true ∧ Nat.ble s'.nx bk.length = true ∧ idsLtE s'.nx s'.env = true ∧ idsLtH s'.nx s'.hp = true ∧ nodupN (keysH s'.hp) = true ∧ stayIn n0 (rnf bk) s'.hp = true)) : Ent n0 s s' := by
  unfold Ent; exact ⟨l, fz, bk, h⟩
theorem ent_i {n0 : Nat} {s s' : S} (fz bk : List Nat) (h : vfz fz s [] fun s _ =>
    entE (rnf bk) s.env s'.env ∧ entH (rnf bk) (cnvH s.hp) s'.hp ∧
    (s.nt = s'.nt ∧ nodupN bk = true ∧ Nat.ble s'.nx bk.length = true ∧ idsLtE s'.nx s'.env = true ∧ idsLtH s'.nx s'.hp = true ∧ nodupN (keysH s'.hp) = true ∧ stayIn n0 (rnf bk) s'.hp = true)) : Ent n0 s s' := ent_g [] fz bk h

theorem vend_0 {n0 m : Nat} {res : V} {s : S} {v : V} (h : v.nrm = (res.ren (rnf [])).nrm) (hm : m = 0) (hr : res.idsLt 0 = true)   : vend n0 m res [] s v := by
  subst hm; unfold vend; exact ⟨[], [], h, trivial, rfl, rfl, hr, rfl, rfl, rfl⟩
theorem vend_i {n0 m : Nat} {res : V} {hout : List (Nat × O)} {s : S} {v : V} (fz bk : List Nat) (h : vfz fz s [v] fun s vs =>
    (match vs with | [v] => v.nrm = (res.ren (rnf bk)).nrm | _ => False) ∧ entH (rnf bk) (cnvH s.hp) hout ∧
    (nodupN bk = true ∧ Nat.beq m bk.length = true ∧ res.idsLt m = true ∧ idsLtH m hout = true ∧ nodupN (keysH hout) = true ∧ stayIn n0 (rnf bk) hout = true)) : vend n0 m res hout s v := by
  unfold vend; exact ⟨fz, bk, h⟩

/-- a call that borrows what it is given and returns a scalar -/
theorem vcall_l {P : Program} {f : Nat} {args args' : List V} {s : S} {dst : Option Nat} {K : S → Prop} {res : V} (hs : Spec P f 0 args' [] 0 res []) (ha : lendL (lookH s.hp) args = args') (hr : res.scalar = true) (hi : idsLtL 0 args' = true)
    (h : S.put s dst res K) : vcall P f args s dst K := by subst ha; unfold vcall; exact .inl ⟨res, hr, hi, hs, h⟩
theorem vcall_i {P : Program} {f : Nat} {args : List V} {s : S} {dst : Option Nat} {K : S → Prop} (fz rn : List Nat) {n : Nat} {fargs : List V} {hin : List (Nat × O)} {m : Nat} {res : V} {hout : List (Nat × O)}
    (hs : Spec P f n fargs hin m res hout) (h : vfz fz s args fun s args =>
      renL (rnf rn) fargs = args ∧ idsLtL n fargs = true ∧ idsLtH n hin = true ∧ hasIn (rnf rn) s.hp hin ∧
      (nodupN rn = true ∧ Nat.ble n rn.length = true ∧ Nat.ble m rn.length = true ∧ newIds (rnf rn) s.nx (keysH hin) m = true ∧ boxesStay2 hin hout = true ∧ nodupN (keysH hin) = true) ∧
      S.force { forgetIn (rnf rn) hout hin s with
        nx := Nat.max s.nx (maxN rn)
        hp := renH (rnf rn) hout ++ dropIn (rnf rn) hin (forgetIn (rnf rn) hout hin s).hp } fun s => S.put s dst (res.ren (rnf rn)) K) : vcall P f args s dst K := by
  unfold vcall; exact .inr (.inr ⟨fz, rn, n, fargs, hin, m, res, hout, hs, h⟩)
/-- a call that borrows what it is given and returns new arrays -/
theorem vcall_n {P : Program} {f m : Nat} {args args' : List V} {nt nx : Nat} {env : List (Nat × V)} {hp : List (Nat × O)} {dst : Option Nat} {K : S → Prop} {hout : List (Nat × O)} {st : V} (hs : Spec P f 0 args' [] m st hout) (ha : lendL (lookH hp) args = args')
    (ho : okObs (lookH hp) args hout = true) (hf : st.flat1 = true) (hi : idsLtL 0 args' = true)
    (h : S.put ⟨nt, nx + m, env, renH (fun i => nx + i) hout ++ hp⟩ dst (st.ren fun i => nx + i) K) : vcall P f args ⟨nt, nx, env, hp⟩ dst K := by
  subst ha; unfold vcall; exact .inr (.inl ⟨m, st, hout, ho, hf, hi, hs, by rw [S.force_eq]; exact h⟩)
/-- a call of plain values that returns a new array -/
theorem vcall_a {P : Program} {f : Nat} {args : List V} {nt nx : Nat} {env : List (Nat × V)} {hp : List (Nat × O)} {dst : Option Nat} {K : S → Prop} {z : C} {st : V} (hs : Spec P f 0 args [] 1 st [(0, .arr z)]) (hi : idsLtL 0 args = true)
    (h : S.put ⟨nt, nx + 1, env, (nx, .arr z) :: hp⟩ dst (st.ren (rnf [nx])) K) : vcall P f args ⟨nt, nx, env, hp⟩ dst K := by
  have hb : Nat.ble nx nx = true := by rw [Nat.ble_eq]; exact Nat.le_refl _
  refine vcall_i [] [nx] hs ⟨renL_flat hi, hi, rfl, trivial, ⟨rfl, rfl, rfl, by show (match Nat.ble nx nx with | true => true | false => false) = true; rw [hb], rfl, rfl⟩, ?_⟩
  rw [S.force_eq]
  have hm : Nat.max nx (maxN [nx]) = nx + 1 := Nat.max_eq_right (by show nx ≤ Nat.max (nx + 1) 0; exact Nat.le_trans (Nat.le_succ _) (Nat.le_max_left _ _))
  show S.put ⟨nt, Nat.max nx (maxN [nx]), env, (nx, .arr z) :: hp⟩ dst (st.ren (rnf [nx])) K
  rw [hm]; exact h
/-- a call of plain values -/
theorem vcall_p {P : Program} {f : Nat} {args : List V} {nt nx : Nat} {env : List (Nat × V)} {hp : List (Nat × O)} {dst : Option Nat} {K : S → Prop} {res : V} (hs : Spec P f 0 args [] 0 res []) (hi : idsLtL 0 args = true) (hr : res.idsLt 0 = true)
    (h : S.put ⟨nt, nx, env, hp⟩ dst res K) : vcall P f args ⟨nt, nx, env, hp⟩ dst K := by
  refine vcall_i [] [] hs ⟨renL_flat hi, hi, rfl, trivial, ⟨rfl, rfl, rfl, rfl, rfl, rfl⟩, ?_⟩
  rw [S.force_eq, V.ren_flat hr]
  have : Nat.max nx (maxN []) = nx := Nat.max_eq_left (Nat.zero_le _)
  show S.put ⟨nt, Nat.max nx (maxN []), env, hp⟩ dst res K
  rw [this]; exact h
/-- calls in a region that draws its order -/
theorem vcalld_p {P : Program} {f : Nat} {args : List V} {lk : Nat → Option O} {K : Ef → Prop} {res : V} (hs : Spec P f 0 args [] 0 res []) (hi : idsLtL 0 args = true) (hr : idsLtL 0 [res] = true) (h : fin res K) : vcalld P f args lk K := by
  unfold vcalld; exact .inl ⟨res, hi, hr, hs, h⟩
theorem vcalld_l {P : Program} {f : Nat} {args args' : List V} {lk : Nat → Option O} {K : Ef → Prop} {res : V} (hs : Spec P f 0 args' [] 0 res []) (ha : lendL lk args = args') (hr : res.scalar = true) (hi : idsLtL 0 args' = true) (h : fin res K) : vcalld P f args lk K := by
  subst ha; unfold vcalld; exact .inr (.inl ⟨res, hr, hi, hs, h⟩)

theorem vcalld_n {P : Program} {f : Nat} {args args' : List V} {lk : Nat → Option O} {K : Ef → Prop} {z : C} {st : V} (hs : Spec P f 0 args' [] 1 st [(0, .arr z)]) (ha : lendL lk args = args') (ho : okRes z lk args = true) (hf : st.flat1 = true) (ht : st.idsLt 1 = true) (hi : idsLtL 0 args' = true)
    (h : K (.new st ht (.arr z))) : vcalld P f args lk K := by subst ha; unfold vcalld; exact .inr (.inr (.inr (.inl ⟨z, st, ht, ho, hf, hi, hs, h⟩)))
theorem vcalld_a {P : Program} {f : Nat} {args : List V} {lk : Nat → Option O} {K : Ef → Prop} {z : C} {st : V} (hs : Spec P f 0 args [] 1 st [(0, .arr z)]) (ht : st.idsLt 1 = true) (hi : idsLtL 0 args = true)
    (h : K (.new st ht (.arr z))) : vcalld P f args lk K := by unfold vcalld; exact .inr (.inr (.inl ⟨z, st, ht, hi, hs, h⟩))
theorem vcalld_b {P : Program} {f : Nat} {args : List V} {lk : Nat → Option O} {K : Ef → Prop} (id : Nat) {fargs : List V} {pre post : List V} {bs : List Bool} {pre' post' : List V} {bs' : List Bool} {res : V}
    (hs : Spec P f 1 fargs [(0, .box pre bs post)] 1 res [(0, .box pre' bs' post')]) (hl : lk id = some (.box pre bs post)) (h1 : idsLtL 0 pre = true) (h2 : idsLtL 0 post = true) (h3 : idsLtL 0 pre' = true) (h4 : idsLtL 0 post' = true) (h5 : idsLtL 0 [res] = true) (h6 : idsLtL 1 fargs = true)
    (h7 : renL (fun _ => id) fargs = args) (h8 : memN id (idsL args) = true) (h : K (.set res id (.box pre' bs' post'))) : vcalld P f args lk K := by
  unfold vcalld; exact .inr (.inr (.inr (.inr (.inl ⟨id, fargs, pre, post, bs, pre', post', bs', res, hs, hl, h1, h2, h3, h4, h5, h6, h7, h8, h⟩))))
/-- borrows what it is given, returns several new arrays -/
theorem vcalld_m {P : Program} {f m : Nat} {args args' : List V} {lk : Nat → Option O} {K : Ef → Prop} {hout : List (Nat × O)} {st : V} (news : List O) (hs : Spec P f 0 args' [] m st hout) (ha : lendL lk args = args') (hm : m = news.length) (hh : hout = enumO 0 news)
    (ho : okObs lk args (enumO 0 news) = true) (hf : st.flat1 = true) (ht : st.idsLt news.length = true) (hi : idsLtL 0 args' = true)
    (h : K (.fx [] news [] st ht)) : vcalld P f args lk K := by
  subst ha; subst hm; subst hh; unfold vcalld; exact .inr (.inr (.inr (.inr (.inr (.inl ⟨news, st, ht, ho, hf, hi, hs, h⟩)))))
/-- any call: rn names the boxes it is given, news the arrays it makes -/
theorem vcalld_f {P : Program} {f n m : Nat} {args : List V} {lk : Nat → Option O} {K : Ef → Prop} {hin0 hout : List (Nat × O)} {st0 : V} (rn : List Nat) {fargs : List V} (hs : Spec P f n fargs hin0 m st0 hout) (hin hos news : List O) (st : V)
    (hn : n = rn.length) (hi : hin0 = enumO 0 hin) (hm : m = rn.length + news.length) (hst : st0 = st.ren fun j => rn.length + j) (ho : hout = enumO 0 hos ++ enumO rn.length news) (ht : st.idsLt news.length = true)
    (hc : hin.length = rn.length ∧ hos.length = rn.length ∧ nodupN rn = true ∧ boxO hin = true ∧ boxO hos = true ∧ pureO news = true ∧ idsLtL rn.length fargs = true ∧ idsLtH rn.length (enumO 0 hin) = true ∧ idsLtH rn.length (enumO 0 hos) = true)
    (hr : renL (rnf rn) fargs = args) (hl : hasLk (rnf rn) lk (enumO 0 hin)) (h : K (.fx (renH (rnf rn) (enumO 0 hos)) news rn st ht)) : vcalld P f args lk K := by
  subst hn; subst hi; subst hm; subst hst; subst ho; unfold vcalld; exact .inr (.inr (.inr (.inr (.inr (.inr ⟨rn, fargs, hin, hos, news, st, ht, hs, hc, hr, hl, h⟩)))))

/-! loops with one to six things that turn; Inv: what stays true -/
theorem vloop1 {n0 : Nat} {body : (Exit → S → Prop) → S → Prop} {Q : Exit → S → Prop} {s : S} {TA : Type} (Inv : TA → Prop) (st : TA → S) (μ : TA → Nat) (a0 : TA) (h0 : Inv a0) (hn : ∀ a, n0 ≤ (st a).nx) (he : Ent n0 s (st a0))
   (h : ∀ a, Inv a → body (fun e s' => match e with
      | .normal => ∃ x : {x : TA // Inv x}, Ent n0 s' (st x.1) ∧ μ x.1 < μ a
      | e => Q e s') (st a)) : vloop n0 body Q s :=
  vloop_i {x : TA // Inv x} (fun x => st x.1) (fun x => μ x.1) ⟨a0, h0⟩ (fun x => hn _) he fun x => h _ x.2
theorem vloop2 {n0 : Nat} {body : (Exit → S → Prop) → S → Prop} {Q : Exit → S → Prop} {s : S} {TA TB : Type} (Inv : TA → TB → Prop) (st : TA → TB → S) (μ : TA → TB → Nat) (a0 : TA) (b0 : TB) (h0 : Inv a0 b0) (hn : ∀ a b, n0 ≤ (st a b).nx) (he : Ent n0 s (st a0 b0))
   (h : ∀ a b, Inv a b → body (fun e s' => match e with
      | .normal => ∃ x : {x : TA × TB // Inv x.1 x.2}, Ent n0 s' (st x.1.1 x.1.2) ∧ μ x.1.1 x.1.2 < μ a b
      | e => Q e s') (st a b)) : vloop n0 body Q s :=
  vloop_i {x : TA × TB // Inv x.1 x.2} (fun x => st x.1.1 x.1.2) (fun x => μ x.1.1 x.1.2) ⟨(a0, b0), h0⟩ (fun x => hn _ _) he fun x => h _ _ x.2
theorem vloop3 {n0 : Nat} {body : (Exit → S → Prop) → S → Prop} {Q : Exit → S → Prop} {s : S} {TA TB TC : Type} (Inv : TA → TB → TC → Prop) (st : TA → TB → TC → S) (μ : TA → TB → TC → Nat) (a0 : TA) (b0 : TB) (c0 : TC) (h0 : Inv a0 b0 c0) (hn : ∀ a b c, n0 ≤ (st a b c).nx) (he : Ent n0 s (st a0 b0 c0))
   (h : ∀ a b c, Inv a b c → body (fun e s' => match e with
      | .normal => ∃ x : {x : TA × TB × TC // Inv x.1 x.2.1 x.2.2}, Ent n0 s' (st x.1.1 x.1.2.1 x.1.2.2) ∧ μ x.1.1 x.1.2.1 x.1.2.2 < μ a b c
      | e => Q e s') (st a b c)) : vloop n0 body Q s :=
  vloop_i {x : TA × TB × TC // Inv x.1 x.2.1 x.2.2} (fun x => st x.1.1 x.1.2.1 x.1.2.2) (fun x => μ x.1.1 x.1.2.1 x.1.2.2) ⟨(a0, b0, c0), h0⟩ (fun x => hn _ _ _) he fun x => h _ _ _ x.2
theorem vloop4 {n0 : Nat} {body : (Exit → S → Prop) → S → Prop} {Q : Exit → S → Prop} {s : S} {TA TB TC TD : Type} (Inv : TA → TB → TC → TD → Prop) (st : TA → TB → TC → TD → S) (μ : TA → TB → TC → TD → Nat) (a0 : TA) (b0 : TB) (c0 : TC) (d0 : TD) (h0 : Inv a0 b0 c0 d0) (hn : ∀ a b c d, n0 ≤ (st a b c d).nx) (he : Ent n0 s (st a0 b0 c0 d0))
   (h : ∀ a b c d, Inv a b c d → body (fun e s' => match e with
      | .normal => ∃ x : {x : TA × TB × TC × TD // Inv x.1 x.2.1 x.2.2.1 x.2.2.2}, Ent n0 s' (st x.1.1 x.1.2.1 x.1.2.2.1 x.1.2.2.2) ∧ μ x.1.1 x.1.2.1 x.1.2.2.1 x.1.2.2.2 < μ a b c d
      | e => Q e s') (st a b c d)) : vloop n0 body Q s :=
  vloop_i {x : TA × TB × TC × TD // Inv x.1 x.2.1 x.2.2.1 x.2.2.2} (fun x => st x.1.1 x.1.2.1 x.1.2.2.1 x.1.2.2.2) (fun x => μ x.1.1 x.1.2.1 x.1.2.2.1 x.1.2.2.2) ⟨(a0, b0, c0, d0), h0⟩ (fun x => hn _ _ _ _) he fun x => h _ _ _ _ x.2
theorem vloop5 {n0 : Nat} {body : (Exit → S → Prop) → S → Prop} {Q : Exit → S → Prop} {s : S} {TA TB TC TD TP : Type} (Inv : TA → TB → TC → TD → TP → Prop) (st : TA → TB → TC → TD → TP → S) (μ : TA → TB → TC → TD → TP → Nat) (a0 : TA) (b0 : TB) (c0 : TC) (d0 : TD) (p0 : TP) (h0 : Inv a0 b0 c0 d0 p0) (hn : ∀ a b c d p, n0 ≤ (st a b c d p).nx) (he : Ent n0 s (st a0 b0 c0 d0 p0))
   (h : ∀ a b c d p, Inv a b c d p → body (fun e s' => match e with
      | .normal => ∃ x : {x : TA × TB × TC × TD × TP // Inv x.1 x.2.1 x.2.2.1 x.2.2.2.1 x.2.2.2.2}, Ent n0 s' (st x.1.1 x.1.2.1 x.1.2.2.1 x.1.2.2.2.1 x.1.2.2.2.2) ∧ μ x.1.1 x.1.2.1 x.1.2.2.1 x.1.2.2.2.1 x.1.2.2.2.2 < μ a b c d p
      | e => Q e s') (st a b c d p)) : vloop n0 body Q s :=
  vloop_i {x : TA × TB × TC × TD × TP // Inv x.1 x.2.1 x.2.2.1 x.2.2.2.1 x.2.2.2.2} (fun x => st x.1.1 x.1.2.1 x.1.2.2.1 x.1.2.2.2.1 x.1.2.2.2.2) (fun x => μ x.1.1 x.1.2.1 x.1.2.2.1 x.1.2.2.2.1 x.1.2.2.2.2) ⟨(a0, b0, c0, d0, p0), h0⟩ (fun x => hn _ _ _ _ _) he fun x => h _ _ _ _ _ x.2
theorem vloop6 {n0 : Nat} {body : (Exit → S → Prop) → S → Prop} {Q : Exit → S → Prop} {s : S} {TA TB TC TD TP TQ : Type} (Inv : TA → TB → TC → TD → TP → TQ → Prop) (st : TA → TB → TC → TD → TP → TQ → S) (μ : TA → TB → TC → TD → TP → TQ → Nat) (a0 : TA) (b0 : TB) (c0 : TC) (d0 : TD) (p0 : TP) (q0 : TQ) (h0 : Inv a0 b0 c0 d0 p0 q0) (hn : ∀ a b c d p q, n0 ≤ (st a b c d p q).nx) (he : Ent n0 s (st a0 b0 c0 d0 p0 q0))
   (h : ∀ a b c d p q, Inv a b c d p q → body (fun e s' => match e with
      | .normal => ∃ x : {x : TA × TB × TC × TD × TP × TQ // Inv x.1 x.2.1 x.2.2.1 x.2.2.2.1 x.2.2.2.2.1 x.2.2.2.2.2}, Ent n0 s' (st x.1.1 x.1.2.1 x.1.2.2.1 x.1.2.2.2.1 x.1.2.2.2.2.1 x.1.2.2.2.2.2) ∧ μ x.1.1 x.1.2.1 x.1.2.2.1 x.1.2.2.2.1 x.1.2.2.2.2.1 x.1.2.2.2.2.2 < μ a b c d p q
      | e => Q e s') (st a b c d p q)) : vloop n0 body Q s :=
  vloop_i {x : TA × TB × TC × TD × TP × TQ // Inv x.1 x.2.1 x.2.2.1 x.2.2.2.1 x.2.2.2.2.1 x.2.2.2.2.2} (fun x => st x.1.1 x.1.2.1 x.1.2.2.1 x.1.2.2.2.1 x.1.2.2.2.2.1 x.1.2.2.2.2.2) (fun x => μ x.1.1 x.1.2.1 x.1.2.2.1 x.1.2.2.2.1 x.1.2.2.2.2.1 x.1.2.2.2.2.2) ⟨(a0, b0, c0, d0, p0, q0), h0⟩ (fun x => hn _ _ _ _ _ _) he fun x => h _ _ _ _ _ _ x.2

theorem toNat_sub1 (k : Nat) : ((k : Int) - 1).toNat = k - 1 := by omega
theorem toNat_add1 (k : Nat) : ((k : Int) + 1).toNat = k + 1 := by omega
theorem wrap_i64 {r : Int} (h1 : -9223372036854775808 ≤ r) (h2 : r < 9223372036854775808) : IntKind.i64.wrap r = r := by rw [IntKind.wrap_i64]; omega
theorem vint_f {r : Int} {K : V → Prop} (h1 : -9223372036854775808 ≤ r) (h2 : r < 9223372036854775808) (hk : K (.c (.int .i64 r))) : vint .i64 r K := vint_i (wrap_i64 h1 h2) hk
theorem vend_c {n0 : Nat} {x y : C} {s : S} (h : x = y) : vend n0 0 (.c y) [] s (oneOrTup [.c x]) := vend_0 (by subst h; rfl) rfl rfl
theorem vend_b {n0 : Nat} {x y : Bool} {s : S} (h : x = y) : vend n0 0 (.c (.bool y)) [] s (oneOrTup [.c (.bool x)]) := vend_c (by rw [h])
theorem vend_n {n0 : Nat} {k : IntKind} {x y : Int} {s : S} (h : x = y) : vend n0 0 (.c (.int k y)) [] s (oneOrTup [.c (.int k x)]) := vend_c (by rw [h])
theorem vend_tt {n0 : Nat} {b : Bool} {s : S} (h : b = true) : vend n0 0 (.c (.bool b)) [] s (oneOrTup [.tt]) := vend_0 (by subst h; rfl) rfl rfl
theorem vend_ff {n0 : Nat} {b : Bool} {s : S} (h : b = false) : vend n0 0 (.c (.bool b)) [] s (oneOrTup [.ff]) := vend_0 (by subst h; rfl) rfl rfl
theorem vend_nil {n0 : Nat} {x : C} {s : S} (h : V.nrm .nil = (V.c x).nrm) : vend n0 0 (.c x) [] s (oneOrTup [.nil]) := vend_0 h rfl rfl
end Go.VL
