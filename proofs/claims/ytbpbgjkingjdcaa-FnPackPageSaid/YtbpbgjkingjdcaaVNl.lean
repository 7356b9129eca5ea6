/- V-logic: Nl -/
import Derived.Test.YtbpbgjkingjdcaaVEF
import Derived.Test.YtbpbgjkingjdcaaVRnil
namespace Go.VL
set_option linter.unusedVariables false
set_option linter.unusedSimpArgs false
inductive NL : V → V → Prop
 |refl (x : V) : NL x x
 |nil (z : C) (hs : z.isSl = true) (h0 : z.len = 0) : NL .nil (.c z)
 |tt : NL (.c (.bool true)) .tt
 |ff : NL (.c (.bool false)) .ff
 |agg (a b : List V) (hl : a.length = b.length) (h : ∀ (i : Nat) x y, a[i]? = some x → b[i]? = some y → NL x y) : NL (.agg a) (.agg b)
 |tup (a b : List V) (hl : a.length = b.length) (h : ∀ (i : Nat) x y, a[i]? = some x → b[i]? = some y → NL x y) : NL (.tup a) (.tup b)
theorem NL.rv {I : Nat → Prop} {g : Gam} {n : Nat} {w : World} {a b : V} (h : NL a b) : ∀ {v : Value}, RV I g n w a v → RV I g n w b v := by
 induction h with
 |refl x => exact fun h => h
 |nil z hs h0 =>
  intro v h
  rw [RV.nil_inv' h]
  exact .c _ _ (.empty z none 0 hs h0)
 |tt => intro v h; rw [RV.bool_inv h]; exact .tt
 |ff => intro v h; rw [RV.bool_inv h]; exact .ff
 |agg a b hl h ih =>
  intro v hv
  obtain ⟨vs, rfl, h1, h2⟩ := RV.agg_inv hv
  refine .agg _ _ (by omega) fun i y u hy hu => ?_
  obtain ⟨hi, _⟩ := List.getElem?_eq_some_iff.1 hy
  exact ih i _ y (List.getElem?_eq_getElem (by omega)) hy (h2 i _ u (List.getElem?_eq_getElem (by omega)) hu)
 |tup a b hl h ih =>
  intro v hv
  obtain ⟨vs, rfl, h1, h2⟩ := RV.tup_inv hv
  refine .tup _ _ (by omega) fun i y u hy hu => ?_
  obtain ⟨hi, _⟩ := List.getElem?_eq_some_iff.1 hy
  exact ih i _ y (List.getElem?_eq_getElem (by omega)) hy (h2 i _ u (List.getElem?_eq_getElem (by omega)) hu)
theorem z5l {P : Program} {f n m : Nat} {args : List V} {hin hout : List (Nat × O)} {res res' : V} (hr : NL res res') (h : zr P f n args hin m res hout) : zr P f n args hin m res' hout := by
 refine ⟨h.1, fun W I g argv hI hh hl ha => (h.2 W I g argv hI hh hl ha).mono fun e w' => ?_⟩
 rintro ⟨v, I', g', e1, e2, e3, e4, e5, e6, e7, e8, e9⟩
 exact ⟨v, I', g', e1, e2, e3, e4, e5, hr.rv e6, e7, e8, e9⟩
theorem z55 {P : Program} {f n m : Nat} {args args' : List V} {hin hout : List (Nat × O)} {res : V} (hn : args'.length = args.length) (ha' : ∀ (i : Nat) x y, args'[i]? = some x → args[i]? = some y → NL x y) (h : zr P f n args hin m res hout) : zr P f n args' hin m res hout := by
 refine ⟨h.1, fun W I g argv hI hh hl ha => h.2 W I g argv hI hh (by omega) fun i x v hx hv => ?_⟩
 obtain ⟨hi, _⟩ := List.getElem?_eq_some_iff.1 hx
 exact (ha' i _ x (List.getElem?_eq_getElem (by omega)) hx).rv (ha i _ v (List.getElem?_eq_getElem (by omega)) hv)
def NLs : List V → List V → Prop
 |[], [] => True
 |a :: s, b :: t => NL a b ∧ NLs s t
 |_, _ => False
theorem NLs.get : ∀ {a b : List V}, NLs a b → a.length = b.length ∧ ∀ (i : Nat) x y, a[i]? = some x → b[i]? = some y → NL x y
 |[], [], _ => ⟨rfl, fun i x y h => by cases i <;> cases h⟩
 |a :: s, b :: t, h => by
  obtain ⟨h1, h2⟩ := NLs.get h.2
  refine ⟨by simp [h1], fun i x y hx hy => ?_⟩
  cases i with
  |zero => cases hx; cases hy; exact h.1
  |succ i => exact h2 i x y hx hy
theorem NL.ag {a b : List V} (h : NLs a b) : NL (.agg a) (.agg b) := .agg a b h.get.1 h.get.2
theorem NL.tu {a b : List V} (h : NLs a b) : NL (.tup a) (.tup b) := .tup a b h.get.1 h.get.2
theorem z5m {P : Program} {f n m : Nat} {args args' : List V} {hin hout : List (Nat × O)} {res : V} (hn : NLs args' args) (h : zr P f n args hin m res hout) : zr P f n args' hin m res hout := z55 hn.get.1 hn.get.2 h
theorem NLs.one {a b : V} (h : NL a b) : NLs [a] [b] := ⟨h, trivial⟩
theorem NL.n0 : NL .nil (.c (.nums .i64 [])) := .nil _ rfl rfl
end Go.VL
