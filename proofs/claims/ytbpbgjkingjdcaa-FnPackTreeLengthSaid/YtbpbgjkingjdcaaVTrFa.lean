/- V-logic: TrFa -/
import Derived.Test.YtbpbgjkingjdcaaVPT22
import Derived.Test.YtbpbgjkingjdcaaVTrYb
import Derived.Test.YtbpbgjkingjdcaaVTrW
namespace Go.VL
open Go.Proofs
set_option maxRecDepth 10000
set_option linter.unusedSimpArgs false
set_option linter.unusedVariables false
theorem zko (xs : List Pr) (hl : xs.length ≤ 4294967296) : zr Try.prog 162 0 [.c (.prs xs)] [] 1 (.slc 0) [(0, .arr (.nums .i64 (xs.map Pr.key)))] := by
 refine spi (fn := Try.f162) _ ?_
 conv => whnf
 repeat' (refine za (by (try simp only [wA, wL]) <;> omega) ?_; conv => whnf)
 refine zd0 (fun (i : Nat) (L : List Int) => i ≤ xs.length ∧ L = (xs.map Pr.key).take i ++ List.replicate (xs.length - i) 0) (fun i L => ⟨23, 1, [(3, .slc 0), (9, .c (.prs xs)), (10, .c (.int .i64 xs.length)), (11, .c (.int .i64 i))], [(0, .arr (.nums .i64 L))]⟩) (fun i L => xs.length - i) 0 (List.replicate xs.length 0) ⟨Nat.zero_le _, rfl⟩ (fun _ _ => Nat.zero_le _) (z5 [] [0]) (fun i L hi => ?_)
 obtain ⟨hi, hL⟩ := hi
 have hll : L.length = xs.length := by rw [hL, List.length_append, List.length_take, List.length_map, List.length_replicate]; omega
 conv => whnf
 repeat' first
  |(refine za (by (try simp only [wA, wL]) <;> omega) ?_; conv => whnf)
  |(refine zk (fun h => ?_) (fun h => ?_) <;> (try simp only [qA] at h) <;> (try simp only [wA] at h) <;> conv => whnf)
  |(refine zg (by (try simp only [wA, wL]) <;> omega) (by (try simp only [wA, wL]) <;> omega) ?_; conv => whnf)
 ·refine ⟨⟨(i + 1, L.set i (xs.getD i ⟨0, 0⟩).key), ?_⟩, (z5 [] [0]), by dsimp only; omega⟩; (try dsimp only)
  refine ⟨by omega, ?_⟩
  rw [hL, zog _ _ (by omega) (by rw [List.length_take, List.length_map]; omega), zat 0 (by rw [List.length_map]; omega), zmk]
 ·rw [List.take_of_length_le (by rw [List.length_map]; omega), show xs.length - i = 0 by omega, List.replicate_zero, List.append_nil] at hL
  rw [hL]
  exact (zu [] [0])
theorem zt4 (xs : List Pr) (i : Nat) : (xs.map Pr.value).getD i 0 = (xs.getD i ⟨0, 0⟩).value := by
 rw [List.getD_eq_getElem?_getD, List.getD_eq_getElem?_getD, List.getElem?_map]
 cases xs[i]? <;> rfl
theorem zr8 (xs : List Pr) (hl : xs.length ≤ 4294967296) : zr Try.prog 191 0 [.c (.prs xs)] [] 1 (.slc 0) [(0, .arr (.nums .i64 (xs.map Pr.value)))] := by
 refine spi (fn := Try.f191) _ ?_
 conv => whnf
 repeat' (refine za (by (try simp only [wA, wL]) <;> omega) ?_; conv => whnf)
 refine zd0 (fun (i : Nat) (L : List Int) => i ≤ xs.length ∧ L = (xs.map Pr.value).take i ++ List.replicate (xs.length - i) 0) (fun i L => ⟨23, 1, [(3, .slc 0), (9, .c (.prs xs)), (10, .c (.int .i64 xs.length)), (11, .c (.int .i64 i))], [(0, .arr (.nums .i64 L))]⟩) (fun i L => xs.length - i) 0 (List.replicate xs.length 0) ⟨Nat.zero_le _, rfl⟩ (fun _ _ => Nat.zero_le _) (z5 [] [0]) (fun i L hi => ?_)
 obtain ⟨hi, hL⟩ := hi
 have hll : L.length = xs.length := by rw [hL, List.length_append, List.length_take, List.length_map, List.length_replicate]; omega
 conv => whnf
 repeat' first
  |(refine za (by (try simp only [wA, wL]) <;> omega) ?_; conv => whnf)
  |(refine zk (fun h => ?_) (fun h => ?_) <;> (try simp only [qA] at h) <;> (try simp only [wA] at h) <;> conv => whnf)
  |(refine zg (by (try simp only [wA, wL]) <;> omega) (by (try simp only [wA, wL]) <;> omega) ?_; conv => whnf)
 ·refine ⟨⟨(i + 1, L.set i (xs.getD i ⟨0, 0⟩).value), ?_⟩, (z5 [] [0]), by dsimp only; omega⟩; (try dsimp only)
  refine ⟨by omega, ?_⟩
  rw [hL, zog _ _ (by omega) (by rw [List.length_take, List.length_map]; omega), zat 0 (by rw [List.length_map]; omega), zt4]
 ·rw [List.take_of_length_le (by rw [List.length_map]; omega), show xs.length - i = 0 by omega, List.replicate_zero, List.append_nil] at hL
  rw [hL]
  exact (zu [] [0])
abbrev lfV (xs : List Pr) : V := .agg [.c (.nums .i64 (xs.map Pr.key)), .nil, .c (.nums .i64 (xs.map Pr.value))]
theorem z7q (xs : List Pr) (hl : xs.length ≤ 4294967296) : zr Try.prog 149 0 [.c (.prs xs)] [] 0 (lfV xs) [] := by
 refine spi (fn := Try.f149) _ ?_
 conv => whnf
 repeat' first | (refine z8 (zko xs hl) rfl ?_; conv => whnf) | (refine z8 (zr8 xs hl) rfl ?_; conv => whnf)
 (refine zbg [1, 2] [] ?_; (conv => whnf); exact ⟨rfl, by repeat first | exact trivial | refine ⟨rfl, ?_⟩, rfl, rfl, rfl, rfl, rfl, rfl⟩)
theorem zw7 (xs : List Pr) (hl : xs.length ≤ 4294967296) : zr Try.prog 103 0 [.c (.prs xs)] [] 0 (.c (.bool (zdb xs))) [] := by
 have hk := zko xs hl
 have hv := zfj (xs.map Pr.key) (by rw [List.length_map]; exact hl)
 have e : zdb xs = ((xs.all fun x => decide (-1000 ≤ x.value ∧ x.value ≤ 1000)) && (decide (xs.length ≤ 24) && za2 (xs.map Pr.key))) := rfl
 generalize zdb xs = X at *
 generalize za2 (xs.map Pr.key) = VK at *
 refine spi (fn := Try.f103) _ ?_
 conv => whnf
 repeat' first | (refine zk (fun h => ?_) (fun h => ?_) <;> (try simp only [qA] at h) <;> (try simp only [wA] at h) <;> conv => whnf) | refine zd ?_
 ·rw [e, decide_eq_false (by omega), Bool.false_and, Bool.and_false]
 rw [decide_eq_true (p := xs.length ≤ 24) (by omega), Bool.true_and] at e
 refine zau (fun i : Nat => i ≤ xs.length ∧ (xs.take i).all (fun x => decide (-1000 ≤ x.value ∧ x.value ≤ 1000)) = true) (fun i => ⟨22, 0, [(0, .c (.prs xs)), (8, .c (.prs xs)), (9, .c (.int .i64 xs.length)), (10, .c (.int .i64 i))], []⟩) (fun i => xs.length - i) 0 ⟨Nat.zero_le _, by simp⟩ (fun _ => Nat.zero_le _) zbn (fun i hi => ?_)
 obtain ⟨hi, hal⟩ := hi
 conv => whnf
 repeat' first
  |(refine za (by (try simp only [wA, wL]) <;> omega) ?_; conv => whnf)
  |(refine zk (fun h => ?_) (fun h => ?_) <;> (try simp only [qA] at h) <;> (try simp only [wA] at h) <;> conv => whnf)
  |refine zd ?_
  |refine zh ?_
  |(refine zg (by (try simp only [wA, wL]) <;> omega) (by (try simp only [wA, wL]) <;> omega) ?_; conv => whnf)
  |(refine zp (zrb _) rfl rfl ?_; conv => whnf)
  |(refine z8 (hk) rfl ?_; conv => whnf)
  |(refine zbo (hv) rfl rfl rfl ?_; conv => whnf)
 ·rw [e, zf6 (⟨0, 0⟩ : Pr) (k := i) (by omega) (decide_eq_false h), Bool.false_and]
 ·refine ⟨⟨i + 1, by omega, zeg (⟨0, 0⟩ : Pr) hal (by omega) (decide_eq_true h)⟩, zbn, by dsimp only; omega⟩
 ·rw [e, zh3 hal (by omega), Bool.true_and]
theorem zto (xs : List Pr) (key : Int) (hl : xs.length ≤ 4294967296) (hv : za2 (xs.map Pr.key) = true) : zr Try.prog 176 0 [.c (.prs xs), .c (.int .i64 key)] [] 0 (.tup [.c (.int .i64 (belF (xs.map Pr.key) key)), .c (.bool ((xs.map Pr.key).contains key))]) [] := by
 have hk := zko xs hl
 have hb := zvg (xs.map Pr.key) key hv (by rw [List.length_map]; exact hl)
 have hh := zou (k := key) (zde.1 hv).1
 rw [List.length_map, zmk, ← List.contains_iff_mem] at hh
 generalize belF (xs.map Pr.key) key = B at *
 generalize (xs.map Pr.key).contains key = Z at *
 refine spi (fn := Try.f176) _ ?_
 conv => whnf
 repeat' first
  |(refine za (by kernel_rfl) ?_; conv => whnf)
  |(refine zn ?_ ?_; (focus ((try simp only [qA]) <;> (try simp only [wA]) <;> omega)); conv => whnf)
  |(refine za (by (try simp only [wA, wL]) <;> omega) ?_; conv => whnf)
  |(refine zk (fun h => ?_) (fun h => ?_) <;> (try simp only [qA] at h) <;> (try simp only [wA] at h) <;> conv => whnf)
  |(refine z8 (hk) rfl ?_; conv => whnf)
  |(refine zbo (hb) rfl rfl rfl ?_; conv => whnf)
  |(refine ze ?_; conv => whnf)
 ·rw [hh.2 ⟨by omega, by assumption⟩]; exact (zu [] [])
 ·rw [show Z = false from by cases Z; rfl; exact absurd (hh.1 rfl).2 (by assumption)]; exact (zu [] [])
 ·rw [show Z = false from by cases Z; rfl; exact absurd (hh.1 rfl).1 (by omega)]; exact (zu [] [])
theorem zyg (xs : List Pr) (key : Int) (hl : xs.length ≤ 4294967296) (hv : zdb xs = true) : zr Try.prog 128 0 [.c (.prs xs), .c (.int .i64 key)] [] 0 (.tup [.c (.int .i64 (zei xs key)), .c (.bool ((xs.map Pr.key).contains key))]) [] := by
 have hr := zw7 xs hl
 have hvk : za2 (xs.map Pr.key) = true := by
  unfold zdb at hv
  simp only [Bool.and_eq_true] at hv
  exact hv.2.2
 have hpl := zto xs key hl hvk
 rw [hv] at hr
 have hh := zou (k := key) (zde.1 hvk).1
 rw [List.length_map] at hh
 by_cases c : key ∈ xs.map Pr.key
 ·rw [zv9 c]
  rw [List.contains_iff_mem.2 c] at hpl ⊢
  have hh := (hh.1 c).1
  generalize belF (xs.map Pr.key) key = B at *
  refine spi (fn := Try.f128) _ ?_
  conv => whnf
  repeat' first
   |(refine zm ?_ ?_; (focus ((try simp only [qA]) <;> (try simp only [wA]) <;> omega)); conv => whnf)
   |(refine za (by (try simp only [wA, wL]) <;> omega) ?_; conv => whnf)
   |(refine zp (hr) rfl rfl ?_; conv => whnf)
   |(refine zp (hpl) rfl rfl ?_; conv => whnf)
  exact (zu [] [])
 ·rw [zkw c]
  rw [show (xs.map Pr.key).contains key = false from by rw [Bool.eq_false_iff]; exact fun q => c (List.contains_iff_mem.1 q)] at hpl ⊢
  refine spi (fn := Try.f128) _ ?_
  conv => whnf
  repeat' first
   |(refine zn ?_ ?_; (focus ((try simp only [qA]) <;> (try simp only [wA]) <;> omega)); conv => whnf)
   |(refine zm ?_ ?_; (focus ((try simp only [qA]) <;> (try simp only [wA]) <;> omega)); conv => whnf)
   |(refine zp (hr) rfl rfl ?_; conv => whnf)
   |(refine zp (hpl) rfl rfl ?_; conv => whnf)
  exact (zu [] [])
theorem zwj (xs : List Pr) (key : Int) (hl : xs.length ≤ 4294967296) (hv : zdb xs = true) : zr Try.prog 141 0 [.c (.prs xs), .c (.int .i64 key)] [] 0 (.tup [.c (.int .i64 (zei xs key)), .c (.bool ((xs.map Pr.key).contains key))]) [] := by
 have hr := zhe xs hl
 have hvk : za2 (xs.map Pr.key) = true := by
  unfold zdb at hv
  simp only [Bool.and_eq_true] at hv
  exact hv.2.2
 rw [hv] at hr
 have hk := zdt xs hl
 have hi := zo5 (xs.map Pr.key) key (by rw [List.length_map]; exact hl)
 have hb := znk (xs.map Pr.key) key (by rw [List.length_map]; exact hl)
 have hh := zou (k := key) (zde.1 hvk).1
 rw [List.length_map] at hh
 by_cases c : key ∈ xs.map Pr.key
 ·rw [zv9 c]
  rw [List.contains_iff_mem.2 c] at hi ⊢
  have hh := (hh.1 c).1
  generalize belF (xs.map Pr.key) key = B at *
  refine spi (fn := Try.f141) _ ?_
  conv => whnf
  repeat' first
   |(refine zm ?_ ?_; (focus ((try simp only [qA]) <;> (try simp only [wA]) <;> omega)); conv => whnf)
   |(refine za (by (try simp only [wA, wL]) <;> omega) ?_; conv => whnf)
   |(refine zp (hr) rfl rfl ?_; conv => whnf)
   |(refine z8 (hk) rfl ?_; conv => whnf)
   |(refine zbo (hi) rfl rfl rfl ?_; conv => whnf)
   |(refine zbo (hb) rfl rfl rfl ?_; conv => whnf)
  exact (zu [] [])
 ·rw [zkw c]
  rw [show (xs.map Pr.key).contains key = false from by rw [Bool.eq_false_iff]; exact fun q => c (List.contains_iff_mem.1 q)] at hi ⊢
  refine spi (fn := Try.f141) _ ?_
  conv => whnf
  repeat' first
   |(refine zn ?_ ?_; (focus ((try simp only [qA]) <;> (try simp only [wA]) <;> omega)); conv => whnf)
   |(refine zm ?_ ?_; (focus ((try simp only [qA]) <;> (try simp only [wA]) <;> omega)); conv => whnf)
   |(refine zp (hr) rfl rfl ?_; conv => whnf)
   |(refine z8 (hk) rfl ?_; conv => whnf)
   |(refine zbo (hi) rfl rfl rfl ?_; conv => whnf)
  exact (zu [] [])
end Go.VL
