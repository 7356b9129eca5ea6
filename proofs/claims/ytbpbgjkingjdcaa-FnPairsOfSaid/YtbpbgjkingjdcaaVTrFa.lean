/- V-logic: TrFa -/
import Derived.Test.YtbpbgjkingjdcaaVPT22
import Derived.Test.YtbpbgjkingjdcaaVTrYb
import Derived.Test.YtbpbgjkingjdcaaVTrW
namespace Go.VL
open Go.Proofs
set_option maxRecDepth 10000
set_option linter.unusedSimpArgs false
set_option linter.unusedVariables false
theorem keysOfRow_v (xs : List Pr) (hl : xs.length ≤ 4294967296) : Spec Try.prog 162 0 [.c (.prs xs)] [] 1 (.slc 0) [(0, .arr (.nums .i64 (xs.map Pr.key)))] := by
 refine spi (fn := Try.f162) _ ?_
 conv => whnf
 repeat' (refine vneed_i (by (try simp only [wA, wL]) <;> omega) ?_; conv => whnf)
 refine vloop2 (fun (i : Nat) (L : List Int) => i ≤ xs.length ∧ L = (xs.map Pr.key).take i ++ List.replicate (xs.length - i) 0) (fun i L => ⟨23, 1, [(3, .slc 0), (9, .c (.prs xs)), (10, .c (.int .i64 xs.length)), (11, .c (.int .i64 i))], [(0, .arr (.nums .i64 L))]⟩) (fun i L => xs.length - i) 0 (List.replicate xs.length 0) ⟨Nat.zero_le _, rfl⟩ (fun _ _ => Nat.zero_le _) (ent_j [] [0]) (fun i L hi => ?_)
 obtain ⟨hi, hL⟩ := hi
 have hll : L.length = xs.length := by rw [hL, List.length_append, List.length_take, List.length_map, List.length_replicate]; omega
 conv => whnf
 repeat' first
  |(refine vneed_i (by (try simp only [wA, wL]) <;> omega) ?_; conv => whnf)
  |(refine vif_i (fun h => ?_) (fun h => ?_) <;> (try simp only [qA] at h) <;> (try simp only [wA] at h) <;> conv => whnf)
  |(refine vint_f (by (try simp only [wA, wL]) <;> omega) (by (try simp only [wA, wL]) <;> omega) ?_; conv => whnf)
 ·refine ⟨⟨(i + 1, L.set i (xs.getD i ⟨0, 0⟩).key), ?_⟩, (ent_j [] [0]), by dsimp only; omega⟩; (try dsimp only)
  refine ⟨by omega, ?_⟩
  rw [hL, done_set _ _ (by omega) (by rw [List.length_take, List.length_map]; omega), take_getD 0 (by rw [List.length_map]; omega), map_key_getD]
 ·rw [List.take_of_length_le (by rw [List.length_map]; omega), show xs.length - i = 0 by omega, List.replicate_zero, List.append_nil] at hL
  rw [hL]
  exact (vend_j [] [0])
theorem map_val_getD (xs : List Pr) (i : Nat) : (xs.map Pr.value).getD i 0 = (xs.getD i ⟨0, 0⟩).value := by
 rw [List.getD_eq_getElem?_getD, List.getD_eq_getElem?_getD, List.getElem?_map]
 cases xs[i]? <;> rfl
theorem valuesOfRow_v (xs : List Pr) (hl : xs.length ≤ 4294967296) : Spec Try.prog 191 0 [.c (.prs xs)] [] 1 (.slc 0) [(0, .arr (.nums .i64 (xs.map Pr.value)))] := by
 refine spi (fn := Try.f191) _ ?_
 conv => whnf
 repeat' (refine vneed_i (by (try simp only [wA, wL]) <;> omega) ?_; conv => whnf)
 refine vloop2 (fun (i : Nat) (L : List Int) => i ≤ xs.length ∧ L = (xs.map Pr.value).take i ++ List.replicate (xs.length - i) 0) (fun i L => ⟨23, 1, [(3, .slc 0), (9, .c (.prs xs)), (10, .c (.int .i64 xs.length)), (11, .c (.int .i64 i))], [(0, .arr (.nums .i64 L))]⟩) (fun i L => xs.length - i) 0 (List.replicate xs.length 0) ⟨Nat.zero_le _, rfl⟩ (fun _ _ => Nat.zero_le _) (ent_j [] [0]) (fun i L hi => ?_)
 obtain ⟨hi, hL⟩ := hi
 have hll : L.length = xs.length := by rw [hL, List.length_append, List.length_take, List.length_map, List.length_replicate]; omega
 conv => whnf
 repeat' first
  |(refine vneed_i (by (try simp only [wA, wL]) <;> omega) ?_; conv => whnf)
  |(refine vif_i (fun h => ?_) (fun h => ?_) <;> (try simp only [qA] at h) <;> (try simp only [wA] at h) <;> conv => whnf)
  |(refine vint_f (by (try simp only [wA, wL]) <;> omega) (by (try simp only [wA, wL]) <;> omega) ?_; conv => whnf)
 ·refine ⟨⟨(i + 1, L.set i (xs.getD i ⟨0, 0⟩).value), ?_⟩, (ent_j [] [0]), by dsimp only; omega⟩; (try dsimp only)
  refine ⟨by omega, ?_⟩
  rw [hL, done_set _ _ (by omega) (by rw [List.length_take, List.length_map]; omega), take_getD 0 (by rw [List.length_map]; omega), map_val_getD]
 ·rw [List.take_of_length_le (by rw [List.length_map]; omega), show xs.length - i = 0 by omega, List.replicate_zero, List.append_nil] at hL
  rw [hL]
  exact (vend_j [] [0])
abbrev lfV (xs : List Pr) : V := .agg [.c (.nums .i64 (xs.map Pr.key)), .nil, .c (.nums .i64 (xs.map Pr.value))]
theorem LeafOf_v (xs : List Pr) (hl : xs.length ≤ 4294967296) : Spec Try.prog 149 0 [.c (.prs xs)] [] 0 (lfV xs) [] := by
 refine spi (fn := Try.f149) _ ?_
 conv => whnf
 repeat' first | (refine vcall_a (keysOfRow_v xs hl) rfl ?_; conv => whnf) | (refine vcall_a (valuesOfRow_v xs hl) rfl ?_; conv => whnf)
 (refine vend_i [1, 2] [] ?_; (conv => whnf); exact ⟨rfl, by repeat first | exact trivial | refine ⟨rfl, ?_⟩, rfl, rfl, rfl, rfl, rfl, rfl⟩)
theorem ValidRow_v (xs : List Pr) (hl : xs.length ≤ 4294967296) : Spec Try.prog 103 0 [.c (.prs xs)] [] 0 (.c (.bool (vRow xs))) [] := by
 have hk := keysOfRow_v xs hl
 have hv := ValidKeys_v (xs.map Pr.key) (by rw [List.length_map]; exact hl)
 have e : vRow xs = ((xs.all fun x => decide (-1000 ≤ x.value ∧ x.value ≤ 1000)) && (decide (xs.length ≤ 24) && vKeys (xs.map Pr.key))) := rfl
 generalize vRow xs = X at *
 generalize vKeys (xs.map Pr.key) = VK at *
 refine spi (fn := Try.f103) _ ?_
 conv => whnf
 repeat' first | (refine vif_i (fun h => ?_) (fun h => ?_) <;> (try simp only [qA] at h) <;> (try simp only [wA] at h) <;> conv => whnf) | refine vend_ff ?_
 ·rw [e, decide_eq_false (by omega), Bool.false_and, Bool.and_false]
 rw [decide_eq_true (p := xs.length ≤ 24) (by omega), Bool.true_and] at e
 refine vloop1 (fun i : Nat => i ≤ xs.length ∧ (xs.take i).all (fun x => decide (-1000 ≤ x.value ∧ x.value ≤ 1000)) = true) (fun i => ⟨22, 0, [(0, .c (.prs xs)), (8, .c (.prs xs)), (9, .c (.int .i64 xs.length)), (10, .c (.int .i64 i))], []⟩) (fun i => xs.length - i) 0 ⟨Nat.zero_le _, by simp⟩ (fun _ => Nat.zero_le _) ent_z (fun i hi => ?_)
 obtain ⟨hi, hal⟩ := hi
 conv => whnf
 repeat' first
  |(refine vneed_i (by (try simp only [wA, wL]) <;> omega) ?_; conv => whnf)
  |(refine vif_i (fun h => ?_) (fun h => ?_) <;> (try simp only [qA] at h) <;> (try simp only [wA] at h) <;> conv => whnf)
  |refine vend_ff ?_
  |refine vend_b ?_
  |(refine vint_f (by (try simp only [wA, wL]) <;> omega) (by (try simp only [wA, wL]) <;> omega) ?_; conv => whnf)
  |(refine vcall_p (isValue_v _) rfl rfl ?_; conv => whnf)
  |(refine vcall_a (hk) rfl ?_; conv => whnf)
  |(refine vcall_l (hv) rfl rfl rfl ?_; conv => whnf)
 ·rw [e, all_not (⟨0, 0⟩ : Pr) (k := i) (by omega) (decide_eq_false h), Bool.false_and]
 ·refine ⟨⟨i + 1, by omega, all_succ (⟨0, 0⟩ : Pr) hal (by omega) (decide_eq_true h)⟩, ent_z, by dsimp only; omega⟩
 ·rw [e, all_done hal (by omega), Bool.true_and]
theorem placeInRow_v (xs : List Pr) (key : Int) (hl : xs.length ≤ 4294967296) (hv : vKeys (xs.map Pr.key) = true) : Spec Try.prog 176 0 [.c (.prs xs), .c (.int .i64 key)] [] 0 (.tup [.c (.int .i64 (belF (xs.map Pr.key) key)), .c (.bool ((xs.map Pr.key).contains key))]) [] := by
 have hk := keysOfRow_v xs hl
 have hb := KeysBelow_v (xs.map Pr.key) key hv (by rw [List.length_map]; exact hl)
 have hh := belF_has (k := key) (vKeys_iff.1 hv).1
 rw [List.length_map, map_key_getD, ← List.contains_iff_mem] at hh
 generalize belF (xs.map Pr.key) key = B at *
 generalize (xs.map Pr.key).contains key = Z at *
 refine spi (fn := Try.f176) _ ?_
 conv => whnf
 repeat' first
  |(refine vneed_i (by kernel_rfl) ?_; conv => whnf)
  |(refine vif_t ?_ ?_; (focus ((try simp only [qA]) <;> (try simp only [wA]) <;> omega)); conv => whnf)
  |(refine vneed_i (by (try simp only [wA, wL]) <;> omega) ?_; conv => whnf)
  |(refine vif_i (fun h => ?_) (fun h => ?_) <;> (try simp only [qA] at h) <;> (try simp only [wA] at h) <;> conv => whnf)
  |(refine vcall_a (hk) rfl ?_; conv => whnf)
  |(refine vcall_l (hb) rfl rfl rfl ?_; conv => whnf)
  |(refine vpre_no ?_; conv => whnf)
 ·rw [hh.2 ⟨by omega, by assumption⟩]; exact (vend_j [] [])
 ·rw [show Z = false from by cases Z; rfl; exact absurd (hh.1 rfl).2 (by assumption)]; exact (vend_j [] [])
 ·rw [show Z = false from by cases Z; rfl; exact absurd (hh.1 rfl).1 (by omega)]; exact (vend_j [] [])
theorem ValueIn_v (xs : List Pr) (key : Int) (hl : xs.length ≤ 4294967296) (hv : vRow xs = true) : Spec Try.prog 128 0 [.c (.prs xs), .c (.int .i64 key)] [] 0 (.tup [.c (.int .i64 (valF xs key)), .c (.bool ((xs.map Pr.key).contains key))]) [] := by
 have hr := ValidRow_v xs hl
 have hvk : vKeys (xs.map Pr.key) = true := by
  unfold vRow at hv
  simp only [Bool.and_eq_true] at hv
  exact hv.2.2
 have hpl := placeInRow_v xs key hl hvk
 rw [hv] at hr
 have hh := belF_has (k := key) (vKeys_iff.1 hvk).1
 rw [List.length_map] at hh
 by_cases c : key ∈ xs.map Pr.key
 ·rw [valF_in c]
  rw [List.contains_iff_mem.2 c] at hpl ⊢
  have hh := (hh.1 c).1
  generalize belF (xs.map Pr.key) key = B at *
  refine spi (fn := Try.f128) _ ?_
  conv => whnf
  repeat' first
   |(refine vif_f ?_ ?_; (focus ((try simp only [qA]) <;> (try simp only [wA]) <;> omega)); conv => whnf)
   |(refine vneed_i (by (try simp only [wA, wL]) <;> omega) ?_; conv => whnf)
   |(refine vcall_p (hr) rfl rfl ?_; conv => whnf)
   |(refine vcall_p (hpl) rfl rfl ?_; conv => whnf)
  exact (vend_j [] [])
 ·rw [valF_no c]
  rw [show (xs.map Pr.key).contains key = false from by rw [Bool.eq_false_iff]; exact fun q => c (List.contains_iff_mem.1 q)] at hpl ⊢
  refine spi (fn := Try.f128) _ ?_
  conv => whnf
  repeat' first
   |(refine vif_t ?_ ?_; (focus ((try simp only [qA]) <;> (try simp only [wA]) <;> omega)); conv => whnf)
   |(refine vif_f ?_ ?_; (focus ((try simp only [qA]) <;> (try simp only [wA]) <;> omega)); conv => whnf)
   |(refine vcall_p (hr) rfl rfl ?_; conv => whnf)
   |(refine vcall_p (hpl) rfl rfl ?_; conv => whnf)
  exact (vend_j [] [])
theorem sValueIn_v (xs : List Pr) (key : Int) (hl : xs.length ≤ 4294967296) (hv : vRow xs = true) : Spec Try.prog 141 0 [.c (.prs xs), .c (.int .i64 key)] [] 0 (.tup [.c (.int .i64 (valF xs key)), .c (.bool ((xs.map Pr.key).contains key))]) [] := by
 have hr := validRow_v xs hl
 have hvk : vKeys (xs.map Pr.key) = true := by
  unfold vRow at hv
  simp only [Bool.and_eq_true] at hv
  exact hv.2.2
 rw [hv] at hr
 have hk := keysOf_v xs hl
 have hi := isIn_v (xs.map Pr.key) key (by rw [List.length_map]; exact hl)
 have hb := below_v (xs.map Pr.key) key (by rw [List.length_map]; exact hl)
 have hh := belF_has (k := key) (vKeys_iff.1 hvk).1
 rw [List.length_map] at hh
 by_cases c : key ∈ xs.map Pr.key
 ·rw [valF_in c]
  rw [List.contains_iff_mem.2 c] at hi ⊢
  have hh := (hh.1 c).1
  generalize belF (xs.map Pr.key) key = B at *
  refine spi (fn := Try.f141) _ ?_
  conv => whnf
  repeat' first
   |(refine vif_f ?_ ?_; (focus ((try simp only [qA]) <;> (try simp only [wA]) <;> omega)); conv => whnf)
   |(refine vneed_i (by (try simp only [wA, wL]) <;> omega) ?_; conv => whnf)
   |(refine vcall_p (hr) rfl rfl ?_; conv => whnf)
   |(refine vcall_a (hk) rfl ?_; conv => whnf)
   |(refine vcall_l (hi) rfl rfl rfl ?_; conv => whnf)
   |(refine vcall_l (hb) rfl rfl rfl ?_; conv => whnf)
  exact (vend_j [] [])
 ·rw [valF_no c]
  rw [show (xs.map Pr.key).contains key = false from by rw [Bool.eq_false_iff]; exact fun q => c (List.contains_iff_mem.1 q)] at hi ⊢
  refine spi (fn := Try.f141) _ ?_
  conv => whnf
  repeat' first
   |(refine vif_t ?_ ?_; (focus ((try simp only [qA]) <;> (try simp only [wA]) <;> omega)); conv => whnf)
   |(refine vif_f ?_ ?_; (focus ((try simp only [qA]) <;> (try simp only [wA]) <;> omega)); conv => whnf)
   |(refine vcall_p (hr) rfl rfl ?_; conv => whnf)
   |(refine vcall_a (hk) rfl ?_; conv => whnf)
   |(refine vcall_l (hi) rfl rfl rfl ?_; conv => whnf)
  exact (vend_j [] [])
end Go.VL
