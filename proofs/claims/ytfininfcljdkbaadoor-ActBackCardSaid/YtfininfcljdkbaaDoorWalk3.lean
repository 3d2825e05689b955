/- Chapter 01, part Di: the law ActBack. -/
import Derived.Test.YtfininfcljdkbaaDoorWalk2
set_option linter.unusedSimpArgs false
set_option linter.unusedVariables false
namespace Go.Proofs.YtfininfcljdkbaaDoor
open Go Go.NS

def sum2 (L : List Nat) : Nat := (L.map fun a => 2 ^ a).sum
theorem sum2_snoc (L : List Nat) (a : Nat) : sum2 (L ++ [a]) = sum2 L + 2 ^ a := by simp [sum2]
theorem sum_bits (m : Nat) : ∀ k, sum2 (bits k m) = m % 2 ^ k
  | 0 => by simp [sum2, bits, Nat.mod_one]
  | k + 1 => by
    have ih := sum_bits m k
    cases hb : m.testBit k with
    | false => rw [bits_succ_false hb, bit_none hb]; exact ih
    | true =>
      rw [bits_succ_true hb, sum2_snoc, ih, ← bit_top hb]
      have := Nat.two_pow_add_eq_or_of_lt (i := k) (b := m % 2 ^ k) (Nat.mod_lt _ (Nat.two_pow_pos k)) 1
      rw [Nat.mul_one, Nat.or_comm] at this
      omega
theorem bits_lt_sorted (n m : Nat) : (bits n m).Pairwise (· < ·) := List.pairwise_lt_range.filter _

theorem sum_take {n m : Nat} (hm : m < 2 ^ n) (i : Nat) : sum2 ((bits n m).take i) ≤ m := by
  have h1 := sum_bits m n
  rw [Nat.mod_eq_of_lt hm] at h1
  have h2 : sum2 (bits n m) = sum2 ((bits n m).take i) + sum2 ((bits n m).drop i) := by
    unfold sum2
    rw [← List.sum_append, ← List.map_append, List.take_append_drop]
  omega

theorem text_size {l : List ByteArray} (h : actsB l = true) (n : Nat) : (textB l n).size ≤ 170 := by
  have h1 := names_bound (s := n) h (Nat.le_refl _)
  rw [size_len, text_data]
  simp only [List.length_cons, List.length_append, List.length_nil]
  have : Lib.join ((namesOf l l.length n).map (·.data.toList)) [44] = Lib.join ((namesOf l l.length n).map (·.data.toList)) comma.data.toList := rfl
  rw [this]
  omega

set_option maxHeartbeats 2000000 in
theorem ActBack_ok (kn : Nat) (errA : Addr) (l : List ByteArray) (s : Int) (hl : l.length * 16 ≤ 140737488351232) : Fk Tryd.prog [(kn, .know true (KS errA))] 5 [strsA l, iA s] (abool true) := by
  refine Fc.dropR ?_
  refine Fc.of_vc tok Tryd.func5 rfl (by decide) ?_
  simp -implicitDefEqProofs only [go_sem, Tryd.ntmps5]
  refine opK_pure (copied_ok l hl) rfl (Sub.of_eq (by first | rfl | simp -implicitDefEqProofs only [go_sem])) ?_
  simp -implicitDefEqProofs only [go_sem]
  refine opK_k (String_ok kn (KS errA) l s hl) (Has.refl _) rfl (Sub.of_eq (by first | rfl | simp -implicitDefEqProofs only [go_sem])) ?_
  simp -implicitDefEqProofs only [go_sem, sA, iA]
  by_cases he : setE l s = 0
  rotate_left
  · simp -implicitDefEqProofs only [go_sem, he, decide_false]
    refine opK_k (awake_ok kn errA) (Has.refl _) rfl (Sub.of_eq (by first | rfl | simp -implicitDefEqProofs only [go_sem])) ?_
    simp -implicitDefEqProofs only [go_sem]
    refine fnPost_ret tok ?_
    simp -implicitDefEqProofs only [go_sem, Tryd.results5]
    exact ⟨_, Has.refl _, rfl⟩
  have hB : actsB l = true := by
    unfold setE at he
    split at he
    · rename_i h; exact h
    · omega
  have h2 : setI l.length s = true := by
    unfold setE at he
    rw [if_pos hB] at he
    split at he
    · rename_i h; exact h
    · omega
  obtain ⟨m, rfl, hm⟩ := setI_lt h2
  have h8 := actsB_len hB
  have hst : stringB l (m : Int) = textB l m := by simp [stringB, he]
  have hpn : parseN l (textB l m) = m := by simp [parseN, hB, readB_text hB hm]
  have hpe : parseE l (textB l m) = 0 := by simp [parseE, hB, readB_text hB hm]
  have hli : listB l (m : Int) = (bits l.length m).map fun (a : Nat) => (a : Int) := by simp [listB, he]
  simp -implicitDefEqProofs only [go_sem, he, decide_true, hst]
  refine opK_pure (copied_ok l hl) rfl (Sub.of_eq (by first | rfl | simp -implicitDefEqProofs only [go_sem])) ?_
  simp -implicitDefEqProofs only [go_sem]
  refine opK_k (Parse_ok kn errA l (textB l m) hl (by have := text_size hB m; omega)) (Has.refl _) rfl (Sub.of_eq (by first | rfl | simp -implicitDefEqProofs only [go_sem, sA])) ?_
  simp -implicitDefEqProofs only [go_sem, hpn, hpe, iA]
  refine opK_pure (copied_ok l hl) rfl (Sub.of_eq (by first | rfl | simp -implicitDefEqProofs only [go_sem])) ?_
  simp -implicitDefEqProofs only [go_sem]
  refine opK_pure (actList_ok l (m : Int) hl) rfl (Sub.of_eq (by first | rfl | simp -implicitDefEqProofs only [go_sem])) ?_
  obtain ⟨L, hL⟩ : ∃ L, L = bits l.length m := ⟨_, rfl⟩
  have hLi : intsA (listB l (m : Int)) = .imm 1 (L.map fun (a : Nat) => iA (a : Int)) := by rw [hli, intsA, List.map_map, hL]; rfl
  simp -implicitDefEqProofs only [go_sem, he, hLi, iA]
  have hLl : L.length ≤ 8 := by have := bits_length l.length m; rw [hL]; omega
  have hLs : L.Pairwise (· < ·) := hL ▸ bits_lt_sorted l.length m
  have hLm : ∀ i, sum2 (L.take i) ≤ m := fun i => hL ▸ sum_take hm i
  have hLe : sum2 L = m := by rw [hL, sum_bits, Nat.mod_eq_of_lt hm]
  have hp8 := pow8 h8
  have hz0 : ((sum2 [] : Nat) : Int) = 0 := rfl
  refine AW.loopP tok (α := Nat) (fun i => slots 94 [(0, strsA l), (1, iA m), (4, .raw (.bool false)), (7, iA m), (8, iA 0), (9, .imm 1 (L.map fun (a : Nat) => AV.raw (.int .i64 (a : Int)))), (10, iA 0), (11, iA (sum2 (L.take i) : Nat)), (38, .imm 1 (L.map fun (a : Nat) => AV.raw (.int .i64 (a : Int)))), (39, iA L.length), (40, iA i)]) (fun i => [(kn, .know true (KS errA))]) (fun i => i ≤ L.length) (fun i => L.length - i) 0 (Nat.zero_le _) (by simp -implicitDefEqProofs only [go_sem, iA, hz0]) (Has.refl _) ?_
  intro i hi
  have hi : i ≤ L.length := hi
  simp -implicitDefEqProofs only [go_sem, iA]
  by_cases hil : i < L.length
  rotate_left
  · obtain rfl : L.length = i := by omega
    rw [List.take_length, hLe]
    simp -implicitDefEqProofs only [go_sem]
    refine opK_k (awake_ok kn errA) (Has.refl _) rfl (Sub.of_eq (by first | rfl | simp -implicitDefEqProofs only [go_sem])) ?_
    simp -implicitDefEqProofs only [go_sem]
    refine fnPost_ret tok ?_
    simp -implicitDefEqProofs only [go_sem, Tryd.results5]
    exact ⟨_, Has.refl _, rfl⟩
  have hb : L[i] < l.length := bits_lt (n := l.length) (s := m) (hL ▸ List.getElem_mem hil)
  have ht : L.take (i + 1) = L.take i ++ [L[i]] := by rw [List.take_add_one, List.getElem?_eq_getElem hil]; rfl
  have hsum : sum2 (L.take (i + 1)) = sum2 (L.take i) + 2 ^ L[i] := by rw [ht, sum2_snoc]
  have hsm := hLm (i + 1)
  have e2 : (L.map fun (a : Nat) => AV.raw (.int .i64 (a : Int)))[i]? = some (.raw (.int .i64 (L[i] : Nat))) := by simp [hil]
  obtain ⟨a, ha⟩ : ∃ a, a = L[i] := ⟨_, rfl⟩
  rw [← ha] at hb hsum e2
  have q1 : ¬ ((a : Int) < 0) := by omega
  have q2 : ¬ ((a : Int) ≥ (l.length : Int)) := by omega
  have q3 : ¬ ((a : Int) > 62) := by omega
  have hadd : IntKind.i64.wrap (((sum2 (L.take i) : Nat) : Int) + ((2 ^ a : Nat) : Int)) = ((sum2 (L.take (i + 1)) : Nat) : Int) := by rw [IntWalk.i64_in _ (by omega)]; omega
  have hwi := wrap_up hil (by omega)
  by_cases hi0 : i = 0
  · have q4 : ¬ ((i : Int) > 0) := by omega
    simp -implicitDefEqProofs only [go_sem, dlt_true hil, hil, e2, strsA, q1, q2, q3, q4, decide_false, shl_one a (by omega), hadd, hwi]
    exact ⟨i + 1, hil, by omega, by simp -implicitDefEqProofs only [go_sem, iA, strsA], Has.refl _⟩
  · have q4 : ((i : Int) > 0) := by omega
    obtain ⟨k, hki⟩ : ∃ k, i = k + 1 := ⟨i - 1, by omega⟩
    have hk : k < L.length := by omega
    have hlt : L[k] < a := by rw [ha]; exact List.pairwise_iff_getElem.1 hLs k i hk hil (by omega)
    have hwr : IntKind.i64.wrap ((i : Int) - 1) = (k : Int) := by rw [IntWalk.i64_in _ (by omega)]; omega
    have hge : ¬ (((L[k] : Nat) : Int) ≥ (a : Int)) := by omega
    have hk0 : (0 : Int) ≤ (k : Int) := by omega
    have e3 : (L.map fun (a : Nat) => AV.raw (.int .i64 (a : Int)))[k]? = some (.raw (.int .i64 (L[k] : Nat))) := by simp [hk]
    simp -implicitDefEqProofs only [go_sem, dlt_true hil, hil, e2, strsA, q1, q2, q3, q4, decide_false, decide_true, hwr, hk0, Int.toNat_natCast, hk, e3, hge, shl_one a (by omega), hadd, hwi]
    exact ⟨i + 1, hil, by omega, by simp -implicitDefEqProofs only [go_sem, iA, strsA], Has.refl _⟩

theorem ActBack_fk (a : Addr) (xs : List AV) (h : ShAs TT0 [22, 3] xs) : Fk Tryd.prog [(0, .know true (KS a))] 5 xs (abool true) := by
  cases h with
  | cons h1 h =>
  cases h with
  | cons h2 h =>
  cases h
  obtain ⟨l, hl, rfl⟩ := shA_strs h1
  obtain ⟨n, _, _, rfl⟩ := shA_int h2
  exact ActBack_ok 0 a l n hl
end Go.Proofs.YtfininfcljdkbaaDoor
