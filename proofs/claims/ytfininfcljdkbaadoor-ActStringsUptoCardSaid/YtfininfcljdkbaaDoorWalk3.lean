/- Chapter 01, part Dg: the actions of a set; strings and sets of the reference. -/
import Derived.Test.YtfininfcljdkbaaDoorWalk2
import Derived.Test.YtfininfcljdkbaaDoorBase3
import Derived.Test.YtfininfcljdkbaaDoorWalk1
set_option linter.unusedSimpArgs false
set_option linter.unusedVariables false
namespace Go.Proofs.YtfininfcljdkbaaDoor
open Go Go.NS

/-- AppendSeq of package slices, onto nothing. -/
theorem AppendSeq_own (n s nI : Nat) (hn : n ≤ 8) (hs : s < 2 ^ n) : Fc Tryd.prog 44 [.raw (.slice none 0 0), .clo 45 [.ptr nI 0]] [(nI, .cells 3 [iA s])] (RowR 3 1 ((bits n s).map fun (a : Nat) => iA (a : Int))) := by
  refine Fc.dropR ?_
  refine Fc.of_vc tok Tryd.func44 rfl (by decide) ?_
  simp -implicitDefEqProofs only [go_sem, Tryd.ntmps44]
  refine newK_intro fun n2 hn2 => ?_
  try simp -implicitDefEqProofs only [hset, List.map_append, List.map_cons, List.map_nil, List.cons_append, List.nil_append, List.mem_cons, List.mem_append, List.not_mem_nil, or_false, not_or] at hn2
  simp -implicitDefEqProofs only [go_sem, hn2]
  refine AW.adoptIn (sz := 1) (u := 33) (xs := [.raw (.slice none 0 0)]) n2 0 3 (by decide) (by simp -implicitDefEqProofs only [go_sem, hn2]) rfl fun nR hnR => ?_
  try simp -implicitDefEqProofs only [hset, List.map_append, List.map_cons, List.map_nil, List.cons_append, List.nil_append, List.mem_cons, List.mem_append, List.not_mem_nil, or_false, not_or] at hnR
  simp -implicitDefEqProofs only [go_sem, hn2, hnR, not_false_eq_true]
  have hbl := bits_length n s
  refine AW.rangeP tok [(n2, .cells 33 [.own nR 0]), (nR, .row 3 1 0 [])] [(nI, .cells 3 [iA s])] rfl (In_iter n s (by omega) hs nI) (by exact List.perm_append_singleton (nI, AObj.cells 3 [iA s]) [(n2, .cells 33 [.own nR 0]), (nR, .row 3 1 0 [])]) (fun i hi => by simp)
    (fun j Hx => ∃ ver, Hx = [(n2, .cells 33 [.own nR ver]), (nR, .row 3 1 ver (((bits n s).take j).map fun (a : Nat) => iA (a : Int)))]) (fun _ _ => False) ⟨0, rfl⟩ ?_ ?_ ?_
  · rintro j hj Hx t1 ⟨ver, rfl⟩
    have hj' : j < (bits n s).length := by simpa using hj
    simp only [List.getElem_map]
    have ht : (bits n s).take (j + 1) = (bits n s).take j ++ [(bits n s)[j]] := by rw [List.take_add_one, List.getElem?_eq_getElem hj']; rfl
    generalize (bits n s)[j] = a at ht
    simp -implicitDefEqProofs only [go_sem, hn2, hnR, not_false_eq_true, iA]
    refine opK_lit tok T33 rfl T3 (by decide) (by simp -implicitDefEqProofs only [go_sem, zrep, List.flatten_cons, List.flatten_nil]; rfl) ?_
    simp -implicitDefEqProofs only [go_sem, hn2, hnR, not_false_eq_true]
    refine opK_append tok rfl rfl (by simp -implicitDefEqProofs only [go_sem, hn2, hnR, not_false_eq_true]; rfl) rfl T33 rfl T3 rfl (by decide) (by simp only [List.length_map, List.length_take, Nat.div_one, List.length_cons, List.length_nil]; omega) fun v2 => ?_
    simp -implicitDefEqProofs only [go_sem, hn2, hnR, not_false_eq_true]
    refine ⟨_, List.Sublist.refl _, v2, ?_⟩
    rw [ht, List.map_append]
    rfl
  · rintro Hx ⟨ver, rfl⟩
    have htk : (bits n s).take ((bits n s).map fun (a : Nat) => [iA (a : Int)]).length = bits n s := by rw [List.length_map, List.take_length]
    rw [htk]
    simp -implicitDefEqProofs only [go_sem, hn2, hnR, not_false_eq_true]
    refine fnPost_ret tok ?_
    simp -implicitDefEqProofs only [go_sem, Tryd.results44, hn2, hnR, not_false_eq_true]
    exact ⟨_, Has.of_sub (List.Sublist.cons _ (List.Sublist.refl _)), nR, ver, rfl, rfl⟩
  · exact fun e c Hx hj h => h.elim

/-- Collect of package slices. -/
theorem Collect_own (n s nI : Nat) (hn : n ≤ 8) (hs : s < 2 ^ n) : Fc Tryd.prog 31 [.clo 45 [.ptr nI 0]] [(nI, .cells 3 [iA s])] (RowR 3 1 ((bits n s).map fun (a : Nat) => iA (a : Int))) := by
  refine Fc.of_vc tok Tryd.func31 rfl (by decide) ?_
  simp -implicitDefEqProofs only [go_sem, Tryd.ntmps31]
  refine opK_call [(nI, .cells 3 [iA s])] [] rfl (AppendSeq_own n s nI hn hs) rfl (Sub.of_eq (by simp -implicitDefEqProofs only [go_sem])) (List.Perm.refl _) ?_
  rintro x H1 ⟨nm, ver, rfl, rfl⟩ hnd
  simp -implicitDefEqProofs only [go_sem]
  refine fnPost_ret tok ?_
  simp -implicitDefEqProofs only [go_sem, Tryd.results31]
  exact ⟨nm, ver, rfl, rfl⟩

def listB (l : List ByteArray) (s : Int) : List Int := if setE l s = 0 then (bits l.length s.toNat).map fun (a : Nat) => (a : Int) else []
def LstO (l : List ByteArray) (s : Int) (x : AV) (H : AHeap) : Prop := ∃ nm ver, x = .tup [.own nm ver, iA (setE l s)] ∧ H = [(nm, .row 3 1 ver ((listB l s).map iA))]
def LstR0 (l : List ByteArray) (s : Int) (x : AV) (H : AHeap) : Prop := LstO l s x H ∨ (listB l s = [] ∧ x = .tup [.raw (.slice none 0 0), iA (setE l s)] ∧ H = [])

/-- List of package act. -/
theorem actList_own (l : List ByteArray) (s : Int) (hl : l.length * 16 ≤ 140737488351232) : Fc Tryd.prog 19 [strsA l, iA s] [] (LstO l s) := by
  refine Fc.ownRes (R := LstR0 l s) ?_ ?_
  rotate_left
  · rintro x H1 (h | ⟨e, rfl, rfl⟩)
    · exact .inl h
    · exact .inr ⟨fun x => .tup [x, iA (setE l s)], 3, 1, by decide, rfl, Lift.tup Lift.id [] [_], fun nm _ => ⟨nm, 0, rfl, by rw [e]; rfl⟩⟩
  refine Fc.of_vc tok Tryd.func19 rfl (by decide) ?_
  simp -implicitDefEqProofs only [go_sem, Tryd.ntmps19, iA]
  refine opK_pure (actValid_ok l hl) rfl (Sub.of_eq (by first | rfl | simp -implicitDefEqProofs only [go_sem])) ?_
  cases h : actsB l with
  | false =>
    have e : setE l s = 10 := by simp [setE, h]
    have e2 : listB l s = [] := by simp [listB, e]
    simp -implicitDefEqProofs only [go_sem, h]
    refine fnPost_ret tok ?_
    simp -implicitDefEqProofs only [go_sem, Tryd.results19]
    exact .inr ⟨e2, by rw [e]; rfl, rfl⟩
  | true =>
    have h8 := actsB_len h
    simp -implicitDefEqProofs only [go_sem, h, strsA]
    refine opK_pure (actIs_ok l.length s h8) rfl (Sub.of_eq (by first | rfl | simp -implicitDefEqProofs only [go_sem])) ?_
    cases h2 : setI l.length s with
    | false =>
      have e : setE l s = 1 := by simp [setE, h, h2]
      have e2 : listB l s = [] := by simp [listB, e]
      simp -implicitDefEqProofs only [go_sem, h2]
      refine fnPost_ret tok ?_
      simp -implicitDefEqProofs only [go_sem, Tryd.results19]
      exact .inr ⟨e2, by rw [e]; rfl, rfl⟩
    | true =>
      obtain ⟨m, rfl, hm⟩ := setI_lt h2
      have e : setE l (m : Int) = 0 := by simp [setE, h, h2]
      have e2 : listB l (m : Int) = (bits l.length m).map fun (a : Nat) => (a : Int) := by simp [listB, e]
      simp -implicitDefEqProofs only [go_sem, h2]
      refine opK_call [] [] rfl (In_ok (m : Int)) rfl (Sub.of_eq (by simp -implicitDefEqProofs only [go_sem, iA])) (List.Perm.refl _) ?_
      rintro c H1 ⟨nI, rfl, rfl⟩ hnI
      clear hnI
      simp -implicitDefEqProofs only [go_sem]
      refine opK_call [(nI, .cells 3 [iA m])] [] rfl (Collect_own l.length m nI h8 hm) rfl (Sub.of_eq (by simp -implicitDefEqProofs only [go_sem])) (List.Perm.refl _) ?_
      rintro x H1 ⟨nm, ver, rfl, rfl⟩ hnd
      simp -implicitDefEqProofs only [go_sem]
      refine fnPost_ret tok ?_
      simp -implicitDefEqProofs only [go_sem, Tryd.results19]
      exact .inl ⟨nm, ver, by rw [e]; rfl, by rw [e2, List.map_map]; rfl⟩

theorem actList_ok (l : List ByteArray) (s : Int) (hl : l.length * 16 ≤ 140737488351232) : Fp Tryd.prog 19 [strsA l, iA s] (.tup [intsA (listB l s), iA (setE l s)]) :=
  (actList_own l s hl).frzAll fun x H1 ⟨nm, ver, hx, hH⟩ => by
    rw [hx, hH]; exact Fz.tupS (Fzs.cons (Fz.rowS (t := 3) List.mem_cons_self (Fzs.refl _)) (Fzs.cons (.refl _) Fzs.nil))

/-! ### Strings of the reference -/

theorem joinB_nil (c : ByteArray) : joinB [] c = ⟨#[]⟩ := rfl
theorem joinB_snoc (xs : List ByteArray) (y : ByteArray) (h : xs ≠ []) : joinB (xs ++ [y]) comma = joinB xs comma ++ comma ++ y := by
  have hl : ∀ (l : List (List UInt8)) (x : List UInt8), l ≠ [] → Lib.join (l ++ [x]) comma.data.toList = Lib.join l comma.data.toList ++ comma.data.toList ++ x := by
    intro l
    induction l with
    | nil => intro x h; exact absurd rfl h
    | cons a l ih =>
      intro x _
      cases l with
      | nil => simp [Lib.join, List.intercalate]
      | cons b l =>
        have := ih x (by simp)
        simp only [Lib.join, List.intercalate, List.cons_append, List.intersperse, List.flatten_cons] at this ⊢
        rw [this]
        simp
  have := hl (xs.map (·.data.toList)) y.data.toList (by simpa using h)
  apply ByteArray.ext
  apply Array.toList_inj.1
  simp only [joinB, ByteArray.data_append, Array.toList_append, List.map_append, List.map_cons, List.map_nil]
  exact this
theorem joinB_one (y : ByteArray) : joinB [y] comma = y := by
  apply ByteArray.ext
  apply Array.toList_inj.1
  simp [joinB, Lib.join_one]
end Go.Proofs.YtfininfcljdkbaaDoor
/- Chapter 01, part Dh: what is read of a set's string is the set (plain). -/
namespace Go.Proofs.YtfininfcljdkbaaDoor
open Go Go.NS

theorem bytes_inj {a b : ByteArray} (h : a.data.toList = b.data.toList) : a = b := ByteArray.ext (Array.toList_inj.1 h)

theorem lists_inj : ∀ {xs ys : List ByteArray}, xs.map (·.data.toList) = ys.map (·.data.toList) → xs = ys
  | [], [], _ => rfl
  | [], _ :: _, h => by simp at h
  | _ :: _, [], h => by simp at h
  | x :: xs, y :: ys, h => by
    simp only [List.map_cons, List.cons.injEq] at h
    rw [bytes_inj h.1, lists_inj h.2]

theorem pieces_data (s : ByteArray) : (piecesB s 44).map (·.data.toList) = spl 44 s.data.toList := by
  unfold piecesB
  rw [Lib.splitB_data]
  refine splitK_spl 44 _ _ ?_
  show _ = Lib.count s.data.toList [44]
  rw [Lib.count_one]

theorem name_comma {x : ByteArray} (h : nameB x = true) : (44 : UInt8) ∉ x.data.toList := fun hm => by
  obtain ⟨i, hi, e⟩ := List.getElem_of_mem hm
  simp only [nameB, Bool.and_eq_true, List.all_eq_true, List.mem_range] at h
  have hi' : i < x.size := by simpa using hi
  have h2 := h.2 i hi'
  have e2 : byteAt x i = 44 := by
    have hd : i < x.data.size := hi'
    simp only [byteAt, Array.getD, hd, dite_true]
    have : x.data[i] = 44 := by simpa using e
    rw [Array.getInternal_eq_getElem, this]; rfl
  rw [e2] at h2
  exact absurd h2 (by decide)

theorem index_self {l : List ByteArray} (h : l.Nodup) {a : Nat} (ha : a < l.length) : indexI l l[a] = a :=
  indexI_at ha rfl fun j hj => by
    have := List.pairwise_iff_getElem.1 h j a (by omega) ha hj
    exact fun _ => this

theorem bit_top {n k : Nat} (h : n.testBit k = true) : n % 2 ^ k ||| 2 ^ k = n % 2 ^ (k + 1) := by
  refine Nat.eq_of_testBit_eq fun i => ?_
  rw [Nat.testBit_or, Nat.testBit_mod_two_pow, Nat.testBit_mod_two_pow, Nat.testBit_two_pow]
  by_cases e : k = i
  · subst e; simp [h]
  · have : (i < k) = (i < k + 1) := by simp; omega
    simp [e, this]
theorem bit_none {n k : Nat} (h : n.testBit k = false) : n % 2 ^ (k + 1) = n % 2 ^ k := by
  refine Nat.eq_of_testBit_eq fun i => ?_
  rw [Nat.testBit_mod_two_pow, Nat.testBit_mod_two_pow]
  by_cases e : k = i
  · subst e; simp [h]
  · have : (i < k) = (i < k + 1) := by simp; omega
    simp [this]

theorem readL_names {l : List ByteArray} (h : l.Nodup) (n : Nat) : ∀ k, k ≤ l.length → readL l (namesOf l k n) = some (n % 2 ^ k)
  | 0, _ => by simp [namesOf, bits, readL, Nat.mod_one]
  | k + 1, hk => by
    have ih := readL_names h n k (by omega)
    cases hb : n.testBit k with
    | false => rw [namesOf, bits_succ_false hb, bit_none hb]; exact ih
    | true =>
      have hg : l.getD k ⟨#[]⟩ = l[k] := by simp [List.getD, List.getElem?_eq_getElem (show k < l.length by omega)]
      have e : namesOf l (k + 1) n = namesOf l k n ++ [l[k]] := by rw [namesOf, bits_succ_true hb, List.map_append, List.map_cons, List.map_nil, hg]; rfl
      rw [e, readL_snoc, ih, Option.bind_some, stepW, index_self h (by omega), if_neg]
      · simp only [Int.toNat_natCast]
        rw [bit_top hb]
      · simp only [Int.toNat_natCast]
        rw [Nat.shiftRight_eq_div_pow, Nat.div_eq_of_lt (Nat.mod_lt _ (Nat.two_pow_pos k))]
        omega

theorem index_get {l : List ByteArray} {w : ByteArray} (h : ¬ indexI l w < 0) : ∃ ha : (indexI l w).toNat < l.length, l[(indexI l w).toNat] = w := by
  unfold indexI at *
  split at h
  · rename_i hi
    simp only [if_pos hi, Int.toNat_natCast]
    refine ⟨hi, ?_⟩
    have := List.findIdx_getElem (w := hi)
    simpa using this
  · omega

theorem bits_snoc {m a n : Nat} (hm : m < 2 ^ a) (ha : a < n) : bits n (m ||| 2 ^ a) = bits n m ++ [a] := by
  have h1 : m < 2 ^ n := Nat.lt_of_lt_of_le hm (Nat.pow_le_pow_right (by omega) (by omega))
  have h2 : m ||| 2 ^ a < 2 ^ n := Nat.or_lt_two_pow h1 (Nat.pow_lt_pow_right (by omega) ha)
  have h3 : m ||| 2 ^ a < 2 ^ (a + 1) := Nat.or_lt_two_pow (Nat.lt_of_lt_of_le hm (Nat.pow_le_pow_right (by omega) (by omega))) (Nat.pow_lt_pow_right (by omega) (by omega))
  have e1 : bits (a + 1) (m ||| 2 ^ a) = bits n (m ||| 2 ^ a) := bits_end h2 (by rw [Nat.shiftRight_eq_div_pow, Nat.div_eq_of_lt h3])
  have e2 : bits a m = bits n m := bits_end h1 (by rw [Nat.shiftRight_eq_div_pow, Nat.div_eq_of_lt hm])
  have hb : (m ||| 2 ^ a).testBit a = true := by rw [Nat.testBit_or, Nat.testBit_two_pow]; simp
  rw [← e1, bits_succ_true hb, ← e2]
  congr 1
  refine List.filter_congr fun i hi => ?_
  have : i < a := by simpa using hi
  rw [Nat.testBit_or, Nat.testBit_two_pow]
  have : ¬ a = i := by omega
  simp [this]

theorem readL_inv {l : List ByteArray} : ∀ (qs : List ByteArray) {n : Nat}, readL l qs.reverse = some n → qs.reverse = namesOf l l.length n ∧ n < 2 ^ l.length
  | [], n, h => by
    simp [readL] at h; subst h
    refine ⟨?_, Nat.two_pow_pos _⟩
    simp [namesOf, bits]
  | w :: qs, n, h => by
    rw [List.reverse_cons, readL_snoc] at h
    cases hr : readL l qs.reverse with
    | none => rw [hr] at h; cases h
    | some m =>
      rw [hr, Option.bind_some] at h
      obtain ⟨ih1, ih2⟩ := readL_inv qs hr
      unfold stepW at h
      split at h
      · cases h
      · rename_i hc
        simp only [Option.some.injEq] at h
        obtain ⟨ha, hw⟩ := index_get (l := l) (w := w) fun hlt => hc (.inl hlt)
        generalize (indexI l w).toNat = a at *
        subst h
        have hm : m < 2 ^ a := by
          have : m >>> a = 0 := by
            exact Nat.eq_zero_of_not_pos fun hg => hc (.inr hg)
          rw [Nat.shiftRight_eq_div_pow] at this
          rcases Nat.div_eq_zero_iff.1 this with h | h
          · exact absurd h (Nat.ne_of_gt (Nat.two_pow_pos a))
          · exact h
        refine ⟨?_, Nat.or_lt_two_pow ih2 (Nat.pow_lt_pow_right (by omega) ha)⟩
        rw [List.reverse_cons, ih1, namesOf, namesOf, bits_snoc hm ha, List.map_append, List.map_cons, List.map_nil]
        congr 2
        simp [List.getD, List.getElem?_eq_getElem ha, hw]

theorem text_data (l : List ByteArray) (n : Nat) : (textB l n).data.toList = 123 :: (Lib.join ((namesOf l l.length n).map (·.data.toList)) [44] ++ [125]) := by
  simp only [textB, openB, shutB, joinB, comma, ByteArray.data_append, Array.toList_append]
  simp

theorem size_len (b : ByteArray) : b.size = b.data.toList.length := by rw [Array.length_toList]; rfl

theorem parts_of {s : ByteArray} {u : List UInt8} (h : s.data.toList = 123 :: (u ++ [125])) : bothB s = true ∧ (innerB s).data.toList = u := by
  have h1 : Lib.hasPrefix s.data.toList [123] = true := by rw [h]; rfl
  have h2 : (cutP s).data.toList = u ++ [125] := by
    simp only [cutP, Lib.trimPrefix, h1, if_true]
    rw [h]; rfl
  have h3 : Lib.hasSuffix (cutP s).data.toList [125] = true := by
    rw [h2]
    simp [Lib.hasSuffix]
  refine ⟨by simp only [bothB, h1, h3, Bool.and_self], ?_⟩
  simp only [innerB, cutS, Lib.trimSuffix, h3, if_true]
  rw [h2]
  simp

/-- What is read of a set's string is the set. -/
theorem readB_text {l : List ByteArray} (h : actsB l = true) {n : Nat} (hn : n < 2 ^ l.length) : readB l (textB l n) = some n := by
  obtain ⟨hb, hi⟩ := parts_of (text_data l n)
  have hr := readL_names (actsB_nodup h) n l.length (Nat.le_refl _)
  rw [Nat.mod_eq_of_lt hn] at hr
  by_cases he : namesOf l l.length n = []
  · rw [he] at hi hr
    have h0 : (innerB (textB l n)).size = 0 := by rw [size_len, hi]; rfl
    have : n = 0 := by simpa [readL] using hr.symm
    unfold readB
    rw [if_pos hb, if_pos h0, this]
  · have hp : piecesB (innerB (textB l n)) 44 = namesOf l l.length n := by
      refine lists_inj ?_
      rw [pieces_data, hi]
      refine spl_join 44 _ (by simpa using he) fun x hx => ?_
      obtain ⟨y, hy, rfl⟩ := List.mem_map.1 hx
      exact name_comma (actsB_name h (names_mem (Nat.le_refl _) hy))
    have h0 : ¬ (innerB (textB l n)).size = 0 := by
      rw [size_len, hi]
      intro hz
      obtain ⟨y, ys, e⟩ := List.exists_cons_of_ne_nil he
      have hy := nameB_size (actsB_name h (names_mem (Nat.le_refl _) (e ▸ List.mem_cons_self : y ∈ namesOf l l.length n)))
      rw [e, List.map_cons, Lib.join_cons] at hz
      rw [size_len] at hy
      rw [List.length_append] at hz
      omega
    simp only [readB, hb, h0, if_true, if_false, hp, hr]

/-- What is read as a set is the set's string. -/
theorem readB_inv {l : List ByteArray} {s : ByteArray} {n : Nat} (h : readB l s = some n) : textB l n = s ∧ n < 2 ^ l.length := by
  unfold readB at h
  split at h
  rotate_left
  · cases h
  rename_i hb
  simp only [bothB, Bool.and_eq_true] at hb
  obtain ⟨h1, h2⟩ := hb
  obtain ⟨t, ht⟩ : ∃ t, s.data.toList = 123 :: t := by
    have : [123] <+: s.data.toList := List.isPrefixOf_iff_prefix.1 h1
    obtain ⟨t, ht⟩ := this
    exact ⟨t, ht.symm⟩
  have hP : (cutP s).data.toList = t := by
    simp only [cutP, Lib.trimPrefix, h1, if_true]
    rw [ht]; rfl
  obtain ⟨u, hu⟩ : ∃ u, t = u ++ [125] := by
    have : [125] <:+ (cutP s).data.toList := List.isSuffixOf_iff_suffix.1 h2
    obtain ⟨u, hu⟩ := this
    exact ⟨u, by rw [← hP]; exact hu.symm⟩
  have hs : s.data.toList = 123 :: (u ++ [125]) := by rw [ht, hu]
  have hi := (parts_of hs).2
  split at h
  · rename_i h0
    rw [size_len, hi] at h0
    have hu0 : u = [] := List.eq_nil_of_length_eq_zero h0
    simp only [Option.some.injEq] at h
    subst h
    refine ⟨bytes_inj ?_, Nat.two_pow_pos _⟩
    have hz : bits l.length 0 = [] := List.filter_eq_nil_iff.2 (by simp)
    rw [text_data, hs, hu0, namesOf, hz]
    simp [Lib.join_nil]
  · obtain ⟨hp, hn⟩ := readL_inv (piecesB (innerB s) 44).reverse (by rw [List.reverse_reverse]; exact h)
    rw [List.reverse_reverse] at hp
    refine ⟨bytes_inj ?_, hn⟩
    rw [text_data, hs, ← hp, pieces_data, hi, join_spl 44 u.length u (Nat.le_refl _)]
end Go.Proofs.YtfininfcljdkbaaDoor
/- Chapter 01, part Di: the law ActBack. -/
namespace Go.Proofs.YtfininfcljdkbaaDoor
open Go Go.NS

def sum2 (L : List Nat) : Nat := (L.map fun a => 2 ^ a).sum
theorem sum2_snoc (L : List Nat) (a : Nat) : sum2 (L ++ [a]) = sum2 L + 2 ^ a := by simp [sum2]
theorem sum_bits (m : Nat) : ∀ k, sum2 (bits k m) = m % 2 ^ k
  | 0 => by simp [sum2, bits, Nat.mod_one]
  | k + 1 => by
    have ih := sum_bits m k
    cases hb : m.testBit k with
    | false => rw [bits_succ_false hb, bit_none hb]; exact ih
    | true =>
      rw [bits_succ_true hb, sum2_snoc, ih, ← bit_top hb]
      have := Nat.two_pow_add_eq_or_of_lt (i := k) (b := m % 2 ^ k) (Nat.mod_lt _ (Nat.two_pow_pos k)) 1
      rw [Nat.mul_one, Nat.or_comm] at this
      omega
theorem bits_lt_sorted (n m : Nat) : (bits n m).Pairwise (· < ·) := List.pairwise_lt_range.filter _

theorem sum_take {n m : Nat} (hm : m < 2 ^ n) (i : Nat) : sum2 ((bits n m).take i) ≤ m := by
  have h1 := sum_bits m n
  rw [Nat.mod_eq_of_lt hm] at h1
  have h2 : sum2 (bits n m) = sum2 ((bits n m).take i) + sum2 ((bits n m).drop i) := by
    unfold sum2
    rw [← List.sum_append, ← List.map_append, List.take_append_drop]
  omega

theorem text_size {l : List ByteArray} (h : actsB l = true) (n : Nat) : (textB l n).size ≤ 170 := by
  have h1 := names_bound (s := n) h (Nat.le_refl _)
  rw [size_len, text_data]
  simp only [List.length_cons, List.length_append, List.length_nil]
  have : Lib.join ((namesOf l l.length n).map (·.data.toList)) [44] = Lib.join ((namesOf l l.length n).map (·.data.toList)) comma.data.toList := rfl
  rw [this]
  omega

set_option maxHeartbeats 2000000 in
theorem ActBack_ok (kn : Nat) (errA : Addr) (l : List ByteArray) (s : Int) (hl : l.length * 16 ≤ 140737488351232) : Fk Tryd.prog [(kn, .know true (KS errA))] 5 [strsA l, iA s] (abool true) := by
  refine Fc.dropR ?_
  refine Fc.of_vc tok Tryd.func5 rfl (by decide) ?_
  simp -implicitDefEqProofs only [go_sem, Tryd.ntmps5]
  refine opK_pure (copied_ok l hl) rfl (Sub.of_eq (by first | rfl | simp -implicitDefEqProofs only [go_sem])) ?_
  simp -implicitDefEqProofs only [go_sem]
  refine opK_k (String_ok kn (KS errA) l s hl) (Has.refl _) rfl (Sub.of_eq (by first | rfl | simp -implicitDefEqProofs only [go_sem])) ?_
  simp -implicitDefEqProofs only [go_sem, sA, iA]
  by_cases he : setE l s = 0
  rotate_left
  · simp -implicitDefEqProofs only [go_sem, he, decide_false]
    refine opK_k (awake_ok kn errA) (Has.refl _) rfl (Sub.of_eq (by first | rfl | simp -implicitDefEqProofs only [go_sem])) ?_
    simp -implicitDefEqProofs only [go_sem]
    refine fnPost_ret tok ?_
    simp -implicitDefEqProofs only [go_sem, Tryd.results5]
    exact ⟨_, Has.refl _, rfl⟩
  have hB : actsB l = true := by
    unfold setE at he
    split at he
    · rename_i h; exact h
    · omega
  have h2 : setI l.length s = true := by
    unfold setE at he
    rw [if_pos hB] at he
    split at he
    · rename_i h; exact h
    · omega
  obtain ⟨m, rfl, hm⟩ := setI_lt h2
  have h8 := actsB_len hB
  have hst : stringB l (m : Int) = textB l m := by simp [stringB, he]
  have hpn : parseN l (textB l m) = m := by simp [parseN, hB, readB_text hB hm]
  have hpe : parseE l (textB l m) = 0 := by simp [parseE, hB, readB_text hB hm]
  have hli : listB l (m : Int) = (bits l.length m).map fun (a : Nat) => (a : Int) := by simp [listB, he]
  simp -implicitDefEqProofs only [go_sem, he, decide_true, hst]
  refine opK_pure (copied_ok l hl) rfl (Sub.of_eq (by first | rfl | simp -implicitDefEqProofs only [go_sem])) ?_
  simp -implicitDefEqProofs only [go_sem]
  refine opK_k (Parse_ok kn errA l (textB l m) hl (by have := text_size hB m; omega)) (Has.refl _) rfl (Sub.of_eq (by first | rfl | simp -implicitDefEqProofs only [go_sem, sA])) ?_
  simp -implicitDefEqProofs only [go_sem, hpn, hpe, iA]
  refine opK_pure (copied_ok l hl) rfl (Sub.of_eq (by first | rfl | simp -implicitDefEqProofs only [go_sem])) ?_
  simp -implicitDefEqProofs only [go_sem]
  refine opK_pure (actList_ok l (m : Int) hl) rfl (Sub.of_eq (by first | rfl | simp -implicitDefEqProofs only [go_sem])) ?_
  obtain ⟨L, hL⟩ : ∃ L, L = bits l.length m := ⟨_, rfl⟩
  have hLi : intsA (listB l (m : Int)) = .imm 1 (L.map fun (a : Nat) => iA (a : Int)) := by rw [hli, intsA, List.map_map, hL]; rfl
  simp -implicitDefEqProofs only [go_sem, he, hLi, iA]
  have hLl : L.length ≤ 8 := by have := bits_length l.length m; rw [hL]; omega
  have hLs : L.Pairwise (· < ·) := hL ▸ bits_lt_sorted l.length m
  have hLm : ∀ i, sum2 (L.take i) ≤ m := fun i => hL ▸ sum_take hm i
  have hLe : sum2 L = m := by rw [hL, sum_bits, Nat.mod_eq_of_lt hm]
  have hp8 := pow8 h8
  have hz0 : ((sum2 [] : Nat) : Int) = 0 := rfl
  refine AW.loopP tok (α := Nat) (fun i => slots 94 [(0, strsA l), (1, iA m), (4, .raw (.bool false)), (7, iA m), (8, iA 0), (9, .imm 1 (L.map fun (a : Nat) => AV.raw (.int .i64 (a : Int)))), (10, iA 0), (11, iA (sum2 (L.take i) : Nat)), (38, .imm 1 (L.map fun (a : Nat) => AV.raw (.int .i64 (a : Int)))), (39, iA L.length), (40, iA i)]) (fun i => [(kn, .know true (KS errA))]) (fun i => i ≤ L.length) (fun i => L.length - i) 0 (Nat.zero_le _) (by simp -implicitDefEqProofs only [go_sem, iA, hz0]) (Has.refl _) ?_
  intro i hi
  have hi : i ≤ L.length := hi
  simp -implicitDefEqProofs only [go_sem, iA]
  by_cases hil : i < L.length
  rotate_left
  · obtain rfl : L.length = i := by omega
    rw [List.take_length, hLe]
    simp -implicitDefEqProofs only [go_sem]
    refine opK_k (awake_ok kn errA) (Has.refl _) rfl (Sub.of_eq (by first | rfl | simp -implicitDefEqProofs only [go_sem])) ?_
    simp -implicitDefEqProofs only [go_sem]
    refine fnPost_ret tok ?_
    simp -implicitDefEqProofs only [go_sem, Tryd.results5]
    exact ⟨_, Has.refl _, rfl⟩
  have hb : L[i] < l.length := bits_lt (n := l.length) (s := m) (hL ▸ List.getElem_mem hil)
  have ht : L.take (i + 1) = L.take i ++ [L[i]] := by rw [List.take_add_one, List.getElem?_eq_getElem hil]; rfl
  have hsum : sum2 (L.take (i + 1)) = sum2 (L.take i) + 2 ^ L[i] := by rw [ht, sum2_snoc]
  have hsm := hLm (i + 1)
  have e2 : (L.map fun (a : Nat) => AV.raw (.int .i64 (a : Int)))[i]? = some (.raw (.int .i64 (L[i] : Nat))) := by simp [hil]
  obtain ⟨a, ha⟩ : ∃ a, a = L[i] := ⟨_, rfl⟩
  rw [← ha] at hb hsum e2
  have q1 : ¬ ((a : Int) < 0) := by omega
  have q2 : ¬ ((a : Int) ≥ (l.length : Int)) := by omega
  have q3 : ¬ ((a : Int) > 62) := by omega
  have hadd : IntKind.i64.wrap (((sum2 (L.take i) : Nat) : Int) + ((2 ^ a : Nat) : Int)) = ((sum2 (L.take (i + 1)) : Nat) : Int) := by rw [IntWalk.i64_in _ (by omega)]; omega
  have hwi := wrap_up hil (by omega)
  by_cases hi0 : i = 0
  · have q4 : ¬ ((i : Int) > 0) := by omega
    simp -implicitDefEqProofs only [go_sem, dlt_true hil, hil, e2, strsA, q1, q2, q3, q4, decide_false, shl_one a (by omega), hadd, hwi]
    exact ⟨i + 1, hil, by omega, by simp -implicitDefEqProofs only [go_sem, iA, strsA], Has.refl _⟩
  · have q4 : ((i : Int) > 0) := by omega
    obtain ⟨k, hki⟩ : ∃ k, i = k + 1 := ⟨i - 1, by omega⟩
    have hk : k < L.length := by omega
    have hlt : L[k] < a := by rw [ha]; exact List.pairwise_iff_getElem.1 hLs k i hk hil (by omega)
    have hwr : IntKind.i64.wrap ((i : Int) - 1) = (k : Int) := by rw [IntWalk.i64_in _ (by omega)]; omega
    have hge : ¬ (((L[k] : Nat) : Int) ≥ (a : Int)) := by omega
    have hk0 : (0 : Int) ≤ (k : Int) := by omega
    have e3 : (L.map fun (a : Nat) => AV.raw (.int .i64 (a : Int)))[k]? = some (.raw (.int .i64 (L[k] : Nat))) := by simp [hk]
    simp -implicitDefEqProofs only [go_sem, dlt_true hil, hil, e2, strsA, q1, q2, q3, q4, decide_false, decide_true, hwr, hk0, Int.toNat_natCast, hk, e3, hge, shl_one a (by omega), hadd, hwi]
    exact ⟨i + 1, hil, by omega, by simp -implicitDefEqProofs only [go_sem, iA, strsA], Has.refl _⟩

theorem ActBack_fk (a : Addr) (xs : List AV) (h : ShAs TT0 [22, 3] xs) : Fk Tryd.prog [(0, .know true (KS a))] 5 xs (abool true) := by
  cases h with
  | cons h1 h =>
  cases h with
  | cons h2 h =>
  cases h
  obtain ⟨l, hl, rfl⟩ := shA_strs h1
  obtain ⟨n, _, _, rfl⟩ := shA_int h2
  exact ActBack_ok 0 a l n hl
end Go.Proofs.YtfininfcljdkbaaDoor
/- Chapter 01, part Dj: strings and sets of the reference; the law ActStrings. -/
namespace Go.Proofs.YtfininfcljdkbaaDoor
open Go Go.NS

/-- What the reference has of a string after some actions. -/
def refS (l : List ByteArray) (s k : Nat) : ByteArray := openB ++ joinB (namesOf l k s) comma

theorem refS_size {l : List ByteArray} {s k : Nat} (h : actsB l = true) (hk : k ≤ l.length) : (refS l s k).size ≤ 169 := by
  have h1 := names_bound (s := s) h hk
  rw [size_len]
  simp only [refS, openB, joinB, ByteArray.data_append, Array.toList_append, List.length_append]
  have : (Lib.join ((namesOf l k s).map (·.data.toList)) comma.data.toList).length ≤ 168 := h1
  simp only [List.length_cons, List.length_nil]
  omega

set_option maxHeartbeats 2000000 in
/-- String of the reference. -/
theorem StringR_ok (l : List ByteArray) (s : Nat) (h : actsB l = true) (hs : s < 2 ^ l.length) : Fp Tryd.prog 15 [strsA l, iA s] (sA (textB l s)) := by
  have h8 := actsB_len h
  have hp8 := pow8 h8
  refine Fp.of_vc tok Tryd.func15 rfl (by decide) ?_
  simp -implicitDefEqProofs only [go_sem, Tryd.ntmps15, strsA, iA]
  have hb0 : namesOf l 0 s = [] := by simp [namesOf, bits]
  have hb00 : decide (bits 0 s = []) = true := by simp [bits]
  have hr0 : refS l s 0 = openB := by rw [refS, hb0, joinB_nil]; rfl
  refine AW.loopP tok (α := Nat) (fun i => slots 30 [(0, .imm 1 (l.map sA)), (1, iA s), (5, sA (refS l s i)), (6, .raw (.bool (decide (bits i s = [])))), (9, .imm 1 (l.map sA)), (10, iA l.length), (11, iA i)]) (fun i => []) (fun i => i ≤ l.length) (fun i => l.length - i) 0 (Nat.zero_le _) (by simp -implicitDefEqProofs only [go_sem, iA, hr0, sA, openB, hb00]) (Has.refl _) ?_
  intro i hi
  have hi : i ≤ l.length := hi
  simp -implicitDefEqProofs only [go_sem, iA, sA]
  by_cases hil : i < l.length
  rotate_left
  · obtain rfl : l.length = i := by omega
    have hz := refS_size (s := s) h (Nat.le_refl _)
    have c1 : (refS l s l.length).size + #[(125 : UInt8)].size ≤ 9223372036854775807 := by
      have h1 : #[(125 : UInt8)].size = 1 := rfl
      omega
    simp -implicitDefEqProofs only [go_sem, c1]
    refine fnPost_ret tok ?_
    simp -implicitDefEqProofs only [go_sem, Tryd.results15, sA]
    rfl
  have e2 : (l.map sA)[i]? = some (sA l[i]) := by simp [hil]
  have hbit : hasI (s : Int) i = s.testBit i := hasI_nat _ _ (by omega) (by omega)
  have hg : l.getD i ⟨#[]⟩ = l[i] := by simp [List.getD, List.getElem?_eq_getElem hil]
  have hni := nameB_size (actsB_name h (List.getElem_mem hil))
  have hz := refS_size (s := s) h hi
  simp -implicitDefEqProofs only [go_sem, dlt_true hil, hil, e2]
  refine opK_pure (Has_ok (s : Int) i) rfl (Sub.of_eq (by first | rfl | simp -implicitDefEqProofs only [go_sem])) ?_
  simp -implicitDefEqProofs only [go_sem, hbit]
  cases hb : s.testBit i with
  | false =>
    have e3 : refS l s (i + 1) = refS l s i := by rw [refS, namesOf, bits_succ_false hb]; rfl
    simp -implicitDefEqProofs only [go_sem, hb, wrap_up hil (by omega)]
    refine ⟨i + 1, hil, by omega, ?_, Has.refl _⟩
    simp -implicitDefEqProofs only [go_sem, iA, sA, e3, bits_succ_false hb]
  | true =>
    have e4 : namesOf l (i + 1) s = namesOf l i s ++ [l[i]] := by rw [namesOf, bits_succ_true hb, List.map_append, List.map_cons, List.map_nil, hg]; rfl
    have e5 : decide (bits (i + 1) s = []) = false := by rw [bits_succ_true hb]; simp
    by_cases hem : bits i s = []
    · have e6 : namesOf l i s = [] := by rw [namesOf, hem]; rfl
      have e3 : refS l s i ++ l[i] = refS l s (i + 1) := by
        rw [refS, refS, e4, e6, List.nil_append, joinB_one, joinB_nil]
        rw [show openB ++ (⟨#[]⟩ : ByteArray) = openB from ByteArray.append_empty]
      have c2 : (refS l s i).size + l[i].size ≤ 9223372036854775807 := by omega
      simp -implicitDefEqProofs only [go_sem, hb, hem, decide_true, sA, c2, e3, wrap_up hil (by omega)]
      refine ⟨i + 1, hil, by omega, ?_, Has.refl _⟩
      simp -implicitDefEqProofs only [go_sem, iA, sA, e5]
    · have e6 : namesOf l i s ≠ [] := by
        rw [namesOf]; intro hn; exact hem (by simpa using hn)
      have e3 : refS l s i ++ { data := #[44] } ++ l[i] = refS l s (i + 1) := by
        rw [refS, refS, e4, joinB_snoc _ _ e6, ByteArray.append_assoc, ByteArray.append_assoc, ByteArray.append_assoc]; rfl
      have c2 : (refS l s i).size + #[(44 : UInt8)].size ≤ 9223372036854775807 := by
        have h1 : #[(44 : UInt8)].size = 1 := rfl
        omega
      have c3 : (refS l s i).size + #[(44 : UInt8)].size + l[i].size ≤ 9223372036854775807 := by
        have h1 : #[(44 : UInt8)].size = 1 := rfl
        omega
      simp -implicitDefEqProofs only [go_sem, hb, hem, decide_false, sA, c2, c3, e3, wrap_up hil (by omega)]
      refine ⟨i + 1, hil, by omega, ?_, Has.refl _⟩
      simp -implicitDefEqProofs only [go_sem, iA, sA, e5]

/-- The first set whose string it is. -/
def parseR (l : List ByteArray) (s : ByteArray) : Option Nat := if actsB l then readB l s else none

set_option maxHeartbeats 2000000 in
/-- Parse of the reference. -/
theorem ParseR_ok (l : List ByteArray) (s : ByteArray) (h : actsB l = true) : Fp Tryd.prog 17 [strsA l, sA s] (.tup [iA ((readB l s).getD 0 : Nat), abool (readB l s).isSome]) := by
  have h8 := actsB_len h
  have hp8 := pow8 h8
  have hneg : ¬ ((l.length : Int) < 0) := by omega
  refine Fp.of_vc tok Tryd.func17 rfl (by decide) ?_
  simp -implicitDefEqProofs only [go_sem, Tryd.ntmps17, strsA]
  simp -implicitDefEqProofs only [go_sem, hneg, shl_one l.length h8]
  obtain ⟨N, hN⟩ : ∃ N, N = 2 ^ l.length := ⟨_, rfl⟩
  rw [← hN]
  refine AW.loopP tok (α := Nat) (fun i => slots 20 [(0, .imm 1 (l.map sA)), (1, sA s), (9, iA (N : Nat)), (10, iA i)]) (fun i => []) (fun i => i ≤ N ∧ ∀ j, j < i → textB l j ≠ s) (fun i => N - i) 0 ⟨Nat.zero_le _, fun j hj => by omega⟩ (by simp -implicitDefEqProofs only [go_sem, iA]) (Has.refl _) ?_
  rintro i ⟨hi, hall⟩
  simp -implicitDefEqProofs only [go_sem, iA]
  by_cases hil : i < N
  rotate_left
  · obtain rfl : N = i := by omega
    have hr : readB l s = none := by
      cases hr : readB l s with
      | none => rfl
      | some n =>
        obtain ⟨e, hn⟩ := readB_inv hr
        exact absurd e (hall n (by omega))
    simp -implicitDefEqProofs only [go_sem]
    refine fnPost_ret tok ?_
    simp -implicitDefEqProofs only [go_sem, Tryd.results17, hr]
    rfl
  simp -implicitDefEqProofs only [go_sem, dlt_true hil]
  refine opK_pure (StringR_ok l i h (by omega)) rfl (Sub.of_eq (by simp -implicitDefEqProofs only [go_sem, strsA, iA])) ?_
  by_cases he : textB l i = s
  · have hr : readB l s = some i := by rw [← he]; exact readB_text h (by omega)
    simp -implicitDefEqProofs only [go_sem, sA, he, decide_true]
    refine fnPost_ret tok ?_
    simp -implicitDefEqProofs only [go_sem, Tryd.results17, hr]
    rfl
  · simp -implicitDefEqProofs only [go_sem, sA, he, decide_false, wrap_up hil (by omega)]
    exact ⟨i + 1, ⟨hil, fun j hj => by
      by_cases e : j = i
      · subst e; exact he
      · exact hall j (by omega)⟩, by omega, by simp -implicitDefEqProofs only [go_sem, iA, sA], Has.refl _⟩
end Go.Proofs.YtfininfcljdkbaaDoor
/- Chapter 01, part Dk: the law ActStrings. -/
namespace Go.Proofs.YtfininfcljdkbaaDoor
open Go Go.NS


set_option maxRecDepth 8000 in
set_option maxHeartbeats 4000000 in
/-- The law ActStrings, for strings below the bound of Split. -/
theorem ActStrings_ok (kn : Nat) (errA : Addr) (l : List ByteArray) (n : Int) (s : ByteArray) (hl : l.length * 16 ≤ 140737488351232) (hs : s.size < 4294967281) : Fk Tryd.prog [(kn, .know true (KS errA))] 4 [strsA l, iA n, sA s] (abool true) := by
  refine Fc.dropR ?_
  refine Fc.of_vc tok Tryd.func4 rfl (by decide) ?_
  simp -implicitDefEqProofs only [go_sem, Tryd.ntmps4]
  refine opK_pure (IsActs_ok l hl) rfl (Sub.of_eq (by first | rfl | simp -implicitDefEqProofs only [go_sem])) ?_
  cases h : actsB l with
  | false =>
    have e : setE l n = 10 := by simp [setE, h]
    have e1 : stringB l n = ⟨#[]⟩ := by simp [stringB, e]
    have e2 : listB l n = [] := by simp [listB, e]
    have e3 : parseE l s = 10 := by simp [parseE, h]
    have e4 : parseN l s = 0 := by simp [parseN, h]
    simp -implicitDefEqProofs only [go_sem, h]
    refine opK_pure (copied_ok l hl) rfl (Sub.of_eq (by first | rfl | simp -implicitDefEqProofs only [go_sem])) ?_
    simp -implicitDefEqProofs only [go_sem]
    refine opK_k (String_ok kn (KS errA) l n hl) (Has.refl _) rfl (Sub.of_eq (by first | rfl | simp -implicitDefEqProofs only [go_sem])) ?_
    simp -implicitDefEqProofs only [go_sem, e, e1, sA, iA]
    refine opK_pure (copied_ok l hl) rfl (Sub.of_eq (by first | rfl | simp -implicitDefEqProofs only [go_sem])) ?_
    simp -implicitDefEqProofs only [go_sem]
    refine opK_pure (actList_ok l n hl) rfl (Sub.of_eq (by first | rfl | simp -implicitDefEqProofs only [go_sem])) ?_
    simp -implicitDefEqProofs only [go_sem, e, e2, iA]
    refine opK_pure (copied_ok l hl) rfl (Sub.of_eq (by first | rfl | simp -implicitDefEqProofs only [go_sem])) ?_
    simp -implicitDefEqProofs only [go_sem]
    refine opK_k (Parse_ok kn errA l s hl hs) (Has.refl _) rfl (Sub.of_eq (by first | rfl | simp -implicitDefEqProofs only [go_sem, sA])) ?_
    simp -implicitDefEqProofs only [go_sem, e3, e4, iA]
    refine opK_pure (SameInts_ok [] [] (by decide) (by decide)) rfl (Sub.of_les (Les.cons (Le.refl _) (Les.cons (Le.nil 1) Les.nil))) ?_
    simp -implicitDefEqProofs only [go_sem, decide_true]
    refine opK_k (awake_ok kn errA) (Has.refl _) rfl (Sub.of_eq (by first | rfl | simp -implicitDefEqProofs only [go_sem])) ?_
    simp -implicitDefEqProofs only [go_sem]
    refine fnPost_ret tok ?_
    simp -implicitDefEqProofs only [go_sem, Tryd.results4]
    exact ⟨_, Has.refl _, rfl⟩
  | true =>
    have h8 := actsB_len h
    have d1 : decide ((1 : Int) = 0) = false := by decide
    have d2 : decide ((11 : Int) = 0) = false := by decide
    have d3 : decide (false = true) = false := by decide
    have d4 : decide (true = false) = false := by decide
    have hpe : parseE l s = if (readB l s).isSome then 0 else 11 := by simp [parseE, h]
    have hpn : parseN l s = (readB l s).getD 0 := by simp [parseN, h]
    simp -implicitDefEqProofs only [go_sem, h, strsA, List.length_map, Nat.div_one]
    refine opK_pure (SetR_ok l.length n h8) rfl (Sub.of_eq (by first | rfl | simp -implicitDefEqProofs only [go_sem])) ?_
    cases h2 : setI l.length n with
    | false =>
      have e : setE l n = 1 := by simp [setE, h, h2]
      have e1 : stringB l n = ⟨#[]⟩ := by simp [stringB, e]
      have e2 : listB l n = [] := by simp [listB, e]
      simp -implicitDefEqProofs only [go_sem, h2]
      refine opK_pure (ParseR_ok l s h) rfl (Sub.of_eq (by simp -implicitDefEqProofs only [go_sem, strsA, sA])) ?_
      simp -implicitDefEqProofs only [go_sem]
      refine opK_pure (copied_ok l hl) rfl (Sub.of_eq (by simp -implicitDefEqProofs only [go_sem, strsA])) ?_
      simp -implicitDefEqProofs only [go_sem]
      refine opK_k (String_ok kn (KS errA) l n hl) (Has.refl _) rfl (Sub.of_eq (by first | rfl | simp -implicitDefEqProofs only [go_sem])) ?_
      simp -implicitDefEqProofs only [go_sem, e, e1, sA, iA]
      refine opK_pure (copied_ok l hl) rfl (Sub.of_eq (by simp -implicitDefEqProofs only [go_sem, strsA])) ?_
      simp -implicitDefEqProofs only [go_sem]
      refine opK_pure (actList_ok l n hl) rfl (Sub.of_eq (by first | rfl | simp -implicitDefEqProofs only [go_sem])) ?_
      simp -implicitDefEqProofs only [go_sem, e, e2, iA]
      refine opK_pure (copied_ok l hl) rfl (Sub.of_eq (by simp -implicitDefEqProofs only [go_sem, strsA])) ?_
      simp -implicitDefEqProofs only [go_sem]
      refine opK_k (Parse_ok kn errA l s hl hs) (Has.refl _) rfl (Sub.of_eq (by first | rfl | simp -implicitDefEqProofs only [go_sem, sA])) ?_
      simp -implicitDefEqProofs only [go_sem, iA]
      refine opK_pure (SameInts_ok [] [] (by decide) (by decide)) rfl (Sub.of_les (Les.cons (Le.refl _) (Les.cons (Le.nil 1) Les.nil))) ?_
      cases hr : readB l s with
      | none =>
        simp -implicitDefEqProofs only [go_sem, decide_true, d1, d2, d3, d4, hpe, hpn, hr, Option.getD_none, Option.isSome_none]
        refine opK_k (awake_ok kn errA) (Has.refl _) rfl (Sub.of_eq (by first | rfl | simp -implicitDefEqProofs only [go_sem])) ?_
        simp -implicitDefEqProofs only [go_sem]
        refine fnPost_ret tok ?_
        simp -implicitDefEqProofs only [go_sem, Tryd.results4]
        exact ⟨_, Has.refl _, rfl⟩
      | some k =>
        simp -implicitDefEqProofs only [go_sem, decide_true, d1, d2, d3, d4, hpe, hpn, hr, Option.getD_some, Option.isSome_some]
        refine opK_k (awake_ok kn errA) (Has.refl _) rfl (Sub.of_eq (by first | rfl | simp -implicitDefEqProofs only [go_sem])) ?_
        simp -implicitDefEqProofs only [go_sem]
        refine fnPost_ret tok ?_
        simp -implicitDefEqProofs only [go_sem, Tryd.results4]
        exact ⟨_, Has.refl _, rfl⟩
    | true =>
      obtain ⟨m, rfl, hm⟩ := setI_lt h2
      have e : setE l (m : Int) = 0 := by simp [setE, h, h2]
      have e1 : stringB l (m : Int) = textB l m := by simp [stringB, e]
      have e2 : listB l (m : Int) = (bits l.length m).map fun (a : Nat) => (a : Int) := by simp [listB, e]
      have hb8 := bits_length l.length m
      simp -implicitDefEqProofs only [go_sem, h2]
      refine opK_pure (StringR_ok l m h hm) rfl (Sub.of_eq (by simp -implicitDefEqProofs only [go_sem, strsA, iA])) ?_
      simp -implicitDefEqProofs only [go_sem]
      refine opK_pure (List_ok l.length m h8 hm) rfl (Sub.of_eq (by simp -implicitDefEqProofs only [go_sem, iA])) ?_
      simp -implicitDefEqProofs only [go_sem]
      refine opK_pure (ParseR_ok l s h) rfl (Sub.of_eq (by simp -implicitDefEqProofs only [go_sem, strsA, sA])) ?_
      simp -implicitDefEqProofs only [go_sem]
      refine opK_pure (copied_ok l hl) rfl (Sub.of_eq (by simp -implicitDefEqProofs only [go_sem, strsA])) ?_
      simp -implicitDefEqProofs only [go_sem]
      refine opK_k (String_ok kn (KS errA) l (m : Int) hl) (Has.refl _) rfl (Sub.of_eq (by first | rfl | simp -implicitDefEqProofs only [go_sem])) ?_
      simp -implicitDefEqProofs only [go_sem, e, e1, sA, iA]
      refine opK_pure (copied_ok l hl) rfl (Sub.of_eq (by simp -implicitDefEqProofs only [go_sem, strsA])) ?_
      simp -implicitDefEqProofs only [go_sem]
      refine opK_pure (actList_ok l (m : Int) hl) rfl (Sub.of_eq (by first | rfl | simp -implicitDefEqProofs only [go_sem])) ?_
      simp -implicitDefEqProofs only [go_sem, e, e2, iA]
      refine opK_pure (copied_ok l hl) rfl (Sub.of_eq (by simp -implicitDefEqProofs only [go_sem, strsA])) ?_
      simp -implicitDefEqProofs only [go_sem]
      refine opK_k (Parse_ok kn errA l s hl hs) (Has.refl _) rfl (Sub.of_eq (by first | rfl | simp -implicitDefEqProofs only [go_sem, sA])) ?_
      simp -implicitDefEqProofs only [go_sem, iA]
      refine opK_pure (SameInts_ok ((bits l.length m).map fun (a : Nat) => (a : Int)) ((bits l.length m).map fun (a : Nat) => (a : Int)) (by rw [List.length_map]; omega) (by rw [List.length_map]; omega)) rfl (Sub.of_eq (by first | rfl | simp -implicitDefEqProofs only [go_sem])) ?_
      cases hr : readB l s with
      | none =>
        simp -implicitDefEqProofs only [go_sem, decide_true, d1, d2, d3, d4, hpe, hpn, hr, Option.getD_none, Option.isSome_none]
        refine opK_k (awake_ok kn errA) (Has.refl _) rfl (Sub.of_eq (by first | rfl | simp -implicitDefEqProofs only [go_sem])) ?_
        simp -implicitDefEqProofs only [go_sem]
        refine fnPost_ret tok ?_
        simp -implicitDefEqProofs only [go_sem, Tryd.results4]
        exact ⟨_, Has.refl _, rfl⟩
      | some k =>
        simp -implicitDefEqProofs only [go_sem, decide_true, d1, d2, d3, d4, hpe, hpn, hr, Option.getD_some, Option.isSome_some]
        refine opK_k (awake_ok kn errA) (Has.refl _) rfl (Sub.of_eq (by first | rfl | simp -implicitDefEqProofs only [go_sem])) ?_
        simp -implicitDefEqProofs only [go_sem]
        refine fnPost_ret tok ?_
        simp -implicitDefEqProofs only [go_sem, Tryd.results4]
        exact ⟨_, Has.refl _, rfl⟩
end Go.Proofs.YtfininfcljdkbaaDoor
/- Chapter 01, part Dm: the law ActSets. -/
namespace Go.Proofs.YtfininfcljdkbaaDoor
open Go Go.NS

theorem drop_all (l : List Int) (i : Nat) : ((l.map iA).drop i).take (l.length - i) = (l.drop i).map iA := by rw [List.take_of_length_le (by simp), List.map_drop]


set_option maxHeartbeats 1000000 in
/-- Put of the reference. -/
theorem Put_ok (l : List Int) (x : Int) (hl : l.length * 8 + 8 ≤ 140737488351232) : Fp Tryd.prog 22 [intsA l, iA x] (intsA (putI l x)) := by
  refine Fp.of_vc tok Tryd.func22 rfl (by decide) ?_
  simp -implicitDefEqProofs only [go_sem, Tryd.ntmps22, intsA, iA]
  refine AW.loopG tok (fun i : Nat => slots 44 [(0, .imm 1 (l.map iA)), (1, iA x), (4, .raw (.slice none 0 0)), (5, iA i)]) (fun _ => [])
    (fun i => i ≤ l.length ∧ ∀ j (h : j < l.length), j < i → l[j] < x) (fun i => l.length - i) 0 ⟨Nat.zero_le _, fun j _ hj => absurd hj (Nat.not_lt_zero j)⟩ (by simp -implicitDefEqProofs only [go_sem, iA]) (List.Sublist.refl _) ?_
  rintro i ⟨hi, hall⟩
  simp -implicitDefEqProofs only [go_sem, iA]
  by_cases hlt : i < l.length
  · have e1 : decide ((i : Int) < (l.length : Int)) = true := by simp; omega
    have e2 : (l.map iA)[i]? = some (iA l[i]) := by simp [hlt]
    by_cases hx : l[i] < x
    · have hw := wrap_succ i l.length hlt (by omega)
      simp -implicitDefEqProofs only [go_sem, e1, hlt, e2, iA, hx, decide_true, hw]
      refine ⟨i + 1, ⟨hlt, fun j h hj => ?_⟩, by omega, by simp -implicitDefEqProofs only [go_sem, iA], List.Sublist.refl _⟩
      by_cases e : j = i
      · subst e; exact hx
      · exact hall j h (by omega)
    · by_cases hx2 : l[i] = x
      · have hp : putI l x = l := by
          rcases putI_at hi hall (fun _ => by omega) with ⟨_, h⟩ | ⟨h, _⟩
          · exact h
          · exact absurd ⟨hlt, hx2⟩ h
        simp -implicitDefEqProofs only [go_sem, e1, hlt, e2, iA, hx, hx2, decide_true, decide_false, Int.lt_irrefl]
        refine fnPost_ret tok ?_
        simp -implicitDefEqProofs only [go_sem, Tryd.results22, hp, iA]
      · have hp : putI l x = l.take i ++ [x] ++ l.drop i := by
          rcases putI_at hi hall (fun _ => by omega) with ⟨⟨_, h⟩, _⟩ | ⟨_, h⟩
          · exact absurd h hx2
          · exact h
        simp -implicitDefEqProofs only [go_sem, e1, hlt, e2, iA, hx, hx2, decide_true, decide_false]
        refine AW.drawPF tok hmix false [36, 39, 43] [100035, 100038, 100042] [0, 1, 2, 4, 5, 7, 8, 9, 3, 6, 10, 11] ([]) (by kernel_rfl) ?_ ?_
        · exact List.nil_sublist _
        simp -implicitDefEqProofs only [go_sem]
        refine opK_slice tok (z := .imm 1 ((l.take i).map iA)) (by simp -implicitDefEqProofs only [go_sem, Nat.zero_le, hi, Nat.sub_zero, Nat.zero_mul, List.map_take]) ?_
        simp -implicitDefEqProofs only [go_sem]
        refine opK_lit tok T33 rfl T3 (by decide) (by simp -implicitDefEqProofs only [go_sem, zrep, List.flatten_cons, List.flatten_nil]; rfl) ?_
        simp -implicitDefEqProofs only [go_sem]
        refine opK_slice tok (z := .imm 1 ((l.drop i).map iA)) (by simp -implicitDefEqProofs only [go_sem, hi, drop_all]) ?_
        simp -implicitDefEqProofs only [go_sem]
        refine opK_appendNew tok rfl rfl (by simp -implicitDefEqProofs only [go_sem]; rfl) T33 rfl T3 (by decide) rfl (by decide) (by simp only [List.length_map, List.length_take, Nat.div_one]; omega) fun nm ver hn => ?_
        try simp -implicitDefEqProofs only [hset, List.map_append, List.map_cons, List.map_nil, List.cons_append, List.nil_append, List.mem_cons, List.mem_append, List.not_mem_nil, or_false, not_or] at hn
        simp -implicitDefEqProofs only [go_sem, hn]
        refine opK_append tok rfl rfl (by simp -implicitDefEqProofs only [go_sem, hn]; rfl) rfl T33 rfl T3 rfl (by decide) (by simp only [List.length_map, List.length_take, List.length_cons, List.length_nil, Nat.div_one]; omega) fun v2 => ?_
        simp -implicitDefEqProofs only [go_sem, hn]
        refine opK_append tok rfl rfl (by simp -implicitDefEqProofs only [go_sem, hn]; rfl) rfl T33 rfl T3 rfl (by decide) (by simp only [List.length_map, List.length_append, List.length_take, List.length_drop, List.length_cons, List.length_nil, Nat.div_one]; omega) fun v3 => ?_
        simp -implicitDefEqProofs only [go_sem, hn]
        refine fnPost_freeze (xs := ((l.take i).map iA ++ [aint .i64 x]) ++ (l.drop i).map iA) nm (by simp -implicitDefEqProofs only [go_sem]; rfl) ?_
        simp -implicitDefEqProofs only [go_sem]
        refine fnPost_ret tok ?_
        simp -implicitDefEqProofs only [go_sem, Tryd.results22, hp, List.map_append, List.map_cons, List.map_nil, iA]
  · have hp : putI l x = l.take i ++ [x] ++ l.drop i := by
      rcases putI_at hi hall (fun h => absurd h hlt) with ⟨⟨h, _⟩, _⟩ | ⟨_, h⟩
      · exact absurd h hlt
      · exact h
    have e1 : decide ((i : Int) < (l.length : Int)) = false := by simp; omega
    simp -implicitDefEqProofs only [go_sem, e1]
    refine AW.drawPF tok hmix false [36, 39, 43] [100035, 100038, 100042] [0, 1, 2, 4, 5, 7, 8, 9, 3, 6, 10, 11] ([]) (by kernel_rfl) ?_ ?_
    · exact List.nil_sublist _
    simp -implicitDefEqProofs only [go_sem]
    refine opK_slice tok (z := .imm 1 ((l.take i).map iA)) (by simp -implicitDefEqProofs only [go_sem, Nat.zero_le, hi, Nat.sub_zero, Nat.zero_mul, List.map_take]) ?_
    simp -implicitDefEqProofs only [go_sem]
    refine opK_lit tok T33 rfl T3 (by decide) (by simp -implicitDefEqProofs only [go_sem, zrep, List.flatten_cons, List.flatten_nil]; rfl) ?_
    simp -implicitDefEqProofs only [go_sem]
    refine opK_slice tok (z := .imm 1 ((l.drop i).map iA)) (by simp -implicitDefEqProofs only [go_sem, hi, drop_all]) ?_
    simp -implicitDefEqProofs only [go_sem]
    refine opK_appendNew tok rfl rfl (by simp -implicitDefEqProofs only [go_sem]; rfl) T33 rfl T3 (by decide) rfl (by decide) (by simp only [List.length_map, List.length_take, Nat.div_one]; omega) fun nm ver hn => ?_
    try simp -implicitDefEqProofs only [hset, List.map_append, List.map_cons, List.map_nil, List.cons_append, List.nil_append, List.mem_cons, List.mem_append, List.not_mem_nil, or_false, not_or] at hn
    simp -implicitDefEqProofs only [go_sem, hn]
    refine opK_append tok rfl rfl (by simp -implicitDefEqProofs only [go_sem, hn]; rfl) rfl T33 rfl T3 rfl (by decide) (by simp only [List.length_map, List.length_take, List.length_cons, List.length_nil, Nat.div_one]; omega) fun v2 => ?_
    simp -implicitDefEqProofs only [go_sem, hn]
    refine opK_append tok rfl rfl (by simp -implicitDefEqProofs only [go_sem, hn]; rfl) rfl T33 rfl T3 rfl (by decide) (by simp only [List.length_map, List.length_append, List.length_take, List.length_drop, List.length_cons, List.length_nil, Nat.div_one]; omega) fun v3 => ?_
    simp -implicitDefEqProofs only [go_sem, hn]
    refine fnPost_freeze (xs := ((l.take i).map iA ++ [aint .i64 x]) ++ (l.drop i).map iA) nm (by simp -implicitDefEqProofs only [go_sem]; rfl) ?_
    simp -implicitDefEqProofs only [go_sem]
    refine fnPost_ret tok ?_
    simp -implicitDefEqProofs only [go_sem, Tryd.results22, hp, List.map_append, List.map_cons, List.map_nil, iA]
/-- Sort of package slices, at numbers. -/
theorem SortI_fc (nm ver : Nat) (l : List Int) (hl : l.length * 8 ≤ 140737488351232) : Fc Tryd.prog 38 [.own nm ver] [(nm, .row 3 1 ver (l.map iA))] fun _ H => H = [(nm, .row 3 1 ver ((l.mergeSort fun x y => decide (x ≤ y)).map iA))] :=
  sortI_Fc Tryd.lays189 (enters_of Tryd.func38 (by kernel_rfl) rfl) nm ver 3 l (by omega)

/-- Compact of package slices, at numbers. -/
theorem CompactI_fc (nm ver : Nat) (l : List Int) (hl : l.length * 8 ≤ 140737488351232) : Fc Tryd.prog 39 [.own nm ver] [(nm, .row 3 1 ver (l.map iA))] fun x H => ∃ ver', x = .own nm ver' ∧ H = [(nm, .row 3 1 ver' ((Lib.compact l).map iA))] :=
  compactI_Fc Tryd.lays2_20 (enters_of Tryd.func39 (by kernel_rfl) rfl) nm ver 3 l (by omega)

/-- The function value that Sets hands to ContainsFunc. -/
theorem SetsC_fk (l : List ByteArray) (h8 : l.length ≤ 8) (n2 : Nat) (x : Int) : Fk Tryd.prog [(n2, .cells 22 [strsA l])] 36 [iA x, .ptr n2 0] (abool (!setI l.length x)) := by
  refine Fc.dropR ?_
  refine Fc.of_vc tok Tryd.func36 rfl (by decide) ?_
  simp -implicitDefEqProofs only [go_sem, Tryd.ntmps36, strsA]
  refine opK_pure (actIs_ok l.length x h8) rfl (Sub.of_eq (by first | rfl | simp -implicitDefEqProofs only [go_sem])) ?_
  simp -implicitDefEqProofs only [go_sem]
  refine fnPost_ret tok ?_
  simp -implicitDefEqProofs only [go_sem, Tryd.results36]
  exact ⟨_, Has.refl _, rfl⟩

def setsE (l : List ByteArray) (s : List Int) : Int := if actsB l then (if s.all fun x => setI l.length x then 0 else 1) else 10
def setsB (l : List ByteArray) (s : List Int) : List Int := if setsE l s = 0 then putAll s else []
def SetsO (l : List ByteArray) (s : List Int) (x : AV) (H : AHeap) : Prop := ∃ nm ver, x = .tup [.own nm ver, iA (setsE l s)] ∧ H = [(nm, .row 3 1 ver ((setsB l s).map iA))]
def SetsR0 (l : List ByteArray) (s : List Int) (x : AV) (H : AHeap) : Prop := SetsO l s x H ∨ (setsB l s = [] ∧ x = .tup [.raw (.slice none 0 0), iA (setsE l s)] ∧ H = [])

/-- Sets of package act. -/
theorem Sets_own (l : List ByteArray) (s : List Int) (hl : l.length * 16 ≤ 140737488351232) (hs : s.length * 8 ≤ 140737488351232) : Fc Tryd.prog 23 [strsA l, intsA s] [] (SetsO l s) := by
  refine Fc.ownRes (R := SetsR0 l s) ?_ ?_
  rotate_left
  · rintro x H1 (h | ⟨e, rfl, rfl⟩)
    · exact .inl h
    · exact .inr ⟨fun x => .tup [x, iA (setsE l s)], 3, 1, by decide, rfl, Lift.tup Lift.id [] [_], fun nm _ => ⟨nm, 0, rfl, by rw [e]; rfl⟩⟩
  refine Fc.dropR ?_
  refine Fc.of_vc tok Tryd.func23 rfl (by decide) ?_
  simp -implicitDefEqProofs only [go_sem, Tryd.ntmps23, strsA]
  refine newK_intro fun n2 hn2 => ?_
  try simp -implicitDefEqProofs only [hset, List.map_append, List.map_cons, List.map_nil, List.cons_append, List.nil_append, List.mem_cons, List.mem_append, List.not_mem_nil, or_false, not_or] at hn2
  simp -implicitDefEqProofs only [go_sem, hn2]
  refine opK_pure (actValid_ok l hl) rfl (Sub.of_eq (by first | rfl | simp -implicitDefEqProofs only [go_sem])) ?_
  cases h : actsB l with
  | false =>
    have e : setsE l s = 10 := by simp [setsE, h]
    have e2 : setsB l s = [] := by simp [setsB, e]
    simp -implicitDefEqProofs only [go_sem, h]
    refine fnPost_ret tok ?_
    simp -implicitDefEqProofs only [go_sem, Tryd.results23]
    exact ⟨[], Has.of_sub (List.nil_sublist _), .inr ⟨e2, by rw [e]; rfl, rfl⟩⟩
  | true =>
    have h8 := actsB_len h
    simp -implicitDefEqProofs only [go_sem, h, hn2]
    refine opK_k (ContainsFunc_fk s hs 36 [.ptr n2 0] [(n2, .cells 22 [strsA l])] (fun x => !setI l.length x) (fun x _ => SetsC_fk l h8 n2 x)) (Has.refl _) rfl (Sub.of_eq (by first | rfl | simp -implicitDefEqProofs only [go_sem, intsA])) ?_
    have e0 : (s.any fun x => !setI l.length x) = !(s.all fun x => setI l.length x) := by rw [List.not_all_eq_any_not]
    cases h2 : s.all fun x => setI l.length x with
    | false =>
      have e : setsE l s = 1 := by simp only [setsE, h, h2]; rfl
      have e2 : setsB l s = [] := by simp [setsB, e]
      simp -implicitDefEqProofs only [go_sem, e0, h2]
      refine fnPost_ret tok ?_
      simp -implicitDefEqProofs only [go_sem, Tryd.results23]
      exact ⟨[], Has.of_sub (List.nil_sublist _), .inr ⟨e2, by rw [e]; rfl, rfl⟩⟩
    | true =>
      have e : setsE l s = 0 := by simp only [setsE, h, h2]; rfl
      have e2 : setsB l s = sortC s := by rw [sortC_eq]; simp [setsB, e]
      have hsl : (s.mergeSort fun x y => decide (x ≤ y)).length = s.length := List.length_mergeSort _
      simp -implicitDefEqProofs only [go_sem, e0, h2]
      refine opK_call [] [(n2, .cells 22 [strsA l])] rfl (CloneI_own s hs) rfl (Sub.of_eq (by first | rfl | simp -implicitDefEqProofs only [go_sem, intsA])) (List.Perm.refl _) ?_
      rintro x H1 ⟨nm, v1, rfl, rfl⟩ hnd
      simp -implicitDefEqProofs only [go_sem]
      refine opK_call [(nm, .row 3 1 v1 (s.map iA))] [(n2, .cells 22 [strsA l])] rfl (SortI_fc nm v1 s hs) rfl (Sub.of_eq (by simp -implicitDefEqProofs only [go_sem])) (List.Perm.refl _) ?_
      rintro x H1 rfl hnd2
      simp -implicitDefEqProofs only [go_sem]
      refine opK_call [(nm, .row 3 1 v1 ((s.mergeSort fun x y => decide (x ≤ y)).map iA))] [(n2, .cells 22 [strsA l])] rfl (CompactI_fc nm v1 _ (by rw [hsl]; exact hs)) rfl (Sub.of_eq (by simp -implicitDefEqProofs only [go_sem])) (List.Perm.refl _) ?_
      rintro x H1 ⟨v2, rfl, rfl⟩ hnd3
      simp -implicitDefEqProofs only [go_sem]
      refine fnPost_ret tok ?_
      simp -implicitDefEqProofs only [go_sem, Tryd.results23]
      exact ⟨_, Has.of_sub (List.Sublist.cons _ (List.Sublist.refl _)), .inl ⟨nm, v2, by rw [e]; rfl, by rw [e2]; rfl⟩⟩

theorem Sets_ok (l : List ByteArray) (s : List Int) (hl : l.length * 16 ≤ 140737488351232) (hs : s.length * 8 ≤ 140737488351232) : Fp Tryd.prog 23 [strsA l, intsA s] (.tup [intsA (setsB l s), iA (setsE l s)]) :=
  (Sets_own l s hl hs).frzAll fun x H1 ⟨nm, ver, hx, hH⟩ => by
    rw [hx, hH]; exact Fz.tupS (Fzs.cons (Fz.rowS (t := 3) List.mem_cons_self (Fzs.refl _)) (Fzs.cons (.refl _) Fzs.nil))

set_option maxHeartbeats 4000000 in
/-- The law ActSets. -/
theorem ActSets_ok (kn : Nat) (errA : Addr) (l : List ByteArray) (s : List Int) (hl : l.length * 16 ≤ 140737488351232) (hs : s.length * 8 ≤ 140737488351232) : Fk Tryd.prog [(kn, .know true (KS errA))] 6 [strsA l, intsA s] (abool true) := by
  refine Fc.dropR ?_
  refine Fc.of_vc tok Tryd.func6 rfl (by decide) ?_
  simp -implicitDefEqProofs only [go_sem, Tryd.ntmps6, intsA]
  refine opK_pure (IsActs_ok l hl) rfl (Sub.of_eq (by first | rfl | simp -implicitDefEqProofs only [go_sem])) ?_
  cases h : actsB l with
  | false =>
    have e : setsE l s = 10 := by simp [setsE, h]
    have e2 : setsB l s = [] := by simp [setsB, e]
    have d1 : decide (0 < s.length) = decide ((0 : Int) < (s.length : Int)) := by simp
    simp -implicitDefEqProofs only [go_sem, h]
    refine AW.loopG tok (fun _ : Nat => slots 83 [(0, strsA l), (1, .imm 1 (s.map iA)), (4, abool false), (5, abool false), (6, abool true), (8, iA 0)]) (fun _ => [(kn, .know true (KS errA))])
      (fun _ => True) (fun _ => 0) 0 trivial (by simp -implicitDefEqProofs only [go_sem, iA]) (List.Sublist.refl _) ?_
    rintro i -
    simp -implicitDefEqProofs only [go_sem, iA]
    by_cases h0 : (0 : Int) < (s.length : Int)
    all_goals
      simp -implicitDefEqProofs only [go_sem, h0, decide_true, decide_false]
      refine opK_pure (copied_ok l hl) rfl (Sub.of_eq (by first | rfl | simp -implicitDefEqProofs only [go_sem])) ?_
      simp -implicitDefEqProofs only [go_sem]
      refine opK_appendImm tok rfl rfl T33 rfl T3 (by decide) rfl (by decide) (by simp only [List.length_map, Nat.div_one]; omega) ?_
      simp -implicitDefEqProofs only [go_sem]
      refine opK_pure (Sets_ok l s hl hs) rfl (Sub.of_eq (by first | rfl | simp -implicitDefEqProofs only [go_sem])) ?_
      simp -implicitDefEqProofs only [go_sem, e, e2, intsA, iA]
      refine opK_k (awake_ok kn errA) (Has.refl _) rfl (Sub.of_eq (by first | rfl | simp -implicitDefEqProofs only [go_sem])) ?_
      simp -implicitDefEqProofs only [go_sem]
      refine fnPost_ret tok ?_
      simp -implicitDefEqProofs only [go_sem, Tryd.results6]
      exact ⟨_, Has.refl _, rfl⟩
  | true =>
    have h8 := actsB_len h
    simp -implicitDefEqProofs only [go_sem, h]
    refine AW.toImm 7 1 rfl ?_
    simp -implicitDefEqProofs only [go_sem]
    refine AW.loopG tok (α := Nat × Bool × List Int) (fun a => slots 83 [(0, strsA l), (1, .imm 1 (s.map iA)), (4, abool false), (5, abool true), (6, abool a.2.1), (7, intsA a.2.2), (8, iA a.1)]) (fun _ => [(kn, .know true (KS errA))])
      (fun a => a.1 ≤ s.length ∧ ((a.2.1 = true ∧ ((s.take a.1).all fun x => setI l.length x) = true ∧ a.2.2 = putAll (s.take a.1)) ∨ (a.2.1 = false ∧ (s.all fun x => setI l.length x) = false))) (fun a => (s.length - a.1) + (if a.2.1 then 1 else 0)) (0, true, []) ⟨Nat.zero_le _, .inl ⟨rfl, rfl, rfl⟩⟩ (by simp -implicitDefEqProofs only [go_sem, iA, intsA]) (List.Sublist.refl _) ?_
    rintro ⟨i, b, w⟩ ⟨hi, hb⟩
    simp only at hi hb
    simp -implicitDefEqProofs only [go_sem, iA]
    have htk : ∀ h : i < s.length, s.take (i + 1) = s.take i ++ [s[i]] := fun h => by rw [List.take_add_one, List.getElem?_eq_getElem h]; rfl
    rcases hb with ⟨rfl, hall, rfl⟩ | ⟨rfl, hall⟩
    · by_cases hlt : i < s.length
      · have e1 : decide ((i : Int) < (s.length : Int)) = true := by simp; omega
        have e2 : (s.map iA)[i]? = some (iA s[i]) := by simp [hlt]
        have hw := wrap_succ i s.length hlt (by omega)
        simp -implicitDefEqProofs only [go_sem, e1, strsA, List.length_map, Nat.div_one, hlt, e2]
        refine opK_pure (SetR_ok l.length s[i] h8) rfl (Sub.of_eq (by simp -implicitDefEqProofs only [go_sem, iA])) ?_
        cases h2 : setI l.length s[i] with
        | true =>
          have hpl := putAll_length (s.take i)
          have hp8 : (putAll (s.take i)).length * 8 + 8 ≤ 140737488351232 := by rw [List.length_take] at hpl; omega
          simp -implicitDefEqProofs only [go_sem, hlt, e2]
          refine opK_pure (Put_ok (putAll (s.take i)) s[i] hp8) rfl (Sub.of_eq (by simp -implicitDefEqProofs only [go_sem, iA, intsA])) ?_
          simp -implicitDefEqProofs only [go_sem, hw]
          refine ⟨(i + 1, true, putI (putAll (s.take i)) s[i]), ⟨hlt, .inl ⟨rfl, ?_, ?_⟩⟩, by simp only [if_true]; omega, by simp -implicitDefEqProofs only [go_sem, strsA, intsA], List.Sublist.refl _⟩
          · simp only; rw [htk hlt, List.all_append, hall]; simp [h2]
          · simp only; rw [htk hlt, putAll_snoc]
        | false =>
          simp -implicitDefEqProofs only [go_sem, hw]
          refine ⟨(i + 1, false, putAll (s.take i)), ⟨hlt, .inr ⟨rfl, ?_⟩⟩, by simp only [if_true, Bool.false_eq_true, if_false]; omega, by simp -implicitDefEqProofs only [go_sem, strsA, intsA], List.Sublist.refl _⟩
          rw [List.all_eq_false]
          exact ⟨s[i], List.getElem_mem hlt, by simp [h2]⟩
      · have e1 : decide ((i : Int) < (s.length : Int)) = false := by simp; omega
        have ei : s.take i = s := List.take_of_length_le (by omega)
        rw [ei] at hall ⊢
        have hpl := putAll_length s
        have e : setsE l s = 0 := by simp only [setsE, h, hall]; rfl
        have e2 : setsB l s = putAll s := by simp [setsB, e]
        simp -implicitDefEqProofs only [go_sem, e1]
        refine opK_pure (copied_ok l hl) rfl (Sub.of_eq (by first | rfl | simp -implicitDefEqProofs only [go_sem])) ?_
        simp -implicitDefEqProofs only [go_sem]
        refine opK_appendImm tok rfl rfl T33 rfl T3 (by decide) rfl (by decide) (by simp only [List.length_map, Nat.div_one]; omega) ?_
        simp -implicitDefEqProofs only [go_sem]
        refine opK_pure (Sets_ok l s hl hs) rfl (Sub.of_eq (by first | rfl | simp -implicitDefEqProofs only [go_sem])) ?_
        simp -implicitDefEqProofs only [go_sem, e, e2, iA]
        refine opK_pure (SameInts_ok (putAll s) (putAll s) (by omega) (by omega)) rfl (Sub.of_eq (by first | rfl | simp -implicitDefEqProofs only [go_sem])) ?_
        simp -implicitDefEqProofs only [go_sem, decide_true]
        refine opK_k (awake_ok kn errA) (Has.refl _) rfl (Sub.of_eq (by first | rfl | simp -implicitDefEqProofs only [go_sem])) ?_
        simp -implicitDefEqProofs only [go_sem]
        refine fnPost_ret tok ?_
        simp -implicitDefEqProofs only [go_sem, Tryd.results6]
        exact ⟨_, Has.refl _, rfl⟩
    · have e : setsE l s = 1 := by simp only [setsE, h, hall]; rfl
      have e2 : setsB l s = [] := by simp [setsB, e]
      by_cases hlt : (i : Int) < (s.length : Int)
      all_goals
        simp -implicitDefEqProofs only [go_sem, hlt, decide_true, decide_false]
        refine opK_pure (copied_ok l hl) rfl (Sub.of_eq (by first | rfl | simp -implicitDefEqProofs only [go_sem])) ?_
        simp -implicitDefEqProofs only [go_sem]
        refine opK_appendImm tok rfl rfl T33 rfl T3 (by decide) rfl (by decide) (by simp only [List.length_map, Nat.div_one]; omega) ?_
        simp -implicitDefEqProofs only [go_sem]
        refine opK_pure (Sets_ok l s hl hs) rfl (Sub.of_eq (by first | rfl | simp -implicitDefEqProofs only [go_sem])) ?_
        simp -implicitDefEqProofs only [go_sem, e, e2, intsA, iA]
        refine opK_k (awake_ok kn errA) (Has.refl _) rfl (Sub.of_eq (by first | rfl | simp -implicitDefEqProofs only [go_sem])) ?_
        simp -implicitDefEqProofs only [go_sem]
        refine fnPost_ret tok ?_
        simp -implicitDefEqProofs only [go_sem, Tryd.results6]
        exact ⟨_, Has.refl _, rfl⟩
end Go.Proofs.YtfininfcljdkbaaDoor
/- Chapter 01, part Dn: the law ActOwn. -/
namespace Go.Proofs.YtfininfcljdkbaaDoor
open Go Go.NS

def firstC (l : List ByteArray) (n : Int) (s : List Int) : Nat → List AV
  | 0 => [.raw (.slice none 0 0), .raw (.slice none 0 0)]
  | _ + 1 => [intsA (listB l n), intsA (setsB l s)]

theorem listB_le (l : List ByteArray) (n : Int) : (listB l n).length ≤ l.length := by
  unfold listB
  split
  · rw [List.length_map]; exact bits_length _ _
  · simp
theorem setsB_le (l : List ByteArray) (s : List Int) : (setsB l s).length ≤ s.length := by
  unfold setsB
  split
  · exact putAll_length s
  · simp

theorem dltB_true {i n : Nat} (h : i < n) : decide ((i : Int) < (n : Int)) = true := by simp; omega
theorem dltB_false {i n : Nat} (h : ¬ i < n) : decide ((i : Int) < (n : Int)) = false := by simp; omega

/-- SameInts, of what is ours. -/
theorem SameI_own (a : List Int) (nm ver : Nat) (ha : a.length * 8 ≤ 140737488351232) : Fk Tryd.prog [(nm, .row 3 1 ver (a.map iA))] 21 [.own nm ver, intsA a] (abool true) := by
  have h := SameInts_ok a a ha ha
  rw [show decide (a = a) = true from decide_eq_true rfl] at h
  exact Fp.borrow h (Fzs.cons (Fz.rowS (t := 3) List.mem_cons_self (Fzs.refl _)) (Fzs.cons (.refl _) Fzs.nil))


set_option maxRecDepth 4000 in
set_option maxHeartbeats 8000000 in
/-- The law ActOwn. -/
theorem ActOwn_ok (kn : Nat) (errA : Addr) (l : List ByteArray) (n : Int) (s : List Int) (hl : l.length * 16 ≤ 140737488351232) (hs : s.length * 8 ≤ 140737488351232) : Fk Tryd.prog [(kn, .know true (KS errA))] 7 [strsA l, iA n, intsA s] (abool true) := by
  have hlb := listB_le l n
  have hsb := setsB_le l s
  obtain ⟨A, hA⟩ : ∃ A, A = listB l n := ⟨_, rfl⟩
  obtain ⟨B, hB⟩ : ∃ B, B = setsB l s := ⟨_, rfl⟩
  rw [← hA] at hlb
  rw [← hB] at hsb
  refine Fc.dropR ?_
  refine Fc.of_vc tok Tryd.func7 rfl (by decide) ?_
  simp -implicitDefEqProofs only [go_sem, Tryd.ntmps7, intsA, iA]
  refine opK_pure (copied_ok l hl) rfl (Sub.of_eq (by first | rfl | simp -implicitDefEqProofs only [go_sem])) ?_
  simp -implicitDefEqProofs only [go_sem]
  refine opK_appendImm tok rfl rfl T33 rfl T3 (by decide) rfl (by decide) (by simp only [List.length_map, Nat.div_one]; omega) ?_
  simp -implicitDefEqProofs only [go_sem]
  refine fun n9 hn9 => ?_
  try simp -implicitDefEqProofs only [hset, List.map_append, List.map_cons, List.map_nil, List.cons_append, List.nil_append, List.mem_cons, List.mem_append, List.not_mem_nil, or_false, not_or] at hn9
  simp -implicitDefEqProofs only [go_sem, hn9]
  refine AW.loopG tok (α := Nat) (fun r => slots 94 [(0, strsA l), (1, iA n), (2, .imm 1 (s.map iA)), (7, strsA l), (8, .imm 1 (s.map iA)), (9, .ptr n9 0), (21, iA r)]) (fun r => [(kn, AObj.know true (KS errA)), (n9, .cells 50 (firstC l n s r))])
    (fun r => r ≤ 2) (fun r => 2 - r) 0 (by decide) (by simp -implicitDefEqProofs only [go_sem, iA]) (List.Sublist.refl _) ?_
  intro r hr
  simp -implicitDefEqProofs only [go_sem, iA]
  by_cases h2 : r < 2
  rotate_left
  · have e1 : decide ((r : Int) < 2) = false := by simp; omega
    simp -implicitDefEqProofs only [go_sem, e1]
    refine opK_k (awake_ok kn errA) (Has.of_sub (List.Sublist.cons_cons _ (List.nil_sublist _))) rfl (Sub.of_eq (by first | rfl | simp -implicitDefEqProofs only [go_sem])) ?_
    simp -implicitDefEqProofs only [go_sem]
    refine fnPost_ret tok ?_
    simp -implicitDefEqProofs only [go_sem, Tryd.results7]
    exact ⟨_, Has.of_sub (List.Sublist.cons_cons _ (List.nil_sublist _)), rfl⟩
  have e1 : decide ((r : Int) < 2) = true := by simp; omega
  simp -implicitDefEqProofs only [go_sem, e1]
  refine opK_call [] [(kn, AObj.know true (KS errA)), (n9, .cells 50 (firstC l n s r))] rfl (actList_own l n hl) rfl (Sub.of_eq (by simp -implicitDefEqProofs only [go_sem, iA])) (List.Perm.refl _) ?_
  rintro x H1 ⟨nA, vA, rfl, rfl⟩ hnd
  rw [← hA] at hnd ⊢
  have hnA : ¬ kn = nA ∧ ¬ n9 = nA := by simp at hnd; exact ⟨fun e => hnd.1.2 e, fun e => hnd.2 e⟩
  simp -implicitDefEqProofs only [go_sem]
  refine opK_call [] [(kn, AObj.know true (KS errA)), (n9, .cells 50 (firstC l n s r)), (nA, .row 3 1 vA (A.map iA))] rfl (Sets_own l s hl hs) rfl (Sub.of_eq (by first | rfl | simp -implicitDefEqProofs only [go_sem])) (List.Perm.refl _) ?_
  rintro x H1 ⟨nB, vB, rfl, rfl⟩ hnd2
  rw [← hB] at hnd2 ⊢
  have hnB : ¬ kn = nB ∧ ¬ n9 = nB ∧ ¬ nA = nB := by simp at hnd2; exact ⟨fun e => hnd2.1.2.2 e, fun e => hnd2.2.1.2 e, fun e => hnd2.2.2 e⟩
  obtain ⟨a1, a2⟩ := hnA
  obtain ⟨b1, b2, b3⟩ := hnB
  have c0 : ¬ kn = n9 := fun e => hn9 e.symm
  have b1' : ¬ nB = kn := fun e => b1 e.symm
  have b2' : ¬ nB = n9 := fun e => b2 e.symm
  have b3' : ¬ nB = nA := fun e => b3 e.symm
  have a1' : ¬ nA = kn := fun e => a1 e.symm
  have a2' : ¬ nA = n9 := fun e => a2 e.symm
  clear hnd hnd2
  simp -implicitDefEqProofs only [go_sem]
  refine opK_pure (Check_ok l hl) rfl (Sub.of_eq (by first | rfl | simp -implicitDefEqProofs only [go_sem])) ?_
  simp -implicitDefEqProofs only [go_sem]
  refine opK_k (String_ok kn (KS errA) l n hl) (Has.of_sub (List.Sublist.cons_cons _ (List.nil_sublist _))) rfl (Sub.of_eq (by first | rfl | simp -implicitDefEqProofs only [go_sem, iA])) ?_
  simp -implicitDefEqProofs only [go_sem]
  refine opK_pure (Find_ok l { data := #[97] } hl) rfl (Sub.of_eq (by first | rfl | simp -implicitDefEqProofs only [go_sem, sA])) ?_
  have hw : IntKind.i64.wrap ((r : Int) + 1) = ((r + 1 : Nat) : Int) := by rw [IntWalk.i64_in _ (by omega)]; omega
  cases hr0 : decide ((r : Int) > 0) with
  | false =>
    have hfc : firstC l n s r = [.raw (.slice none 0 0), .raw (.slice none 0 0)] := by
      obtain rfl : r = 0 := by simp at hr0; omega
      rfl
    simp -implicitDefEqProofs only [go_sem, hr0, hfc]
    refine opK_appendImm tok rfl (by simp -implicitDefEqProofs only [go_sem, hn9, b1', b2', b3', a1', a2']; rfl) T33 rfl T3 (by decide) rfl (by decide) (by simp only [List.length_map, Nat.div_one]; omega) ?_
    simp -implicitDefEqProofs only [go_sem, hn9, b1', b2', b3', a1', a2']
    refine opK_appendImm tok rfl (by simp -implicitDefEqProofs only [go_sem, hn9, b1', b2', b3', a1', a2']; rfl) T33 rfl T3 (by decide) rfl (by decide) (by simp only [List.length_map, Nat.div_one]; omega) ?_
    simp -implicitDefEqProofs only [go_sem, hn9, b1', b2', b3', a1', a2']
    refine AW.loopG tok (α := Nat × List AV) (fun a => slots 94 [(0, strsA l), (1, iA n), (2, .imm 1 (s.map iA)), (7, strsA l), (8, .imm 1 (s.map iA)), (9, .ptr n9 0), (11, .own nA vA), (13, .own nB vB), (21, iA r), (65, iA A.length), (66, iA a.1)]) (fun a => [(kn, AObj.know true (KS errA)), (n9, .cells 50 [intsA A, intsA B]), (nA, .row 3 1 vA a.2), (nB, .row 3 1 vB (B.map iA))])
      (fun a => a.1 ≤ A.length ∧ a.2.length = A.length) (fun a => A.length - a.1) (0, A.map iA) ⟨Nat.zero_le _, by simp⟩ (by simp -implicitDefEqProofs only [go_sem, iA]) (by first | exact List.Sublist.refl _ | exact (List.Sublist.cons_cons _ (List.Sublist.cons_cons _ (List.Sublist.cons _ (List.Sublist.refl _))))) ?_
    rintro ⟨k, q⟩ ⟨hk, hq⟩
    simp only at hk hq
    simp -implicitDefEqProofs only [go_sem, iA]
    by_cases hlt : k < A.length
    · have hwk := wrap_succ k A.length hlt (by omega)
      have hk1 : k + 1 ≤ A.length := hlt
      simp -implicitDefEqProofs only [go_sem, dltB_true hlt, hn9, b1', b2', b3', a1', a2', hq, hlt, hk1, hwk]
      refine ⟨(k + 1, _), ⟨hk1, ?_⟩, by simp only; omega, by simp -implicitDefEqProofs only [go_sem], List.Sublist.refl _⟩
      simp only [List.length_append, List.length_take, List.length_drop, List.length_cons, List.length_nil]
      omega
    obtain rfl : k = A.length := by omega
    simp -implicitDefEqProofs only [go_sem, dltB_false (Nat.lt_irrefl A.length), hn9, b1', b2', b3', a1', a2']
    refine AW.loopG tok (α := Nat × List AV) (fun a => slots 94 [(0, strsA l), (1, iA n), (2, .imm 1 (s.map iA)), (7, strsA l), (8, .imm 1 (s.map iA)), (9, .ptr n9 0), (11, .own nA vA), (13, .own nB vB), (21, iA r), (74, iA B.length), (75, iA a.1)]) (fun a => [(kn, AObj.know true (KS errA)), (n9, .cells 50 [intsA A, intsA B]), (nB, .row 3 1 vB a.2)])
      (fun a => a.1 ≤ B.length ∧ a.2.length = B.length) (fun a => B.length - a.1) (0, B.map iA) ⟨Nat.zero_le _, by simp⟩ (by simp -implicitDefEqProofs only [go_sem, iA]) (by first | exact List.Sublist.refl _ | exact (List.Sublist.cons_cons _ (List.Sublist.cons_cons _ (List.Sublist.cons _ (List.Sublist.refl _))))) ?_
    rintro ⟨k, q⟩ ⟨hk, hq⟩
    simp only at hk hq
    simp -implicitDefEqProofs only [go_sem, iA]
    by_cases hlt : k < B.length
    · have hwk := wrap_succ k B.length hlt (by omega)
      have hk1 : k + 1 ≤ B.length := hlt
      simp -implicitDefEqProofs only [go_sem, dltB_true hlt, hn9, b1', b2', b3', a1', a2', hq, hlt, hk1, hwk]
      refine ⟨(k + 1, _), ⟨hk1, ?_⟩, by simp only; omega, by simp -implicitDefEqProofs only [go_sem], List.Sublist.refl _⟩
      simp only [List.length_append, List.length_take, List.length_drop, List.length_cons, List.length_nil]
      omega
    obtain rfl : k = B.length := by omega
    simp -implicitDefEqProofs only [go_sem, dltB_false (Nat.lt_irrefl B.length), hn9, b1', b2', b3', a1', a2']
    refine opK_pure (SameStrings_ok l l hl hl) rfl (Sub.of_eq (by first | rfl | simp -implicitDefEqProofs only [go_sem])) ?_
    simp -implicitDefEqProofs only [go_sem, decide_true]
    refine opK_pure (SameInts_ok s s hs hs) rfl (Sub.of_eq (by first | rfl | simp -implicitDefEqProofs only [go_sem])) ?_
    simp -implicitDefEqProofs only [go_sem, decide_true, hw]
    exact ⟨r + 1, h2, by omega, by simp -implicitDefEqProofs only [go_sem], by rw [show firstC l n s (r + 1) = [intsA A, intsA B] by rw [hA, hB]; rfl]; exact List.Sublist.cons_cons _ (List.Sublist.cons_cons _ (List.nil_sublist _))⟩
  | true =>
    have hfc : firstC l n s r = [intsA A, intsA B] := by
      obtain rfl : r = 1 := by simp at hr0; omega
      rw [hA, hB]; rfl
    simp -implicitDefEqProofs only [go_sem, hr0, hfc, hn9, b1', b2', b3', a1', a2']
    refine opK_k (SameI_own A nA vA (by omega)) (Has.of_sub (List.Sublist.cons _ (List.Sublist.cons _ (List.Sublist.cons_cons _ (List.nil_sublist _))))) rfl (Sub.of_eq (by first | rfl | simp -implicitDefEqProofs only [go_sem])) ?_
    simp -implicitDefEqProofs only [go_sem, hn9, b1', b2', b3', a1', a2']
    refine opK_k (SameI_own B nB vB (by omega)) (Has.of_sub (List.Sublist.cons _ (List.Sublist.cons _ (List.Sublist.cons _ (List.Sublist.refl _))))) rfl (Sub.of_eq (by first | rfl | simp -implicitDefEqProofs only [go_sem])) ?_
    simp -implicitDefEqProofs only [go_sem, hn9, b1', b2', b3', a1', a2']
    refine opK_appendImm tok rfl (by simp -implicitDefEqProofs only [go_sem, hn9, b1', b2', b3', a1', a2']; rfl) T33 rfl T3 (by decide) rfl (by decide) (by simp only [List.length_map, Nat.div_one]; omega) ?_
    simp -implicitDefEqProofs only [go_sem, hn9, b1', b2', b3', a1', a2']
    refine opK_appendImm tok rfl (by simp -implicitDefEqProofs only [go_sem, hn9, b1', b2', b3', a1', a2']; rfl) T33 rfl T3 (by decide) rfl (by decide) (by simp only [List.length_map, Nat.div_one]; omega) ?_
    simp -implicitDefEqProofs only [go_sem, hn9, b1', b2', b3', a1', a2']
    refine AW.loopG tok (α := Nat × List AV) (fun a => slots 94 [(0, strsA l), (1, iA n), (2, .imm 1 (s.map iA)), (7, strsA l), (8, .imm 1 (s.map iA)), (9, .ptr n9 0), (11, .own nA vA), (13, .own nB vB), (21, iA r), (65, iA A.length), (66, iA a.1)]) (fun a => [(kn, AObj.know true (KS errA)), (n9, .cells 50 [intsA A, intsA B]), (nA, .row 3 1 vA a.2), (nB, .row 3 1 vB (B.map iA))])
      (fun a => a.1 ≤ A.length ∧ a.2.length = A.length) (fun a => A.length - a.1) (0, A.map iA) ⟨Nat.zero_le _, by simp⟩ (by simp -implicitDefEqProofs only [go_sem, iA]) (by first | exact List.Sublist.refl _ | exact (List.Sublist.cons_cons _ (List.Sublist.cons_cons _ (List.Sublist.cons _ (List.Sublist.refl _))))) ?_
    rintro ⟨k, q⟩ ⟨hk, hq⟩
    simp only at hk hq
    simp -implicitDefEqProofs only [go_sem, iA]
    by_cases hlt : k < A.length
    · have hwk := wrap_succ k A.length hlt (by omega)
      have hk1 : k + 1 ≤ A.length := hlt
      simp -implicitDefEqProofs only [go_sem, dltB_true hlt, hn9, b1', b2', b3', a1', a2', hq, hlt, hk1, hwk]
      refine ⟨(k + 1, _), ⟨hk1, ?_⟩, by simp only; omega, by simp -implicitDefEqProofs only [go_sem], List.Sublist.refl _⟩
      simp only [List.length_append, List.length_take, List.length_drop, List.length_cons, List.length_nil]
      omega
    obtain rfl : k = A.length := by omega
    simp -implicitDefEqProofs only [go_sem, dltB_false (Nat.lt_irrefl A.length), hn9, b1', b2', b3', a1', a2']
    refine AW.loopG tok (α := Nat × List AV) (fun a => slots 94 [(0, strsA l), (1, iA n), (2, .imm 1 (s.map iA)), (7, strsA l), (8, .imm 1 (s.map iA)), (9, .ptr n9 0), (11, .own nA vA), (13, .own nB vB), (21, iA r), (74, iA B.length), (75, iA a.1)]) (fun a => [(kn, AObj.know true (KS errA)), (n9, .cells 50 [intsA A, intsA B]), (nB, .row 3 1 vB a.2)])
      (fun a => a.1 ≤ B.length ∧ a.2.length = B.length) (fun a => B.length - a.1) (0, B.map iA) ⟨Nat.zero_le _, by simp⟩ (by simp -implicitDefEqProofs only [go_sem, iA]) (by first | exact List.Sublist.refl _ | exact (List.Sublist.cons_cons _ (List.Sublist.cons_cons _ (List.Sublist.cons _ (List.Sublist.refl _))))) ?_
    rintro ⟨k, q⟩ ⟨hk, hq⟩
    simp only at hk hq
    simp -implicitDefEqProofs only [go_sem, iA]
    by_cases hlt : k < B.length
    · have hwk := wrap_succ k B.length hlt (by omega)
      have hk1 : k + 1 ≤ B.length := hlt
      simp -implicitDefEqProofs only [go_sem, dltB_true hlt, hn9, b1', b2', b3', a1', a2', hq, hlt, hk1, hwk]
      refine ⟨(k + 1, _), ⟨hk1, ?_⟩, by simp only; omega, by simp -implicitDefEqProofs only [go_sem], List.Sublist.refl _⟩
      simp only [List.length_append, List.length_take, List.length_drop, List.length_cons, List.length_nil]
      omega
    obtain rfl : k = B.length := by omega
    simp -implicitDefEqProofs only [go_sem, dltB_false (Nat.lt_irrefl B.length), hn9, b1', b2', b3', a1', a2']
    refine opK_pure (SameStrings_ok l l hl hl) rfl (Sub.of_eq (by first | rfl | simp -implicitDefEqProofs only [go_sem])) ?_
    simp -implicitDefEqProofs only [go_sem, decide_true]
    refine opK_pure (SameInts_ok s s hs hs) rfl (Sub.of_eq (by first | rfl | simp -implicitDefEqProofs only [go_sem])) ?_
    simp -implicitDefEqProofs only [go_sem, decide_true, hw]
    exact ⟨r + 1, h2, by omega, by simp -implicitDefEqProofs only [go_sem], by rw [show firstC l n s (r + 1) = [intsA A, intsA B] by rw [hA, hB]; rfl]; exact List.Sublist.cons_cons _ (List.Sublist.cons_cons _ (List.nil_sublist _))⟩
end Go.Proofs.YtfininfcljdkbaaDoor
/- Chapter 01, part Do: the laws over the arguments that come in. -/
namespace Go.Proofs.YtfininfcljdkbaaDoor
open Go Go.NS

theorem ActSets_fk (a : Addr) (xs : List AV) (h : ShAs TT0 [22, 33] xs) : Fk Tryd.prog [(0, .know true (KS a))] 6 xs (abool true) := by
  cases h with
  | cons h1 h =>
  cases h with
  | cons h2 h =>
  cases h
  obtain ⟨l, hl, rfl⟩ := shA_strs h1
  obtain ⟨s, hs, _, rfl⟩ := shA_ints h2
  exact ActSets_ok 0 a l s hl hs

theorem ActOwn_fk (a : Addr) (xs : List AV) (h : ShAs TT0 [22, 3, 33] xs) : Fk Tryd.prog [(0, .know true (KS a))] 7 xs (abool true) := by
  cases h with
  | cons h1 h =>
  cases h with
  | cons h2 h =>
  cases h with
  | cons h3 h =>
  cases h
  obtain ⟨l, hl, rfl⟩ := shA_strs h1
  obtain ⟨n, _, _, rfl⟩ := shA_int h2
  obtain ⟨s, hs, _, rfl⟩ := shA_ints h3
  exact ActOwn_ok 0 a l n s hl hs

theorem ActStrings_fk (a : Addr) (xs : List AV) (h : ShAs TT0 [22, 3, 9] xs) (hb : ∀ s : ByteArray, xs[2]? = some (sA s) → s.size ≤ 1048576) : Fk Tryd.prog [(0, .know true (KS a))] 4 xs (abool true) := by
  cases h with
  | cons h1 h =>
  cases h with
  | cons h2 h =>
  cases h with
  | cons h3 h =>
  cases h
  obtain ⟨l, hl, rfl⟩ := shA_strs h1
  obtain ⟨n, _, _, rfl⟩ := shA_int h2
  obtain ⟨s, hs, rfl⟩ := shA_str h3
  have := hb s rfl
  exact ActStrings_ok 0 a l n s hl (by omega)
end Go.Proofs.YtfininfcljdkbaaDoor
