/- Modal specifications, part Oa: gaps, and relations that show refinement (plain). -/
import Derived.Test.YtfininfcljdkbaaR5
import Derived.Test.YtfininfcljdkbaaR2
set_option linter.unusedSimpArgs false
set_option linter.unusedVariables false
namespace Go.Proofs.Ytfininfcljdkbaa
open Go Go.NS
end Go.Proofs.Ytfininfcljdkbaa
/- Part Oz: how the statements' arguments are read. -/
namespace Go.Proofs.Ytfininfcljdkbaa
open Go Go.NS
theorem sh_ints {xs : List AV} (h : Sh TT0 33 xs) : ∃ l : List Int, l.length * 8 ≤ 140737488351232 ∧ (∀ a ∈ l, a ≤ 9223372036854775807) ∧ xs = [intsA l] := by
  obtain ⟨ys, hy, hb, rfl⟩ := h.slice_inv T33 rfl T3
  obtain ⟨l, h1, h2, h3⟩ := rows_map (f := iA) (p := fun a => a ≤ 9223372036854775807) ys fun y hy' => by
    obtain ⟨n, _, b, e⟩ := (hy y hy').1.int_inv T3 rfl
    exact ⟨n, b, e⟩
  exact ⟨l, by rw [h1]; exact hb, h2, by rw [h3]; rfl⟩
theorem sh_strs {xs : List AV} (h : Sh TT0 22 xs) : ∃ l : List ByteArray, l.length * 16 ≤ 140737488351232 ∧ xs = [strsA l] := by
  obtain ⟨ys, hy, hb, rfl⟩ := h.slice_inv T22 rfl T9
  obtain ⟨l, h1, _, h3⟩ := rows_map (f := sA) (p := fun _ => True) ys fun y hy' => by
    obtain ⟨s, _, e⟩ := (hy y hy').1.str_inv T9 rfl
    exact ⟨s, trivial, e⟩
  exact ⟨l, by rw [h1]; exact hb, by rw [h3]; rfl⟩
theorem rows_c2 {α : Type} {f g : α → AV} {p : α → Prop} : ∀ (ys : List (List AV)), (∀ y ∈ ys, ∃ a, p a ∧ y = [f a, g a]) → ∃ l : List α, l.length = ys.length ∧ (∀ a ∈ l, p a) ∧ ys.flatten = c2 f g l
  | [], _ => ⟨[], rfl, by simp, rfl⟩
  | y :: ys, h => by
    obtain ⟨a, ha, rfl⟩ := h y (by simp)
    obtain ⟨l, h1, h2, h3⟩ := rows_c2 ys fun z hz => h z (by simp [hz])
    exact ⟨a :: l, by simp [h1], by simp [ha]; exact h2, by simp [h3, c2]⟩
theorem shA_mo {a : AV} (h : ShA TT0 25 a) : ∃ m : Mo, m.Small ∧ a = m.av := by
  obtain ⟨xs, hs, rfl⟩ := h.agg T25 rfl
  obtain ⟨ys, hl, hy, rfl⟩ := hs.struct_inv T25 rfl
  match ys, hl, hy with
  | [y0, y1], _, hy =>
    obtain ⟨l, h1, e0⟩ := sh_strs (hy 0 (by simp))
    obtain ⟨zs, hz, hb, e1⟩ := (hy 1 (by simp)).slice_inv T23 rfl T97
    obtain ⟨r, h2, h3, h4⟩ := rows_c2 (α := Int × List Int) (f := fun x => iA x.1) (g := fun x => intsA x.2) (p := fun x => x.2.length * 8 ≤ 140737488351232) zs fun z hz' => by
      obtain ⟨us, hul, hu, rfl⟩ := (hz z hz').1.struct_inv T97 rfl
      match us, hul, hu with
      | [u0, u1], _, hu =>
        obtain ⟨n, _, _, e0⟩ := (hu 0 (by simp)).int_inv T3 rfl
        obtain ⟨w, h2, _, e1⟩ := sh_ints (hu 1 (by simp))
        simp only [List.getElem_cons_succ, List.getElem_cons_zero] at e0 e1
        subst e0 e1
        exact ⟨(n, w), h2, rfl⟩
    simp only [List.getElem_cons_succ, List.getElem_cons_zero] at e0 e1
    subst e0 e1
    refine ⟨⟨l, r⟩, ⟨h1, by rw [h2]; exact hb, h3⟩, ?_⟩
    rw [h4]; rfl
structure Ve.Small (v : Ve) : Prop where
  p : v.pairs.length * 16 ≤ 140737488351232
  w : v.word.length * 8 ≤ 140737488351232
end Go.Proofs.Ytfininfcljdkbaa
