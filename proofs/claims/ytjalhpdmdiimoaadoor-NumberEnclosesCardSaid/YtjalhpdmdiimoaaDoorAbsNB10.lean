/- Padded digits, and how many digits a number has. -/
import Derived.Test.YtjalhpdmdiimoaaDoorAbsNB9
set_option linter.unusedSimpArgs false
set_option linter.unusedVariables false
namespace Go.Abs
theorem dgs_len {n k : Nat} (h : n < 10000 ^ k) : (dgs n).length ≤ k := by
  rcases Nat.lt_or_ge k (dgs n).length with z | z
  · have hne : dgs n ≠ [] := by intro e; rw [e] at z; simp at z
    have h1 := val_ge (B := 10000) hne (dgs_topped n)
    rw [dgs_val] at h1
    have h2 : 10000 ^ k ≤ 10000 ^ ((dgs n).length - 1) := Nat.pow_le_pow_right (by decide) (by omega)
    omega
  · exact z
theorem cW_app (l m : List Nat) : cW (l ++ m) = cW l ++ cW m := by simp [cW]
/-- A slice of a block that has more cells behind. -/
theorem SlW_pad {h : Heap} {b : Nat} {l m : List Nat} {rw : Bool} (hb : b < h.length) (e : h.get b = some ⟨cW (l ++ m), rw⟩) : SlW h (.slice (some ⟨b, 0, none⟩) l.length 1) l :=
  ⟨rfl, by simp, fun _ => rfl, .inr ⟨b, 0, l.length, 1, rfl, hb⟩, fun k hk => by
    simp only [slB_some, slO_some, Nat.zero_add]; rw [cell_get e, cW_app, List.getElem?_append_left (by simpa using hk)]⟩
theorem dgs_uniq' {l : List Nat} (h : digB 10000 l) (t : topped l) : l = dgs (val 10000 l) := by
  have u := dgs_uniq h
  generalize hk : l.length - (dgs (val 10000 l)).length = k at u
  cases k with
  | zero => simpa using u
  | succ k =>
    exfalso
    have hne : l ≠ [] := by intro e; rw [e] at hk; simp at hk
    have h1 := t hne
    apply h1
    generalize dgs (val 10000 l) = D at *
    subst u
    simp [List.replicate_succ']
end Go.Abs
