/- Consonances. -/
import Derived.Test.YtinbdefjjfmfoaaDoorAbsTHP
import Derived.Test.YtinbdefjjfmfoaaDoorAbsWpN
set_option linter.unusedSimpArgs false
set_option linter.unusedVariables false
/- Consonances. -/
namespace Go.Abs
namespace T
set_option maxRecDepth 100000
set_option maxHeartbeats 0
def ratL : List (Int × (Int × Int)) := [(3, (6, 5)), (4, (5, 4)), (5, (4, 3)), (7, (3, 2)), (8, (8, 5)), (9, (5, 3)), (12, (2, 1)), (15, (12, 5)), (16, (5, 2)), (17, (8, 3)), (19, (3, 1)), (24, (4, 1)), (28, (5, 1))]
def evR (x : Int × Int) : Value := .agg #[i64 x.1, i64 x.2]
def ekI (x : Int) : Value := i64 x
def ratV (s : Int) : Int × Int := (mLook ratL s).getD (0, 0)
theorem c100 {d lim : Nat} {h : Heap} : E.call (d + 1) lim 100 [] h = some (.map (some h.length), h ++ [some ⟨encMap ekI evR ratL, true⟩]) := by
  refine call_pure fn100 rfl (by simp [ef100]) ?_
  have hn : (encMap ekI evR ratL).all (lowV 0 4) = true := by decide +kernel
  simp [encMap, ratL, ekI, evR] at hn
  simp [ef100, E.mapPut, E.mapFind, E.sameKey, encMap, ratL, ekI, evR, lowV_tup]
theorem rat_get (s : Int) : E.mapVal (i64 s) (encMap ekI evR ratL) = some ((mLook ratL s).map evR) := mapVal_enc (ek := ekI) (fun a b => sameKey_i64 a b) ratL s
theorem c37 {d lim : Nat} {h : Heap} {s : Int} : E.call (d + 2) lim 37 [i64 s] h = some (.tuple #[i64 (ratV s).1, i64 (ratV s).2, i64 (if (mLook ratL s).isSome = true then 0 else 12)], h) := by
  refine call1 fn37 rfl (by simp [ef37]) ?_
  have k := rat_get s
  rcases e : mLook ratL s with _ | ⟨p, q⟩
  · rw [e] at k
    have e2 : ratV s = (0, 0) := by simp [ratV, e]
    simp [ef37, c100, k, e2]
  · rw [e] at k
    have e2 : ratV s = (p, q) := by simp [ratV, e]
    simp [ef37, c100, k, e2, evR]
theorem c39 {d lim : Nat} {h : Heap} {s : Int} : E.call (d + 1) lim 39 [i64 s] h = some (.tuple #[i64 (ratV s).1, i64 (ratV s).2], h) := by
  refine call1 fn39 rfl (by simp [ef39]) ?_
  by_cases h3 : s = 3
  · subst h3; simp [ef39, ratV, ratL, mLook]
  by_cases h4 : s = 4
  · subst h4; simp [ef39, ratV, ratL, mLook]
  by_cases h5 : s = 5
  · subst h5; simp [ef39, ratV, ratL, mLook]
  by_cases h7 : s = 7
  · subst h7; simp [ef39, ratV, ratL, mLook]
  by_cases h8 : s = 8
  · subst h8; simp [ef39, ratV, ratL, mLook]
  by_cases h9 : s = 9
  · subst h9; simp [ef39, ratV, ratL, mLook]
  by_cases h12 : s = 12
  · subst h12; simp [ef39, ratV, ratL, mLook]
  by_cases h15 : s = 15
  · subst h15; simp [ef39, ratV, ratL, mLook]
  by_cases h16 : s = 16
  · subst h16; simp [ef39, ratV, ratL, mLook]
  by_cases h17 : s = 17
  · subst h17; simp [ef39, ratV, ratL, mLook]
  by_cases h19 : s = 19
  · subst h19; simp [ef39, ratV, ratL, mLook]
  by_cases h24 : s = 24
  · subst h24; simp [ef39, ratV, ratL, mLook]
  by_cases h28 : s = 28
  · subst h28; simp [ef39, ratV, ratL, mLook]
  simp [ef39, ratV, ratL, mLook, h3, h4, h5, h7, h8, h9, h12, h15, h16, h17, h19, h24, h28]
end T
end Go.Abs
/- All tests of a consonance; the law TemperTests. -/
namespace Go.Abs
namespace T
set_option maxRecDepth 100000
set_option maxHeartbeats 0
theorem mLook_mem {κ ν : Type} [DecidableEq κ] : ∀ {l : List (κ × ν)} {k : κ} {v : ν}, mLook l k = some v → (k, v) ∈ l
  | [], _, _, h => by cases h
  | p :: r, k, v, h => by
    simp only [mLook] at h
    split at h
    · rename_i e
      have : p.2 = v := Option.some.inj h
      rw [← this, e]; simp
    · exact List.mem_cons_of_mem _ (mLook_mem h)
theorem rat_ok {s : Int} {p q : Int} (h : mLook ratL s = some (p, q)) : (3 ≤ s ∧ s ≤ 28) ∧ (1 ≤ p ∧ p ≤ 16) ∧ (1 ≤ q ∧ q ≤ 16) ∧ facB p.toNat = true ∧ facB q.toNat = true := by
  have hm := mLook_mem h
  have hall : ∀ x ∈ ratL, (3 ≤ x.1 ∧ x.1 ≤ 28) ∧ (1 ≤ x.2.1 ∧ x.2.1 ≤ 16) ∧ (1 ≤ x.2.2 ∧ x.2.2 ≤ 16) ∧ facB x.2.1.toNat = true ∧ facB x.2.2.toNat = true := by decide
  exact hall _ hm
def tsL (s : Nat) (p q : Int) (lo : Nat) : Nat → List X4
  | 0 => []
  | k + 1 => tsL s p q lo k ++ [(((lo + k : Nat) : Int), ((lo + k + s : Nat) : Int), p, q)]
theorem tsL_len (s : Nat) (p q : Int) (lo : Nat) : ∀ k, (tsL s p q lo k).length = k
  | 0 => rfl
  | k + 1 => by simp [tsL, tsL_len s p q lo k]
theorem tsL_at (s : Nat) (p q : Int) (lo : Nat) : ∀ k i, i < k → atX (tsL s p q lo k) i = (((lo + i : Nat) : Int), ((lo + i + s : Nat) : Int), p, q)
  | 0, i, h => by omega
  | k + 1, i, h => by
    have ll := tsL_len s p q lo k
    unfold atX
    simp only [tsL]
    by_cases e : i < k
    · rw [List.getElem?_append_left (by omega)]; exact tsL_at s p q lo k i e
    · have : i = k := by omega
      subst this
      rw [List.getElem?_append_right (by omega), ll, Nat.sub_self]; rfl
theorem cX_snoc (l : List X4) (a b c e : Int) : cX l ++ [i64 a, i64 b, i64 c, i64 e] = cX (l ++ [(a, b, c, e)]) := by simp [cX, cS, encX]
/-- The slice of all tests. -/
def conV (n k : Nat) : Value := if k = 0 then .slice none 0 0 else .slice (some ⟨n, 0, none⟩) k 4
def conB (s : Nat) (p q : Int) (lo k : Nat) : List (Option Blk) := if k = 0 then [] else [some ⟨cX (tsL s p q lo k), true⟩]
theorem c38n {d lim : Nat} {h : Heap} {s lo hi : Int} (hr : mLook ratL s = none) : E.call (d + 2) lim 38 [i64 s, i64 lo, i64 hi] h = some (.tuple #[.slice none 0 0, i64 12], h) := by
  refine call1 fn38 rfl (by simp [ef38]) ?_
  have k := rat_get s
  rw [hr] at k
  simp [ef38, c100, k]
theorem c38r {d lim : Nat} {h : Heap} {s lo hi : Int} {v : Int × Int} (hr : mLook ratL s = some v) (hn : isNote lo = true → isNote hi = false) : E.call (d + 2) lim 38 [i64 s, i64 lo, i64 hi] h = some (.tuple #[.slice none 0 0, i64 2], h) := by
  refine call1 fn38 rfl (by simp [ef38]) ?_
  have k := rat_get s
  rw [hr] at k
  by_cases q : isNote lo = true
  · simp [ef38, c100, k, evR, c85, q, hn q]
  · simp [ef38, c100, k, evR, c85, q]
theorem c38o {d lim : Nat} {h : Heap} {s lo hi : Int} {v : Int × Int} (hr : mLook ratL s = some v) (h1 : isNote lo = true) (h2 : isNote hi = true) (h3 : hi < lo) : E.call (d + 2) lim 38 [i64 s, i64 lo, i64 hi] h = some (.tuple #[.slice none 0 0, i64 9], h) := by
  refine call1 fn38 rfl (by simp [ef38]) ?_
  have k := rat_get s
  rw [hr] at k
  simp [ef38, c100, k, evR, c85, h1, h2, h3]
theorem c38 {d lim : Nat} {h : Heap} {s lo hi : Nat} {p q : Int} (hr : mLook ratL (s : Int) = some (p, q)) (h1 : lo ≤ 87) (h2 : hi ≤ 87) (h3 : lo ≤ hi) :
    E.call (d + 2) lim 38 [i64 s, i64 lo, i64 hi] h = some (.tuple #[conV h.length (hi + 1 - (lo + s)), i64 0], h ++ conB s p q lo (hi + 1 - (lo + s))) := by
  refine call_pure fn38 rfl (by simp [ef38]) ?_
  have k := rat_get s
  rw [hr] at k
  have n1 := isNote_mk h1
  have n2 := isNote_mk h2
  have h3' : (lo : Int) ≤ hi := by omega
  obtain ⟨⟨r1, r2⟩, _⟩ := rat_ok hr
  simp [ef38, c100, k, evR, c85, n1, n2, h3', Int.not_lt.2 h3']
  refine wpC_loop (fun m st => ∃ i g : Nat, m = 88 - i ∧ i ≤ hi + 1 - (lo + s) ∧ g = lo + i ∧ st = ⟨[(0, i64 s), (2, i64 hi), (8, .pointer (some ⟨h.length, 0, none⟩)), (10, conV (h.length + 1) i), (11, i64 (g : Int))], h.freeze ++ ([some ⟨[i64 p, i64 q], true⟩] ++ conB s p q lo i)⟩) 88 (by show 88 < 2 ^ 64; omega) ?_ ?_
  · simp [St.tidy]
    exact ⟨0, by omega, by omega, ⟨rfl, by omega⟩, rfl⟩
  · rintro m hm _ ⟨i, g, rfl, hi', hg, rfl⟩
    have ws : IntKind.wrap .i64 ((g : Int) + (s : Int)) = ((g + s : Nat) : Int) := by rw [wrap_eq (by omega) (by omega)]; rfl
    have w1' := w1 (i := g) (by omega)
    simp only [W] at w1'
    have bl : (cX (tsL s p q lo i)).length = i * 4 := by rw [cX_len, tsL_len]
    have bp' := cX_plain (tsL s p q lo (i + 1))
    have bp := cX_plain (tsL s p q lo i)
    have hsn : cX (tsL s p q lo i) ++ [i64 (g : Int), i64 ((g + s : Nat) : Int), i64 p, i64 q] = cX (tsL s p q lo (i + 1)) := by rw [cX_snoc, hg]; rfl
    by_cases hlt : i < hi + 1 - (lo + s)
    · have hle : ((g + s : Nat) : Int) ≤ hi := by omega
      generalize hG : g + s = G at *
      rcases Nat.eq_zero_or_pos i with z | z
      · subst z
        have hs0 : [i64 (g : Int), i64 (G : Int), i64 p, i64 q] = cX (tsL s p q lo 1) := by rw [← hsn]; rfl
        simp [conV, conB, ws, hle, w1', E.append, E.added, Value.oneCell', maxLen, St.tidy, Nat.add_assoc]
        exact ⟨87, by omega, 1, by omega, by omega, ⟨by simp, by omega⟩, by rw [if_neg (by omega)]; exact congrArg (fun c => [some (Blk.mk c true)]) hs0⟩
      · have z0 : i ≠ 0 := by omega
        simp [conV, conB, ws, hle, w1', z0, bl, hsn, bp', E.append, E.added, Value.oneCell', maxLen, St.tidy, Nat.add_assoc]
        exact ⟨⟨by omega, by omega⟩, 87 - i, by omega, i + 1, by omega, by omega, ⟨by simp, by omega⟩, by simp⟩
    · obtain rfl : i = hi + 1 - (lo + s) := by omega
      have hle : ¬ ((g + s : Nat) : Int) ≤ hi := by omega
      generalize g + s = G at *
      generalize hi + 1 - (lo + s) = K at *
      rcases Nat.eq_zero_or_pos K with z | z
      · subst z
        simp [conV, conB, ws, hle]
      · have z0 : K ≠ 0 := by omega
        simp [conV, conB, ws, hle, z0, bp]
theorem c41 {d lim : Nat} {h : Heap} {s lo hi : Nat} {p q : Int} (hr : mLook ratL (s : Int) = some (p, q)) (h1 : lo ≤ 87) (h2 : hi ≤ 87) (h3 : lo ≤ hi) :
    E.call (d + 2) lim 41 [i64 s, i64 lo, i64 hi] h = some (conV h.length (hi + 1 - (lo + s)), h ++ conB s p q lo (hi + 1 - (lo + s))) := by
  refine call_pure fn41 rfl (by simp [ef41]) ?_
  have k39 := fun lim hh => @c39 d lim hh (s : Int)
  have e2 : ratV (s : Int) = (p, q) := by simp [ratV, hr]
  rw [e2] at k39
  obtain ⟨⟨r1, r2⟩, _⟩ := rat_ok hr
  simp [ef41, k39]
  refine wpC_loop (fun m st => ∃ i g : Nat, m = 88 - i ∧ i ≤ hi + 1 - (lo + s) ∧ g = lo + i ∧ st = ⟨[(0, i64 s), (2, i64 hi), (7, i64 p), (8, i64 q), (9, conV h.length i), (10, i64 (g : Int))], h.freeze ++ conB s p q lo i⟩) 88 (by show 88 < 2 ^ 64; omega) ?_ ?_
  · simp [St.tidy]
    exact ⟨0, by omega, by omega, ⟨rfl, by omega⟩, rfl⟩
  · rintro m hm _ ⟨i, g, rfl, hi', hg, rfl⟩
    have ws : IntKind.wrap .i64 ((g : Int) + (s : Int)) = ((g + s : Nat) : Int) := by rw [wrap_eq (by omega) (by omega)]; rfl
    have w1' := w1 (i := g) (by omega)
    simp only [W] at w1'
    have bl : (cX (tsL s p q lo i)).length = i * 4 := by rw [cX_len, tsL_len]
    have bp' := cX_plain (tsL s p q lo (i + 1))
    have bp := cX_plain (tsL s p q lo i)
    have hsn : cX (tsL s p q lo i) ++ [i64 (g : Int), i64 ((g + s : Nat) : Int), i64 p, i64 q] = cX (tsL s p q lo (i + 1)) := by rw [cX_snoc, hg]; rfl
    by_cases hlt : i < hi + 1 - (lo + s)
    · have hle : ((g + s : Nat) : Int) ≤ hi := by omega
      generalize hG : g + s = G at *
      rcases Nat.eq_zero_or_pos i with z | z
      · subst z
        have hs0 : [i64 (g : Int), i64 (G : Int), i64 p, i64 q] = cX (tsL s p q lo 1) := by rw [← hsn]; rfl
        simp [conV, conB, ws, hle, w1', E.append, E.added, Value.oneCell', maxLen, St.tidy, Nat.add_assoc]
        exact ⟨87, by omega, 1, by omega, by omega, ⟨by simp, by omega⟩, by rw [if_neg (by omega)]; exact congrArg (fun c => [some (Blk.mk c true)]) hs0⟩
      · have z0 : i ≠ 0 := by omega
        simp [conV, conB, ws, hle, w1', z0, bl, hsn, bp', E.append, E.added, Value.oneCell', maxLen, St.tidy, Nat.add_assoc]
        exact ⟨⟨by omega, by omega⟩, 87 - i, by omega, i + 1, by omega, by omega, ⟨by simp, by omega⟩, by simp⟩
    · obtain rfl : i = hi + 1 - (lo + s) := by omega
      have hle : ¬ ((g + s : Nat) : Int) ≤ hi := by omega
      generalize g + s = G at *
      generalize hi + 1 - (lo + s) = K at *
      rcases Nat.eq_zero_or_pos K with z | z
      · subst z
        simp [conV, conB, ws, hle]
      · have z0 : K ≠ 0 := by omega
        simp [conV, conB, ws, hle, z0, bp]
theorem atX_inj {l r : List X4} (hl : l.length = r.length) (h : ∀ j, j < l.length → atX l j = atX r j) : l = r := by
  apply List.ext_getElem?
  intro j
  by_cases hj : j < l.length
  · have := h j hj
    unfold atX at this
    rw [List.getElem?_eq_getElem hj, List.getElem?_eq_getElem (by omega)] at this
    rw [List.getElem?_eq_getElem hj, List.getElem?_eq_getElem (by omega)]
    exact congrArg some this
  · rw [List.getElem?_eq_none (by omega), List.getElem?_eq_none (by omega)]
theorem c40 {d lim : Nat} {h : Heap} {v w : Value} {l r : List X4} (s : SlX h v l) (t : SlX h w r) (hl : l.length < 100000) : E.call (d + 1) lim 40 [v, w] h = some (.bool (decide (l = r)), h) := by
  have rs := s.rules2
  have rt := t.rules2
  refine call1 fn40 rfl (by simp [ef40]) ?_
  by_cases hlen : l.length = r.length
  · simp [ef40, rs, rt, hlen]
    refine wpC_loop (fun q st => ∃ i : Nat, q = l.length - i ∧ i ≤ l.length ∧ (∀ j, j < i → atX l j = atX r j) ∧ st = ⟨[(0, v), (1, w), (5, i64 i)], h.freeze⟩) l.length (by show l.length < 2 ^ 64; omega) ?_ ?_
    · simp [St.tidy, rs, rt]
      exact ⟨0, by omega, by omega, fun j hj => absurd hj (by omega), rfl⟩
    · rintro q hq _ ⟨i, rfl, hi, hb, rfl⟩
      by_cases hlt : i < l.length
      · have hlt' : i < r.length := by omega
        have w1' := w1 (i := i) (by omega)
        simp only [W] at w1'
        have p1 := cX_part hlt
        have p2 := cX_part hlt'
        have k1 : i * 4 + 4 ≤ l.length * 4 := by omega
        have k2 : i * 4 + 4 ≤ r.length * 4 := by omega
        have h4 : (i : Int) < l.length := by omega
        have h4' : (i : Int) < r.length := by omega
        by_cases q1 : atX l i = atX r i
        · have nx : ∀ j, j < i + 1 → atX l j = atX r j := fun j hj => by
            by_cases e : j = i
            · rw [e, q1]
            · exact hb j (by omega)
          rw [q1] at p1
          simp [h4, h4', rs, rt, k1, k2, p1, p2, w1', St.tidy]
          exact ⟨fun _ => ⟨l.length - (i + 1), by omega, i + 1, by omega, by omega, nx, by omega⟩, fun z => absurd z (by omega)⟩
        · have ne : ¬ l = r := fun q => by subst q; exact q1 rfl
          have nq : ¬ ((atX l i).1 = (atX r i).1 ∧ (atX l i).2.1 = (atX r i).2.1 ∧ (atX l i).2.2.1 = (atX r i).2.2.1 ∧ (atX l i).2.2.2 = (atX r i).2.2.2) := fun q => q1 (Prod.ext q.1 (Prod.ext q.2.1 (Prod.ext q.2.2.1 q.2.2.2)))
          simp [h4, h4', rs, rt, k1, k2, p1, p2, ne]
          exact ⟨fun _ e1 e2 e3 e4 => absurd ⟨e1, e2, e3, e4⟩ nq, hlt⟩
      · obtain rfl : i = l.length := by omega
        have eq : l = r := atX_inj hlen hb
        subst eq
        simp [rs]
  · have ne : ¬ l = r := fun q => hlen (by rw [q])
    have ne2 : ¬ ((l.length : Int) = (r.length : Int)) := by omega
    simp [ef40, rs, rt, ne, ne2]
end T
end Go.Abs
