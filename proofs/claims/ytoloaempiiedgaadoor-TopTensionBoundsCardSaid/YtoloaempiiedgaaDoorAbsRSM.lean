--
import Derived.Test.YtoloaempiiedgaaDoorAbsRGM
import Derived.Test.YtoloaempiiedgaaDoorAbsWpM
import Derived.Test.YtoloaempiiedgaaDoorAbsWpN
set_option linter.unusedSimpArgs false
set_option linter.unusedVariables false
namespace Go.Abs
abbrev Bd := Nat × Nat × Int
structure RS where
 x : List Int
 by_ : List Nat
 low : Option Nat
def gx (x : List Int) (v : Nat) : Int := x.getD v 0
def gb (b : List Nat) (v : Nat) : Nat := b.getD v 0
def stepR (s : RS) (i : Nat) (b : Bd) : RS :=
 if gx s.x b.1 + b.2.2 < gx s.x b.2.1 then ⟨s.x.set b.2.1 (gx s.x b.1 + b.2.2), s.by_.set b.2.1 i, some b.2.1⟩ else s
def relF (l : List Bd) (s : RS) : Nat → RS
 | 0 => s
 | k + 1 => match l[k]? with
  | some b => stepR (relF l s k) k b
  | none => relF l s k
def relax (l : List Bd) (x : List Int) (b : List Nat) : RS := relF l ⟨x, b, none⟩ l.length
structure Good (n : Nat) (l : List Bd) : Prop where
 rng : ∀ i (h : i < l.length), l[i].1 < n ∧ l[i].2.1 < n ∧ -1000000000 ≤ l[i].2.2 ∧ l[i].2.2 ≤ 1000000000
structure Sys (n : Nat) (l : List Bd) (k i : Nat) (s : RS) (rd T : Nat → Nat) (c : Nat) : Prop where
 lx : s.x.length = n
 lb : s.by_.length = n
 bys : ∀ v, v < n → gb s.by_ v < l.length ∨ gb s.by_ v = 0
 by_ok : ∀ v, v < n → 1 ≤ rd v → ∃ h : gb s.by_ v < l.length, l[gb s.by_ v].2.1 = v ∧
  (gx s.x l[gb s.by_ v].1 + l[gb s.by_ v].2.2 < gx s.x v ∨ (gx s.x l[gb s.by_ v].1 + l[gb s.by_ v].2.2 = gx s.x v ∧ T l[gb s.by_ v].1 < T v)) ∧ rd v ≤ rd l[gb s.by_ v].1 + 1
 t0 : ∀ v, rd v = 0 → T v = 0
 tc : ∀ v, T v ≤ c
 rk : ∀ v, rd v ≤ k
 done_ : ∀ j (h : j < l.length), j < i → rd l[j].1 < k → gx s.x l[j].2.1 ≤ gx s.x l[j].1 + l[j].2.2
 todo : ∀ j (h : j < l.length), i ≤ j → rd l[j].1 + 1 < k → gx s.x l[j].2.1 ≤ gx s.x l[j].1 + l[j].2.2
 bd : ∀ v, v < n → -1000000000 * (c : Int) ≤ gx s.x v ∧ gx s.x v ≤ 0
 lowS : ∀ v, s.low = some v → v < n ∧ rd v = k
 lowN : s.low = none → ∀ v, v < n → rd v < k
theorem gx_set {x : List Int} {v u : Nat} {a : Int} (h : v < x.length) : gx (x.set v a) u = if v = u then a else gx x u := by
 unfold gx
 rw [List.getD_eq_getElem?_getD, List.getD_eq_getElem?_getD, List.getElem?_set]
 by_cases e : v = u
 ·subst e; rw [if_pos rfl, if_pos rfl, if_pos h]; rfl
 ·rw [if_neg e, if_neg e]
theorem gb_set {x : List Nat} {v u a : Nat} (h : v < x.length) : gb (x.set v a) u = if v = u then a else gb x u := by
 unfold gb
 rw [List.getD_eq_getElem?_getD, List.getD_eq_getElem?_getD, List.getElem?_set]
 by_cases e : v = u
 ·subst e; rw [if_pos rfl, if_pos rfl, if_pos h]; rfl
 ·rw [if_neg e, if_neg e]
theorem Sys.step {n : Nat} {l : List Bd} {k i : Nat} {s : RS} {rd T : Nat → Nat} {c : Nat} (G : Good n l) (S : Sys n l k i s rd T c) (hi : i < l.length) (hk : 1 ≤ k) :
  ∃ rd' T', Sys n l k (i + 1) (stepR s i l[i]) rd' T' (c + 1) := by
 obtain ⟨gf, gt, gm1, gm2⟩ := G.rng i hi
 unfold stepR
 by_cases q : gx s.x l[i].1 + l[i].2.2 < gx s.x l[i].2.1
 ·rw [if_pos q]
  generalize hu : l[i].1 = u at *
  generalize hv : l[i].2.1 = v at *
  generalize hm : l[i].2.2 = m at *
  have hvx : v < s.x.length := by rw [S.lx]; exact gt
  have hvb : v < s.by_.length := by rw [S.lb]; exact gt
  have hru : k ≤ rd u + 1 := by
   rcases Nat.lt_or_ge (rd u + 1) k with z | z
   ·have := S.todo i hi (Nat.le_refl i) (by rw [hu]; exact z)
    rw [hu, hv, hm] at this; omega
   ·exact z
  refine ⟨fun w => if w = v then k else rd w, fun w => if w = v then c + 1 else T w, ?_⟩
  have gX : ∀ w, gx (s.x.set v (gx s.x u + m)) w = if v = w then gx s.x u + m else gx s.x w := fun w => gx_set hvx
  have gB : ∀ w, gb (s.by_.set v i) w = if v = w then i else gb s.by_ w := fun w => gb_set hvb
  have gle : ∀ w, gx (s.x.set v (gx s.x u + m)) w ≤ gx s.x w := fun w => by
   rw [gX]; split
   ·rename_i e; subst e; omega
   ·omega
  refine ⟨by simp [S.lx], by simp [S.lb], fun w hw => ?_, fun w hw h1 => ?_, fun w h0 => ?_, fun w => ?_, fun w => ?_, fun j hj hlt h1 => ?_, fun j hj hge h1 => ?_, fun w hw => ?_, fun w hw => ?_, fun q => by cases q⟩
  ·simp only [gB]; split
   ·exact .inl hi
   ·exact S.bys w hw
  ·simp only [gB]
   by_cases e : v = w
   ·subst e
    simp only [if_pos]
    refine ⟨hi, hv, ?_, ?_⟩
    ·rw [gX, gX, hu, hm, if_pos rfl]
     by_cases e2 : v = u
     ·subst e2
      rw [if_pos rfl]; left; omega
     ·rw [if_neg e2]; right
      refine ⟨rfl, ?_⟩
      rw [if_neg (fun z => e2 z.symm)]
      have := S.tc u; omega
    ·rw [hu]; split <;> omega
   ·simp only [if_neg e]
    have e' : ¬ w = v := fun z => e z.symm
    simp only [if_neg e'] at h1 ⊢
    obtain ⟨p1, p2, p3, p4⟩ := S.by_ok w hw h1
    refine ⟨p1, p2, ?_, ?_⟩
    ·have hgw : gx (s.x.set v (gx s.x u + m)) w = gx s.x w := by rw [gX, if_neg e]
     rw [hgw]
     generalize l[gb s.by_ w].1 = a at *
     rw [gX a]
     by_cases e3 : v = a
     ·subst e3
      rw [if_pos rfl]; left
      rcases p3 with z | z <;> omega
     ·have ne3 : ¬ a = v := fun z => e3 z.symm
      simp only [if_neg e3, if_neg ne3]; exact p3
    ·split
     ·have := S.rk w; omega
     ·exact p4
  ·try simp only at h0 ⊢
   split at h0
   ·omega
   ·rename_i e; rw [if_neg e]; exact S.t0 w h0
  ·try simp only
   split
   ·omega
   ·have := S.tc w; omega
  ·try simp only
   split
   ·omega
   ·exact S.rk w
  ·try simp only at h1
   split at h1
   ·omega
   ·rename_i e
    have hx1 : gx (s.x.set v (gx s.x u + m)) l[j].1 = gx s.x l[j].1 := by rw [gX, if_neg (fun z => e z.symm)]
    rw [hx1]
    by_cases ej : j = i
    ·subst ej
     rw [hu, hv, hm, gX, if_pos rfl]; omega
    ·have := S.done_ j hj (by omega) h1
     have := gle l[j].2.1
     show gx (s.x.set v (gx s.x u + m)) l[j].2.1 ≤ gx s.x l[j].1 + l[j].2.2
     omega
  ·try simp only at h1
   split at h1
   ·omega
   ·rename_i e
    have hx1 : gx (s.x.set v (gx s.x u + m)) l[j].1 = gx s.x l[j].1 := by rw [gX, if_neg (fun z => e z.symm)]
    rw [hx1]
    have := S.todo j hj (by omega) h1
    have := gle l[j].2.1
    show gx (s.x.set v (gx s.x u + m)) l[j].2.1 ≤ gx s.x l[j].1 + l[j].2.2
    omega
  ·have b1 := S.bd w hw
   have b2 := S.bd u gf
   have b3 := S.bd v gt
   rw [gX]; split <;> constructor <;> omega
  ·cases hw; exact ⟨gt, by simp⟩
 ·rw [if_neg q]
  refine ⟨rd, T, S.lx, S.lb, S.bys, S.by_ok, S.t0, fun v => by have := S.tc v; omega, S.rk, fun j hj hlt h1 => ?_, fun j hj hge h1 => S.todo j hj (by omega) h1, fun v hv => by have := S.bd v hv; constructor <;> omega, S.lowS, S.lowN⟩
  by_cases ej : j = i
  ·subst ej; omega
  ·exact S.done_ j hj (by omega) h1
theorem Sys.round {n : Nat} {l : List Bd} {k : Nat} {s : RS} {rd T : Nat → Nat} {c : Nat} (G : Good n l) (S : Sys n l k 0 s rd T c) (hk : 1 ≤ k) : ∀ i, i ≤ l.length →
  ∃ rd' T', Sys n l k i (relF l s i) rd' T' (c + i)
 | 0, _ => ⟨rd, T, S⟩
 | i + 1, h => by
  obtain ⟨rd', T', S'⟩ := Sys.round G S hk i (by omega)
  have e : relF l s (i + 1) = stepR (relF l s i) i l[i] := by simp [relF, List.getElem?_eq_getElem (show i < l.length from h)]
  rw [e]
  exact S'.step G h hk
theorem Sys.next {n : Nat} {l : List Bd} {k : Nat} {s : RS} {rd T : Nat → Nat} {c : Nat} (S : Sys n l k l.length s rd T c) : Sys n l (k + 1) 0 ⟨s.x, s.by_, none⟩ rd T c :=
 ⟨S.lx, S.lb, S.bys, S.by_ok, S.t0, S.tc, fun v => by have := S.rk v; omega, fun j hj h => by omega, fun j hj _ h1 => S.done_ j hj hj (by omega), S.bd, fun v q => (by cases q), fun _ v _ => by have := S.rk v; omega⟩
def zerosI (n : Nat) : List Int := List.replicate n 0
def zerosN (n : Nat) : List Nat := List.replicate n 0
theorem gx_zeros (n v : Nat) : gx (zerosI n) v = 0 := by
 unfold gx zerosI; rw [List.getD_eq_getElem?_getD, List.getElem?_replicate]; split <;> rfl
theorem gb_zeros (n v : Nat) : gb (zerosN n) v = 0 := by
 unfold gb zerosN; rw [List.getD_eq_getElem?_getD, List.getElem?_replicate]; split <;> rfl
theorem Sys.start (n : Nat) (l : List Bd) : Sys n l 1 0 ⟨zerosI n, zerosN n, none⟩ (fun _ => 0) (fun _ => 0) 0 :=
 ⟨by simp [zerosI], by simp [zerosN], fun v _ => .inr (gb_zeros n v), fun v _ h => by omega, fun _ _ => rfl, fun _ => Nat.le_refl 0, fun _ => by omega, fun j _ h => by omega, fun j _ _ h => by omega,
  fun v _ => by simp only [gx_zeros]; omega, fun v q => (by cases q), fun _ v _ => by omega⟩
theorem Sys.solved {n : Nat} {l : List Bd} {k : Nat} {s : RS} {rd T : Nat → Nat} {c : Nat} (G : Good n l) (S : Sys n l k l.length s rd T c) (h : s.low = none) : ∀ j (hj : j < l.length), gx s.x l[j].2.1 ≤ gx s.x l[j].1 + l[j].2.2 :=
 fun j hj => S.done_ j hj hj (S.lowN h _ (G.rng j hj).1)
def prev (l : List Bd) (b : List Nat) (v : Nat) : Nat := match l[gb b v]? with
 | some e => e.1
 | none => 0
def wgt (l : List Bd) (b : List Nat) (v : Nat) : Int := match l[gb b v]? with
 | some e => e.2.2
 | none => 0
def back (l : List Bd) (b : List Nat) (v : Nat) : Nat → Nat
 | 0 => v
 | k + 1 => prev l b (back l b v k)
def sumB (l : List Bd) (b : List Nat) (v : Nat) : Nat → Int
 | 0 => 0
 | k + 1 => sumB l b v k + wgt l b (back l b v k)
theorem Sys.prev_ok {n : Nat} {l : List Bd} {k i : Nat} {s : RS} {rd T : Nat → Nat} {c : Nat} (G : Good n l) (S : Sys n l k i s rd T c) {v : Nat} (hv : v < n) (h1 : 1 ≤ rd v) :
  prev l s.by_ v < n ∧ rd v ≤ rd (prev l s.by_ v) + 1 ∧ (gx s.x (prev l s.by_ v) + wgt l s.by_ v) * ((c : Int) + 1) + T (prev l s.by_ v) + 1 ≤ gx s.x v * ((c : Int) + 1) + T v := by
 obtain ⟨p1, p2, p3, p4⟩ := S.by_ok v hv h1
 have e1 : prev l s.by_ v = l[gb s.by_ v].1 := by simp [prev, p1]
 have e2 : wgt l s.by_ v = l[gb s.by_ v].2.2 := by simp [wgt, p1]
 rw [e1, e2]
 refine ⟨(G.rng _ p1).1, p4, ?_⟩
 generalize l[gb s.by_ v].1 = u at *
 generalize l[gb s.by_ v].2.2 = m at *
 have t1 := S.tc u
 rcases p3 with z | ⟨z, t⟩
 ·have h2 : (gx s.x u + m + 1) * ((c : Int) + 1) ≤ gx s.x v * ((c : Int) + 1) := Int.mul_le_mul_of_nonneg_right (by omega) (by omega)
  rw [Int.add_mul (gx s.x u + m) 1] at h2
  omega
 ·rw [z]; omega
theorem Sys.cycle_neg {n : Nat} {l : List Bd} {k i : Nat} {s : RS} {rd T : Nat → Nat} {c : Nat} (G : Good n l) (S : Sys n l k i s rd T c) {v m : Nat} (hm : 1 ≤ m) (hv : ∀ j, j < m → back l s.by_ v j < n ∧ 1 ≤ rd (back l s.by_ v j)) (hc : back l s.by_ v m = v) : sumB l s.by_ v m < 0 := by
 have key : ∀ j, j ≤ m → (gx s.x (back l s.by_ v j) + sumB l s.by_ v j) * ((c : Int) + 1) + T (back l s.by_ v j) + j ≤ gx s.x v * ((c : Int) + 1) + T v := by
  intro j
  induction j with
  | zero => intro _; simp [back, sumB]
  | succ j ih =>
   intro hj
   have h1 := ih (by omega)
   obtain ⟨a1, a2⟩ := hv j (by omega)
   obtain ⟨_, _, h2⟩ := S.prev_ok G a1 a2
   simp only [back, sumB]
   generalize back l s.by_ v j = u at *
   have e : (gx s.x (prev l s.by_ u) + (sumB l s.by_ v j + wgt l s.by_ u)) * ((c : Int) + 1) = (gx s.x (prev l s.by_ u) + wgt l s.by_ u) * ((c : Int) + 1) + sumB l s.by_ v j * ((c : Int) + 1) := by
    rw [← Int.add_mul]; congr 1; omega
   rw [e]
   rw [Int.add_mul (gx s.x u)] at h1
   omega
 have h := key m (Nat.le_refl m)
 rw [hc, Int.add_mul] at h
 rcases Int.lt_or_le (sumB l s.by_ v m) 0 with z | z
 ·exact z
 ·have := Int.mul_nonneg z (show 0 ≤ (c : Int) + 1 by omega)
  omega
end Go.Abs
namespace Go.Abs
def iterR (l : List Bd) (n : Nat) : Nat → RS
 | 0 => ⟨zerosI n, zerosN n, none⟩
 | k + 1 => relax l (iterR l n k).x (iterR l n k).by_
theorem iter_sys {n : Nat} {l : List Bd} (G : Good n l) : ∀ k, ∃ rd T, Sys n l (k + 1) l.length (iterR l n (k + 1)) rd T ((k + 1) * l.length)
 | 0 => by
  obtain ⟨rd, T, S⟩ := Sys.round G (Sys.start n l) (Nat.le_refl 1) l.length (Nat.le_refl _)
  refine ⟨rd, T, ?_⟩
  have e : 0 + l.length = (0 + 1) * l.length := by omega
  rw [e] at S
  exact S
 | k + 1 => by
  obtain ⟨rd, T, S⟩ := iter_sys G k
  obtain ⟨rd', T', S'⟩ := Sys.round G (Sys.next S) (by omega) l.length (Nat.le_refl _)
  refine ⟨rd', T', ?_⟩
  have e : (k + 1) * l.length + l.length = (k + 1 + 1) * l.length := (Nat.succ_mul (k + 1) l.length).symm
  rw [e] at S'
  exact S'
theorem pigeon : ∀ (n : Nat) (f : Nat → Nat), (∀ i, i ≤ n → f i < n) → ∃ i j, i < j ∧ j ≤ n ∧ f i = f j
 | 0, f, h => absurd (h 0 (Nat.le_refl 0)) (by omega)
 | n + 1, f, h => by
  by_cases q : ∃ i, i ≤ n ∧ f i = f (n + 1)
  ·obtain ⟨i, hi, e⟩ := q
   exact ⟨i, n + 1, by omega, Nat.le_refl _, e⟩
  ·have hn := h (n + 1) (Nat.le_refl _)
   have ne : ∀ i, i ≤ n → f i ≠ f (n + 1) := fun i hi e => q ⟨i, hi, e⟩
   obtain ⟨i, j, h1, h2, h3⟩ := pigeon n (fun i => if f i < f (n + 1) then f i else f i - 1) (fun i hi => by
    have a := ne i hi
    have b := h i (by omega)
    try dsimp only
    split <;> omega)
   refine ⟨i, j, h1, by omega, ?_⟩
   have a := ne i (by omega)
   have b := ne j h2
   try dsimp only at h3
   split at h3 <;> split at h3 <;> omega
theorem back_add (l : List Bd) (b : List Nat) (v n : Nat) : ∀ k, back l b (back l b v n) k = back l b v (n + k)
 | 0 => rfl
 | k + 1 => by
  show prev l b (back l b (back l b v n) k) = prev l b (back l b v (n + k))
  rw [back_add l b v n k]
structure Cyc (n : Nat) (l : List Bd) (b : List Nat) (w p : Nat) : Prop where
 p1 : 1 ≤ p
 pn : p ≤ n
 ok : ∀ q, q ≤ p → back l b w q < n ∧ ∃ h : gb b (back l b w q) < l.length, l[gb b (back l b w q)].2.1 = back l b w q
 close : back l b w p = w
 first : ∀ q, 1 ≤ q → q < p → back l b w q ≠ w
 neg : sumB l b w p < 0
theorem least {P : Nat → Prop} (hP : ∃ m, P m) : ∃ m, P m ∧ ∀ q, q < m → ¬ P q := by
 obtain ⟨m, hm⟩ := hP
 induction m using Nat.strongRecOn with
 | _ m ih =>
  by_cases h : ∃ q, q < m ∧ P q
  ·obtain ⟨q, hq, hp⟩ := h
   exact ih q hq hp
  ·exact ⟨m, hm, fun q hq hp => h ⟨q, hq, hp⟩⟩
theorem Sys.cyc {n : Nat} {l : List Bd} {s : RS} {rd T : Nat → Nat} {c : Nat} (G : Good n l) (S : Sys n l n l.length s rd T c) {v : Nat} (hv : s.low = some v) :
  (∀ j, j < n → back l s.by_ v j < n ∧ ∃ h : gb s.by_ (back l s.by_ v j) < l.length, l[gb s.by_ (back l s.by_ v j)].2.1 = back l s.by_ v j) ∧ ∃ p, Cyc n l s.by_ (back l s.by_ v n) p := by
 obtain ⟨v1, v2⟩ := S.lowS v hv
 have br : ∀ j, j ≤ n → back l s.by_ v j < n ∧ n ≤ rd (back l s.by_ v j) + j := by
  intro j
  induction j with
  | zero => intro _; exact ⟨v1, by show n ≤ rd v + 0; omega⟩
  | succ j ih =>
   intro hj
   obtain ⟨a1, a2⟩ := ih (by omega)
   obtain ⟨b1, b2, _⟩ := S.prev_ok G a1 (by omega)
   exact ⟨b1, by show n ≤ rd (prev l s.by_ (back l s.by_ v j)) + (j + 1); omega⟩
 have okj : ∀ j, j < n → back l s.by_ v j < n ∧ 1 ≤ rd (back l s.by_ v j) ∧ ∃ h : gb s.by_ (back l s.by_ v j) < l.length, l[gb s.by_ (back l s.by_ v j)].2.1 = back l s.by_ v j := fun j hj => by
  obtain ⟨a1, a2⟩ := br j (by omega)
  obtain ⟨b1, b2, _⟩ := S.by_ok _ a1 (by omega)
  exact ⟨a1, by omega, b1, b2⟩
 refine ⟨fun j hj => ⟨(okj j hj).1, (okj j hj).2.2⟩, ?_⟩
 obtain ⟨i, j, h1, h2, h3⟩ := pigeon n (fun k => back l s.by_ v k) (fun k hk => (br k hk).1)
 have per : ∀ t, back l s.by_ v (i + t) = back l s.by_ v (j + t) := fun t => by
  rw [← back_add, ← back_add, h3]
 have red : ∀ a, i ≤ a → ∃ a', a' < n ∧ back l s.by_ v a = back l s.by_ v a' := by
  intro a
  induction a using Nat.strongRecOn with
  | _ a ih =>
   intro ha
   by_cases q : a < j
   ·exact ⟨a, by omega, rfl⟩
   ·obtain ⟨a', e1, e2⟩ := ih (a - (j - i)) (by omega) (by omega)
    refine ⟨a', e1, ?_⟩
    rw [← e2]
    have := per (a - j)
    rw [show j + (a - j) = a by omega, show i + (a - j) = a - (j - i) by omega] at this
    exact this.symm
 have okw : ∀ q, back l s.by_ (back l s.by_ v n) q < n ∧ 1 ≤ rd (back l s.by_ (back l s.by_ v n) q) ∧ ∃ h : gb s.by_ (back l s.by_ (back l s.by_ v n) q) < l.length, l[gb s.by_ (back l s.by_ (back l s.by_ v n) q)].2.1 = back l s.by_ (back l s.by_ v n) q := fun q => by
  rw [back_add]
  obtain ⟨a', e1, e2⟩ := red (n + q) (by omega)
  rw [e2]; exact okj a' e1
 obtain ⟨p, ⟨p1, p2⟩, p3⟩ := least (P := fun p => 1 ≤ p ∧ back l s.by_ (back l s.by_ v n) p = back l s.by_ v n) ⟨j - i, by omega, by
  rw [back_add]
  have := per (n - i)
  rw [show i + (n - i) = n by omega, show j + (n - i) = n + (j - i) by omega] at this
  exact this.symm⟩
 have pm : p ≤ j - i := by
  rcases Nat.lt_or_ge (j - i) p with z | z
  ·exact absurd ⟨by omega, by
    rw [back_add]
    have := per (n - i)
    rw [show i + (n - i) = n by omega, show j + (n - i) = n + (j - i) by omega] at this
    exact this.symm⟩ (p3 (j - i) z)
  ·exact z
 exact ⟨p, p1, by omega, fun q _ => ⟨(okw q).1, (okw q).2.2⟩, p2, fun q a b e => p3 q b ⟨a, e⟩, S.cycle_neg G p1 (fun q _ => ⟨(okw q).1, (okw q).2.1⟩) p2⟩
theorem Cyc.none {n : Nat} {l : List Bd} {b : List Nat} {w p : Nat} (C : Cyc n l b w p) (x : List Int) : ¬ ∀ j (hj : j < l.length), gx x l[j].2.1 ≤ gx x l[j].1 + l[j].2.2 := fun h => by
 have key : ∀ q, q ≤ p → gx x w ≤ gx x (back l b w q) + sumB l b w q := by
  intro q
  induction q with
  | zero => intro _; simp [back, sumB]
  | succ q ih =>
   intro hq
   have h1 := ih (by omega)
   obtain ⟨_, a2, a3⟩ := C.ok q (by omega)
   have h2 := h _ a2
   rw [a3] at h2
   have e1 : prev l b (back l b w q) = l[gb b (back l b w q)].1 := by simp [prev, a2]
   have e2 : wgt l b (back l b w q) = l[gb b (back l b w q)].2.2 := by simp [wgt, a2]
   simp only [back, sumB]
   rw [e1, e2]; omega
 have := key p (Nat.le_refl p)
 rw [C.close] at this
 have := C.neg
 omega
theorem never {n : Nat} {l : List Bd} (G : Good n l) (h1 : 1 ≤ n) {v : Nat} (h : (iterR l n n).low = some v) : (iterR l n (n + 1)).low ≠ none ∧
  (∀ j, j < n → back l (iterR l n n).by_ v j < n ∧ ∃ h : gb (iterR l n n).by_ (back l (iterR l n n).by_ v j) < l.length, l[gb (iterR l n n).by_ (back l (iterR l n n).by_ v j)].2.1 = back l (iterR l n n).by_ v j) ∧
  ∃ p, Cyc n l (iterR l n n).by_ (back l (iterR l n n).by_ v n) p := by
 obtain ⟨rd, T, S⟩ := iter_sys G (n - 1)
 rw [show n - 1 + 1 = n by omega] at S
 obtain ⟨a, p, C⟩ := S.cyc G h
 refine ⟨fun e => ?_, a, p, C⟩
 obtain ⟨rd', T', S'⟩ := iter_sys G n
 exact C.none _ (S'.solved G e)
end Go.Abs
namespace Go.Abs
namespace R
set_option maxRecDepth 100000
set_option maxHeartbeats 0
end R
end Go.Abs
namespace Go.Abs
namespace R
set_option maxRecDepth 100000
set_option maxHeartbeats 0
abbrev i6 (n : Int) : Value := .int .i64 n
theorem E_fuel' : E.fuel = 18446744073709551616 := rfl
def RevI (l r : List Int) (i : Nat) : Prop := r.length = l.length ∧ ∀ k, k < l.length → r[k]? = if k < i ∨ l.length - i ≤ k then l[l.length - 1 - k]? else l[k]?
theorem RevI.zero (l : List Int) : RevI l l 0 := ⟨rfl, fun k hk => by rw [if_neg (by omega)]⟩
theorem RevI.next {l r : List Int} {i : Nat} (h : RevI l r i) (hi : i < l.length - 1 - i) : ∃ a b, r[i]? = some a ∧ r[l.length - 1 - i]? = some b ∧ RevI l ((r.set i b).set (l.length - 1 - i) a) (i + 1) := by
 obtain ⟨h1, h2⟩ := h
 have e1 := h2 i (by omega)
 have e2 := h2 (l.length - 1 - i) (by omega)
 rw [if_neg (by omega)] at e1 e2
 refine ⟨l[i]'(by omega), l[l.length - 1 - i]'(by omega), by rw [e1, List.getElem?_eq_getElem], by rw [e2, List.getElem?_eq_getElem], by simp [h1], fun k hk => ?_⟩
 rw [List.getElem?_set, List.getElem?_set, List.length_set, h1]
 by_cases q1 : l.length - 1 - i = k
 ·rw [if_pos q1, if_pos (by omega), if_pos (by omega)]
  have : l.length - 1 - k = i := by omega
  rw [this, List.getElem?_eq_getElem]
 ·rw [if_neg q1]
  by_cases q2 : i = k
  ·rw [if_pos q2, if_pos (by omega), if_pos (by omega)]
   subst q2
   rw [List.getElem?_eq_getElem]
  ·rw [if_neg q2, h2 k hk]
   by_cases q3 : k < i ∨ l.length - i ≤ k
   ·rw [if_pos q3, if_pos (by omega)]
   ·rw [if_neg q3, if_neg (by omega)]
theorem RevI.done {l r : List Int} {i : Nat} (h : RevI l r i) (hi : ¬ i + 1 < l.length - i) : r = l.reverse := by
 obtain ⟨h1, h2⟩ := h
 apply List.ext_getElem?
 intro k
 by_cases hk : k < l.length
 ·rw [h2 k hk, List.getElem?_reverse hk]
  split
  ·rfl
  ·congr 1; omega
 ·rw [List.getElem?_eq_none (by omega), List.getElem?_eq_none (by simp; omega)]
theorem cI_set (l : List Int) (i : Nat) (x : Int) : (cI l).set i (i6 x) = cI (l.set i x) := by simp [cI, List.map_set]
def lowV : Option Nat → Int
 | none => -1
 | some v => (v : Int)
def cN (l : List Nat) : List Value := l.map fun k : Nat => .int .i64 (k : Int)
theorem cI_gx {x : List Int} {v : Nat} (h : v < x.length) : (cI x)[v]? = some (.int .i64 (gx x v)) := by
 simp [cI, gx, List.getD_eq_getElem?_getD, List.getElem?_eq_getElem h]
end R
end Go.Abs
