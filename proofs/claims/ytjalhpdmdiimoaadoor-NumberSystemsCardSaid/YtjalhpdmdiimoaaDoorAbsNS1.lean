/- Systems of differences: the plain law of the rounds. -/

set_option linter.unusedSimpArgs false
set_option linter.unusedVariables false
namespace Go.Abs
/-- A bound: from, to, at most. -/
abbrev Bd := Nat × Nat × Int
structure RS where
  x : List Int
  by_ : List Nat
  low : Option Nat
def gx (x : List Int) (v : Nat) : Int := x.getD v 0
def gb (b : List Nat) (v : Nat) : Nat := b.getD v 0
def stepR (s : RS) (i : Nat) (b : Bd) : RS :=
  if gx s.x b.1 + b.2.2 < gx s.x b.2.1 then ⟨s.x.set b.2.1 (gx s.x b.1 + b.2.2), s.by_.set b.2.1 i, some b.2.1⟩ else s
/-- The first so many bounds. -/
def relF (l : List Bd) (s : RS) : Nat → RS
  | 0 => s
  | k + 1 => match l[k]? with
    | some b => stepR (relF l s k) k b
    | none => relF l s k
def relax (l : List Bd) (x : List Int) (b : List Nat) : RS := relF l ⟨x, b, none⟩ l.length
structure Good (n : Nat) (l : List Bd) : Prop where
  rng : ∀ i (h : i < l.length), l[i].1 < n ∧ l[i].2.1 < n ∧ -1000000000 ≤ l[i].2.2 ∧ l[i].2.2 ≤ 1000000000
/-- What is known while round k goes on, behind i bounds. -/
structure Sys (n : Nat) (l : List Bd) (k i : Nat) (s : RS) (rd T : Nat → Nat) (c : Nat) : Prop where
  lx : s.x.length = n
  lb : s.by_.length = n
  bys : ∀ v, v < n → gb s.by_ v < l.length ∨ gb s.by_ v = 0
  by_ok : ∀ v, v < n → 1 ≤ rd v → ∃ h : gb s.by_ v < l.length, l[gb s.by_ v].2.1 = v ∧
    (gx s.x l[gb s.by_ v].1 + l[gb s.by_ v].2.2 < gx s.x v ∨ (gx s.x l[gb s.by_ v].1 + l[gb s.by_ v].2.2 = gx s.x v ∧ T l[gb s.by_ v].1 < T v)) ∧ rd v ≤ rd l[gb s.by_ v].1 + 1
  t0 : ∀ v, rd v = 0 → T v = 0
  tc : ∀ v, T v ≤ c
  rk : ∀ v, rd v ≤ k
  done_ : ∀ j (h : j < l.length), j < i → rd l[j].1 < k → gx s.x l[j].2.1 ≤ gx s.x l[j].1 + l[j].2.2
  todo : ∀ j (h : j < l.length), i ≤ j → rd l[j].1 + 1 < k → gx s.x l[j].2.1 ≤ gx s.x l[j].1 + l[j].2.2
  bd : ∀ v, v < n → -1000000000 * (c : Int) ≤ gx s.x v ∧ gx s.x v ≤ 0
  lowS : ∀ v, s.low = some v → v < n ∧ rd v = k
  lowN : s.low = none → ∀ v, v < n → rd v < k
theorem gx_set {x : List Int} {v u : Nat} {a : Int} (h : v < x.length) : gx (x.set v a) u = if v = u then a else gx x u := by
  unfold gx
  rw [List.getD_eq_getElem?_getD, List.getD_eq_getElem?_getD, List.getElem?_set]
  by_cases e : v = u
  · subst e; rw [if_pos rfl, if_pos rfl, if_pos h]; rfl
  · rw [if_neg e, if_neg e]
theorem gb_set {x : List Nat} {v u a : Nat} (h : v < x.length) : gb (x.set v a) u = if v = u then a else gb x u := by
  unfold gb
  rw [List.getD_eq_getElem?_getD, List.getD_eq_getElem?_getD, List.getElem?_set]
  by_cases e : v = u
  · subst e; rw [if_pos rfl, if_pos rfl, if_pos h]; rfl
  · rw [if_neg e, if_neg e]
/-- One bound. -/
theorem Sys.step {n : Nat} {l : List Bd} {k i : Nat} {s : RS} {rd T : Nat → Nat} {c : Nat} (G : Good n l) (S : Sys n l k i s rd T c) (hi : i < l.length) (hk : 1 ≤ k) :
    ∃ rd' T', Sys n l k (i + 1) (stepR s i l[i]) rd' T' (c + 1) := by
  obtain ⟨gf, gt, gm1, gm2⟩ := G.rng i hi
  unfold stepR
  by_cases q : gx s.x l[i].1 + l[i].2.2 < gx s.x l[i].2.1
  · rw [if_pos q]
    generalize hu : l[i].1 = u at *
    generalize hv : l[i].2.1 = v at *
    generalize hm : l[i].2.2 = m at *
    have hvx : v < s.x.length := by rw [S.lx]; exact gt
    have hvb : v < s.by_.length := by rw [S.lb]; exact gt
    -- the bound was not kept: its first unknown was lowered in this round or the one before
    have hru : k ≤ rd u + 1 := by
      rcases Nat.lt_or_ge (rd u + 1) k with z | z
      · have := S.todo i hi (Nat.le_refl i) (by rw [hu]; exact z)
        rw [hu, hv, hm] at this; omega
      · exact z
    refine ⟨fun w => if w = v then k else rd w, fun w => if w = v then c + 1 else T w, ?_⟩
    have gX : ∀ w, gx (s.x.set v (gx s.x u + m)) w = if v = w then gx s.x u + m else gx s.x w := fun w => gx_set hvx
    have gB : ∀ w, gb (s.by_.set v i) w = if v = w then i else gb s.by_ w := fun w => gb_set hvb
    have gle : ∀ w, gx (s.x.set v (gx s.x u + m)) w ≤ gx s.x w := fun w => by
      rw [gX]; split
      · rename_i e; subst e; omega
      · omega
    refine ⟨by simp [S.lx], by simp [S.lb], fun w hw => ?_, fun w hw h1 => ?_, fun w h0 => ?_, fun w => ?_, fun w => ?_, fun j hj hlt h1 => ?_, fun j hj hge h1 => ?_, fun w hw => ?_, fun w hw => ?_, fun q => by cases q⟩
    · simp only [gB]; split
      · exact .inl hi
      · exact S.bys w hw
    · simp only [gB]
      by_cases e : v = w
      · subst e
        simp only [if_pos]
        refine ⟨hi, hv, ?_, ?_⟩
        · rw [gX, gX, hu, hm, if_pos rfl]
          by_cases e2 : v = u
          · subst e2
            rw [if_pos rfl]; left; omega
          · rw [if_neg e2]; right
            refine ⟨rfl, ?_⟩
            rw [if_neg (fun z => e2 z.symm)]
            have := S.tc u; omega
        · rw [hu]; split <;> omega
      · simp only [if_neg e]
        have e' : ¬ w = v := fun z => e z.symm
        simp only [if_neg e'] at h1 ⊢
        obtain ⟨p1, p2, p3, p4⟩ := S.by_ok w hw h1
        refine ⟨p1, p2, ?_, ?_⟩
        · have hgw : gx (s.x.set v (gx s.x u + m)) w = gx s.x w := by rw [gX, if_neg e]
          rw [hgw]
          generalize l[gb s.by_ w].1 = a at *
          rw [gX a]
          by_cases e3 : v = a
          · subst e3
            rw [if_pos rfl]; left
            rcases p3 with z | z <;> omega
          · have ne3 : ¬ a = v := fun z => e3 z.symm
            simp only [if_neg e3, if_neg ne3]; exact p3
        · split
          · have := S.rk w; omega
          · exact p4
    · try simp only at h0 ⊢
      split at h0
      · omega
      · rename_i e; rw [if_neg e]; exact S.t0 w h0
    · try simp only
      split
      · omega
      · have := S.tc w; omega
    · try simp only
      split
      · omega
      · exact S.rk w
    · try simp only at h1
      split at h1
      · omega
      · rename_i e
        have hx1 : gx (s.x.set v (gx s.x u + m)) l[j].1 = gx s.x l[j].1 := by rw [gX, if_neg (fun z => e z.symm)]
        rw [hx1]
        by_cases ej : j = i
        · subst ej
          rw [hu, hv, hm, gX, if_pos rfl]; omega
        · have := S.done_ j hj (by omega) h1
          have := gle l[j].2.1
          show gx (s.x.set v (gx s.x u + m)) l[j].2.1 ≤ gx s.x l[j].1 + l[j].2.2
          omega
    · try simp only at h1
      split at h1
      · omega
      · rename_i e
        have hx1 : gx (s.x.set v (gx s.x u + m)) l[j].1 = gx s.x l[j].1 := by rw [gX, if_neg (fun z => e z.symm)]
        rw [hx1]
        have := S.todo j hj (by omega) h1
        have := gle l[j].2.1
        show gx (s.x.set v (gx s.x u + m)) l[j].2.1 ≤ gx s.x l[j].1 + l[j].2.2
        omega
    · have b1 := S.bd w hw
      have b2 := S.bd u gf
      have b3 := S.bd v gt
      rw [gX]; split <;> constructor <;> omega
    · cases hw; exact ⟨gt, by simp⟩
  · rw [if_neg q]
    refine ⟨rd, T, S.lx, S.lb, S.bys, S.by_ok, S.t0, fun v => by have := S.tc v; omega, S.rk, fun j hj hlt h1 => ?_, fun j hj hge h1 => S.todo j hj (by omega) h1, fun v hv => by have := S.bd v hv; constructor <;> omega, S.lowS, S.lowN⟩
    by_cases ej : j = i
    · subst ej; omega
    · exact S.done_ j hj (by omega) h1
theorem Sys.round {n : Nat} {l : List Bd} {k : Nat} {s : RS} {rd T : Nat → Nat} {c : Nat} (G : Good n l) (S : Sys n l k 0 s rd T c) (hk : 1 ≤ k) : ∀ i, i ≤ l.length →
    ∃ rd' T', Sys n l k i (relF l s i) rd' T' (c + i)
  | 0, _ => ⟨rd, T, S⟩
  | i + 1, h => by
    obtain ⟨rd', T', S'⟩ := Sys.round G S hk i (by omega)
    have e : relF l s (i + 1) = stepR (relF l s i) i l[i] := by simp [relF, List.getElem?_eq_getElem (show i < l.length from h)]
    rw [e]
    exact S'.step G h hk
/-- From one round to the next one. -/
theorem Sys.next {n : Nat} {l : List Bd} {k : Nat} {s : RS} {rd T : Nat → Nat} {c : Nat} (S : Sys n l k l.length s rd T c) : Sys n l (k + 1) 0 ⟨s.x, s.by_, none⟩ rd T c :=
  ⟨S.lx, S.lb, S.bys, S.by_ok, S.t0, S.tc, fun v => by have := S.rk v; omega, fun j hj h => by omega, fun j hj _ h1 => S.done_ j hj hj (by omega), S.bd, fun v q => (by cases q), fun _ v _ => by have := S.rk v; omega⟩
def zerosI (n : Nat) : List Int := List.replicate n 0
def zerosN (n : Nat) : List Nat := List.replicate n 0
theorem gx_zeros (n v : Nat) : gx (zerosI n) v = 0 := by
  unfold gx zerosI; rw [List.getD_eq_getElem?_getD, List.getElem?_replicate]; split <;> rfl
theorem gb_zeros (n v : Nat) : gb (zerosN n) v = 0 := by
  unfold gb zerosN; rw [List.getD_eq_getElem?_getD, List.getElem?_replicate]; split <;> rfl
theorem Sys.start (n : Nat) (l : List Bd) : Sys n l 1 0 ⟨zerosI n, zerosN n, none⟩ (fun _ => 0) (fun _ => 0) 0 :=
  ⟨by simp [zerosI], by simp [zerosN], fun v _ => .inr (gb_zeros n v), fun v _ h => by omega, fun _ _ => rfl, fun _ => Nat.le_refl 0, fun _ => by omega, fun j _ h => by omega, fun j _ _ h => by omega,
    fun v _ => by simp only [gx_zeros]; omega, fun v q => (by cases q), fun _ v _ => by omega⟩
/-- Where nothing was lowered all bounds are kept. -/
theorem Sys.solved {n : Nat} {l : List Bd} {k : Nat} {s : RS} {rd T : Nat → Nat} {c : Nat} (G : Good n l) (S : Sys n l k l.length s rd T c) (h : s.low = none) : ∀ j (hj : j < l.length), gx s.x l[j].2.1 ≤ gx s.x l[j].1 + l[j].2.2 :=
  fun j hj => S.done_ j hj hj (S.lowN h _ (G.rng j hj).1)
/-- The way back. -/
def prev (l : List Bd) (b : List Nat) (v : Nat) : Nat := match l[gb b v]? with
  | some e => e.1
  | none => 0
def wgt (l : List Bd) (b : List Nat) (v : Nat) : Int := match l[gb b v]? with
  | some e => e.2.2
  | none => 0
def back (l : List Bd) (b : List Nat) (v : Nat) : Nat → Nat
  | 0 => v
  | k + 1 => prev l b (back l b v k)
/-- The sum of the bounds on the way back. -/
def sumB (l : List Bd) (b : List Nat) (v : Nat) : Nat → Int
  | 0 => 0
  | k + 1 => sumB l b v k + wgt l b (back l b v k)
theorem Sys.prev_ok {n : Nat} {l : List Bd} {k i : Nat} {s : RS} {rd T : Nat → Nat} {c : Nat} (G : Good n l) (S : Sys n l k i s rd T c) {v : Nat} (hv : v < n) (h1 : 1 ≤ rd v) :
    prev l s.by_ v < n ∧ rd v ≤ rd (prev l s.by_ v) + 1 ∧ (gx s.x (prev l s.by_ v) + wgt l s.by_ v) * ((c : Int) + 1) + T (prev l s.by_ v) + 1 ≤ gx s.x v * ((c : Int) + 1) + T v := by
  obtain ⟨p1, p2, p3, p4⟩ := S.by_ok v hv h1
  have e1 : prev l s.by_ v = l[gb s.by_ v].1 := by simp [prev, p1]
  have e2 : wgt l s.by_ v = l[gb s.by_ v].2.2 := by simp [wgt, p1]
  rw [e1, e2]
  refine ⟨(G.rng _ p1).1, p4, ?_⟩
  generalize l[gb s.by_ v].1 = u at *
  generalize l[gb s.by_ v].2.2 = m at *
  have t1 := S.tc u
  rcases p3 with z | ⟨z, t⟩
  · have h2 : (gx s.x u + m + 1) * ((c : Int) + 1) ≤ gx s.x v * ((c : Int) + 1) := Int.mul_le_mul_of_nonneg_right (by omega) (by omega)
    rw [Int.add_mul (gx s.x u + m) 1] at h2
    omega
  · rw [z]; omega
/-- Any way back that leads through lowered unknowns and closes has a sum below 0. -/
theorem Sys.cycle_neg {n : Nat} {l : List Bd} {k i : Nat} {s : RS} {rd T : Nat → Nat} {c : Nat} (G : Good n l) (S : Sys n l k i s rd T c) {v m : Nat} (hm : 1 ≤ m) (hv : ∀ j, j < m → back l s.by_ v j < n ∧ 1 ≤ rd (back l s.by_ v j)) (hc : back l s.by_ v m = v) : sumB l s.by_ v m < 0 := by
  have key : ∀ j, j ≤ m → (gx s.x (back l s.by_ v j) + sumB l s.by_ v j) * ((c : Int) + 1) + T (back l s.by_ v j) + j ≤ gx s.x v * ((c : Int) + 1) + T v := by
    intro j
    induction j with
    | zero => intro _; simp [back, sumB]
    | succ j ih =>
      intro hj
      have h1 := ih (by omega)
      obtain ⟨a1, a2⟩ := hv j (by omega)
      obtain ⟨_, _, h2⟩ := S.prev_ok G a1 a2
      simp only [back, sumB]
      generalize back l s.by_ v j = u at *
      have e : (gx s.x (prev l s.by_ u) + (sumB l s.by_ v j + wgt l s.by_ u)) * ((c : Int) + 1) = (gx s.x (prev l s.by_ u) + wgt l s.by_ u) * ((c : Int) + 1) + sumB l s.by_ v j * ((c : Int) + 1) := by
        rw [← Int.add_mul]; congr 1; omega
      rw [e]
      rw [Int.add_mul (gx s.x u)] at h1
      omega
  have h := key m (Nat.le_refl m)
  rw [hc, Int.add_mul] at h
  rcases Int.lt_or_le (sumB l s.by_ v m) 0 with z | z
  · exact z
  · have := Int.mul_nonneg z (show 0 ≤ (c : Int) + 1 by omega)
    omega
end Go.Abs
