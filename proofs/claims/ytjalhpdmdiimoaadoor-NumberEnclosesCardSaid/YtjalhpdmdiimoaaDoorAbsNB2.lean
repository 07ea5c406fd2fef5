/- Digits compared, from the top. -/
import Derived.Test.YtjalhpdmdiimoaaDoorAbsNB
set_option linter.unusedSimpArgs false
set_option linter.unusedVariables false
namespace Go.Abs
def cW (l : List Nat) : List Value := l.map fun (n : Nat) => Value.int .i64 (n : Int)
@[simp] theorem cW_len (l : List Nat) : (cW l).length = l.length := by simp [cW]
theorem cW_get {l : List Nat} {i : Nat} (h : i < l.length) : (cW l)[i]? = some (.int .i64 (l[i]'h)) := by simp [cW, h]
@[simp] theorem cW_getE {l : List Nat} {i : Nat} (h : i < (cW l).length) : (cW l)[i]'h = .int .i64 ((l[i]'(by simpa using h) : Nat) : Int) := by simp [cW]
@[simp] theorem cW_plain (l : List Nat) : (cW l).all plainV = true := by simp [cW, plainV]
abbrev SlW (h : Heap) (v : Value) (l : List Nat) : Prop := Sl 1 h v l.length (cW l)
def cmpTop (l r : List Nat) : Nat → Int
  | 0 => 0
  | k + 1 => if l.getD k 0 < r.getD k 0 then -1 else if r.getD k 0 < l.getD k 0 then 1 else cmpTop l r k
theorem cmpTop_succ (l r : List Nat) (k : Nat) : cmpTop l r (k + 1) = if l.getD k 0 < r.getD k 0 then -1 else if r.getD k 0 < l.getD k 0 then 1 else cmpTop l r k := rfl
def cmpL (l r : List Nat) : Int := if l.length < r.length then -1 else if r.length < l.length then 1 else cmpTop l r l.length
namespace N
set_option maxRecDepth 100000
set_option maxHeartbeats 0
theorem c83 {d lim : Nat} {h : Heap} {v w : Value} {l r : List Nat} (s : SlU h v l) (t : SlU h w r) (hs : l.length < 1000000) (hr : r.length < 1000000) :
    E.call (d + 1) lim 83 [v, w] h = some (.int .i64 (cmpL l r), h) := by
  have p := s.rules2
  have p' := t.rules2
  refine call1 fn83 rfl (by simp [ef83]) ?_
  have w0 : IntKind.wrap .i64 ((r.length : Int) - 1) = (r.length : Int) - 1 := by rw [wrap_eq (by omega) (by omega)]
  by_cases h1 : l.length < r.length
  · have e : (l.length : Int) ≠ r.length := by omega
    simp [ef83, p, p', h1, e, cmpL]
  by_cases h2 : r.length < l.length
  · have e : (l.length : Int) ≠ r.length := by omega
    simp [ef83, p, p', h1, h2, e, cmpL, Nat.le_of_lt h2]
  have e : l.length = r.length := by omega
  have hc : cmpL l r = cmpTop l r r.length := by simp [cmpL, h1, h2, e]
  simp [ef83, p, p', e, hc, w0]
  refine wpC_loop (fun q st => ∃ (k : Nat), q = k ∧ k ≤ r.length ∧ cmpTop l r r.length = cmpTop l r k ∧
    st = ⟨[(0, v), (1, w), (5, .int .i64 ((k : Int) - 1))], h.freeze⟩) r.length (by show r.length < 2 ^ 64; omega) ?_ ?_
  · simp [St.tidy, p, p']

  · rintro q0 hq _ ⟨k, rfl, hk, hcc, rfl⟩
    match q0, hk, hcc with
    | 0, hk, hcc => simp [hcc, cmpTop]
    | k + 1, hk, hcc =>
      have k2 : k < r.length := hk
      have k1 : k < l.length := by omega
      have u1 : IntKind.wrap .i64 ((k : Int) - 1) = (k : Int) - 1 := by rw [wrap_eq (by omega) (by omega)]
      have g := cU_get k1
      have g' := cU_get k2
      have hcc' := hcc
      rw [cmpTop_succ] at hcc'
      have d1 : l.getD k 0 = l[k] := by simp [k1]
      have d2 : r.getD k 0 = r[k] := by simp [k2]
      rw [d1, d2] at hcc'
      have k0 : (k : Int) + 1 - 1 = k := by omega
      have e2 : l.length = r.length := by omega
      by_cases q1 : l[k] < r[k]
      · simp [q1] at hcc'
        simp [St.tidy, p, p', g, g', u1, k0, q1, k1, k2]
        exact hcc'.symm
      · by_cases q2 : r[k] < l[k]
        · simp [q1, q2] at hcc'
          simp [St.tidy, p, p', g, g', u1, k0, q1, q2, k1, k2]
          exact hcc'.symm
        · simp [q1, q2] at hcc'
          simp [St.tidy, p, p', g, g', u1, k0, q1, q2, k1, k2]
          exact ⟨k, by omega, by omega, hcc', rfl⟩
theorem c90 {d lim : Nat} {h : Heap} {v w : Value} {l r : List Nat} (s : SlW h v l) (t : SlW h w r) (hs : l.length < 1000000) (hr : r.length < 1000000) :
    E.call (d + 1) lim 90 [v, w] h = some (.int .i64 (cmpL l r), h) := by
  have p := s.rules2
  have p' := t.rules2
  refine call1 fn90 rfl (by simp [ef90]) ?_
  have w0 : IntKind.wrap .i64 ((r.length : Int) - 1) = (r.length : Int) - 1 := by rw [wrap_eq (by omega) (by omega)]
  by_cases h1 : l.length < r.length
  · have e : (l.length : Int) ≠ r.length := by omega
    simp [ef90, p, p', h1, e, cmpL]
  by_cases h2 : r.length < l.length
  · have e : (l.length : Int) ≠ r.length := by omega
    simp [ef90, p, p', h1, h2, e, cmpL, Nat.le_of_lt h2]
  have e : l.length = r.length := by omega
  have hc : cmpL l r = cmpTop l r r.length := by simp [cmpL, h1, h2, e]
  simp [ef90, p, p', e, hc, w0]
  refine wpC_loop (fun q st => ∃ (k : Nat), q = k ∧ k ≤ r.length ∧ cmpTop l r r.length = cmpTop l r k ∧
    st = ⟨[(0, v), (1, w), (5, .int .i64 ((k : Int) - 1))], h.freeze⟩) r.length (by show r.length < 2 ^ 64; omega) ?_ ?_
  · simp [St.tidy, p, p']

  · rintro q0 hq _ ⟨k, rfl, hk, hcc, rfl⟩
    match q0, hk, hcc with
    | 0, hk, hcc => simp [hcc, cmpTop]
    | k + 1, hk, hcc =>
      have k2 : k < r.length := hk
      have k1 : k < l.length := by omega
      have u1 : IntKind.wrap .i64 ((k : Int) - 1) = (k : Int) - 1 := by rw [wrap_eq (by omega) (by omega)]
      have g := cW_get k1
      have g' := cW_get k2
      have hcc' := hcc
      rw [cmpTop_succ] at hcc'
      have d1 : l.getD k 0 = l[k] := by simp [k1]
      have d2 : r.getD k 0 = r[k] := by simp [k2]
      rw [d1, d2] at hcc'
      have k0 : (k : Int) + 1 - 1 = k := by omega
      have e2 : l.length = r.length := by omega
      by_cases q1 : l[k] < r[k]
      · simp [q1] at hcc'
        simp [St.tidy, p, p', g, g', u1, k0, q1, k1, k2]
        exact hcc'.symm
      · by_cases q2 : r[k] < l[k]
        · simp [q1, q2] at hcc'
          simp [St.tidy, p, p', g, g', u1, k0, q1, q2, k1, k2]
          exact hcc'.symm
        · simp [q1, q2] at hcc'
          simp [St.tidy, p, p', g, g', u1, k0, q1, q2, k1, k2]
          exact ⟨k, by omega, by omega, hcc', rfl⟩
end N
end Go.Abs
