/- Pitches joined: exponents are added. -/
import Derived.Test.YtinbdefjjfmfoaaDoorAbsTEP
set_option linter.unusedSimpArgs false
set_option linter.unusedVariables false
/- Pitches joined: exponents are added. -/
namespace Go.Abs
namespace T
set_option maxRecDepth 100000
set_option maxHeartbeats 0
theorem isP_R {x : X3} (h : isP x = true) : (-400 ≤ x.1 ∧ x.1 ≤ 400) ∧ (-400 ≤ x.2.1 ∧ x.2.1 ≤ 400) ∧ (-400 ≤ x.2.2 ∧ x.2.2 ≤ 400) := by
  obtain ⟨a, b, c, _⟩ := isPitch_R h
  exact ⟨a, b, c⟩
theorem dn12 : Dn 12 := ⟨by omega, by omega⟩
theorem red12 {x : X3} (h : isP x = true) : ∃ g : Nat, red x.1 x.2.1 x.2.2 12 x.1 * g = x.1 ∧ red x.1 x.2.1 x.2.2 12 x.2.1 * g = x.2.1 ∧ red x.1 x.2.1 x.2.2 12 x.2.2 * g = x.2.2 ∧ red x.1 x.2.1 x.2.2 12 12 * g = 12 := by
  obtain ⟨a, b, c⟩ := isP_R h
  obtain ⟨d1, d2, d3, d4⟩ := rG_dvd x.1 x.2.1 x.2.2 12
  exact ⟨rG x.1 x.2.1 x.2.2 12, (red_eq (R4_Rb a) (R4_Rb b) (R4_Rb c) (Dn_Rb dn12) (by omega) (R4_Rb a) d1).2.1, (red_eq (R4_Rb a) (R4_Rb b) (R4_Rb c) (Dn_Rb dn12) (by omega) (R4_Rb b) d2).2.1,
    (red_eq (R4_Rb a) (R4_Rb b) (R4_Rb c) (Dn_Rb dn12) (by omega) (R4_Rb c) d3).2.1, (red_eq (R4_Rb a) (R4_Rb b) (R4_Rb c) (Dn_Rb dn12) (by omega) (Dn_Rb dn12) d4).2.1⟩
theorem join_ratio {a f e j g k x y : Int} (h1 : a * g = x) (h2 : e * g = 12) (h3 : f * k = y) (h4 : j * k = 12) : (a * j + f * e) * 12 = (x + y) * (e * j) := by
  have p1 : a * j * 12 = x * (e * j) := by
    rw [← h1, ← h2]; simp only [Int.mul_comm, Int.mul_left_comm]
  have p2 : f * e * 12 = y * (e * j) := by
    rw [← h3, ← h4]; simp only [Int.mul_comm, Int.mul_left_comm]
  rw [Int.add_mul, Int.add_mul, p1, p2]
theorem join_pit {d lim : Nat} {h : Heap} {x y z : X3} (hx : isP x = true) (hy : isP y = true) (hz : isP z = true) (e : z = addZ x 1 y) :
    E.call (d + 4) lim 52 [pit x, pit y] h = some (.tuple #[pit z, i64 0], h) := by
  have rx := isPitch_red hx
  have ry := isPitch_red hy
  have rz := isPitch_red hz
  obtain ⟨g, x1, x2, x3, x4⟩ := red12 hx
  obtain ⟨k, y1, y2, y3, y4⟩ := red12 hy
  have z1 : z.1 = x.1 + y.1 := by rw [e]; simp [addZ]
  have z2 : z.2.1 = x.2.1 + y.2.1 := by rw [e]; simp [addZ]
  have z3 : z.2.2 = x.2.2 + y.2.2 := by rw [e]; simp [addZ]
  obtain ⟨b1, b2, b3⟩ := isP_R hz
  unfold pit redV
  rw [c52 rx ry]
  obtain ⟨s1, s2, s3, s4⟩ := isPitch_R rx
  obtain ⟨t1, t2, t3, t4⟩ := isPitch_R ry
  generalize red x.1 x.2.1 x.2.2 12 x.1 = a1 at *
  generalize red x.1 x.2.1 x.2.2 12 x.2.1 = a2 at *
  generalize red x.1 x.2.1 x.2.2 12 x.2.2 = a3 at *
  generalize red x.1 x.2.1 x.2.2 12 12 = a4 at *
  generalize red y.1 y.2.1 y.2.2 12 y.1 = c1 at *
  generalize red y.1 y.2.1 y.2.2 12 y.2.1 = c2 at *
  generalize red y.1 y.2.1 y.2.2 12 y.2.2 = c3 at *
  generalize red y.1 y.2.1 y.2.2 12 12 = c4 at *
  have q1 := join_ratio x1 x4 y1 y4
  have q2 := join_ratio x2 x4 y2 y4
  have q3 := join_ratio x3 x4 y3 y4
  rw [← z1] at q1; rw [← z2] at q2; rw [← z3] at q3
  have m1 := mul_sm (Sm4 s1) (j := c4) t4
  have m2 := mul_sm (Sm4 s2) (j := c4) t4
  have m3 := mul_sm (Sm4 s3) (j := c4) t4
  have n1 := mul_sm (Sm4 t1) (j := a4) s4
  have n2 := mul_sm (Sm4 t2) (j := a4) s4
  have n3 := mul_sm (Sm4 t3) (j := a4) s4
  have md := mul_dn (e := a4) (j := c4) s4 t4
  unfold joinF fitV
  rw [jn_p (Sm4 s1) (Sm4 t1) s4 t4, jn_p (Sm4 s2) (Sm4 t2) s4 t4, jn_p (Sm4 s3) (Sm4 t3) s4 t4, wrap_dn s4 t4]
  obtain ⟨r1, r2, r3, r4⟩ := red_ratio (a := a1 * c4 + c1 * a4) (b := a2 * c4 + c2 * a4) (c := a3 * c4 + c3 * a4) (e := a4 * c4) (a' := z.1) (b' := z.2.1) (c' := z.2.2) (e' := 12)
    ⟨by omega, by omega⟩ ⟨by omega, by omega⟩ ⟨by omega, by omega⟩ ⟨by omega, by omega⟩ (by omega) (R4_Rb b1) (R4_Rb b2) (R4_Rb b3) (Dn_Rb dn12) (by omega) q1 q2 q3
  unfold fitP
  rw [r1, r2, r3, r4]
  simp [check0.2 rz]
end T
end Go.Abs
/- The law TemperCircle. -/
namespace Go.Abs
namespace T
set_option maxRecDepth 100000
set_option maxHeartbeats 0
theorem pit_one : pit (0, 0, 0) = pt 0 0 0 1 := by kernel_rfl
def PitIs (x : X3) (a b c e : Int) : Prop := pit x = pt a b c e
end T
end Go.Abs
