/- The examples, behind the variables, an argument and a box. -/
import Derived.Test.YtllhkifkiabkbaaGreatDoorAbsH
import Derived.Test.YtllhkifkiabkbaaGreatDoorAbsRowM
import Derived.Test.YtllhkifkiabkbaaGreatDoorAbsHG
import Derived.Test.YtllhkifkiabkbaaGreatDoorAbsHXE
import Derived.Test.YtllhkifkiabkbaaGreatDoorAbsTypM
import Derived.Test.YtllhkifkiabkbaaGreatDoorAbsRowed2
set_option linter.unusedSimpArgs false
set_option linter.unusedVariables false
/- The examples, behind the variables, an argument and a box. -/
namespace Go.Abs.H
open Go Go.Abs
set_option maxRecDepth 1000000
set_option maxHeartbeats 0
theorem awake8 (lim : Nat) (z a b c d e f g : Option Blk) : E.call 30 lim 14 [] [z, a, b, c, d, e, f, g] = some (.bool true, [z, a, b, c, d, e, f, g]) := by kernel_rfl
end Go.Abs.H
/- Arguments of some types. -/
namespace Go.Abs
theorem wf_R64 {n : Int} (h : (Lit.int .i64 n).wf = true) : R64 n := by
  simp [Lit.wf, IntKind.min, IntKind.max, IntKind.signed, IntKind.bits] at h
  exact ⟨by omega, by omega⟩
theorem typ_int {d : Nat} {h : Heap} {v : Value} (t : Typ d h (.int .i64) v) : ∃ n, v = .int .i64 n ∧ R64 n := by
  cases d <;> exact let ⟨n, e, w⟩ := t; ⟨n, e, wf_R64 w⟩
theorem typ_str {d : Nat} {h : Heap} {v : Value} (t : Typ d h .str v) : ∃ s, v = .string s ∧ s.size ≤ maxLen := by
  cases d <;> exact t
abbrev ctI : CT := .int .i64
theorem arg_str {d : Nat} {h : Heap} {u : Value} (a : ArgV d h (false, [.str]) u) : ∃ s, u = .string s ∧ s.size ≤ maxLen := typ_str (a.2 0 _ _ rfl rfl)
theorem arg_agg2 {d : Nat} {h : Heap} {u : Value} (a : ArgV d h (true, [ctI, ctI]) u) : ∃ x y, u = .agg #[.int .i64 x, .int .i64 y] ∧ R64 x ∧ R64 y := by
  obtain ⟨us, rfl, hl, t⟩ := a
  match us, hl with
  | [u0, u1], _ =>
    obtain ⟨x, rfl, hx⟩ := typ_int (t 0 _ _ rfl rfl)
    obtain ⟨y, rfl, hy⟩ := typ_int (t 1 _ _ rfl rfl)
    exact ⟨x, y, rfl, hx, hy⟩
theorem args1 {d : Nat} {h : Heap} {c : Bool × List CT} {us : List Value} (a : ArgsV d h [c] us) : ∃ u, us = [u] ∧ ArgV d h c u := by
  match us, a with
  | [u], a => exact ⟨u, rfl, a.1⟩
  | u :: v :: r, a => exact a.2.elim
theorem args2 {d : Nat} {h : Heap} {c c' : Bool × List CT} {us : List Value} (a : ArgsV d h [c, c'] us) : ∃ u v, us = [u, v] ∧ ArgV d h c u ∧ ArgV d h c' v := by
  match us, a with
  | u :: r, a =>
    obtain ⟨v, rfl, b⟩ := args1 a.2
    exact ⟨u, v, rfl, a.1, b⟩
theorem args3 {d : Nat} {h : Heap} {c c' c2 : Bool × List CT} {us : List Value} (a : ArgsV d h [c, c', c2] us) : ∃ u v w, us = [u, v, w] ∧ ArgV d h c u ∧ ArgV d h c' v ∧ ArgV d h c2 w := by
  match us, a with
  | u :: r, a =>
    obtain ⟨v, w, rfl, b⟩ := args2 a.2
    exact ⟨u, v, w, rfl, a.1, b⟩
end Go.Abs
/- Texts of chapter 7: the law, from a row's premise. -/
namespace Go.Abs
namespace H
set_option maxRecDepth 100000
set_option maxHeartbeats 0
abbrev ctP6 : Bool × List CT := (false, [.sl [ctI, ctI, ctI, ctI, ctI, ctI]])
abbrev ctC2 : Bool × List CT := (true, [ctI, ctI])
abbrev ctS : Bool × List CT := (false, [.str])
theorem arg_p6 {d : Nat} {h : Heap} {u : Value} (a : ArgV (d + 1) h ctP6 u) : ∃ l : List U.P6, U.Sl6 h u l := by
  obtain ⟨l, s, _, _⟩ := typ_slG (k := 6) (by decide) U.enc6 (fun g => ((g 0, g 1, g 2, g 3), (g 4, g 5))) (fun _ => rfl) (fun g j hj => by
    have : j = 0 ∨ j = 1 ∨ j = 2 ∨ j = 3 ∨ j = 4 ∨ j = 5 := by omega
    rcases this with rfl | rfl | rfl | rfl | rfl | rfl <;> rfl) (a.2 0 _ _ rfl rfl)
  exact ⟨l, s⟩
def h00 (te : TypeId) : Heap := [none, some ⟨[.iface te (.pointer (some ⟨4, 0, none⟩))], false⟩, some ⟨[.iface te (.pointer (some ⟨5, 0, none⟩))], false⟩, some ⟨[], false⟩, none, none]
theorem er00 (te : TypeId) (L : Heap) : Er (h00 te ++ L) := Er.app ⟨rfl, rfl⟩
theorem lawR {te : TypeId} (h0 : Heap) (e0 : h0 = h00 te) : ∀ (bs : List (Option Blk)) us, (∀ u, us[0]? = some u → LenLe 2932031007402 u) → Heap.freeze (h0 ++ bs) = h0 ++ bs → (∀ n, ctBlocks (([ctP6, ctC2, ctS] : List (Bool × List CT)).flatMap (·.2)) = some n → bs.length = n) →
    ArgsV 6 (h0 ++ bs) [ctP6, ctC2, ctS] us → ∃ h', U.E1.call 31 (h0 ++ bs).length 4 us (h0 ++ bs) = some (.bool true, h') := by
  intro bs us hq hf k a
  obtain ⟨u, v, w, rfl, a1, a2, a3⟩ := args3 a
  obtain ⟨l, s⟩ := arg_p6 a1
  obtain ⟨x, y, rfl, hx, hy⟩ := arg_agg2 a2
  obtain ⟨t, rfl, _⟩ := arg_str a3
  have hb : bs.length = 1 := k 1 (by decide)
  have hl : l.length ≤ 2932031007402 := by
    have q := hq u rfl
    rcases s.low with e | ⟨b, o, n, m, e, _⟩
    · have := s.len
      rw [e] at this
      simp at this
      rw [← this]; omega
    · subst e
      have := s.len
      simp at this
      have := q b o n m rfl
      omega
  rw [tx_of t]
  subst e0
  match bs, hb with
  | [B], _ =>
    refine ⟨_, U.law4 s (by omega) hx hy (er00 te [B]) (fun A => ?_)⟩
    rw [hf]
    exact awake8 _ _ _ _ _ _ _ B A
end H
end Go.Abs
