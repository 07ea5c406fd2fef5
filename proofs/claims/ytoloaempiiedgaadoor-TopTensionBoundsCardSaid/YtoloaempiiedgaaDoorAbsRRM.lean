--
import Derived.Test.YtoloaempiiedgaaDoorAbsRUN
import Derived.Test.YtoloaempiiedgaaDoorAbsRArgs
import Derived.Test.YtoloaempiiedgaaDoorAbsTypM
import Derived.Test.YtoloaempiiedgaaDoorAbsRBN
import Derived.Test.YtoloaempiiedgaaDoorAbsRKO
import Derived.Test.YtoloaempiiedgaaDoorAbsRMM
set_option linter.unusedSimpArgs false
set_option linter.unusedVariables false
namespace Go.Abs
namespace R
set_option maxRecDepth 100000
abbrev ctWs : CT := .sl [.str, ctI, ctI, ctI]
abbrev ctUs : CT := .sl [ctI, ctI, ctI, ctI, ctI, ctI, ctI, ctI, .str, .str]
abbrev ctP : Bool × List CT := (true, [ctI, ctWs, ctUs])
def gStr : Value → ByteArray
 | .string s => s
 | _ => ⟨#[]⟩
def gInt : Value → Int
 | .int _ n => n
 | _ => 0
theorem typ_wires {d : Nat} {h : Heap} {u : Value} (a : Typ (d + 1) h ctWs u) : ∃ l : List Wi, SlW h u l := by
 obtain ⟨l, s, _, _⟩ := typ_slX (cts := [.str, ctI, ctI, ctI]) (by decide) encW (fun g => ⟨gStr (g 0), gInt (g 1), gInt (g 2), gInt (g 3)⟩) (fun _ => rfl) (d := d) (h := h) (fun g hg j hj => by
  obtain ⟨s0, e0, _⟩ := typ_str (hg 0 _ rfl)
  obtain ⟨n1, e1, _⟩ := typ_int (hg 1 _ rfl)
  obtain ⟨n2, e2, _⟩ := typ_int (hg 2 _ rfl)
  obtain ⟨n3, e3, _⟩ := typ_int (hg 3 _ rfl)
  have hj' : j < 4 := hj
  have : j = 0 ∨ j = 1 ∨ j = 2 ∨ j = 3 := by omega
  rcases this with rfl | rfl | rfl | rfl
  ·rw [e0]; rfl
  ·rw [e1]; rfl
  ·rw [e2]; rfl
  ·rw [e3]; rfl) a
 exact ⟨l, s⟩
theorem typ_unisons {d : Nat} {h : Heap} {u : Value} (a : Typ (d + 1) h ctUs u) : ∃ l : List Un, SlN h u l := by
 obtain ⟨l, s, _, _⟩ := typ_slX (cts := [ctI, ctI, ctI, ctI, ctI, ctI, ctI, ctI, .str, .str]) (by decide) encN (fun g => ⟨gInt (g 0), gInt (g 1), gInt (g 2), gInt (g 3), gInt (g 4), ⟨gInt (g 5), gInt (g 6), gInt (g 7), gStr (g 8), gStr (g 9)⟩⟩) (fun _ => rfl) (d := d) (h := h) (fun g hg j hj => by
  obtain ⟨n0, e0, _⟩ := typ_int (hg 0 _ rfl)
  obtain ⟨n1, e1, _⟩ := typ_int (hg 1 _ rfl)
  obtain ⟨n2, e2, _⟩ := typ_int (hg 2 _ rfl)
  obtain ⟨n3, e3, _⟩ := typ_int (hg 3 _ rfl)
  obtain ⟨n4, e4, _⟩ := typ_int (hg 4 _ rfl)
  obtain ⟨n5, e5, _⟩ := typ_int (hg 5 _ rfl)
  obtain ⟨n6, e6, _⟩ := typ_int (hg 6 _ rfl)
  obtain ⟨n7, e7, _⟩ := typ_int (hg 7 _ rfl)
  obtain ⟨s8, e8, _⟩ := typ_str (hg 8 _ rfl)
  obtain ⟨s9, e9, _⟩ := typ_str (hg 9 _ rfl)
  have hj' : j < 10 := hj
  have : j = 0 ∨ j = 1 ∨ j = 2 ∨ j = 3 ∨ j = 4 ∨ j = 5 ∨ j = 6 ∨ j = 7 ∨ j = 8 ∨ j = 9 := by omega
  rcases this with rfl | rfl | rfl | rfl | rfl | rfl | rfl | rfl | rfl | rfl
  ·rw [e0]; rfl
  ·rw [e1]; rfl
  ·rw [e2]; rfl
  ·rw [e3]; rfl
  ·rw [e4]; rfl
  ·rw [e5]; rfl
  ·rw [e6]; rfl
  ·rw [e7]; rfl
  ·rw [e8]; rfl
  ·rw [e9]; rfl) a
 exact ⟨l, s⟩
theorem arg_stringing {d : Nat} {h : Heap} {u : Value} (a : ArgV (d + 1) h ctP u) : ∃ t v w wl l, u = stV t v w ∧ SlW h v wl ∧ SlN h w l := by
 obtain ⟨us, rfl, hl, t⟩ := a
 match us, hl with
 | [u0, u1, u2], _ =>
  obtain ⟨x, rfl, _⟩ := typ_int (t 0 _ _ rfl rfl)
  obtain ⟨wl, s⟩ := typ_wires (t 1 _ _ rfl rfl)
  obtain ⟨l, q⟩ := typ_unisons (t 2 _ _ rfl rfl)
  exact ⟨x, u1, u2, wl, l, rfl, s, q⟩
def LawP (f : Nat) (cts : List (Bool × List CT)) : Prop := ∀ (bs : List (Option Blk)) us, Heap.freeze (([primesB] : Heap) ++ bs) = [primesB] ++ bs → (∀ n, ctBlocks (cts.flatMap (·.2)) = some n → bs.length = n) →
  ArgsV 6 (([primesB] : Heap) ++ bs) cts us → ∃ h', E.call 40 (([primesB] : Heap) ++ bs).length f us ([primesB] ++ bs) = some (.bool true, h')
end R
end Go.Abs
namespace Go.Abs
namespace R
set_option maxRecDepth 100000
abbrev ctL : Bool × List CT := (true, [ctI, ctI, ctI, ctI])
theorem arg_limits {d : Nat} {h : Heap} {u : Value} (a : ArgV d h ctL u) : ∃ L : Lm, u = lmV L := by
 obtain ⟨p, q, r, t, rfl, _, _, _, _⟩ := arg_agg4 a
 exact ⟨⟨p, q, r, t⟩, rfl⟩
abbrev ctIs : Bool × List CT := (false, [.sl [ctI]])
theorem arg_ints {d : Nat} {h : Heap} {u : Value} (a : ArgV (d + 1) h ctIs u) : ∃ l : List Int, SlI' h u l := by
 have e : ∀ l : List Int, cS (fun n : Int => [Value.int .i64 n]) l = cI l := by
  intro l
  induction l with
  | nil => rfl
  | cons a r ih => unfold cS cI at ih ⊢; rw [List.flatMap_cons, ih]; rfl
 obtain ⟨l, s, _, _⟩ := typ_slG (k := 1) (by decide) (fun n : Int => [Value.int .i64 n]) (fun g => g 0) (fun _ => rfl) (fun g j hj => by
  obtain rfl : j = 0 := by omega
  rfl) (a.2 0 _ _ rfl rfl)
 rw [e] at s
 exact ⟨l, s⟩
end R
end Go.Abs
namespace Go.Abs
namespace R
set_option maxRecDepth 100000
theorem law5 : LawP 5 [ctP, ctL, ctIs] := by
 intro bs us _ _ a
 obtain ⟨v, w, z, rfl, a1, a2, a3⟩ := args3 a
 obtain ⟨t, v, w, wl, l, rfl, s, q⟩ := arg_stringing (d := 5) a1
 obtain ⟨L, rfl⟩ := arg_limits a2
 obtain ⟨G, sg⟩ := arg_ints (d := 5) a3
 exact c5 (d := 28) (sp1 bs) s q sg (Nat.le_refl _)
end R
end Go.Abs
