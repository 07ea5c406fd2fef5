/- Chapter 2: the laws, from a row's premise. -/
import Derived.Test.YtodofkolnmoliaaAbsVZM
import Derived.Test.YtodofkolnmoliaaAbsVArgs
import Derived.Test.YtodofkolnmoliaaAbsTyped2
set_option linter.unusedSimpArgs false
set_option linter.unusedVariables false
namespace Go.Abs
namespace V
set_option maxRecDepth 100000
abbrev ctW : Bool × List CT := (false, [.sl [.str, ctI, ctI, ctI]])
abbrev ctS : Bool × List CT := (true, [ctI, ctI, ctI, .str, .str])
abbrev ctR : Bool × List CT := (true, [ctI, ctI])
def gStr : Value → ByteArray
  | .string s => s
  | _ => ⟨#[]⟩
def gInt : Value → Int
  | .int _ n => n
  | _ => 0
theorem arg_wires {d : Nat} {h : Heap} {u : Value} (a : ArgV (d + 1) h ctW u) : ∃ l : List Wi, SlW h u l := by
  obtain ⟨l, s, _, _⟩ := typ_slX (cts := [.str, ctI, ctI, ctI]) (by decide) encW (fun g => ⟨gStr (g 0), gInt (g 1), gInt (g 2), gInt (g 3)⟩) (fun _ => rfl) (d := d) (h := h) (fun g hg j hj => by
    obtain ⟨s0, e0, _⟩ := typ_str (hg 0 _ rfl)
    obtain ⟨n1, e1, _⟩ := typ_int (hg 1 _ rfl)
    obtain ⟨n2, e2, _⟩ := typ_int (hg 2 _ rfl)
    obtain ⟨n3, e3, _⟩ := typ_int (hg 3 _ rfl)
    have hj' : j < 4 := hj
    have : j = 0 ∨ j = 1 ∨ j = 2 ∨ j = 3 := by omega
    rcases this with rfl | rfl | rfl | rfl
    · rw [e0]; rfl
    · rw [e1]; rfl
    · rw [e2]; rfl
    · rw [e3]; rfl) (a.2 0 _ _ rfl rfl)
  exact ⟨l, s⟩
theorem arg_strand {d : Nat} {h : Heap} {u : Value} (a : ArgV d h ctS u) : ∃ s : Sd, u = sdV s := by
  obtain ⟨us, rfl, hl, t⟩ := a
  match us, hl with
  | [u0, u1, u2, u3, u4], _ =>
    obtain ⟨x, rfl, _⟩ := typ_int (t 0 _ _ rfl rfl)
    obtain ⟨y, rfl, _⟩ := typ_int (t 1 _ _ rfl rfl)
    obtain ⟨z, rfl, _⟩ := typ_int (t 2 _ _ rfl rfl)
    obtain ⟨w, rfl, _⟩ := typ_str (t 3 _ _ rfl rfl)
    obtain ⟨p, rfl, _⟩ := typ_str (t 4 _ _ rfl rfl)
    exact ⟨⟨x, y, z, w, p⟩, rfl⟩
theorem arg_ranges {d : Nat} {h : Heap} {u : Value} (a : ArgV (d + 1) h (false, [.sl [ctI, ctI]]) u) : ∃ l : List XR, SlR h u l := by
  obtain ⟨l, s, _, _⟩ := typ_slG (k := 2) (by decide) encR (fun g => (g 0, g 1)) (fun _ => rfl) (fun g j hj => by
    have : j = 0 ∨ j = 1 := by omega
    rcases this with rfl | rfl <;> rfl) (a.2 0 _ _ rfl rfl)
  exact ⟨l, s⟩
/-- A law at all arguments of its types. -/
def Law (f : Nat) (cts : List (Bool × List CT)) : Prop := ∀ (bs : List (Option Blk)) us, Heap.freeze (([] : Heap) ++ bs) = [] ++ bs → (∀ n, ctBlocks (cts.flatMap (·.2)) = some n → bs.length = n) →
    ArgsV 6 (([] : Heap) ++ bs) cts us → ∃ h', E.call 40 (([] : Heap) ++ bs).length f us ([] ++ bs) = some (.bool true, h')
theorem law4 : Law 4 [ctW, ctS] := by
  intro bs us _ _ a
  obtain ⟨v, w, rfl, a1, a2⟩ := args2 a
  obtain ⟨l, s⟩ := arg_wires (d := 5) a1
  obtain ⟨x, rfl⟩ := arg_strand a2
  exact ⟨_, c4 (d := 31) s⟩
theorem law5 : Law 5 [ctW, ctS, ctR] := by
  intro bs us _ _ a
  obtain ⟨v, w, z, rfl, a1, a2, a3⟩ := args3 a
  obtain ⟨l, s⟩ := arg_wires (d := 5) a1
  obtain ⟨x, rfl⟩ := arg_strand a2
  obtain ⟨p, q, rfl, _, _⟩ := arg_agg2 a3
  exact ⟨_, c5 (d := 31) s⟩
theorem law6 : Law 6 [ctW, ctS, ctR] := by
  intro bs us _ _ a
  obtain ⟨v, w, z, rfl, a1, a2, a3⟩ := args3 a
  obtain ⟨l, s⟩ := arg_wires (d := 5) a1
  obtain ⟨x, rfl⟩ := arg_strand a2
  obtain ⟨p, q, rfl, _, _⟩ := arg_agg2 a3
  exact ⟨_, c6 (d := 31) s⟩
theorem law3 : Law 3 [ctW, ctS, (true, [ctI, ctI, ctI, ctI])] := by
  intro bs us _ _ a
  obtain ⟨v, w, z, rfl, a1, a2, a3⟩ := args3 a
  obtain ⟨l, s⟩ := arg_wires (d := 5) a1
  obtain ⟨x, rfl⟩ := arg_strand a2
  obtain ⟨p, q, r, t, rfl, _, _, _, _⟩ := arg_agg4 a3
  exact ⟨_, c3 (d := 31) s⟩
theorem law7 : Law 7 [(false, [.sl [ctI, ctI]]), ctR] := by
  intro bs us _ _ a
  obtain ⟨v, w, rfl, a1, a2⟩ := args2 a
  obtain ⟨l, s⟩ := arg_ranges (d := 5) a1
  obtain ⟨p, q, rfl, _, _⟩ := arg_agg2 a2
  exact ⟨_, c7 (d := 31) s⟩
end V
end Go.Abs
