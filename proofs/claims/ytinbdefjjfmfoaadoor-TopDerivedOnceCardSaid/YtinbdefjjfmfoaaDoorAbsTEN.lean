/- Frequencies. -/
import Derived.Test.YtinbdefjjfmfoaaDoorAbsTEM
set_option linter.unusedSimpArgs false
set_option linter.unusedVariables false
/- Frequencies. -/
namespace Go.Abs
namespace T
set_option maxRecDepth 100000
set_option maxHeartbeats 0
theorem enc_small {P S : Nat → Int} (o : Okt P S) {n t L H : Nat} (hn : n ≤ 87) (ht : t ≤ 16000000) (s : encN P S t n L H) : smallL L H = L ∧ smallH L H = H ∧ smallE L H = 0 := by
  obtain ⟨a1, a2, a3⟩ := small_eq (EncS.lt s).1
  have b := enc_note o hn ht s
  rw [if_pos b] at a1 a2 a3
  exact ⟨a1, a2, a3⟩
theorem c31 {d lim : Nat} {h : Heap} {C : List Value} {nm : ByteArray} {P S : Nat → Int} {F n L H : Nat} (sp : SlU h (.slice (some ⟨0, 0, none⟩) 3 1) [2, 3, 5]) (t : Tm C nm P S) (hs : nm.size ≤ 1000) (h0 : chkT nm P S = 0)
    (hn : n ≤ 87) (hF : 1 ≤ F ∧ F ≤ 1000000) (s : encN P S F n L H) :
    E.call (d + 7) lim 31 [.agg C.toArray, i64 F, i64 n] h = some (rge L H 0, h) := by
  obtain ⟨o, _⟩ := okt h0
  have hf : isFork F = true := by simp [isFork, within]; omega
  have hN : isNote n = true := by simp [isNote, within]; omega
  have gb : Heap.get (h.freeze ++ [some ⟨C, true⟩, some ⟨[i64 0, i64 0], true⟩, some ⟨[.bool (isFork F), .bool (isNote n)], true⟩]) (h.length + 2) = some ⟨[.bool (isFork F), .bool (isNote n)], true⟩ := by rw [hget_base (by simp)]; rfl
  have sl := SlBo2 gb
  have gk : ∀ L, Heap.get (h.freeze ++ (some ⟨C, true⟩ :: some ⟨[i64 0, i64 0], true⟩ :: some ⟨[.bool true, .bool true], true⟩ :: some ⟨circK P S, true⟩ :: L)) (h.length + 3) = some ⟨circK P S, true⟩ := fun L => by rw [hget_base (by simp)]; rfl
  have sp2 : ∀ L, SlU (h.freeze ++ L) (.slice (some ⟨0, 0, none⟩) 3 1) [2, 3, 5] := fun L => (Sl_freeze.2 sp).app L
  have k84 := fun lim => c84 (d := d + 1) (lim := lim) t hs sl (by simp) h0 (by simp [hf, hN])
  simp only [hf, hN, List.length_append, Heap.length_freeze, List.length_cons, List.length_nil, List.append_assoc, List.cons_append, List.nil_append] at k84
  obtain ⟨e1, e2, e3⟩ := enc_small o hn (by omega) s
  have k96 := fun lim L => c96 (d := d) (lim := lim) (sp2 _) (gk L) o hn ⟨hF.1, by omega⟩ s
  rw [e1, e2, e3] at k96
  refine call1 fn31 rfl (by simp [ef31]) ?_
  simp [ef31, t.len, t.take, c93, c85, hf, hN, k84, k96]
end T
end Go.Abs
/- Nothing of this text is needed here. -/
/- Nothing of this text is needed here. -/
