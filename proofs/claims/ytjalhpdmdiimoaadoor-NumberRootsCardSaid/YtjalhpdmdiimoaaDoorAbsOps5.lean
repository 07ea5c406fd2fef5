/- Each operation of the abstract evaluator is what the program's operation does: strings and bytes, slices, new memory, append. -/
import Derived.Test.YtjalhpdmdiimoaaDoorAbsOps4
import Derived.Laws.Externs
import Derived.KernelRfl
set_option linter.unusedSimpArgs false
set_option linter.unusedVariables false
namespace Go.Abs
section
variable {P : Program} {a : Act} {o : Oper} {w : World} {ρ : Ren} {h : Heap} {lim : Nat} {ev : Operand → Option Value} {out : Out}

theorem E.bytes_spec : ∀ {l : List Value} {r : List UInt8}, E.bytes l = some r → ∃ ns : List Int, l = ns.map (Value.int .u8) ∧ r = ns.map fun n => UInt8.ofNat n.toNat
  | [], r, h => by simp [E.bytes] at h; subst h; exact ⟨[], rfl, rfl⟩
  | v :: l, r, h => by
    unfold E.bytes at h
    split at h
    · rename_i h1; cases h1
    · rename_i n rest h1
      cases h1
      simp only [Option.map_eq_some_iff] at h
      obtain ⟨r0, h0, rfl⟩ := h
      obtain ⟨ns, rfl, rfl⟩ := E.bytes_spec h0
      exact ⟨n :: ns, rfl, rfl⟩
    · cases h

theorem foldl_push (ns : List Int) (acc : ByteArray) : ns.foldl (fun r n => r.push (UInt8.ofNat n.toNat)) acc = ⟨acc.data ++ (ns.map fun n => UInt8.ofNat n.toNat).toArray⟩ := by
  induction ns generalizing acc with
  | nil => simp
  | cons n ns ih =>
    rw [List.foldl_cons, ih]
    congr 1
    apply Array.ext'
    simp [ByteArray.push]

theorem sound_strMove {s d : TypeId} {x : Operand} (ho : o.op = .convert s d x) (hs : P.underlying s = some .string) (hd : P.underlying d = some .string) (hrun : (EOp.strMove x).run lim h ev = some out)
    (hx : ∀ v, ev x = some v → VRel ρ v (a.eval x)) : OpRes P a o w ρ h.length out := by
  simp only [EOp.run] at hrun
  split at hrun
  · rename_i t hp
    cases hrun
    have e1 := (hx _ hp).string_inv
    exact .pure (v' := .string t) (by simp [execOp, ho, e1, convert, run_underlying hs, run_underlying hd]) (.plain rfl) rfl
  · cases hrun

theorem sound_strOf {s d e : TypeId} {x : Operand} (ho : o.op = .convert s d x) (hs : P.underlying s = some (.slice e)) (he : P.underlying e = some (.int .u8)) (hd : P.underlying d = some .string)
    (hrun : (EOp.strOf x).run lim h ev = some out) (hx : ∀ v, ev x = some v → VRel ρ v (a.eval x)) (hblk : ∀ i ∈ out.reads, ∀ b L, h.get i = some b → ρ i = some L → BlkOk ρ L b w.heap[L.blk]?) : OpRes P a o w ρ h.length out := by
  simp only [EOp.run] at hrun
  split at hrun
  · rename_i hp
    cases hrun
    have e1 := (hx _ hp).plain_inv rfl
    refine .pure (v' := .string .empty) ?_ (.plain rfl) rfl
    simp [execOp, ho, e1, run_convert_bytes_string w s d e none 0 0 hs he hd, Conv.bytesToString]
  · rename_i b off n st hp
    split at hrun
    · rename_i hst
      subst hst
      split at hrun
      · rename_i k hk
        split at hrun
        · rename_i hle
          simp only [Option.map_eq_some_iff] at hrun
          obtain ⟨l, hl, rfl⟩ := hrun
          obtain ⟨L, ad, cap, hL, e1, hn, ha, hsp, _, hc, _⟩ := (hx _ hp).slice_inv
          obtain ⟨ns, hns, rfl⟩ := E.bytes_spec hl
          obtain ⟨vs, r, hlen, hcell⟩ := (hblk b (by simp) k L hk hL).cells hle
          rw [hns] at r
          have hvs : vs = ns.map (Value.int .u8) := r.plain_eq (by simp [plainV])
          subst hvs
          have hadr : n = 0 ∨ ad = ⟨L.blk, L.off + off, none⟩ := by
            rcases Nat.eq_zero_or_pos n with h0 | h0
            · exact .inl h0
            · right
              obtain ⟨hoff, _⟩ := hc (by omega)
              replace hsp := hsp (by omega)
              obtain ⟨ab, ao, as⟩ := ad
              simp only at ha hsp hoff
              subst ha hsp hoff; rfl
          have hlc : (loadCells ad n).run P w = .ok (ns.map (Value.int .u8)).toArray w := by
            rcases hadr with h0 | rfl
            · subst h0
              have : ns = [] := List.eq_nil_of_length_eq_zero (by simpa using hlen)
              subst this
              simp [loadCells, loadCellsFrom]
            · have := run_loadCells (P := P) (w := w) (c := L.blk) (o := L.off + off) (ns.map (Value.int .u8)) 0 #[] (by intro j v hv; rw [Nat.zero_add]; exact hcell j v hv)
              rw [hlen] at this
              simpa [loadCells] using this
          refine .pure (v' := .string ⟨(ns.map fun n => UInt8.ofNat n.toNat).toArray⟩) ?_ (.plain rfl) rfl
          have hr := run_bytesToString (P := P) w ad n cap ns hlc
          rw [foldl_push] at hr
          simp only [execOp, ho, e1]
          simp only [Sem.run_bind, run_convert_bytes_string w s d e _ _ _ hs he hd, hr, Result.andThen_ok, Sem.run_pure]
          simp
        · cases hrun
      · cases hrun
    · cases hrun
  · cases hrun

theorem E.bound_run {dflt : Nat} {x : Option Operand} {r y : Nat} (hb : E.bound ev dflt x = some r) (hx : ∀ z, x = some z → ∀ v, ev z = some v → VRel ρ v (a.eval z)) (code : BoundsCode) (hy : r ≤ y) :
    (match x.map a.eval with | some v => Instr.sliceBound v y code | none => pure dflt : Sem Nat).run P w = .ok r w := by
  unfold E.bound at hb
  split at hb
  · cases hb; rfl
  · rename_i z
    split at hb
    · rename_i k n hz
      have e := (hx z rfl _ hz).int_inv
      split at hb
      · rename_i h0
        cases hb
        have : 0 ≤ n ∧ n ≤ y := ⟨h0, by omega⟩
        simp [e, Instr.sliceBound, asIntOf, this]
      · cases hb
    · cases hb

theorem run_sliceBounds {isS : Bool} {ln cap l u : Nat} {lo hi : Option Operand} (hl : E.bound ev 0 lo = some l) (hu : E.bound ev ln hi = some u) (hlu : l ≤ u) (huc : u ≤ cap)
    (hx : ∀ z, lo = some z → ∀ v, ev z = some v → VRel ρ v (a.eval z)) (hy : ∀ z, hi = some z → ∀ v, ev z = some v → VRel ρ v (a.eval z)) :
    (Instr.sliceBounds isS ln cap (lo.map a.eval) (hi.map a.eval) none).run P w = .ok (l, u, cap) w := by
  have h1 := E.bound_run (P := P) (w := w) (y := cap) hu hy (if isS then .sliceAcap else .sliceAlen) huc
  have h2 := E.bound_run (P := P) (w := w) (y := u) hl hx .sliceB hlu
  unfold Instr.sliceBounds
  cases hi with
  | none =>
    have e : ln = u := by simpa [E.bound] using hu
    subst e
    cases lo with
    | none =>
      have e : 0 = l := by simpa [E.bound] using hl
      subst e
      rfl
    | some z =>
      simp only [Option.map_some] at h2
      simp [h2]
  | some y =>
    simp only [Option.map_some] at h1
    cases lo with
    | none =>
      have e : 0 = l := by simpa [E.bound] using hl
      subst e
      simp [h1]
    | some z =>
      simp only [Option.map_some] at h2
      simp [h1, h2]

theorem sound_slice {t e : TypeId} {s : Nat} {x : Operand} {lo hi : Option Operand} (ho : o.op = .slice t x lo hi none) (hu : P.underlying t = some (.slice e)) (hs : sizeT P e = some s) (hs0 : 0 < s)
    (hrun : (EOp.slice s x lo hi).run lim h ev = some out) (hx : ∀ v, ev x = some v → VRel ρ v (a.eval x))
    (hlo : ∀ z, lo = some z → ∀ v, ev z = some v → VRel ρ v (a.eval z)) (hhi : ∀ z, hi = some z → ∀ v, ev z = some v → VRel ρ v (a.eval z)) : OpRes P a o w ρ h.length out := by
  simp only [EOp.run] at hrun
  split at hrun
  · rename_i hp
    have e1 := (hx _ hp).plain_inv rfl
    split at hrun
    · rename_i h1 h2
      cases hrun
      have hb := run_sliceBounds (P := P) (w := w) (isS := true) (cap := 0) h1 h2 (Nat.le_refl 0) (Nat.le_refl 0) hlo hhi
      refine .pure (v' := .slice none 0 0) ?_ (.plain rfl) rfl
      simp only [execOp, ho, e1, Instr.sliceAt, Instr.slice, Option.map_none]
      simp [run_underlying hu, hb, sizeT_run hs]
    · cases hrun
  · rename_i b off n st hp
    split at hrun
    · rename_i l u hl hu'
      split at hrun
      · rename_i hc
        obtain ⟨hlu, hun, rfl⟩ := hc
        cases hrun
        obtain ⟨L, ad, cap, hL, e1, hn, ha, hsp, hz, hcc, hm⟩ := (hx _ hp).slice_inv
        have hb := run_sliceBounds (P := P) (w := w) (isS := true) (cap := cap) hl hu' hlu (by omega) hlo hhi
        refine .pure (v' := .slice (some (if cap = l then ad else ad.add (l * st))) (u - l) (cap - l)) ?_ ?_ rfl
        · simp only [execOp, ho, e1, Instr.sliceAt, Instr.slice, Option.map_none]
          simp [run_underlying hu, hb, sizeT_run hs]
          split <;> rfl
        · refine .slice hL (by omega) ?_ ?_ (by omega) ?_ (by omega)
          · split
            · exact ha
            · unfold Addr.add; split <;> exact ha
          · intro hne
            replace hsp := hsp (by omega)
            split
            · exact hsp
            · unfold Addr.add; split
              · exact hsp
              · rfl
          · intro hne
            replace hsp := hsp (by omega)
            obtain ⟨hoff, hle⟩ := hcc (by omega)
            rw [if_neg (by omega)]
            have hmul : cap * st = (cap - l) * st + l * st := by rw [← Nat.add_mul]; congr 1; omega
            refine ⟨?_, by omega⟩
            obtain ⟨ab, ao, as⟩ := ad
            simp only at hsp hoff
            subst hsp hoff
            rw [add_addr]
            simp only; omega
      · cases hrun
    · cases hrun
  · cases hrun

theorem sound_sliceNone {t e : TypeId} {s : Nat} {x m : Operand} {lo hi : Option Operand} (ho : o.op = .slice t x lo hi (some m)) (hu : P.underlying t = some (.slice e)) (hs : sizeT P e = some s)
    (hm : isZero (some m) = true) (hh : isZero hi = true) (hl : lo = none ∨ isZero lo = true)
    (hrun : (EOp.sliceNone s x).run lim h ev = some out) (hx : ∀ v, ev x = some v → VRel ρ v (a.eval x)) : OpRes P a o w ρ h.length out := by
  have z : ∀ y : Option Operand, isZero y = true → y = some (.const (.int .i64 0)) := by
    intro y hy; unfold isZero at hy; split at hy <;> first | rfl | cases hy
  have em : m = .const (.int .i64 0) := by simpa using z _ hm
  have eh := z _ hh
  subst em eh
  have hb : ∀ cap, (Instr.sliceBounds true cap cap (lo.map a.eval) (some (a.eval (.const (.int .i64 0)))) (some (a.eval (.const (.int .i64 0))))).run P w = .ok (0, 0, 0) w ∧
      ∀ n, (Instr.sliceBounds true n cap (lo.map a.eval) (some (a.eval (.const (.int .i64 0)))) (some (a.eval (.const (.int .i64 0))))).run P w = .ok (0, 0, 0) w := by
    intro cap
    have : ∀ n, (Instr.sliceBounds true n cap (lo.map a.eval) (some (a.eval (.const (.int .i64 0)))) (some (a.eval (.const (.int .i64 0))))).run P w = .ok (0, 0, 0) w := by
      intro n
      rcases hl with rfl | hl
      · simp [Instr.sliceBounds, Act.eval, Instr.sliceBound, asIntOf]
      · have el := z _ hl
        subst el
        simp [Instr.sliceBounds, Act.eval, Instr.sliceBound, asIntOf]
    exact ⟨this cap, this⟩
  simp only [EOp.run] at hrun
  split at hrun
  · rename_i hp
    cases hrun
    have e1 := (hx _ hp).plain_inv rfl
    refine .pure (v' := .slice none 0 0) ?_ (.plain rfl) rfl
    simp only [execOp, ho, e1, Instr.sliceAt, Instr.slice, Option.map_some]
    simp [run_underlying hu, (hb 0).2 0, sizeT_run hs]
  · rename_i b off n st hp
    cases hrun
    obtain ⟨L, ad, cap, hL, e1, hn, ha, hsp, hz, hcc, hmx⟩ := (hx _ hp).slice_inv
    refine .pure (v' := .slice (some ad) 0 0) ?_ (.slice hL (Nat.le_refl 0) ha (fun q => absurd rfl q) (fun _ => rfl) (fun q => absurd rfl q) (by simp)) rfl
    simp only [execOp, ho, e1, Instr.sliceAt, Instr.slice, Option.map_some]
    simp [run_underlying hu, (hb cap).2 n, sizeT_run hs]
  · cases hrun

theorem sound_strSlice {t : TypeId} {x : Operand} {lo hi : Option Operand} (ho : o.op = .slice t x lo hi none) (hu : P.underlying t = some .string)
    (hrun : (EOp.strSlice x lo hi).run lim h ev = some out) (hx : ∀ v, ev x = some v → VRel ρ v (a.eval x))
    (hlo : ∀ z, lo = some z → ∀ v, ev z = some v → VRel ρ v (a.eval z)) (hhi : ∀ z, hi = some z → ∀ v, ev z = some v → VRel ρ v (a.eval z)) : OpRes P a o w ρ h.length out := by
  simp only [EOp.run] at hrun
  split at hrun
  · rename_i s hp
    have e1 := (hx _ hp).string_inv
    split at hrun
    · rename_i l u hl hu'
      split at hrun
      · rename_i hc
        cases hrun
        have hb := run_sliceBounds (P := P) (w := w) (isS := false) (cap := s.size) hl hu' hc.1 hc.2 hlo hhi
        refine .pure (v' := .string (s.extract l u)) ?_ (.plain rfl) rfl
        simp only [execOp, ho, e1, Instr.sliceAt, Instr.slice, Option.map_none]
        simp [run_underlying hu, hb]
      · cases hrun
    · cases hrun
  · cases hrun

theorem sound_arrSlice {t e : TypeId} {n s : Nat} {x : Operand} {lo hi : Option Operand} (ho : o.op = .slice t x lo hi none) (hu : P.underlying t = some (.array n e)) (hs : sizeT P e = some s)
    (hrun : (EOp.arrSlice n s x lo hi).run lim h ev = some out) (hx : ∀ v, ev x = some v → VRel ρ v (a.eval x)) (hblk : ∀ i ∈ out.reads, ∀ b L, h.get i = some b → ρ i = some L → BlkOk ρ L b w.heap[L.blk]?)
    (hlo : ∀ z, lo = some z → ∀ v, ev z = some v → VRel ρ v (a.eval z)) (hhi : ∀ z, hi = some z → ∀ v, ev z = some v → VRel ρ v (a.eval z)) : OpRes P a o w ρ h.length out := by
  simp only [EOp.run] at hrun
  split at hrun
  · rename_i b off hp
    obtain ⟨L, hL, e1⟩ := (hx _ hp).ptr_inv
    split at hrun
    · rename_i l u k hl hu' hk
      split at hrun
      · rename_i hc
        obtain ⟨hlu, hun, hle, hs0, hnm⟩ := hc
        cases hrun
        have hb := run_sliceBounds (P := P) (w := w) (isS := false) (cap := n) hl hu' hlu hun hlo hhi
        obtain ⟨cur, e', fz, h1, h2, h3, _, _⟩ := hblk b (by simp) k L hk hL
        refine .pure (v' := .slice (some (if n = l then ⟨L.blk, L.off + off, none⟩ else ⟨L.blk, L.off + off + l * s, none⟩)) (u - l) (n - l)) ?_ ?_ rfl
        · simp only [execOp, ho, e1, Instr.sliceAt, Option.map_none]
          simp [run_underlying hu, hb, sizeT_run hs, Instr.sureAddr, add_addr]
        · refine .slice hL (by omega) ?_ ?_ (by omega) ?_ (by omega)
          · split <;> rfl
          · intro _; split <;> rfl
          · intro hne
            rw [if_neg (by omega)]
            have hmul : n * s = (n - l) * s + l * s := by rw [← Nat.add_mul]; congr 1; omega
            exact ⟨by simp only; omega, by omega⟩
      · cases hrun
    · cases hrun
  · cases hrun
end
end Go.Abs
