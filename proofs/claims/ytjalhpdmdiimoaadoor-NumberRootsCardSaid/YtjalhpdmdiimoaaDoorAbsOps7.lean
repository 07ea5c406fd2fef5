/- Each operation of the abstract evaluator is what the program's operation does: slices of parts, bytes of a string, append, a sum with carry. -/
import Derived.Test.YtjalhpdmdiimoaaDoorAbsOps6
set_option linter.unusedSimpArgs false
set_option linter.unusedVariables false
namespace Go.Abs
section
variable {P : Program} {a : Act} {o : Oper} {w : World} {ρ : Ren} {h : Heap} {lim : Nat} {ev : Operand → Option Value} {out : Out}

theorem sound_buildSlice {t e : TypeId} {ln s : Nat} {parts : Array (Nat × Operand)} {z : List Value} (ho : o.op = .buildSlice t ln parts) (hu : P.underlying t = some (.slice e)) (hs : sizeT P e = some s) (hz : zeroT P e = some z)
    (hs0 : 0 < s) (h24 : ln * s ≤ 2 ^ 24) (hrun : (EOp.buildSlice s ln (zeros z ln) (parts.toList.map fun (i, x) => (i * s, s, x))).run lim h ev = some out)
    (hx : ∀ x ∈ parts.toList.map (·.2), ∀ v, ev x = some v → VRel ρ v (a.eval x)) : OpRes P a o w ρ h.length out := by
  obtain ⟨i, zv, hi, hzv, hsz, rfl, hpl⟩ := zeroT_spec hz
  have hs' : i.size = s := by simpa [sizeT, hi] using hs
  simp only [EOp.run, Option.map_eq_some_iff] at hrun
  obtain ⟨cs, hcs, rfl⟩ := hrun
  have hzne : zv.cells.toList ≠ [] := fun q => by
    have q2 : zv.cells.size = 0 := by rw [← Array.length_toList, q]; rfl
    omega
  have hlen : (zeros zv.cells.toList ln).length = ln * s := by rw [zeros_length]; simp [hsz, hs']
  have e0 : (Array.range (ln * s)).map (fun j => zv.cells[j % zv.cells.size]!) = (zeros zv.cells.toList ln).toArray := by
    apply Array.ext
    · simp [hlen]
    · intro j h1 h2
      have hj : j < (zeros zv.cells.toList ln).length := by simpa using h2
      have hv := madeCells_get hzne (n := ln) (m := ln * s) (i := j) (v := (zeros zv.cells.toList ln)[j]) (by simp) (by simp [hsz, hs'])
      rw [Array.getElem?_eq_some_iff] at hv
      obtain ⟨_, hv⟩ := hv
      simpa using hv
  have hz0 : LRel (VRel ρ) (zeros zv.cells.toList ln) (zeros zv.cells.toList ln).toArray.toList := by
    simpa using LRel.refl_plain (R := VRel ρ) (fun v hv => .plain hv) (zeros_plain hpl ln)
  have hp' : parts.toList.mapM (fun (i, x) => (some (i * s, s) : Option (Nat × Nat)).map fun q => (q.1, q.2, x)) = some (parts.toList.map fun (i, x) => (i * s, s, x)) := by
    generalize parts.toList = l
    induction l with
    | nil => rfl
    | cons x l ih => rw [List.mapM_cons]; simp only [bind, Option.map_some, Option.bind_some] at ih ⊢; rw [ih]; rfl
  obtain ⟨r', h1, h2⟩ := fill_run (a := a) (ρ := ρ) (fun i => some (i * s, s)) _ _ _ (zeros zv.cells.toList ln).toArray _ hz0 hp' hcs hx
  have hlr := h2.len
  simp only [Array.length_toList] at hlr
  have hfl : ∀ (ps : List (Nat × Nat × Operand)) (c r : List Value), fillL ev c ps = some r → r.length = c.length := by
    intro ps
    induction ps with
    | nil => intro c r hr; simp [fillL] at hr; rw [hr]
    | cons q ps ih =>
      intro c r hr
      obtain ⟨a1, a2, a3⟩ := q
      simp only [fillL] at hr
      split at hr
      · split at hr
        · rw [ih _ _ hr, splice_length]
        · cases hr
      · cases hr
  have hcl := hfl _ _ _ hcs
  refine .push (cs := cs) (cur := r') (e := e) (fz := (0, 0)) (rw := true) (v' := .slice (some ⟨w.heap.size, 0, none⟩) ln ln) (w' := { w with heap := w.heap.push (.cells r' e) }) ?_ rfl ⟨rfl, rfl, rfl⟩ rfl (fun _ => rfl) (by omega) ?_ ?_
  · simp only [execOp, ho, Instr.buildSlice]
    have hzr : (zeroValue e).run P w = .ok zv w := by simp [zeroValue, typeInfo, hi, hzv]
    have hn24 : ¬ (ln * s > 2 ^ 24) := by omega
    simp only [Sem.run_bind, run_underlying hu, Result.andThen_ok, sizeT_run hs, hn24, if_false]
    have e : (parts.map fun (i, x) => (i, a.eval x)).toList = parts.toList.map fun (i, x) => (i, a.eval x) := by simp
    by_cases hq : ln * s = 0
    · have hl0 : ln = 0 := by
        rcases Nat.mul_eq_zero.1 hq with q | q
        · exact q
        · omega
      subst hl0
      have e0' : (zeros zv.cells.toList 0).toArray = #[] := by
        have : (zeros zv.cells.toList 0).length = 0 := by rw [zeros_length]; simp
        rw [List.eq_nil_of_length_eq_zero this]
      rw [e0'] at h1
      simp only [Nat.zero_mul, if_true, Sem.run_pure, Array.range_zero', e]
      simp [h1, newRow]
    · simp only [hq, if_false, Sem.run_bind, hzr, Result.andThen_ok, Sem.run_pure, e0, e, h1]
      simp [newRow]
  · intro j v hv
    obtain ⟨v', a1, a2⟩ := h2.get hv
    exact ⟨v', by simpa using a1, a2⟩
  · refine .slice (L := ⟨w.heap.size, 0, r'.size⟩) (by simp [upd]) (Nat.le_refl _) rfl (fun _ => rfl) (by omega) (fun _ => ⟨rfl, by simp only; omega⟩) ?_
    have : ln ≤ ln * s := Nat.le_mul_of_pos_right ln hs0
    unfold maxLen; omega

theorem push_modify {α : Type} (xs : Array α) (x : α) (f : α → α) : (xs.push x).modify xs.size f = xs.push (f x) := by
  apply Array.ext
  · simp
  · intro i h1 h2
    rw [Array.getElem_modify]
    by_cases hi : xs.size = i
    · subst hi; simp
    · have h3 : i < xs.size := by simp at h1; omega
      simp [hi, Array.getElem_push, h3]

theorem run_markStringish (P : Program) (w : World) (cells : Array Value) (e : TypeId) :
    (markStringish ⟨w.heap.size, 0, none⟩).run P (w.alloc (.cells cells e)) = .ok () (w.alloc (.cells cells e (cells.size, cells.size + 1))) := by
  have h0 := heap_alloc_new w (.cells cells e)
  have h1 : (w.alloc (.cells cells e)).shape? w.heap.size = some (e, cells.size) := by unfold World.shape?; rw [h0]
  have h2 : ((w.alloc (.cells cells e)).freeze ⟨w.heap.size, cells.size, none⟩ 1) = w.alloc (.cells cells e (cells.size, cells.size + 1)) := by
    unfold World.freeze World.alloc
    rw [if_neg (by omega)]
    simp only [push_modify]
    rfl
  unfold markStringish
  simp only [Sem.run_bind, run_shape, Result.andThen_ok]
  rw [h1]
  simp only [run_freeze]
  rw [h2]

theorem sound_bytesOf {s d e : TypeId} {x : Operand} (ho : o.op = .convert s d x) (hs : P.underlying s = some .string) (he : P.underlying e = some (.int .u8)) (hd : P.underlying d = some (.slice e))
    (hrun : (EOp.bytesOf x).run lim h ev = some out) (hx : ∀ v, ev x = some v → VRel ρ v (a.eval x)) : OpRes P a o w ρ h.length out := by
  simp only [EOp.run] at hrun
  split at hrun
  · rename_i t hp
    split at hrun
    · rename_i hle
      cases hrun
      have e1 := (hx _ hp).string_inv
      have hcap := grownCap_ge w t.size 0 e
      have hmx := grownCap_le_maxLen w t.size 0 e hle
      let cur : Array Value := (t.data.map fun b => Value.int .u8 b.toNat) ++ Array.replicate (grownCap w t.size 0 e - t.size) (.int .u8 0)
      have hsz : cur.size = grownCap w t.size 0 e := by
        have : t.data.size = t.size := rfl
        simp [cur]; omega
      refine .push (cs := t.toList.map fun c => .int .u8 c.toNat) (cur := cur) (e := e) (fz := (cur.size, cur.size + 1)) (rw := false)
        (v' := .slice (some ⟨w.heap.size, 0, none⟩) t.size (grownCap w t.size 0 e)) (w' := (w.drew.alloc (.cells cur e (cur.size, cur.size + 1)))) ?_ rfl ⟨rfl, rfl, rfl⟩ rfl (fun q => by cases q) ?_ ?_ ?_
      · simp only [execOp, ho, e1]
        have : (convert s d (.string t)).run P w = .ok (.slice (some ⟨w.heap.size, 0, none⟩) t.size (grownCap w t.size 0 e)) (w.drew.alloc (.cells cur e (cur.size, cur.size + 1))) := by
          have hm := run_markStringish P w.drew cur e
          simp only [convert, Sem.run_bind, run_underlying hs, run_underlying hd, run_underlying he, Result.andThen_ok, Conv.stringToBytes, run_choose, Question.forced, Bool.false_eq_true, if_false, newRow, run_newObj]
          show ((markStringish ⟨w.drew.heap.size, 0, none⟩).run P (w.drew.alloc (.cells cur e))).andThen _ = _
          rw [hm]
          rfl
        simp [this]
      · simp [ByteArray.toList_eq, hsz]; have : t.data.size = t.size := rfl
        omega
      · intro i v hv
        refine ⟨v, ?_, .plain ?_⟩
        · simp only [cur]
          rw [ByteArray.toList_eq] at hv
          have hlt : i < t.data.size := by
            have := (List.getElem?_eq_some_iff.1 hv).1
            simpa using this
          rw [Array.getElem?_append_left (by simpa using hlt)]
          simpa using hv
        · have := List.mem_of_getElem? hv
          simp at this
          obtain ⟨c, _, rfl⟩ := this
          rfl
      · exact .slice (L := ⟨w.heap.size, 0, cur.size⟩) (by simp [upd]) hcap rfl (fun _ => rfl) (by omega) (fun _ => ⟨rfl, by simp only; omega⟩) hmx
    · cases hrun
  · cases hrun
/-- The cells that an append adds, in the program's own memory. -/
theorem added_spec {es : Nat} {x : Operand} {v : Value} {m : Nat} {xs : List Value} {rd : List Nat} (hes : 0 < es) (ha : E.added h es v = some (m, xs, rd)) (hv : VRel ρ v (a.eval x))
    (hblk : ∀ i ∈ rd, ∀ b L, h.get i = some b → ρ i = some L → BlkOk ρ L b w.heap[L.blk]?) :
    (m = 0 ∧ xs = [] ∧ ((∃ c, a.eval x = .slice none 0 c) ∨ ∃ ad c, a.eval x = .slice (some ad) 0 c)) ∨
    (0 < m ∧ ∃ ad c news, a.eval x = .slice (some ad) m c ∧ news.length = m * es ∧ LRel (VRel ρ) xs news ∧ ∀ (j : Nat) u, news[j]? = some u → w.cell? (ad.add j) = some u) := by
  unfold E.added at ha
  split at ha
  · cases ha
    exact .inl ⟨rfl, rfl, .inl ⟨0, hv.plain_inv rfl⟩⟩
  · rename_i b off n s
    obtain ⟨L, ad, cap, hL, e1, hn, hab, hsp, hz, hc, _⟩ := hv.slice_inv
    split at ha
    · rename_i h0
      cases ha
      subst h0
      exact .inl ⟨rfl, rfl, .inr ⟨ad, cap, e1⟩⟩
    · rename_i hn0
      split at ha
      · rename_i hse
        subst hse
        split at ha
        · rename_i k hk
          split at ha
          · rename_i hle
            cases ha
            obtain ⟨vs, r, hl, hcell⟩ := (hblk b (by simp) k L hk hL).cells hle
            refine .inr ⟨by omega, ad, cap, vs, e1, hl, r, ?_⟩
            obtain ⟨hoff, _⟩ := hc (by omega)
            replace hsp := hsp (by omega)
            obtain ⟨ab, ao, as⟩ := ad
            simp only at hab hsp hoff
            subst hab hsp hoff
            intro j u hu
            rw [add_addr]
            exact hcell j u hu
          · cases ha
        · cases ha
      · cases ha
  · cases ha

theorem oneCell_rel {xs ys : List Value} (hr : LRel (VRel ρ) xs ys) (h1 : xs.all Value.oneCell' = true) : ∀ v ∈ ys, v.oneCell' = true := by
  intro v hv
  obtain ⟨i, hi, rfl⟩ := List.getElem_of_mem hv
  have hl := hr.len
  obtain ⟨y, hy, r⟩ := hr.get (i := i) (x := xs[i]'(by omega)) (by simp)
  rw [List.getElem?_eq_getElem hi] at hy
  cases hy
  rw [r.oneCell]
  exact List.all_eq_true.1 h1 _ (List.getElem_mem _)

theorem run_append_zero {t e ty : TypeId} {i : TypeInfo} (ht : P.underlying t = some (.slice e)) (hi : P.info? e = some i) {base : Option Addr} {n cap : Nat} (hn : n ≤ cap) {v : Value}
    (hv : (∃ c, v = .slice none 0 c) ∨ ∃ ad c, v = .slice (some ad) 0 c) : (Builtin.append_ #[t, t] ty #[.slice base n cap, v]).run P w = .ok (.slice base n cap) w := by
  rcases hv with ⟨c, rfl⟩ | ⟨ad, c, rfl⟩ <;> cases base <;>
    simp [Builtin.append_, run_underlying ht, sizeOf, typeInfo, hi, Builtin.lenOf, hn, Builtin.firstCells, loadCells, loadCellsFrom, storeCells]

theorem run_append_in {t e ty : TypeId} {i : TypeInfo} (ht : P.underlying t = some (.slice e)) (hi : P.info? e = some i) {g o sLen sCap m c : Nat} {cur : Array Value} {e' : TypeId} (hg : w.heap[g]? = some (.cells cur e' (0, 0)))
    {ad : Addr} {news : List Value} (hl : news.length = m * i.size) (hnews : ∀ (j : Nat) u, news[j]? = some u → w.cell? (ad.add j) = some u) (h1 : ∀ u ∈ news, u.oneCell' = true)
    (hroom : sLen + m ≤ sCap) (hfit : o + sLen * i.size + news.length ≤ cur.size) :
    (Builtin.append_ #[t, t] ty #[.slice (some ⟨g, o, none⟩) sLen sCap, .slice (some ad) m c]).run P w =
      .ok (.slice (some ⟨g, o, none⟩) (sLen + m) sCap) (w.setRow g (cur.toList.take (o + sLen * i.size) ++ news ++ cur.toList.drop (o + sLen * i.size + news.length)).toArray) := by
  have hf := run_firstCells_some (P := P) w i.size m ad m c news hl hnews
  have hst := run_storeCells_at P g (o + sLen * i.size) e' news 0 cur w hg (by simpa using hfit) h1
  simp only [Nat.add_zero] at hst
  simp [Builtin.append_, run_underlying ht, sizeOf, typeInfo, hi, Builtin.lenOf, hroom, hf, add_addr, hst]

theorem append_grown {t e ty : TypeId} {i : TypeInfo} {zv : Value} (ht : P.underlying t = some (.slice e)) (hi : P.info? e = some i) (hz : i.zero = some zv) (hzs : zv.cells.size = i.size)
    {b : Addr} {sLen sCap m c : Nat} {olds news : List Value} (hlo : olds.length = sLen * i.size) (holds : ∀ (j : Nat) v, olds[j]? = some v → w.cell? (b.add j) = some v)
    {ad : Addr} (hl : news.length = m * i.size) (hnews : ∀ (j : Nat) v, news[j]? = some v → w.cell? (ad.add j) = some v) (hg : sCap < sLen + m) (hmx : sLen + m ≤ maxLen) (hb : (sLen + m) * i.bytes ≤ 140737488355328) :
    ∃ cap cur, (Builtin.append_ #[t, t] ty #[.slice (some b) sLen sCap, .slice (some ad) m c]).run P w = .ok (.slice (some ⟨w.heap.size, 0, none⟩) (sLen + m) cap) (w.drew.alloc (.cells cur e)) ∧
      sLen + m ≤ cap ∧ cap ≤ maxLen ∧ cur.size = cap * i.size ∧ ∀ (j : Nat) v, (olds ++ news)[j]? = some v → cur[j]? = some v := by
  have hmx' : ((sLen + m : Nat) : Int) ≤ 9223372036854775807 := by simp only [maxLen] at hmx; omega
  refine ⟨_, _, run_append_grow (P := P) w t ty e i zv ht hi hz b sLen sCap olds hlo holds ad m c news hl hnews hg hmx' (growslice_fits hg hb), grownCap_ge _ _ _ _, grownCap_le_maxLen _ _ _ _ hmx, ?_, ?_⟩
  · have hge := grownCap_ge w (sLen + m) sCap e
    simp only [Array.size_append, List.size_toArray, size_zeroCells, hzs, hlo, hl, ← Nat.add_mul]
    congr 1; omega
  · intro j v hv
    have hj : j < (olds ++ news).length := (List.getElem?_eq_some_iff.1 hv).1
    rw [Array.getElem?_append_left (by simpa using hj)]
    simpa using hv

theorem append_grown_nil {t e ty : TypeId} {i : TypeInfo} {zv : Value} (ht : P.underlying t = some (.slice e)) (hi : P.info? e = some i) (hz : i.zero = some zv) (hzs : zv.cells.size = i.size)
    {m c : Nat} {news : List Value} {ad : Addr} (hl : news.length = m * i.size) (hnews : ∀ (j : Nat) v, news[j]? = some v → w.cell? (ad.add j) = some v) (hg : 0 < m) (hmx : m ≤ maxLen) (hb : m * i.bytes ≤ 140737488355328) :
    ∃ cap cur, (Builtin.append_ #[t, t] ty #[.slice none 0 0, .slice (some ad) m c]).run P w = .ok (.slice (some ⟨w.heap.size, 0, none⟩) m cap) (w.drew.alloc (.cells cur e)) ∧
      m ≤ cap ∧ cap ≤ maxLen ∧ cur.size = cap * i.size ∧ ∀ (j : Nat) v, news[j]? = some v → cur[j]? = some v := by
  have hmx' : (m : Int) ≤ 9223372036854775807 := by simp only [maxLen] at hmx; omega
  refine ⟨_, _, run_append_nil (P := P) w t ty e i zv ht hi hz ad m c news hl hnews hg hmx' (by omega), grownCap_ge _ _ _ _, grownCap_le_maxLen _ _ _ _ hmx, ?_, ?_⟩
  · have hge := grownCap_ge w m 0 e
    simp only [Array.size_append, List.size_toArray, size_zeroCells, hzs, hl, ← Nat.add_mul]
    congr 1; omega
  · intro j v hv
    have hj : j < news.length := (List.getElem?_eq_some_iff.1 hv).1
    rw [Array.getElem?_append_left (by simpa using hj)]
    simpa using hv

theorem OpRes.grown {m es cap : Nat} {xs news : List Value} {cur : Array Value} {e : TypeId} {rd : List Nat} (hrun : (execOp a.eval o).run P w = .ok (.value (.slice (some ⟨w.heap.size, 0, none⟩) m cap)) (w.drew.alloc (.cells cur e)))
    (hr : LRel (VRel ρ) xs news) (hes : 0 < es) (hl : news.length = m * es) (h1 : m ≤ cap) (h2 : cap ≤ maxLen) (h3 : cur.size = cap * es) (h4 : ∀ (j : Nat) v, news[j]? = some v → cur[j]? = some v) :
    OpRes P a o w ρ h.length ⟨.slice (some ⟨h.length, 0, none⟩) m es, rd, .push ⟨xs, true⟩⟩ := by
  refine .push (cs := xs) (cur := cur) (e := e) (fz := (0, 0)) (rw := true) hrun rfl ⟨rfl, rfl, rfl⟩ rfl (fun _ => rfl) ?_ ?_ ?_
  · rw [hr.len, hl, h3]; exact Nat.mul_le_mul_right _ h1
  · intro j v hv
    obtain ⟨v', a1, a2⟩ := hr.get hv
    exact ⟨v', h4 j v' a1, a2⟩
  · exact .slice (L := ⟨w.heap.size, 0, cur.size⟩) (by simp [upd]) h1 rfl (fun _ => rfl) (by omega) (fun _ => ⟨rfl, by simp only; omega⟩) h2

theorem sound_append {c : Call} {s x : Operand} {t e : TypeId} {i : TypeInfo} {z : List Value} (ho : o.op = .call c) (hc : c.callee = .builtin .append) (hargs : c.args = #[s, x]) (hty : c.argTypes = #[t, t])
    (hu : P.underlying t = some (.slice e)) (hi : P.info? e = some i) (hz : zeroT P e = some z) (hs0 : 0 < i.size)
    (hrun : (EOp.append i.size i.bytes s x).run lim h ev = some out) (hs : ∀ v, ev s = some v → VRel ρ v (a.eval s)) (hx : ∀ v, ev x = some v → VRel ρ v (a.eval x))
    (hblk : ∀ i ∈ out.reads ++ out.eff.writes, ∀ b L, h.get i = some b → ρ i = some L → BlkOk ρ L b w.heap[L.blk]?) : OpRes P a o w ρ h.length out := by
  obtain ⟨i', zv, hi', hzv, hzs, rfl, hpl⟩ := zeroT_spec hz
  rw [hi] at hi'
  cases hi'
  have hexec : ∀ v' w', (Builtin.append_ #[t, t] o.type #[a.eval s, a.eval x]).run P w = .ok v' w' → (execOp a.eval o).run P w = .ok (.value v') w' := by
    intro v' w' hq
    simp [execOp, ho, resolve, hc, invoke, builtin, hargs, hty, hq]
  simp only [EOp.run] at hrun
  split at hrun
  · rename_i sv xv hsv hxv
    have hsr := hs _ hsv
    have hxr := hx _ hxv
    unfold E.append at hrun
    split at hrun
    · cases hrun
    · rename_i m xs rd hadd
      split at hrun
      · rename_i hone
        have hsub : ∀ {l : List Nat} {v : Value} {ef : Eff}, out = ⟨v, l, ef⟩ → (∀ j ∈ rd, j ∈ l) → (∀ j ∈ rd, ∀ b L, h.get j = some b → ρ j = some L → BlkOk ρ L b w.heap[L.blk]?) := by
          intro l v ef e1 e2 j hj
          exact hblk j (by rw [e1]; simp; exact .inl (e2 j hj))
        split at hrun
        · -- nil
          have es := hsr.plain_inv rfl
          split at hrun
          · rename_i hm0
            cases hrun
            have had := added_spec hs0 hadd hxr (hsub rfl fun _ q => q)
            rcases had with ⟨_, _, hv⟩ | ⟨h0, _⟩
            · exact .pure (v' := .slice none 0 0) (hexec _ _ (by rw [es]; exact run_append_zero hu hi (Nat.le_refl 0) hv)) (.plain rfl) rfl
            · omega
          · rename_i hm0
            split at hrun
            · rename_i hcd
              cases hrun
              have had := added_spec hs0 hadd hxr (hsub rfl fun _ q => q)
              rcases had with ⟨h0, _⟩ | ⟨h0, ad, cc, news, ex, hl, hr, hcell⟩
              · omega
              · obtain ⟨cap, cur, r1, r2, r3, r4, r5⟩ := append_grown_nil (P := P) (w := w) (ty := o.type) (c := cc) hu hi hzv hzs hl hcell h0 hcd.2 hcd.1
                exact .grown (hexec _ _ (by rw [es, ex]; exact r1)) hr hs0 hl r2 r3 r4 r5
            · cases hrun
        · rename_i b off n st
          obtain ⟨L, ad0, cap0, hL, es, hn, hab, hsp, hz0, hcc, hcm⟩ := hsr.slice_inv
          split at hrun
          · rename_i hst0
            have hcap0 := hz0 hst0
            split at hrun
            · rename_i hn0
              subst hn0
              split at hrun
              · rename_i hm0
                cases hrun
                have had := added_spec hs0 hadd hxr (hsub rfl fun _ q => q)
                rcases had with ⟨_, _, hv⟩ | ⟨h0, _⟩
                · subst hcap0
                  refine .pure (v' := .slice (some ad0) 0 0) (hexec _ _ (by rw [es]; exact run_append_zero hu hi (Nat.le_refl 0) hv)) ?_ rfl
                  exact .slice hL (Nat.le_refl 0) hab (fun q => absurd rfl q) (fun _ => rfl) (fun q => absurd rfl q) (by simp)
                · omega
              · split at hrun
                · rename_i hcd
                  cases hrun
                  have had := added_spec hs0 hadd hxr (hsub rfl fun _ q => q)
                  rcases had with ⟨h0, _⟩ | ⟨h0, ad, cc, news, ex, hl, hr, hcell⟩
                  · omega
                  · subst hcap0
                    obtain ⟨cap, cur, r1, r2, r3, r4, r5⟩ := append_grown (P := P) (w := w) (ty := o.type) (c := cc) (b := ad0) (sLen := 0) (sCap := 0) (olds := []) hu hi hzv hzs (by simp) (by simp) hl hcell (by omega) (by simpa using hcd.2) (by simpa using hcd.1)
                    simp only [Nat.zero_add, List.nil_append] at r1 r2 r5
                    exact .grown (hexec _ _ (by rw [es, ex]; exact r1)) hr hs0 hl r2 r3 r4 r5
                · cases hrun
            · cases hrun
          · split at hrun
            · rename_i hst
              subst hst
              split at hrun
              · rename_i hm0
                cases hrun
                have had := added_spec hs0 hadd hxr (hsub rfl fun _ q => q)
                rcases had with ⟨_, _, hv⟩ | ⟨h0, _⟩
                · refine .pure (v' := .slice (some ad0) n cap0) (hexec _ _ (by rw [es]; exact run_append_zero hu hi hn hv)) ?_ rfl
                  exact .slice hL hn hab hsp hz0 hcc hcm
                · omega
              · split at hrun
                · rename_i k hk
                  split at hrun
                  · rename_i hcd
                    obtain ⟨hrw, hend, hbytes, hmx⟩ := hcd
                    cases hrun
                    have had := added_spec hs0 hadd hxr (hsub rfl fun _ q => by simp [q])
                    rcases had with ⟨h0, _⟩ | ⟨h0, ad, cc, news, ex, hl, hr, hcell⟩
                    · omega
                    · have hB := hblk b (by simp) k L hk hL
                      have hB' := hB
                      obtain ⟨cur, e', fz, c1, c2, c3, c4, c5⟩ := hB'
                      obtain rfl := c4 hrw
                      obtain ⟨olds, q1, q2, q3⟩ := hB.cells (o := off) (n := n * i.size) (by omega)
                      have hdrop : (k.cells.drop off).take (n * i.size) = k.cells.drop off := List.take_of_length_le (by simp; omega)
                      rw [hdrop] at q1
                      have hcat : LRel (VRel ρ) (k.cells.drop off ++ xs) (olds ++ news) := q1.append hr
                      by_cases hroom : n + m ≤ cap0
                      · -- in place
                        obtain ⟨hoff, htot⟩ := hcc (by omega)
                        replace hsp := hsp (by omega)
                        obtain ⟨ab, ao, as⟩ := ad0
                        simp only at hab hsp hoff
                        subst hab hsp hoff
                        have hmul : (n + m) * i.size ≤ cap0 * i.size := Nat.mul_le_mul_right _ hroom
                        rw [Nat.add_mul] at hmul
                        have hrun' := run_append_in (P := P) (w := w) (ty := o.type) (c := cc) (sCap := cap0) hu hi c1 (o := L.off + off) (sLen := n) hl hcell (oneCell_rel hr hone) hroom (by omega)
                        refine ⟨.value _, .slice (some ⟨L.blk, L.off + off, none⟩) (n + m) cap0, _, upd ρ h.length ⟨L.blk, L.off + off, L.tot - off⟩, hexec _ _ (by rw [es, ex]; exact hrun'), ?_, ?_, ?_, ?_⟩
                        · rfl
                        · exact ⟨rfl, rfl, rfl⟩
                        · exact .slice (L := ⟨L.blk, L.off + off, L.tot - off⟩) (by simp [upd]) hroom rfl (fun _ => rfl) (by omega) (fun _ => ⟨rfl, by simp only; omega⟩) hcm
                        · refine ⟨L, ⟨L.blk, L.off + off, L.tot - off⟩, hL, rfl, .inl rfl, ?_, by simp, fun kk _ hne => setRow_other w _ _ _ hne, ?_⟩
                          · have := (Array.getElem?_eq_some_iff.1 c1).1
                            simpa using this
                          · refine ⟨_, e', (0, 0), setRow_heap w _ cur _ e' _ c1, ?_, ?_, fun _ => rfl, ?_⟩
                            · simp; omega
                            · have := hcat.len; simp at this ⊢; omega
                            · intro jj v hv
                              obtain ⟨v', p1, p2⟩ := hcat.get hv
                              refine ⟨v', ?_, p2⟩
                              simp only [List.getElem?_toArray, List.append_assoc]
                              by_cases hj : jj < olds.length
                              · rw [List.getElem?_append_left hj] at p1
                                have := q3 jj v' p1
                                rw [cell_at c1] at this
                                rw [List.getElem?_append_left (by simp; omega), List.getElem?_take, if_pos (by omega)]
                                simpa using this
                              · rw [List.getElem?_append_right (by omega)] at p1
                                have hjl : jj - olds.length < news.length := (List.getElem?_eq_some_iff.1 p1).1
                                rw [List.getElem?_append_right (by simp; omega), List.getElem?_append_left (by simp; omega), ← p1]
                                congr 1; simp; omega
                      · -- a new array
                        have holds : ∀ (j : Nat) v, olds[j]? = some v → w.cell? (ad0.add j) = some v := by
                          intro j v hv
                          have hn0 : 0 < n := by
                            rcases Nat.eq_zero_or_pos n with q | q
                            · subst q; simp at q2; subst q2; simp at hv
                            · exact q
                          obtain ⟨hoff, _⟩ := hcc (by omega)
                          replace hsp := hsp (by omega)
                          obtain ⟨ab, ao, as⟩ := ad0
                          simp only at hab hsp hoff
                          subst hab hsp hoff
                          rw [add_addr]; exact q3 j v hv
                        obtain ⟨cap, cur', r1, r2, r3, r4, r5⟩ := append_grown (P := P) (w := w) (ty := o.type) (c := cc) (b := ad0) (sLen := n) (sCap := cap0) (olds := olds) hu hi hzv hzs q2 holds hl hcell (by omega) hmx hbytes
                        refine ⟨.value _, .slice (some ⟨w.heap.size, 0, none⟩) (n + m) cap, _, upd ρ h.length ⟨w.heap.size, 0, cur'.size⟩, hexec _ _ (by rw [es, ex]; exact r1), ?_, ?_, ?_, ?_⟩
                        · rfl
                        · exact ⟨rfl, rfl, rfl⟩
                        · exact .slice (L := ⟨w.heap.size, 0, cur'.size⟩) (by simp [upd]) r2 rfl (fun _ => rfl) (by omega) (fun _ => ⟨rfl, by simp only; omega⟩) r3
                        · refine ⟨L, ⟨w.heap.size, 0, cur'.size⟩, hL, rfl, .inr rfl, by simp, by simp, fun kk hlt _ => by show (w.heap.push _)[kk]? = _; rw [Array.getElem?_push, if_neg (by omega)], ?_⟩
                          refine BlkOk.fresh (w := w) (cur := cur') (e := e) (fz := (0, 0)) (fun _ => rfl) ?_ ?_ rfl
                          · have := hcat.len; rw [this, List.length_append, q2, hl, r4, ← Nat.add_mul]; exact Nat.mul_le_mul_right _ r2
                          · intro jj v hv
                            obtain ⟨v', p1, p2⟩ := hcat.get hv
                            exact ⟨v', r5 jj v' p1, p2⟩
                  · cases hrun
                · cases hrun
            · cases hrun
        · cases hrun
      · cases hrun
  · cases hrun

theorem add64_next : Extern.allNextRows.lookup "math/bits.Add64" = none := by kernel_rfl
theorem origin_next : Extern.allNextRows.lookup "" = none := by kernel_rfl
theorem add64_gen : Extern.allGenericRows.lookup "math/bits.Add64" = none := by kernel_rfl
theorem add64_typed : Extern.allTypedRows.lookup "math/bits.Add64" = none := by kernel_rfl
theorem add64_row : Extern.allRows.lookup "math/bits.Add64" = some add64Entry := by kernel_rfl

theorem sound_add64 {c : Call} {f : FuncId} {fn : Func} {x y z : Operand} (ho : o.op = .call c) (hc : c.callee = .value (.func f)) (hargs : c.args = #[x, y, z]) (hf : P.funcs[f]? = some fn)
    (hn : fn.name = "math/bits.Add64") (hor : fn.origin = "") (hb : fn.body.isNone = true)
    (hrun : (EOp.add64 x y z).run lim h ev = some out) (hx : ∀ v, ev x = some v → VRel ρ v (a.eval x)) (hy : ∀ v, ev y = some v → VRel ρ v (a.eval y)) (hz : ∀ v, ev z = some v → VRel ρ v (a.eval z)) : OpRes P a o w ρ h.length out := by
  simp only [EOp.run] at hrun
  split at hrun
  · rename_i p q r hp hq hr
    have e1 := (hx _ hp).int_inv
    have e2 := (hy _ hq).int_inv
    have e3 := (hz _ hr).int_inv
    split at hrun
    · rename_i hc01
      cases hrun
      have hrow : (add64Entry #[.int .u64 p, .int .u64 q, .int .u64 r]).run P w =
          .ok (.tuple #[.int .u64 (Int.ofNat ((p.toNat + q.toNat + r.toNat) % 2 ^ 64)), .int .u64 (Int.ofNat ((p.toNat + q.toNat + r.toNat) / 2 ^ 64))]) w := by
        rcases hc01 with rfl | rfl <;> rfl
      refine .pure (v' := .tuple #[.int .u64 (Int.ofNat ((p.toNat + q.toNat + r.toNat) % 2 ^ 64)), .int .u64 (Int.ofNat ((p.toNat + q.toNat + r.toNat) / 2 ^ 64))]) ?_ ?_ rfl
      · have hev : a.eval (.func f) = .func (.func f) #[] #[] := rfl
        have hnx : Extern.findNext fn = none := by simp [Extern.findNext, hn, hor, add64_next, origin_next]
        have hfd : Extern.find fn = some add64Entry := by simp [Extern.find, hn, add64_gen, add64_typed, add64_row]
        have hnum : (fn.name == "runtime.NumGoroutine") = false := by rw [hn]; decide
        have hcf : (callFunc f #[.int .u64 p, .int .u64 q, .int .u64 r]).run P w = .ok (.value (.tuple #[.int .u64 (Int.ofNat ((p.toNat + q.toNat + r.toNat) % 2 ^ 64)), .int .u64 (Int.ofNat ((p.toNat + q.toNat + r.toNat) / 2 ^ 64))])) w := by
          unfold callFunc
          simp only [Sem.run_bind, run_program, Result.andThen_ok, hf, hnum, hb, Bool.false_eq_true, if_false, if_true, run_mark, hnx, hfd, hrow, Sem.run_pure]
        simp only [execOp, ho, Sem.run_bind, resolve, hc, hargs, hev, Deferred.ofValue, invoke, Sem.run_pure, Result.andThen_ok, e1, e2, e3, List.map_toArray, List.map_cons, List.map_nil]
        simpa using hcf
      · refine .tuple rfl ?_
        intro i x y hx hy
        rw [hx] at hy
        cases hy
        refine .plain ?_
        rcases i with _ | _ | i
        · simp at hx; subst hx; rfl
        · simp at hx; subst hx; rfl
        · simp at hx
    · cases hrun
  · cases hrun
end
end Go.Abs
