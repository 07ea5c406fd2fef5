/- Blocks that are not reached are forgotten; those that are get new numbers. -/
import Derived.Test.YtllhkifkiabkbaaGreatDoorAbsExec
set_option linter.unusedSimpArgs false
set_option linter.unusedVariables false
namespace Go.Abs
variable {K : LoopKind}

theorem renV_plain {r : Nat → Nat} {d : Nat} {v : Value} (h : plainV v = true) : renV r d v = v := by
  unfold renV; rw [if_pos h]

theorem addrs_plain {d : Nat} {v : Value} (h : plainV v = true) : addrs d v = some [] := by
  unfold addrs; rw [if_pos h]

theorem mapM_flatten_mem {f : Value → Option (List Nat)} : ∀ {xs : List Value} {ls : List (List Nat)}, xs.mapM f = some ls → ∀ (i : Nat) x, xs[i]? = some x → ∃ l, f x = some l ∧ ∀ a ∈ l, a ∈ ls.flatten
  | [], ls, _, i, x, hx => by simp at hx
  | y :: ys, ls, h, i, x, hx => by
    rw [List.mapM_cons] at h
    simp only [bind, Option.bind_eq_some_iff, pure, Option.some.injEq] at h
    obtain ⟨l, hl, ls', hls, rfl⟩ := h
    cases i with
    | zero => simp at hx; subst hx; exact ⟨l, hl, fun a ha => by simp [ha]⟩
    | succ i =>
      obtain ⟨l', h1, h2⟩ := mapM_flatten_mem hls i x (by simpa using hx)
      exact ⟨l', h1, fun a ha => by simp only [List.flatten_cons, List.mem_append]; exact .inr (h2 a ha)⟩

theorem VRel.ren {ρ ρ' : Ren} {r : Nat → Nat} : ∀ (d : Nat) {v v' : Value} {ids : List Nat}, addrs d v = some ids → VRel ρ v v' → (∀ i ∈ ids, ρ' (r i) = ρ i) → VRel ρ' (renV r d v) v' := by
  intro d
  induction d with
  | zero =>
    intro v v' ids ha hv hr
    by_cases hp : plainV v = true
    · rw [renV_plain hp]
      obtain rfl := hv.plain_inv hp
      exact .plain hp
    · unfold addrs at ha
      rw [if_neg hp] at ha
      unfold renV
      rw [if_neg hp]
      split at ha <;> try (simp at ha; done)
      · cases ha
        cases hv with
        | plain h => exact absurd h hp
        | ptr h => exact .ptr (by rw [hr _ (by simp)]; exact h)
      · cases ha
        cases hv with
        | plain h => exact absurd h hp
        | slice h a b c d e f => exact .slice (by rw [hr _ (by simp)]; exact h) a b c d e f
      · cases ha
        cases hv with
        | plain h => exact absurd h hp
        | map h => exact .map (by rw [hr _ (by simp)]; exact h)
      all_goals (rename_i hn; cases hn)
  | succ d ih =>
    intro v v' ids ha hv hr
    by_cases hp : plainV v = true
    · rw [renV_plain hp]
      obtain rfl := hv.plain_inv hp
      exact .plain hp
    · unfold addrs at ha
      rw [if_neg hp] at ha
      unfold renV
      rw [if_neg hp]
      split at ha <;> try (simp at ha; done)
      · cases ha
        cases hv with
        | plain h => exact absurd h hp
        | ptr h => exact .ptr (by rw [hr _ (by simp)]; exact h)
      · cases ha
        cases hv with
        | plain h => exact absurd h hp
        | slice h a b c d e f => exact .slice (by rw [hr _ (by simp)]; exact h) a b c d e f
      · cases ha
        cases hv with
        | plain h => exact absurd h hp
        | map h => exact .map (by rw [hr _ (by simp)]; exact h)
      · rename_i hn
        cases hn
        simp only [Option.map_eq_some_iff] at ha
        obtain ⟨ls, hls, rfl⟩ := ha
        cases hv with
        | plain h => exact absurd h hp
        | agg hs h =>
          refine .agg (by simpa using hs) fun i x y hx hy => ?_
          rw [Array.getElem?_map] at hx
          simp only [Option.map_eq_some_iff] at hx
          obtain ⟨x0, hx0, rfl⟩ := hx
          obtain ⟨l, h1, h2⟩ := mapM_flatten_mem hls i x0 (by simpa using hx0)
          exact ih h1 (h i x0 y hx0 hy) fun j hj => hr j (h2 j hj)
      · rename_i hn
        cases hn
        simp only [Option.map_eq_some_iff] at ha
        obtain ⟨ls, hls, rfl⟩ := ha
        cases hv with
        | plain h => exact absurd h hp
        | tuple hs h =>
          refine .tuple (by simpa using hs) fun i x y hx hy => ?_
          rw [Array.getElem?_map] at hx
          simp only [Option.map_eq_some_iff] at hx
          obtain ⟨x0, hx0, rfl⟩ := hx
          obtain ⟨l, h1, h2⟩ := mapM_flatten_mem hls i x0 (by simpa using hx0)
          exact ih h1 (h i x0 y hx0 hy) fun j hj => hr j (h2 j hj)
      · rename_i a b hn
        cases hn
        simp only [Option.map_eq_some_iff] at ha
        obtain ⟨ls, hls, rfl⟩ := ha
        cases hv with
        | plain h => exact absurd h hp
        | yield h hk ht =>
          rename_i b0 L0
          have e : renV r d (.pointer (some ⟨b0, 0, none⟩)) = .pointer (some ⟨r b0, 0, none⟩) := by unfold renV; simp [plainV]
          simp only [List.map_toArray, List.map_cons, List.map_nil, e, Array.map_empty]
          refine .yield ?_ hk ht
          rw [hr b0 ?_]; exact h
          simp only [Array.toList_append, List.append_nil, List.mapM_cons, List.mapM_nil, bind, Option.bind_eq_some_iff, pure, Option.some.injEq] at hls
          obtain ⟨l1, hl1, _, rfl, rfl⟩ := hls
          unfold addrs at hl1
          simp [plainV] at hl1
          subst hl1; simp
        | func hf hc h1 h2 =>
          refine .func (by simpa using hf) (by simpa using hc) (fun i x y hx hy => ?_) (fun i x y hx hy => ?_)
          · rw [Array.getElem?_map] at hx
            simp only [Option.map_eq_some_iff] at hx
            obtain ⟨x0, hx0, rfl⟩ := hx
            have hi : i < a.size := (Array.getElem?_eq_some_iff.1 hx0).1
            obtain ⟨l, q1, q2⟩ := mapM_flatten_mem hls i x0 (by simp; rw [List.getElem?_append_left (by simpa using hi)]; simpa using hx0)
            exact ih q1 (h1 i x0 y hx0 hy) fun j hj => hr j (q2 j hj)
          · rw [Array.getElem?_map] at hx
            simp only [Option.map_eq_some_iff] at hx
            obtain ⟨x0, hx0, rfl⟩ := hx
            obtain ⟨l, q1, q2⟩ := mapM_flatten_mem hls (a.size + i) x0 (by rw [Array.toList_append, List.getElem?_append_right (by simp)]; simpa using hx0)
            exact ih q1 (h2 i x0 y hx0 hy) fun j hj => hr j (q2 j hj)
      · rename_i hn
        cases hn
        cases hv with
        | plain h => exact absurd h hp
        | iface h => exact .iface (ih ha h hr)

/-- A value all of whose addresses one relation knows, in another one that agrees there. -/
theorem VRel.agree {ρ0 ρ ρ' : Ren} (hag : ∀ i L, ρ0 i = some L → ρ' i = ρ i) {v v0 v' : Value} (h0 : VRel ρ0 v v0) (h : VRel ρ v v') : VRel ρ' v v' := by
  induction h generalizing v0 with
  | plain h => exact .plain h
  | ptr h =>
    cases h0 with
    | plain h => simp [plainV] at h
    | ptr k => exact .ptr (by rw [hag _ _ k]; exact h)
  | slice h a b c d e f =>
    cases h0 with
    | plain h => simp [plainV] at h
    | slice k => exact .slice (by rw [hag _ _ k]; exact h) a b c d e f
  | map h =>
    cases h0 with
    | plain h => simp [plainV] at h
    | map k => exact .map (by rw [hag _ _ k]; exact h)
  | yield h hk ht =>
    cases h0 with
    | plain h => simp [plainV] at h
    | yield k => exact .yield (by rw [hag _ _ k]; exact h) hk ht
  | func a b _ _ ih1 ih2 =>
    cases h0 with
    | plain h => simp [plainV] at h
    | func a' b' k1 k2 =>
      refine .func a b (fun i x y hx hy => ?_) (fun i x y hx hy => ?_)
      · have hi := (Array.getElem?_eq_some_iff.1 hx).1
        have hz := Array.getElem?_eq_getElem (show i < _ by rw [← a']; exact hi)
        exact ih1 i x y hx hy (k1 i x _ hx hz)
      · have hi := (Array.getElem?_eq_some_iff.1 hx).1
        have hz := Array.getElem?_eq_getElem (show i < _ by rw [← b']; exact hi)
        exact ih2 i x y hx hy (k2 i x _ hx hz)
  | iface _ ih =>
    cases h0 with
    | plain h => simp [plainV] at h
    | iface k => exact .iface (ih k)
  | agg a _ ih =>
    cases h0 with
    | plain h => simp [plainV] at h
    | agg a' k =>
      refine .agg a fun i x y hx hy => ?_
      have hi := (Array.getElem?_eq_some_iff.1 hx).1
      have hz := Array.getElem?_eq_getElem (show i < _ by rw [← a']; exact hi)
      exact ih i x y hx hy (k i x _ hx hz)
  | tuple a _ ih =>
    cases h0 with
    | plain h => simp [plainV] at h
    | tuple a' k =>
      refine .tuple a fun i x y hx hy => ?_
      have hi := (Array.getElem?_eq_some_iff.1 hx).1
      have hz := Array.getElem?_eq_getElem (show i < _ by rw [← a']; exact hi)
      exact ih i x y hx hy (k i x _ hx hz)

theorem pos_spec : ∀ {l : List Nat} {i : Nat}, i ∈ l → l[pos l i]? = some i
  | j :: r, i, h => by
    unfold pos
    by_cases hi : i = j
    · rw [if_pos hi]; simp [hi]
    · rw [if_neg hi]
      have : i ∈ r := by simpa [hi] using h
      simpa using pos_spec this

/-- What is reached is closed. -/
def Closed (n : Nat) (h : Heap) (acc todo : List Nat) : Prop :=
  ∀ k ∈ acc, n ≤ k ∧ ∀ b, h.get k = some b → ∃ l, b.addrs = some l ∧ ∀ i ∈ l, i < n ∨ i ∈ acc ∨ i ∈ todo

theorem reach_spec {n : Nat} {h : Heap} : ∀ (k : Nat) (todo acc acc' : List Nat), reach n h k todo acc = some acc' → acc.Nodup → Closed n h acc todo →
    acc'.Nodup ∧ Closed n h acc' [] ∧ (∀ i ∈ acc, i ∈ acc') ∧ ∀ i ∈ todo, i < n ∨ i ∈ acc' := by
  intro k
  induction k with
  | zero =>
    intro todo acc acc' hr hn hc
    cases todo with
    | nil => simp [reach] at hr; subst hr; exact ⟨hn, hc, fun _ q => q, fun i q => by simp at q⟩
    | cons t ts => simp [reach] at hr
  | succ k ih =>
    intro todo acc acc' hr hn hc
    cases todo with
    | nil => simp [reach] at hr; subst hr; exact ⟨hn, hc, fun _ q => q, fun i q => by simp at q⟩
    | cons t ts =>
      unfold reach at hr
      split at hr
      · rename_i ht
        have hc' : Closed n h acc ts := by
          intro k hk
          obtain ⟨q1, q2⟩ := hc k hk
          refine ⟨q1, fun b hb => ?_⟩
          obtain ⟨l, p1, p2⟩ := q2 b hb
          refine ⟨l, p1, fun i hi => ?_⟩
          rcases p2 i hi with q | q | q
          · exact .inl q
          · exact .inr (.inl q)
          · rcases List.mem_cons.1 q with rfl | q
            · rcases ht with q | q
              · exact .inl q
              · exact .inr (.inl q)
            · exact .inr (.inr q)
        obtain ⟨r1, r2, r3, r4⟩ := ih _ _ _ hr hn hc'
        refine ⟨r1, r2, r3, fun i hi => ?_⟩
        rcases List.mem_cons.1 hi with rfl | q
        · rcases ht with q | q
          · exact .inl q
          · exact .inr (r3 _ q)
        · exact r4 i q
      · rename_i ht
        have ht1 : n ≤ t := by omega
        have ht2 : t ∉ acc := fun q => ht (.inr q)
        have hn' : (acc ++ [t]).Nodup := by
          rw [List.nodup_append]
          refine ⟨hn, by simp, ?_⟩
          intro a ha b hb
          simp at hb; subst hb
          intro e; subst e; exact ht2 ha
        have step : ∀ (l : List Nat), (∀ b, h.get t = some b → b.addrs = some l) → reach n h k (ts ++ l) (acc ++ [t]) = some acc' →
            acc'.Nodup ∧ Closed n h acc' [] ∧ (∀ i ∈ acc, i ∈ acc') ∧ ∀ i ∈ t :: ts, i < n ∨ i ∈ acc' := by
          intro l hl hr
          have hc' : Closed n h (acc ++ [t]) (ts ++ l) := by
            intro j hj
            rcases List.mem_append.1 hj with q | q
            · obtain ⟨q1, q2⟩ := hc j q
              refine ⟨q1, fun b hb => ?_⟩
              obtain ⟨l', p1, p2⟩ := q2 b hb
              refine ⟨l', p1, fun i hi => ?_⟩
              rcases p2 i hi with q | q | q
              · exact .inl q
              · exact .inr (.inl (by simp [q]))
              · rcases List.mem_cons.1 q with rfl | q
                · exact .inr (.inl (by simp))
                · exact .inr (.inr (by simp [q]))
            · simp at q; subst q
              exact ⟨ht1, fun b hb => ⟨l, hl b hb, fun i hi => .inr (.inr (by simp [hi]))⟩⟩
          obtain ⟨r1, r2, r3, r4⟩ := ih _ _ _ hr hn' hc'
          refine ⟨r1, r2, fun i hi => r3 i (by simp [hi]), fun i hi => ?_⟩
          rcases List.mem_cons.1 hi with rfl | q
          · exact .inr (r3 _ (by simp))
          · exact r4 i (by simp [q])
        split at hr
        · rename_i b hb
          split at hr
          · rename_i l hl
            exact step l (fun b' hb' => by rw [hb] at hb'; cases hb'; exact hl) hr
          · cases hr
        · rename_i hb
          exact step [] (fun b' hb' => by rw [hb] at hb'; cases hb') (by simpa using hr)

theorem Blk.ren_rw (r : Nat → Nat) (b : Blk) : (b.ren r).rw = b.rw := by
  unfold Blk.ren; split <;> rfl

theorem CellsOk.ren {ρ ρ' : Ren} {r : Nat → Nat} {L : Loc} {b : Blk} {o : Option Obj} (h : CellsOk ρ L b o) {l : List Nat} (hl : b.addrs = some l) (hr : ∀ i ∈ l, ρ' (r i) = ρ i) : CellsOk ρ' L (b.ren r) o := by
  obtain ⟨cur, e, fz, h1, h2, h3, h4, h5⟩ := h
  unfold Blk.ren
  unfold Blk.addrs at hl
  split
  · rename_i hp
    refine ⟨cur, e, fz, h1, h2, h3, h4, fun i v hv => ?_⟩
    obtain ⟨v', a1, a2⟩ := h5 i v hv
    have hpl := List.all_eq_true.1 hp v (List.mem_of_getElem? hv)
    obtain rfl := a2.plain_inv hpl
    exact ⟨v', a1, .plain hpl⟩
  · rename_i hp
    rw [if_neg hp] at hl
    simp only [Option.map_eq_some_iff] at hl
    obtain ⟨ls, hls, rfl⟩ := hl
    refine ⟨cur, e, fz, h1, h2, by simpa using h3, h4, fun i v hv => ?_⟩
    simp only [List.getElem?_map, Option.map_eq_some_iff] at hv
    obtain ⟨v0, hv0, rfl⟩ := hv
    obtain ⟨v', a1, a2⟩ := h5 i v0 hv0
    obtain ⟨l', q1, q2⟩ := mapM_flatten_mem hls i v0 hv0
    exact ⟨v', a1, a2.ren valDepth q1 fun j hj => hr j (q2 j hj)⟩

theorem renV_key {r : Nat → Nat} {k : Value} (h : keyV k = true) : renV r 3 k = k := by
  by_cases q : plainV k = true
  · exact renV_plain q
  · cases k with
    | agg xs =>
      have hc : xs.toList.all plainV = true := by simpa [keyV, plainV] using h
      show renV r (2 + 1) (.agg xs) = _
      rw [renV]
      have : xs.map (renV r 2) = xs := by
        apply Array.ext
        · simp
        · intro i h1 h2
          simp only [Array.getElem_map]
          exact renV_plain (List.all_eq_true.1 hc _ (by simp))
      simp [plainV, this]
    | _ => simp only [keyV, q, Bool.false_or] at h; cases h
theorem MapOk.ren {ρ ρ' : Ren} {r : Nat → Nat} {b : Blk} {o : Option Obj} (h : MapOk ρ b o) {l : List Nat} (hl : b.addrs = some l) (hr : ∀ i ∈ l, ρ' (r i) = ρ i) : MapOk ρ' (b.ren r) o := by
  obtain ⟨es, cl, h1, h2, h5⟩ := h
  unfold Blk.ren
  unfold Blk.addrs at hl
  split
  · rename_i hp
    refine ⟨es, cl, h1, h2, fun i v hv => ?_⟩
    obtain ⟨k, x, e, rfl, _⟩ := h5 i v hv
    have hpl := List.all_eq_true.1 hp _ (List.mem_of_getElem? hv)
    simp [plainV] at hpl
  · rename_i hp
    rw [if_neg hp] at hl
    simp only [Option.map_eq_some_iff] at hl
    obtain ⟨ls, hls, rfl⟩ := hl
    refine ⟨es, cl, h1, by simpa using h2, fun i v hv => ?_⟩
    simp only [List.getElem?_map, Option.map_eq_some_iff] at hv
    obtain ⟨v0, hv0, rfl⟩ := hv
    obtain ⟨k, x, e, rfl, a1, a2, a3, a4⟩ := h5 i v0 hv0
    obtain ⟨l', q1, q2⟩ := mapM_flatten_mem hls i _ hv0
    refine ⟨k, renV r 3 x, e, ?_, a1, a2, a3, a4.ren valDepth q1 fun j hj => hr j (q2 j hj)⟩
    show renV r (3 + 1) (.tuple #[k, x]) = _
    rw [renV]
    simp [plainV, renV_key a2]

theorem LoopOk.ren {ρ ρ' : Ren} {r : Nat → Nat} {b : Blk} {o : Option Obj} (h : LoopOk K ρ b o) {l : List Nat} (hl : b.addrs = some l) (hr : ∀ i ∈ l, ρ' (r i) = ρ i) : LoopOk K ρ' (b.ren r) o := by
  obtain ⟨rc, f, i, s, vs, us, h1, h2, h3, h4, h5⟩ := h
  unfold Blk.ren
  unfold Blk.addrs at hl
  split
  · rename_i hp
    refine ⟨rc, f, i, s, vs, us, h1, h2, h3, ?_, h5⟩
    refine LRel.of_get h4.len fun j x y hx hy => ?_
    obtain ⟨y', e, q⟩ := h4.get hx
    rw [hy] at e; cases e
    have hpl := List.all_eq_true.1 hp x (by rw [h2]; simp [List.mem_of_getElem? hx])
    obtain rfl := q.plain_inv hpl
    exact .plain hpl
  · rename_i hp
    rw [if_neg hp] at hl
    simp only [Option.map_eq_some_iff] at hl
    obtain ⟨ls, hls, rfl⟩ := hl
    refine ⟨rc, f, i, s, vs.map (renV r valDepth), us, h1, by
      have e1 : ∀ x : Int, renV r valDepth (.int .i64 x) = .int .i64 x := fun x => renV_plain rfl
      simp [h2, e1], h3, ?_, h5⟩
    refine LRel.of_get (by simpa using h4.len) fun j x y hx hy => ?_
    simp only [List.getElem?_map, Option.map_eq_some_iff] at hx
    obtain ⟨x0, hx0, rfl⟩ := hx
    obtain ⟨y', e, q⟩ := h4.get hx0
    rw [hy] at e; cases e
    obtain ⟨l', q1, q2⟩ := mapM_flatten_mem hls (j + 3) x0 (by rw [h2]; simpa using hx0)
    exact q.ren valDepth q1 fun k hk => hr k (q2 k hk)

theorem BlkOk.ren {ρ ρ' : Ren} {r : Nat → Nat} {L : Loc} {b : Blk} {o : Option Obj} (h : BlkOk K ρ L b o) {l : List Nat} (hl : b.addrs = some l) (hr : ∀ i ∈ l, ρ' (r i) = ρ i) : BlkOk K ρ' L (b.ren r) o :=
  ⟨fun hk => (h.1 hk).ren hl hr, fun hk ht => (h.2.1 hk ht).ren hl hr, fun hk ht => (h.2.2 hk ht).ren hl hr⟩

theorem collect_spec {n : Nat} {vs vs' : List Value} {h : Heap} {bs : List (Option Blk)} (hc : collect n vs h = some (vs', bs)) {Own : Nat → Prop} {ρ ρ0 : Ren} {h0 : Heap} {w : World} {us : List Value}
    (hs : Sim K Own ρ h.get w) (_hd : ∀ i L, ρ i = some L → i < h.length) (hn : n ≤ h.length) (hnew : ∀ i L, ρ i = some L → n ≤ i → Own L.blk ∧ L.blk < w.heap.size) (hr : LRel (VRel ρ) vs us)
    (hkept : Kept n h0 h) (h00 : ∀ i, i < n → ρ i = ρ0 i) (hold : ∀ i b L, h0.get i = some b → ρ0 i = some L → ∀ v ∈ b.cells, ∃ v0, VRel ρ0 v v0) (hd0 : ∀ i L, ρ0 i = some L → i < n) :
    ∃ ρ', (∀ i, i < n → ρ' i = ρ i) ∧ LRel (VRel ρ') vs' us ∧ Sim K Own ρ' (Heap.get (h.take n ++ bs)) w ∧ (∀ i L, ρ' i = some L → i < (h.take n ++ bs).length) ∧ (∀ i L, ρ' i = some L → n ≤ i → Own L.blk ∧ L.blk < w.heap.size) := by
  unfold collect at hc
  split at hc
  · rename_i ls hls
    split at hc
    · rename_i acc hacc
      cases hc
      obtain ⟨r1, r2, _, r4⟩ := reach_spec _ _ _ _ hacc (by simp) (fun k hk => by simp at hk)
      let ρ' : Ren := fun i => if i < n then ρ i else (acc[i - n]?).bind ρ
      have hlo : ∀ i, i < n → ρ' i = ρ i := fun i hi => by simp [ρ', hi]
      have hren : ∀ i, (i < n ∨ i ∈ acc) → ρ' (renOf n acc i) = ρ i := by
        intro i hi
        unfold renOf
        by_cases hin : i < n
        · rw [if_pos hin]; exact hlo i hin
        · rw [if_neg hin]
          have him : i ∈ acc := by
            rcases hi with q | q
            · exact absurd q hin
            · exact q
          simp only [ρ']
          rw [if_neg (by omega), show n + pos acc i - n = pos acc i by omega, pos_spec him]
          rfl
      have hhi : ∀ i L, n ≤ i → ρ' i = some L → ∃ k, acc[i - n]? = some k ∧ ρ k = some L := by
        intro i L hi e
        simp only [ρ'] at e
        rw [if_neg (by omega)] at e
        simp only [Option.bind_eq_some_iff] at e
        exact e
      have hlen : (h.take n).length = n := by simp; omega
      have hget : ∀ i, Heap.get (h.take n ++ acc.map fun i => (h.get i).map (Blk.ren (renOf n acc))) i = if i < n then h.get i else (acc[i - n]?).bind fun k => (h.get k).map (Blk.ren (renOf n acc)) := by
        intro i
        split
        · rename_i hi
          rw [Heap.get_append_lt (by rw [hlen]; exact hi)]
          simp [Heap.get, hi]
        · rename_i hi
          rw [Heap.get_append_ge (by rw [hlen]; omega), hlen]
          simp only [Heap.get, List.getElem?_map]
          cases acc[i - n]? <;> simp
      refine ⟨ρ', hlo, ?_, ⟨?_, ?_, ?_⟩, ?_, ?_⟩
      · -- the values
        have key : ∀ (xs ys : List Value) (ls : List (List Nat)), xs.mapM (addrs valDepth) = some ls → LRel (VRel ρ) xs ys → (∀ i ∈ ls.flatten, i < n ∨ i ∈ acc) → LRel (VRel ρ') (xs.map (renV (renOf n acc) valDepth)) ys := by
          intro xs
          induction xs with
          | nil => intro ys ls _ h2 _; cases ys <;> first | trivial | exact h2.elim
          | cons x xs ih =>
            intro ys ls h1 h2 h3
            cases ys with
            | nil => exact h2.elim
            | cons y ys =>
              rw [List.mapM_cons] at h1
              simp only [bind, Option.bind_eq_some_iff, pure, Option.some.injEq] at h1
              obtain ⟨l, hl, ls', hls', rfl⟩ := h1
              exact ⟨h2.1.ren valDepth hl fun i hi => hren i (h3 i (by simp [hi])), ih ys ls' hls' h2.2 fun i hi => h3 i (by simp only [List.flatten_cons, List.mem_append]; exact .inr hi)⟩
        exact key _ _ _ hls hr r4
      · intro i b L e1 e2
        rw [hget] at e1
        split at e1
        · rename_i hi
          rw [hlo i hi] at e2
          have hb := hs.blk i b L e1 e2
          have keep : ∀ (j : Nat) v v', b.cells[j]? = some v → VRel ρ v v' → VRel ρ' v v' := fun j v v' hv q2 => by
            obtain ⟨b0, p1, p2⟩ := hkept i hi b e1
            rcases p2 v (List.mem_of_getElem? hv) with q | q
            · have hp : plainV v = true := q
              obtain rfl := q2.plain_inv hp
              exact .plain hp
            · obtain ⟨v0, hv0⟩ := hold i b0 L p1 (by rw [← h00 i hi]; exact e2) v q
              exact VRel.agree (fun k M hk => hlo k (hd0 k M hk)) hv0 q2
          refine ⟨fun hk => ?_, fun hk ht => ?_, fun hk ht => ?_⟩
          · obtain ⟨cur, e, fz, a1, a2, a3, a4, a5⟩ := hb.1 hk
            refine ⟨cur, e, fz, a1, a2, a3, a4, fun j v hv => ?_⟩
            obtain ⟨v', q1, q2⟩ := a5 j v hv
            exact ⟨v', q1, keep j v v' hv q2⟩
          · obtain ⟨es, cl, a1, a2, a5⟩ := hb.2.1 hk ht
            refine ⟨es, cl, a1, a2, fun j v hv => ?_⟩
            obtain ⟨k, x, e, q1, q2, q3, q4, q5⟩ := a5 j v hv
            exact ⟨k, x, e, q1, q2, q3, q4, keep j v _ hv q5⟩
          · obtain ⟨rc, f, k, s, vs, us, a1, a2, a3, a4, a5⟩ := hb.2.2 hk ht
            refine ⟨rc, f, k, s, vs, us, a1, a2, a3, LRel.of_get a4.len fun j x y hx hy => ?_, a5⟩
            obtain ⟨y', e, q⟩ := a4.get hx
            rw [hy] at e; cases e
            exact keep (j + 3) x y (by rw [a2]; simpa using hx) q
        · rename_i hi
          obtain ⟨k, hk, hkL⟩ := hhi i L (by omega) e2
          rw [hk] at e1
          simp only [Option.bind_some, Option.map_eq_some_iff] at e1
          obtain ⟨b0, hb0, rfl⟩ := e1
          obtain ⟨_, hcl⟩ := r2 k (List.mem_of_getElem? hk)
          obtain ⟨l, hl, hl2⟩ := hcl b0 hb0
          exact (hs.blk k b0 L hb0 hkL).ren hl fun j hj => hren j (by rcases hl2 j hj with q | q | q; · exact .inl q
                                                                      · exact .inr q
                                                                      · simp at q)
      · intro i b L e1 e2 e3
        rw [hget] at e1
        split at e1
        · rename_i hi
          rw [hlo i hi] at e2
          exact hs.own i b L e1 e2 e3
        · rename_i hi
          obtain ⟨k, hk, hkL⟩ := hhi i L (by omega) e2
          exact (hnew k L hkL (r2 k (List.mem_of_getElem? hk)).1).1
      · -- apart
        have back : ∀ i b L, Heap.get (h.take n ++ acc.map fun i => (h.get i).map (Blk.ren (renOf n acc))) i = some b → ρ' i = some L → ∃ k b0, h.get k = some b0 ∧ ρ k = some L ∧ b0.rw = b.rw ∧ (i < n ∧ k = i ∨ n ≤ i ∧ acc[i - n]? = some k) := by
          intro i b L e1 e2
          rw [hget] at e1
          split at e1
          · rename_i hi
            rw [hlo i hi] at e2
            exact ⟨i, b, e1, e2, rfl, .inl ⟨hi, rfl⟩⟩
          · rename_i hi
            obtain ⟨k, hk, hkL⟩ := hhi i L (by omega) e2
            rw [hk] at e1
            simp only [Option.bind_some, Option.map_eq_some_iff] at e1
            obtain ⟨b0, hb0, rfl⟩ := e1
            exact ⟨k, b0, hb0, hkL, (Blk.ren_rw _ _).symm, .inr ⟨by omega, hk⟩⟩
        intro i j b c L M hij e1 e2 e3 e4 e5
        obtain ⟨k1, b1, p1, p2, p3, p4⟩ := back i b L e1 e4
        obtain ⟨k2, b2, q1, q2, _, q4⟩ := back j c M e3 e5
        refine hs.excl k1 k2 b1 b2 L M ?_ p1 (by rw [p3]; exact e2) q1 p2 q2
        intro e
        subst e
        rcases p4 with ⟨x1, x2⟩ | ⟨x1, x2⟩
        · rcases q4 with ⟨y1, y2⟩ | ⟨y1, y2⟩
          · omega
          · have := (r2 k1 (List.mem_of_getElem? y2)).1
            omega
        · rcases q4 with ⟨y1, y2⟩ | ⟨y1, y2⟩
          · have := (r2 k1 (List.mem_of_getElem? x2)).1
            omega
          · have z1 := List.getElem?_eq_some_iff.1 x2
            have z2 := List.getElem?_eq_some_iff.1 y2
            obtain ⟨u1, u2⟩ := z1
            obtain ⟨t1, t2⟩ := z2
            have hp := List.pairwise_iff_getElem.1 r1
            rcases Nat.lt_trichotomy (i - n) (j - n) with q | q | q
            · exact absurd (by rw [u2, t2]) (hp _ _ u1 t1 q)
            · omega
            · exact absurd (by rw [u2, t2]) (hp _ _ t1 u1 q)
      · intro i L e
        rcases Nat.lt_or_ge i n with q | q
        · simp; omega
        · obtain ⟨k, hk, hkL⟩ := hhi i L q e
          have := (List.getElem?_eq_some_iff.1 hk).1
          simp; omega
      · intro i L e hi
        obtain ⟨k, hk, hkL⟩ := hhi i L hi e
        exact hnew k L hkL (r2 k (List.mem_of_getElem? hk)).1
    · cases hc
  · cases hc
end Go.Abs
