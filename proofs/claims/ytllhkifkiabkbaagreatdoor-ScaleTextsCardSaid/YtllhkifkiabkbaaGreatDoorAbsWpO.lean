--
import Derived.Test.YtllhkifkiabkbaaGreatDoorAbsWpN
set_option linter.unusedSimpArgs false
set_option linter.unusedVariables false
namespace Go.Abs
def callV (C:Ctx) (frz:Bool) (v:Value) (vs:List Value) (h:Heap):Option (Value × Heap) :=
 match v with
 | .func (.func g) first captured=>C.callAt frz g (first.toList++vs++captured.toList) h
 | .func (.yield _) first _=>match first.toList with
  | .pointer (some ⟨b,_,_⟩)::_=>C.roundAt frz b vs h
  | _=>none
 | _=>none
@[simp ↓] theorem callV_func (C:Ctx) (frz:Bool) (g:FuncId) (a b:Array Value) (vs:List Value) (h:Heap):callV C frz (.func (.func g) a b) vs h=C.callAt frz g (a.toList++vs++b.toList) h:=rfl
@[simp ↓] theorem callV_yield (C:Ctx) (frz:Bool) (r:Nat) (vs:List Value) (h:Heap):callV C frz (yieldVal r) vs h=C.roundAt frz r vs h:=rfl
@[simp] theorem roundAt_false (C:Ctx) (b:Nat) (vs:List Value) (h:Heap):C.roundAt false b vs h=C.round C.lim b vs h:=rfl
@[simp ↓ high] theorem wpO_callVal {C:Ctx} {Q:St→Prop} {f:AFrame} {h:Heap} {i:Nat} {l:Log} {r:List EOper} {d:Option Nat} {frz:Bool} (g:Operand) (as:List Operand) :
  wpO C (⟨d,.callVal g as,none,[],false,frz⟩::r) i l ⟨f,h⟩ Q=Ev C f g fun v=>Evs C f as fun vs=>wpV (callV C frz v vs h) fun p=>wpO C r (i+1) l ⟨f.put d p.1,p.2⟩ Q:=by
 rw[Ev,wpO_cons]
 simp only[EOp.exec,← Evs_eq]
 rcases C.eval f g with _ | v
 ·simp
 ·rw[wpV_some]
  rcases List.mapM (C.eval f) as with _ | vs
  ·rw[wpV_none]
   cases v with
   | func fn a b=>cases fn <;> first | rfl | simp
   | _=>first | rfl | simp
  ·rw[wpV_some]
   cases v with
   | func fn a b =>
    cases fn with
    | func g =>
     simp only[callV_func,wpV_map]
     rcases C.callAt frz g (a.toList++vs++b.toList) h with _ | ⟨v',h'⟩
     ·simp
     ·simp
    | yield k =>
     simp only[callV]
     generalize a.toList=al
     split
     ·simp only[wpV_map]
      rename_i b _ _ _
      rcases C.roundAt frz b vs h with _ | ⟨v',h'⟩
      ·simp
      ·simp
     ·simp
    | _=>simp[callV]
   | _=>simp[callV]
end Go.Abs
namespace Go.Abs
theorem low_ren2 {n:Nat} {A:List Nat}:∀ (d:Nat) (v:Value),lowV n d v=true→renV (renOf n A) d v=v
 | d,v,h=>by
  unfold lowV at h
  unfold renV
  by_cases hp:plainV v=true
  ·simp[hp]
  ·have hp':plainV v=false:=by simpa using hp
   simp only[hp',Bool.false_or,Bool.false_eq_true,if_false] at h ⊢
   have key:∀ (d:Nat) (cs:Array Value),cs.toList.all (lowV n d)=true→(∀ v,lowV n d v=true→renV (renOf n A) d v=v)→cs.map (renV (renOf n A) d)=cs:=by
    intro d cs hl ih
    apply Array.ext
    ·simp
    ·intro i h1 h2
     simp only[Array.getElem_map]
     apply ih
     rw[List.all_eq_true] at hl
     exact hl _ (by simp)
   have hr:∀ b,b<n→renOf n A b=b:=fun b hb=>by simp[renOf,hb]
   match v with
   | .pointer (some ⟨b,o,none⟩) =>
    have hb:b<n:=by cases d <;> simpa using h
    cases d <;> simp[hr b hb]
   | .slice (some ⟨b,o,none⟩) k s =>
    have hb:b<n:=by cases d <;> simpa using h
    cases d <;> simp[hr b hb]
   | .map (some b) =>
    have hb:b<n:=by cases d <;> simpa using h
    cases d <;> simp[hr b hb]
   | .agg cs =>
    cases d with
    | zero=>simp at h
    | succ d=>exact congrArg Value.agg (key d _ h (low_ren2 d))
   | .tuple cs =>
    cases d with
    | zero=>simp at h
    | succ d=>exact congrArg Value.tuple (key d _ h (low_ren2 d))
   | .bool _ | .int _ _ | .float _ _ | .complex _ _ _ | .string _ | .nilFunc | .nilIface=>simp[plainV] at hp
   | .pointer none | .map none | .chan none=>simp[plainV] at hp
   | .pointer (some ⟨b,o,some _⟩)=>cases d <;> simp at h
   | .slice (some ⟨b,o,some _⟩) k s=>cases d <;> simp at h
   | .slice none k s=>cases d <;> simp at h
   | .chan (some _)=>cases d <;> simp at h
   | .func fn a b =>
    cases d with
    | zero=>simp at h
    | succ d =>
     have h2:(a++b).toList.all (lowV n d)=true:=h
     rw[Array.toList_append,List.all_append,Bool.and_eq_true] at h2
     show Value.func fn (a.map _) (b.map _)=_
     rw[key d _ h2.1 (low_ren2 d),key d _ h2.2 (low_ren2 d)]
   | .iface _ _=>cases d <;> simp at h
def ownIdx (n:Nat):Value→Option Nat
 | .pointer (some ⟨b,_,none⟩) | .slice (some ⟨b,_,none⟩) _ _ | .map (some b)=>if n≤b then some (b-n) else none
 | _=>none
def setBlk (b:Nat):Value→Value
 | .pointer (some ⟨_,o,s⟩)=>.pointer (some ⟨b,o,s⟩)
 | .slice (some ⟨_,o,s⟩) k c=>.slice (some ⟨b,o,s⟩) k c
 | .map (some _)=>.map (some b)
 | v=>v
def rootsL (n:Nat):List Value→List Nat→List Nat
 | [],acc=>acc
 | v::r,acc=>match ownIdx n v with
  | some j=>if j∈acc then rootsL n r acc else rootsL n r (acc++[j])
  | none=>rootsL n r acc
def rootOk (n:Nat) (v:Value):Bool:=(ownIdx n v).isSome || (lowV n 4 v && fewOk v)
def blkLow (n:Nat):Option Blk→Bool
 | some b=>b.cells.all plainV || (b.cells.all (lowV n 4) && b.cells.all fewOk && decide (b.cells.length≤20)) || b.cells.all (lowV 0 4)
 | none=>false
def moveV (n:Nat) (js:List Nat) (v:Value):Value:=match ownIdx n v with
 | some j=>setBlk (n+pos js j) v
 | none=>v
def addN (n:Nat):List Nat→List Nat→List Nat
 | acc,[]=>acc
 | acc,t::T=>if t<n∨t∈acc then addN n acc T else addN n (acc++[t]) T
theorem addN_len (n:Nat):∀ (T acc:List Nat),acc.length≤(addN n acc T).length
 | [],acc=>Nat.le_refl _
 | t::T,acc=>by
  unfold addN
  split
  ·exact addN_len n T acc
  ·have:=addN_len n T (acc++[t]); simp at this; omega
theorem addN_low {n:Nat}:∀ (T l acc:List Nat),(∀ x∈l,x<n)→addN n acc (T++l)=addN n acc T
 | [],[],acc,_=>rfl
 | [],x::l,acc,h=>by
  have st:addN n acc (x::l)=addN n acc l:=by rw[addN,if_pos (.inl (h x (by simp)))]
  have:=addN_low [] l acc (fun y hy=>h y (by simp[hy]))
  rw[List.nil_append] at this ⊢
  rw[st,this]
 | t::T,l,acc,h=>by
  rw[List.cons_append,addN,addN]
  split
  ·exact addN_low T l acc h
  ·exact addN_low T l _ h
theorem addN_app {n:Nat}:∀ (T l acc:List Nat),addN n acc (T++l)=addN n (addN n acc T) l
 | [],l,acc=>rfl
 | t::T,l,acc=>by
  rw[List.cons_append,addN,addN]
  split
  ·exact addN_app T l acc
  ·exact addN_app T l _
theorem mapM_few {n:Nat}:∀ (l:List Value),l.all (lowV n 4)=true→l.all fewOk=true→∃ m,(l.mapM (addrs 4)).map List.flatten=some m∧(∀ b∈m,b<n)∧m.length≤9 * l.length
 | [],_,_=>⟨[],rfl,by simp,by simp⟩
 | v::r,h,k=>by
  rw[List.all_cons,Bool.and_eq_true] at h k
  obtain⟨a,ea,ha⟩:=low_addrs 4 v h.1
  have fa:=few_addrs 4 v a h.1 ea
  have fk:fewV 4 v≤9:=by simpa [fewOk] using k.1
  obtain⟨m,em,hm,lm⟩:=mapM_few r h.2 k.2
  rcases er:r.mapM (addrs 4) with _ | q
  ·rw[er] at em; cases em
  rw[er] at em
  simp only[Option.map_some,Option.some.injEq] at em
  subst em
  refine⟨a++q.flatten,by rw[List.mapM_cons,ea,er]; rfl,fun b hb=>?_,?_⟩
  ·rcases List.mem_append.1 hb with z | z
   ·exact ha b z
   ·exact hm b z
  ·rw[List.length_append,List.length_cons]; omega
theorem blkLow_addrs {n:Nat} {b:Blk} (h:blkLow n (some b)=true):∃ l,b.addrs=some l∧(∀ x∈l,x<n)∧l.length≤180:=by
 replace h:(b.cells.all plainV || (b.cells.all (lowV n 4) && b.cells.all fewOk && decide (b.cells.length≤20)) || b.cells.all (lowV 0 4))=true:=h
 by_cases hz:b.cells.all (lowV 0 4)=true
 ·exact⟨[],Blk_addrs_no (rw:=b.rw) hz,by simp,by simp⟩
 rw[Bool.or_eq_true,or_iff_left hz] at h
 unfold Blk.addrs
 by_cases hp:b.cells.all plainV=true
 ·exact⟨[],by rw[if_pos hp],by simp,by simp⟩
 ·rw[if_neg hp]
  have hp':b.cells.all plainV=false:=by simpa using hp
  rw[hp',Bool.false_or,Bool.and_eq_true,Bool.and_eq_true,decide_eq_true_eq] at h
  obtain⟨m,e,h1,h2⟩:=mapM_few b.cells h.1.1 h.1.2
  exact⟨m,e,h1,by have:=h.2; omega⟩
theorem blkLow_ren {n:Nat} {A:List Nat} {b:Blk} (h:blkLow n (some b)=true):Blk.ren (renOf n A) b=b:=by
 replace h:(b.cells.all plainV || (b.cells.all (lowV n 4) && b.cells.all fewOk && decide (b.cells.length≤20)) || b.cells.all (lowV 0 4))=true:=h
 by_cases hz:b.cells.all (lowV 0 4)=true
 ·exact Blk_ren_no (rw:=b.rw) hz
 rw[Bool.or_eq_true,or_iff_left hz] at h
 unfold Blk.ren
 split
 ·rfl
 ·rename_i hp
  have hp':b.cells.all plainV=false:=by simpa using hp
  rw[hp',Bool.false_or,Bool.and_eq_true,Bool.and_eq_true] at h
  have:b.cells.map (renV (renOf n A) valDepth)=b.cells:=(List.map_congr_left fun x hx=>low_ren2 4 x (List.all_eq_true.1 h.1.1 x hx)).trans (List.map_id _)
  rw[this]
theorem reach_mix {n:Nat} {H:Heap}:∀ (k:Nat) (T acc:List Nat),(∀ t∈T,n≤t→blkLow n (H.get t)=true)→T.length+180 * ((addN n acc T).length-acc.length)<k→reach n H k T acc=some (addN n acc T)
 | k,[],acc,_,_=>reach_nil k acc
 | 0,t::T,acc,_,h=>by omega
 | k+1,t::T,acc,hb,hk=>by
  rw[reach_step (by omega)]
  simp only[Nat.add_sub_cancel]
  unfold addN at hk ⊢
  by_cases q:t<n∨t∈acc
  ·rw[if_pos q] at hk ⊢
   rw[if_pos q]
   exact reach_mix k T acc (fun x hx=>hb x (by simp[hx])) (by simp only[List.length_cons] at hk; omega)
  ·rw[if_neg q] at hk ⊢
   rw[if_neg q]
   have hbt:=hb t (by simp) (by omega)
   rcases e:H.get t with _ | b
   ·rw[e] at hbt; cases hbt
   rw[e] at hbt
   obtain⟨l,el,h1,h2⟩:=blkLow_addrs hbt
   have al:=addN_low T l (acc++[t]) h1
   have ln:=addN_len n T (acc++[t])
   rw[reachK_some,el]
   simp only
   rw[← al]
   refine reach_mix k (T++l) (acc++[t]) (fun x hx hn=>?_) ?_
   ·rcases List.mem_append.1 hx with z | z
    ·exact hb x (by simp[z]) hn
    ·exact absurd (h1 x z) (by omega)
   ·rw[al]
    simp only[List.length_append,List.length_cons,List.length_nil] at hk ln ⊢
    omega
theorem rootsL_mem {n:Nat}:∀ (vs:List Value) (acc:List Nat) (j:Nat),j∈acc→j∈rootsL n vs acc
 | [],acc,j,h=>h
 | v::r,acc,j,h=>by
  unfold rootsL
  split
  ·split
   ·exact rootsL_mem r acc j h
   ·exact rootsL_mem r _ j (by simp[h])
  ·exact rootsL_mem r acc j h
theorem own_addrs {n j:Nat} {v:Value} (h:ownIdx n v=some j):addrs 4 v=some [n+j]:=by
 unfold ownIdx at h
 split at h
 ·split at h
  ·cases h; rename_i b _ hb; rw[addrs_ptr]; congr 2; omega
  ·cases h
 ·split at h
  ·cases h; rename_i b _ _ _ hb; rw[addrs_slice]; congr 2; omega
  ·cases h
 ·split at h
  ·cases h; rename_i b hb; unfold addrs; simp[plainV]; omega
  ·cases h
 ·cases h
theorem own_ren {n j:Nat} {v:Value} {A:List Nat} (h:ownIdx n v=some j):renV (renOf n A) 4 v=setBlk (n+pos A (n+j)) v:=by
 unfold ownIdx at h
 split at h
 ·split at h
  ·cases h; rename_i b _ hb
   rw[renV_ptr,setBlk]
   have:¬ b<n:=by omega
   simp only[renOf,this,if_false]
   rw[show n+(b-n)=b by omega]
  ·cases h
 ·split at h
  ·cases h; rename_i b _ _ _ hb
   rw[renV_slice,setBlk]
   have:¬ b<n:=by omega
   simp only[renOf,this,if_false]
   rw[show n+(b-n)=b by omega]
  ·cases h
 ·split at h
  ·cases h; rename_i b hb
   have:¬ b<n:=by omega
   unfold renV
   simp[plainV,setBlk,renOf,this]
   rw[show n+(b-n)=b by omega]
  ·cases h
 ·cases h
theorem roots_spec {n:Nat}:∀ (vs:List Value) (acc:List Nat),vs.all (rootOk n)=true→∃ ls,vs.mapM (addrs 4)=some ls∧addN n (acc.map (n+·)) ls.flatten=(rootsL n vs acc).map (n+·)∧ls.flatten.length≤9 * vs.length ∧
  ∀ t∈ls.flatten,n≤t→∃ j∈rootsL n vs acc,t=n+j
 | [],acc,_=>⟨[],rfl,rfl,by simp,by simp⟩
 | v::r,acc,h=>by
  rw[List.all_cons,Bool.and_eq_true] at h
  unfold rootsL
  rcases e:ownIdx n v with _ | j
  ·have h1:=h.1
   unfold rootOk at h1
   rw[e] at h1
   simp only[Option.isSome_none,Bool.false_or,Bool.and_eq_true] at h1
   obtain⟨a,ea,ha⟩:=low_addrs 4 v h1.1
   have fa:=few_addrs 4 v a h1.1 ea
   have fk:fewV 4 v≤9:=by simpa [fewOk] using h1.2
   obtain⟨ls,q1,q2,q3,q4⟩:=roots_spec r acc h.2
   refine⟨a::ls,by rw[List.mapM_cons,ea,q1]; rfl,?_,?_,?_⟩
   ·simp only[List.flatten_cons]
    rw[addN_app]
    have:=addN_low [] a (acc.map (n+·)) ha
    rw[List.nil_append] at this
    rw[this]; exact q2
   ·simp only[List.flatten_cons,List.length_append,List.length_cons]; omega
   ·intro t ht hn
    simp only[List.flatten_cons,List.mem_append] at ht
    rcases ht with z | z
    ·exact absurd (ha t z) (by omega)
    ·exact q4 t z hn
  ·have ea:=own_addrs e
   simp only
   have mm:(n+j)∈acc.map (n+·)↔j∈acc:=by
    constructor
    ·intro z; obtain⟨x,hx,ex⟩:=List.mem_map.1 z; have:x=j:=by omega
     rwa [this] at hx
    ·intro z; exact List.mem_map.2 ⟨j,z,rfl⟩
   by_cases q:j∈acc
   ·rw[if_pos q]
    obtain⟨ls,q1,q2,q3,q4⟩:=roots_spec r acc h.2
    refine⟨[n+j]::ls,by rw[List.mapM_cons,ea,q1]; rfl,?_,?_,?_⟩
    ·simp only[List.flatten_cons,List.cons_append,List.nil_append]
     rw[addN,if_pos (.inr (mm.2 q))]; exact q2
    ·simp only[List.flatten_cons,List.length_append,List.length_cons,List.length_nil]; omega
    ·intro t ht hn
     simp only[List.flatten_cons,List.cons_append,List.nil_append,List.mem_cons] at ht
     rcases ht with z | z
     ·exact⟨j,rootsL_mem r acc j q,z⟩
     ·exact q4 t z hn
   ·rw[if_neg q]
    obtain⟨ls,q1,q2,q3,q4⟩:=roots_spec r (acc++[j]) h.2
    refine⟨[n+j]::ls,by rw[List.mapM_cons,ea,q1]; rfl,?_,?_,?_⟩
    ·simp only[List.flatten_cons,List.cons_append,List.nil_append]
     rw[addN,if_neg (by rintro (z | z); omega; exact q (mm.1 z))]
     rw[show acc.map (n+·)++[n+j]=(acc++[j]).map (n+·) by simp]; exact q2
    ·simp only[List.flatten_cons,List.length_append,List.length_cons,List.length_nil]; omega
    ·intro t ht hn
     simp only[List.flatten_cons,List.cons_append,List.nil_append,List.mem_cons] at ht
     rcases ht with z | z
     ·exact⟨j,rootsL_mem r _ j (by simp),z⟩
     ·exact q4 t z hn
theorem pos_shift (n j:Nat):∀ js:List Nat,pos (js.map (n+·)) (n+j)=pos js j
 | []=>rfl
 | x::r=>by
  have ih:=pos_shift n j r
  simp only[List.map_cons,pos_cons,ih]
  by_cases q:j=x
  ·simp[q]
  ·rw[if_neg (by omega),if_neg q]
theorem collect_box {n:Nat} {vs:List Value} {H:Heap} (h1:vs.all (rootOk n)=true) (h2:(rootsL n vs []).all (fun j=>blkLow n (H.get (n+j)))=true) (h3:vs.length≤20) (h4:(rootsL n vs []).length≤4) :
  collect n vs H=some (vs.map (moveV n (rootsL n vs [])),(rootsL n vs []).map fun j=>H.get (n+j)):=by
 obtain⟨ls,q1,q2,q3,q4⟩:=roots_spec vs [] h1
 generalize hj:rootsL n vs []=js at *
 have hb:∀ j∈js,blkLow n (H.get (n+j))=true:=fun j hj=>List.all_eq_true.1 h2 j hj
 have hr:reach n H 1000 ls.flatten []=some (js.map (n+·)):=by
  rw[← q2]
  refine reach_mix 1000 ls.flatten [] (fun t ht hn=>?_) ?_
  ·obtain⟨j,hj,rfl⟩:=q4 t ht hn; exact hb j hj
  ·rw[List.map_nil] at q2
   rw[q2]; simp only[List.length_map,List.length_nil]; omega
 rw[collect_own]
 have v4:valDepth=4:=rfl
 rw[v4,q1]
 simp only[Option.bind_some,hr,Option.map_some,Option.some.injEq,Prod.mk.injEq]
 refine⟨List.map_congr_left fun v hv=>?_,?_⟩
 ·unfold moveV
  rcases e:ownIdx n v with _ | j
  ·simp only
   have:=List.all_eq_true.1 h1 v hv
   unfold rootOk at this
   rw[e] at this
   simp only[Option.isSome_none,Bool.false_or,Bool.and_eq_true] at this
   exact low_ren2 4 v this.1
  ·simp only
   rw[own_ren e,pos_shift]
 ·rw[List.map_map]
  refine List.map_congr_left fun j hjm=>?_
  have:=hb j hjm
  rcases e:H.get (n+j) with _ | b
  ·rw[e] at this; cases this
  ·rw[e] at this
   show (H.get (n+j)).map _=some b
   rw[e,Option.map_some,blkLow_ren this]
section
variable {n:Nat}
@[simp] theorem ownIdx_int (k:IntKind) (m:Int):ownIdx n (.int k m)=none:=rfl
@[simp] theorem ownIdx_bool (b:Bool):ownIdx n (.bool b)=none:=rfl
@[simp] theorem ownIdx_str (b:ByteArray):ownIdx n (.string b)=none:=rfl
@[simp] theorem ownIdx_nil:ownIdx n (.slice none 0 0)=none:=rfl
@[simp] theorem ownIdx_agg (cs:Array Value):ownIdx n (.agg cs)=none:=rfl
@[simp] theorem ownIdx_tuple (cs:Array Value):ownIdx n (.tuple cs)=none:=rfl
@[simp] theorem ownIdx_func (f:Fn) (a b:Array Value):ownIdx n (.func f a b)=none:=rfl
@[simp] theorem ownIdx_ptr (j o:Nat):ownIdx n (.pointer (some ⟨n+j,o,none⟩))=some j:=by simp[ownIdx]
@[simp] theorem ownIdx_ptr0 (o:Nat):ownIdx n (.pointer (some ⟨n,o,none⟩))=some 0:=by simp[ownIdx]
@[simp] theorem ownIdx_sl (j o k s:Nat):ownIdx n (.slice (some ⟨n+j,o,none⟩) k s)=some j:=by simp[ownIdx]
@[simp] theorem ownIdx_sl0 (o k s:Nat):ownIdx n (.slice (some ⟨n,o,none⟩) k s)=some 0:=by simp[ownIdx]
@[simp] theorem ownIdx_map (j:Nat):ownIdx n (.map (some (n+j)))=some j:=by simp[ownIdx]
@[simp] theorem ownIdx_map0:ownIdx n (.map (some n))=some 0:=by simp[ownIdx]
theorem ownIdx_low {v:Value} (h:lowV n 4 v=true):ownIdx n v=none:=by
 unfold ownIdx
 split
 ·have:_:=h; simp at this; rw[if_neg (by omega)]
 ·have:_:=h; simp at this; rw[if_neg (by omega)]
 ·unfold lowV at h; simp[plainV] at h; rw[if_neg (by omega)]
 ·rfl
@[simp] theorem ownIdx_slow {b o k s:Nat} (h:b<n):ownIdx n (.slice (some ⟨b,o,none⟩) k s)=none:=by simp[ownIdx]; omega
@[simp] theorem ownIdx_plow {b o:Nat} (h:b<n):ownIdx n (.pointer (some ⟨b,o,none⟩))=none:=by simp[ownIdx]; omega
end
theorem Sl.own {es:Nat} {h:Heap} {v:Value} {n:Nat} {cs:List Value} (s:Sl es h v n cs):ownIdx h.length v=none:=ownIdx_low (s.lowV rfl)
theorem blkLow_some (n:Nat) (cs:List Value) (rw:Bool):blkLow n (some ⟨cs,rw⟩)=(cs.all plainV || (cs.all (lowV n 4) && cs.all fewOk && decide (cs.length≤20)) || cs.all (lowV 0 4)):=rfl
attribute [simp] blkLow_some rootsL rootOk moveV setBlk
end Go.Abs
namespace Go.Abs
section
variable {C:Ctx}
@[simp] theorem addrs_yield (d r:Nat):addrs (d+1) (yieldVal r)=some [r]:=by
 unfold yieldVal
 rw[addrs_func]
 have:addrs d (.pointer (some ⟨r,0,none⟩))=some [r]:=by unfold addrs; simp[plainV]
 simp[this]
@[simp] theorem renV_yield (g:Nat→Nat) (d r:Nat):renV g (d+1) (yieldVal r)=yieldVal (g r):=by
 unfold yieldVal
 rw[renV_func]
 have:renV g d (.pointer (some ⟨r,0,none⟩))=.pointer (some ⟨g r,0,none⟩):=by unfold renV; simp[plainV]
 simp[this]
@[simp] theorem plainV_yield (r:Nat):plainV (yieldVal r)=false:=rfl
@[simp] theorem lowV_yield (n d r:Nat):lowV n (d+1) (yieldVal r)=decide (r<n):=by unfold yieldVal; simp
@[simp] theorem fewV_yield (d r:Nat):fewV (d+1) (yieldVal r)=1:=by unfold yieldVal; simp
@[simp] theorem fewOk_yield (r:Nat):fewOk (yieldVal r)=true:=by simp[fewOk]
@[simp] theorem oneCell_yield (r:Nat):(yieldVal r).oneCell'=true:=rfl
@[simp] theorem cells_yield (r:Nat):(yieldVal r).cells=#[yieldVal r]:=rfl
@[simp] theorem noAddr_yield (r:Nat):noAddr (yieldVal r)=false:=rfl
@[simp] theorem ownIdx_yield (n r:Nat):ownIdx n (yieldVal r)=none:=rfl
def KRange (C:Ctx) (f i:Nat) (st:St) (us:List Value) (Q:Ex→St→Prop):Value→Prop
 | .func (.func gf) a b=>wpV (C.call C.lim gf (a.toList++[yieldVal st.h.length]++b.toList) (st.h.push (loopBlk f i us))) fun p=>wpV (rangeEnd st.h.length st.f p.2) fun q=>Q q.1 q.2
 | _=>False
@[simp ↓] theorem KRange_func (f i:Nat) (st:St) (us:List Value) (Q:Ex→St→Prop) (gf:Nat) (a b:Array Value):KRange C f i st us Q (.func (.func gf) a b) =
  wpV (C.call C.lim gf (a.toList++[yieldVal st.h.length]++b.toList) (st.h.push (loopBlk f i us))) fun p=>wpV (rangeEnd st.h.length st.f p.2) fun q=>Q q.1 q.2:=rfl
@[simp ↓] theorem wpC_rangeF {st:St} {Q:Ex→St→Prop} (g:Operand) (f i:Nat) (full:Bool) (sl ps:List Nat) (a b:ECode) :
  wpC C (.rangeF g f i full sl ps a b) st Q=Ev C st.f g fun v=>wpV (st.f.only sl) fun us=>KRange C f i st us Q v:=by
 unfold wpC Ev
 simp only[ECode.run]
 rcases C.eval st.f g with _ | v
 ·simp
 ·rcases st.f.only sl with _ | us
  ·cases v with
   | func fn a b=>cases fn <;> simp
   | _=>simp
  ·cases v with
   | func fn a b =>
    cases fn with
    | func gf =>
     simp only[wpV_some,KRange]
     rcases C.call C.lim gf (a.toList++[yieldVal st.h.length]++b.toList) (st.h.push (loopBlk f i us)) with _ | ⟨v,h'⟩
     ·simp
     ·simp
    | _=>simp[KRange]
   | _=>simp[KRange]
theorem round1 {E:EProg} {d lim r f i:Nat} {us vs:List Value} {h:Heap} {F:EFun} {rd:ERound} {s:Int} (hg:h.get r=some ⟨.int .i64 f::.int .i64 i::.int .i64 s::us,true⟩) (hF:E.fn f=some F)
  (hn:lookupN F.code.nodes i=some rd) (hvl:vs.length=rd.ps.length) {Q:Value→Heap→Prop}
  (hw:wpC ⟨E.call d,h.length,if rd.full then lim else h.length,!rd.full,E.glob,E.fuel,noRound⟩ rd.assign ⟨roundFrame rd.ps vs (rd.slots.zip us),h⟩ fun e st1=>e=.normal∧wpV (st1.h.loopSt r) fun s1=>s1=0∧wpV (st1.h.setLoop r (-1)) fun h1 =>
   wpC ⟨E.call d,h.length,if rd.full then lim else h.length,!rd.full,E.glob,E.fuel,noRound⟩ rd.body ⟨st1.f,h1⟩ fun ex st2=>wpV (st2.h.setLoop r (exNum ex)) fun h2=>Q (.bool (decide (ex=.normal))) (if rd.full then h2 else h2.take h.length)) :
  ∃ v h',EProg.roundOf E (E.call d) lim r vs h=some (v,h')∧Q v h':=by
 unfold EProg.roundOf
 rw[hg]
 simp only[Int.toNat_natCast,hF,hn,if_pos hvl]
 unfold ERound.run
 obtain⟨⟨e,st1⟩,h1,rfl,s1,h2,rfl,hh1,h3,⟨ex,st2⟩,h4,hh2,h5,hq⟩:=hw
 simp only at h1 h2 h3 h4 h5 hq
 simp only[h1,h2,h3,if_true,h4,h5]
 exact⟨_,_,rfl,hq⟩
theorem loopSt_get {h:Heap} {r:Nat} {a b:Value} {k:IntKind} {s:Int} {us:List Value} (e:h.get r=some ⟨a::b::.int k s::us,true⟩):h.loopSt r=some s:=by
 unfold Heap.loopSt; rw[e]
theorem setLoop_get {h:Heap} {r:Nat} {a b c:Value} {us:List Value} (e:h.get r=some ⟨a::b::c::us,true⟩) (s:Int):h.setLoop r s=some (h.put r (some ⟨a::b::.int .i64 s::us,true⟩)):=by
 unfold Heap.setLoop; rw[e]
theorem rangeEnd_get {h:Heap} {r:Nat} {f:AFrame} {a b:Value} {k:IntKind} {s:Int} {us:List Value} (e:h.get r=some ⟨a::b::.int k s::us,true⟩):rangeEnd r f h=(jumpEx s).map fun ex=>(ex,⟨f,h.put r none⟩):=by
 unfold rangeEnd; rw[loopSt_get e]
@[simp] theorem jumpEx_0:jumpEx 0=some .normal:=rfl
@[simp] theorem jumpEx_1:jumpEx 1=some .ret:=rfl
@[simp] theorem jumpEx_ex (id:Nat):jumpEx (2+(id:Int))=some (.exit id):=by
 unfold jumpEx
 rw[if_neg (by omega),if_neg (by omega),if_pos (by omega)]
 congr 2; omega
@[simp] theorem exNum_normal:exNum .normal=0:=rfl
@[simp] theorem exNum_ret:exNum .ret=1:=rfl
@[simp] theorem exNum_exit (id:Nat):exNum (.exit id)=2+(id:Int):=rfl
end
end Go.Abs
namespace Go.Abs
theorem lget_left {L N:List (Option Blk)} {j:Nat} (hj:j<L.length):(L++N)[j]?=L[j]?:=List.getElem?_append_left hj
theorem lget_right {L N:List (Option Blk)} {n k:Nat} (h:n=L.length):(L++N)[n+k]?=N[k]?:=by subst h; rw[List.getElem?_append_right (by omega)]; congr 1; omega
theorem lget_right0 {L N:List (Option Blk)} {n:Nat} (h:n=L.length):(L++N)[n]?=N[0]?:=lget_right (k:=0) h
theorem lset_left {L N:List (Option Blk)} {j:Nat} {x:Option Blk} (hj:j<L.length):(L++N).set j x=L.set j x++N:=List.set_append_left _ _ hj
theorem lset_right {L N:List (Option Blk)} {n k:Nat} {x:Option Blk} (h:n=L.length):(L++N).set (n+k) x=L++N.set k x:=by subst h; rw[List.set_append_right _ _ (by omega)]; congr 2; omega
theorem lset_right0 {L N:List (Option Blk)} {n:Nat} {x:Option Blk} (h:n=L.length):(L++N).set n x=L++N.set 0 x:=lset_right (k:=0) h
theorem lget_lt {L:List (Option Blk)} {i:Nat} {b:Option Blk} (h:L[i]?=some b):i<L.length:=by
 rcases Nat.lt_or_ge i L.length with z | z
 ·exact z
 ·rw[List.getElem?_eq_none z] at h; cases h
theorem app_one {es bytes b b2 n:Nat} {H:Heap} {X Y:List Value} {rw:Bool} (hb:H.get b=some ⟨X,true⟩) (hn:n * es=X.length) (hes:0<es) (hb2:H.get b2=some ⟨Y,rw⟩) (hY:Y.length=es) (h1:Y.all Value.oneCell'=true)
  (hby:(n+1) * bytes≤140737488355328) (hmx:n+1≤9223372036854775807) :
  E.append H es bytes (.slice (some ⟨b,0,none⟩) n es) (.slice (some ⟨b2,0,none⟩) 1 es)=some ⟨.slice (some ⟨H.length,0,none⟩) (n+1) es,[b,b2],.move b ⟨X++Y,true⟩⟩:=by
 have hes':es≠0:=by omega
 have e:(Y.drop 0).take (1 * es)=Y:=by rw[List.drop_zero,List.take_of_length_le (by omega)]
 have l1:0+1 * es≤Y.length:=by omega
 have hmx':n+1≤maxLen:=by unfold maxLen; exact hmx
 have e0:0+n * es=X.length:=by omega
 have ad:E.added H es (.slice (some ⟨b2,0,none⟩) 1 es)=some (1,Y,[b2]):=by
  simp only[E.added,hb2,if_neg (show ¬ (1:Nat)=0 by decide),if_pos l1,e,if_true]
 simp only[E.append,ad,h1,if_true,if_neg hes',if_neg (show ¬ (1:Nat)=0 by decide),hb,List.drop_zero]
 exact if_pos ⟨trivial,e0,hby,hmx'⟩
theorem app_one0 {es bytes b2:Nat} {H:Heap} {Y:List Value} {rw:Bool} (hb2:H.get b2=some ⟨Y,rw⟩) (hY:Y.length=es) (h1:Y.all Value.oneCell'=true) (hes:0<es) (hby:bytes≤140737488355328) :
  E.append H es bytes (.slice none 0 0) (.slice (some ⟨b2,0,none⟩) 1 es)=some ⟨.slice (some ⟨H.length,0,none⟩) 1 es,[b2],.push ⟨Y,true⟩⟩:=by
 have e:(Y.drop 0).take (1 * es)=Y:=by rw[List.drop_zero,List.take_of_length_le (by omega)]
 have l1:0+1 * es≤Y.length:=by omega
 have ad:E.added H es (.slice (some ⟨b2,0,none⟩) 1 es)=some (1,Y,[b2]):=by
  simp only[E.added,hb2,if_neg (show ¬ (1:Nat)=0 by decide),if_pos l1,e,if_true]
 have cd:1 * bytes≤140737488355328∧1≤maxLen:=⟨by omega,by decide⟩
 simp only[E.append,ad,h1,if_true,if_neg (show ¬ (1:Nat)=0 by decide),if_pos cd]
def OutS (base:Nat) (L:List (Option Blk)) (b:Nat) (v:Value) (cs:List Value):Prop :=
 if cs=[] then v=.slice none 0 0 else v=.slice (some ⟨base+b,0,none⟩) cs.length 1∧L[b]?=some (some ⟨cs,true⟩)
theorem OutS.nil {base:Nat} {L:List (Option Blk)} {b:Nat}:OutS base L b (.slice none 0 0) []:=by unfold OutS; rw[if_pos rfl]
theorem OutS.keep {base:Nat} {L L':List (Option Blk)} {b:Nat} {v:Value} {cs:List Value} (h:OutS base L b v cs) (k:cs≠[]→L'[b]?=L[b]?):OutS base L' b v cs:=by
 unfold OutS at h ⊢
 split
 ·rename_i e; rwa [if_pos e] at h
 ·rename_i e; rw[if_neg e] at h; exact⟨h.1,(k e).trans h.2⟩
theorem OutS.mk {base:Nat} {L:List (Option Blk)} {b:Nat} {cs:List Value} {n:Nat} (h:L[b]?=some (some ⟨cs,true⟩)) (hn:n=cs.length) (hc:cs≠[]):OutS base L b (.slice (some ⟨base+b,0,none⟩) n 1) cs:=by
 unfold OutS; rw[if_neg hc]; exact⟨by rw[hn],h⟩
def outM (M:List (Option Blk)) (c:Nat) (cs:List Value):List (Option Blk):=if cs=[] then M else M.set c none
@[simp] theorem outM_len (M:List (Option Blk)) (c:Nat) (cs:List Value):(outM M c cs).length=M.length:=by unfold outM; split <;> simp
theorem OutS.append {B:Heap} {M:List (Option Blk)} {c bytes:Nat} {v x:Value} {cs:List Value} (h:OutS B.length M c v cs) (h1:Value.oneCell' x=true) (hby:(cs.length+1) * bytes≤140737488355328) (hmx:cs.length+1≤9223372036854775807) :
  ∃ o,E.append (B++(M++[some ⟨[x],true⟩])) 1 bytes v (.slice (some ⟨B.length+M.length,0,none⟩) 1 1)=some o∧o.val=.slice (some ⟨B.length+(M.length+1),0,none⟩) (cs.length+1) 1 ∧
   o.eff.apply (B++(M++[some ⟨[x],true⟩]))=B++(outM M c cs++[some ⟨[x],true⟩,some ⟨cs++[x],true⟩])∧o.eff.writes=(if cs=[] then [] else [B.length+c])∧o.reads=(if cs=[] then [B.length+M.length] else [B.length+c,B.length+M.length]):=by
 have gx:Heap.get (B++(M++[some ⟨[x],true⟩])) (B.length+M.length)=some ⟨[x],true⟩:=by rw[hget_base rfl,lget_right0 rfl]; rfl
 have ln:(B++(M++[some (Blk.mk [x] true)])).length=B.length+(M.length+1):=by simp
 have a1:[x].all Value.oneCell'=true:=by rw[List.all_cons,h1]; rfl
 unfold OutS at h
 by_cases e:cs=[]
 ·subst e
  rw[if_pos rfl] at h
  subst h
  refine⟨_,app_one0 gx rfl a1 (by decide) (by simpa using hby),?_,?_,rfl,rfl⟩
  ·simp only[ln]; rfl
  ·simp[outM,Eff.apply]
 ·rw[if_neg e] at h
  obtain⟨rfl,hg⟩:=h
  have lc:=lget_lt hg
  have gc:Heap.get (B++(M++[some ⟨[x],true⟩])) (B.length+c)=some ⟨cs,true⟩:=by rw[hget_base rfl,lget_left lc,hg]; rfl
  refine⟨_,app_one gc (by simp) (by decide) gx rfl a1 hby hmx,?_,?_,?_,?_⟩
  ·simp only[ln]
  ·simp only[Eff.apply,outM,if_neg e]
   rw[hput_base rfl,lset_left lc]
   simp[Heap.push]
  ·rw[if_neg e]; rfl
  ·rw[if_neg e]
theorem OutS.lt {base:Nat} {L:List (Option Blk)} {b:Nat} {v:Value} {cs:List Value} (h:OutS base L b v cs) (e:cs≠[]):b<L.length:=by
 unfold OutS at h; rw[if_neg e] at h; exact lget_lt h.2
theorem OutS.trim {B:Heap} {M:List (Option Blk)} {c:Nat} {v:Value} {cs:List Value} (h:OutS B.length M c v cs):Heap.trim (B++M) v=B++M:=by
 unfold OutS at h
 split at h
 ·rw[h]; rfl
 ·obtain⟨rfl,hg⟩:=h
  have lc:=lget_lt hg
  have gc:Heap.get (B++M) (B.length+c)=some ⟨cs,true⟩:=by rw[hget_base rfl,hg]; rfl
  unfold Heap.trim
  simp only[gc]
  rw[Nat.zero_add,Nat.mul_one,List.take_length,hput_base rfl]
  congr 1
  apply List.ext_getElem?
  intro j
  by_cases q:c=j
  ·subst q; rw[List.getElem?_set_self lc,hg]
  ·rw[List.getElem?_set_ne q]
theorem OutS.appendT {B:Heap} {M:List (Option Blk)} {c bytes:Nat} {v x:Value} {cs:List Value} (h:OutS B.length M c v cs) (h1:Value.oneCell' x=true) (hby:(cs.length+1) * bytes≤140737488355328) (hmx:cs.length+1≤9223372036854775807) :
  ∃ o,E.append (Heap.trim (B++(M++[some ⟨[x],true⟩])) v) 1 bytes v (.slice (some ⟨B.length+M.length,0,none⟩) 1 1)=some o∧o.val=.slice (some ⟨B.length+(M.length+1),0,none⟩) (cs.length+1) 1 ∧
   o.eff.apply (B++(M++[some ⟨[x],true⟩]))=B++(outM M c cs++[some ⟨[x],true⟩,some ⟨cs++[x],true⟩])∧o.eff.writes=(if cs=[] then [] else [B.length+c])∧o.reads=(if cs=[] then [B.length+M.length] else [B.length+c,B.length+M.length]):=by
 have t:=(h.keep (L':=M++[some ⟨[x],true⟩]) fun e=>lget_left (h.lt e)).trim
 rw[t]
 exact h.append h1 hby hmx
theorem OutS.after {base:Nat} {M N:List (Option Blk)} {c:Nat} {cs:List Value} {x y:Value} {n:Nat} (hn:n=cs.length+1):OutS base (outM M c cs++(some ⟨[y],true⟩::some ⟨cs++[x],true⟩::N)) (M.length+1) (.slice (some ⟨base+(M.length+1),0,none⟩) n 1) (cs++[x]) :=
 OutS.mk (by rw[lget_right (by simp)]; rfl) (by simp[hn]) (by simp)
def KFl (rs:List ERes) (v:Value) (h':Heap):Ex→St→Prop
 | .exit _,_=>False
 | _,st=>(wpV (rs.mapM (ERes.get st)) fun vs=>retVal vs=v)∧st.h=h'
@[simp ↓] theorem KFl_normal {rs:List ERes} {v:Value} {h':Heap} {st:St}:KFl rs v h' .normal st=((wpV (rs.mapM (ERes.get st)) fun vs=>retVal vs=v)∧st.h=h'):=rfl
@[simp ↓] theorem KFl_ret {rs:List ERes} {v:Value} {h':Heap} {st:St}:KFl rs v h' .ret st=((wpV (rs.mapM (ERes.get st)) fun vs=>retVal vs=v)∧st.h=h'):=rfl
def KFx (rs:List ERes) (Q:Value→Heap→Prop):Ex→St→Prop
 | .exit _,_=>False
 | _,st=>wpV (rs.mapM (ERes.get st)) fun vs=>Q (retVal vs) st.h
@[simp ↓] theorem KFx_normal {rs:List ERes} {Q:Value→Heap→Prop} {st:St}:KFx rs Q .normal st=wpV (rs.mapM (ERes.get st)) fun vs=>Q (retVal vs) st.h:=rfl
@[simp ↓] theorem KFx_ret {rs:List ERes} {Q:Value→Heap→Prop} {st:St}:KFx rs Q .ret st=wpV (rs.mapM (ERes.get st)) fun vs=>Q (retVal vs) st.h:=rfl
theorem full_ex {E:EProg} {f:FuncId} {F:EFun} (hf:E.fn f=some F) (hm:F.mode=.full) {args:List Value} (hl:args.length≤F.n) {d lim:Nat} {h:Heap} {Q:Value→Heap→Prop}
  (hw:wpC ⟨EProg.call E d,h.length,lim,false,E.glob,E.fuel,EProg.roundOf E (EProg.call E d)⟩ F.code ⟨argFrame 0 args,h⟩ (KFx F.results Q)) :
  ∃ v h',E.call (d+1) lim f args h=some (v,h')∧Q v h':=by
 obtain⟨⟨e,st⟩,hr,hq⟩:=hw
 simp only[EProg.call,hf,hm,EFun.run,if_pos hl,hr]
 cases e with
 | exit id=>exact hq.elim
 | normal=>obtain⟨vs,h1,h2⟩:=hq; exact⟨_,_,by simp[h1],h2⟩
 | ret=>obtain⟨vs,h1,h2⟩:=hq; exact⟨_,_,by simp[h1],h2⟩
end Go.Abs
