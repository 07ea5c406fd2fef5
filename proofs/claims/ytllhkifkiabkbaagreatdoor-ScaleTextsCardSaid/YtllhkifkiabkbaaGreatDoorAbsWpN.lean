--
import Derived.Test.YtllhkifkiabkbaaGreatDoorAbsWpM
import Derived.Test.YtllhkifkiabkbaaGreatDoorAbsOpsM
set_option linter.unusedSimpArgs false
set_option linter.unusedVariables false
namespace Go.Abs
theorem Sl.blk {es:Nat} {h:Heap} {v:Value} {n:Nat} {cs:List Value} (s:Sl es h v n cs) (hn:n≠0) (hes:0<es) :
  ∃ b o k,v=.slice (some ⟨b,o,none⟩) n es∧h.get b=some k∧o+n * es≤k.cells.length∧(k.cells.drop o).take (n * es)=cs∧b<h.length:=by
 have hp:0<n * es:=Nat.mul_pos (by omega) hes
 have e:=s.addr hn
 have sz:=s.size
 have cell:∀ k,k<n * es→h.cell (slB v) (slO v+k)=cs[k]?:=s.cell
 have some0:∀ k,k<n * es→∃ x,cs[k]?=some x:=fun k hk=>⟨cs[k]'(by omega),List.getElem?_eq_getElem _⟩
 rcases g:h.get (slB v) with _ | k
 ·have c0:=cell 0 hp
  obtain⟨x,hx⟩:=some0 0 hp
  rw[hx] at c0
  simp[Heap.cell,g] at c0
 ·have cc:∀ j,j<n * es→k.cells[slO v+j]?=cs[j]?:=fun j hj=>by rw[← cell j hj,cell_get g]
  refine⟨slB v,slO v,k,e,g,?_,?_,s.lt hn⟩
  ·rcases Nat.lt_or_ge k.cells.length (slO v+n * es) with z | z
   ·obtain⟨x,hx⟩:=some0 (n * es-1) (by omega)
    have:=cc (n * es-1) (by omega)
    rw[hx,List.getElem?_eq_none (by omega)] at this
    cases this
   ·exact z
  ·apply List.ext_getElem?
   intro j
   rw[List.getElem?_take]
   by_cases hj:j<n * es
   ·rw[if_pos hj,List.getElem?_drop,cc j hj]
   ·rw[if_neg hj,List.getElem?_eq_none (by omega)]
theorem Sl.blkF {es:Nat} {h:Heap} {v:Value} {n:Nat} {cs:List Value} (s:Sl es h v n cs) (hn:n≠0) (hes:0<es) :
  ∃ b o k,v=.slice (some ⟨b,o,none⟩) n es∧(∀ L,Heap.get (h.freeze++L) b=some ⟨k,false⟩)∧o+n * es≤k.length∧(k.drop o).take (n * es)=cs∧b<h.length:=by
 obtain⟨b,o,k,e,g,h1,h2,h3⟩:=s.blk hn hes
 exact⟨b,o,k.cells,e,fun L=>hget_append (hget_freeze g),h1,h2,h3⟩
end Go.Abs
namespace Go.Abs
def E.mapVal (k:Value) (cs:List Value):Option (Option Value):=(E.mapFind k cs 0).map (·.map (·.2))
def mapGetV (h:Heap) (ck:CK) (zero:Value) (ok:Bool) (m k:Value):Option Value :=
 match m with
 | .map (some r)=>match h.get r with
  | some b=>if E.isKey ck k=true then (E.mapVal k b.cells).map fun
   | some x=>if ok then .tuple #[x,.bool true] else x
   | none=>if ok then .tuple #[zero,.bool false] else zero else none
  | none=>none
 | _=>none
def mapGetB (k zero:Value) (ok:Bool):Option Value→Value
 | some x=>if ok then .tuple #[x,.bool true] else x
 | none=>if ok then .tuple #[zero,.bool false] else zero
@[simp] theorem mapGetB_some (k zero:Value) (x:Value):mapGetB k zero false (some x)=x:=rfl
@[simp] theorem mapGetB_some2 (k zero:Value) (x:Value):mapGetB k zero true (some x)=.tuple #[x,.bool true]:=rfl
@[simp] theorem mapGetB_none (k zero:Value):mapGetB k zero false none=zero:=rfl
@[simp] theorem mapGetB_none2 (k zero:Value):mapGetB k zero true none=.tuple #[zero,.bool false]:=rfl
@[simp ↓] theorem mapGetV_map (h:Heap) (ck:CK) (zero:Value) (ok:Bool) (r:Nat) (k:Value):mapGetV h ck zero ok (.map (some r)) k=match h.get r with
  | some b=>if E.isKey ck k=true then (E.mapVal k b.cells).map (mapGetB k zero ok) else none
  | none=>none:=by
 unfold mapGetV
 simp only
 rcases h.get r with _ | b
 ·rfl
 ·simp only
  split
  ·rcases E.mapVal k b.cells with _ | _ | x <;> rfl
  ·rfl
def mapSetH (lim:Nat) (h:Heap) (ck:CK) (m k x:Value):Option Heap :=
 match m with
 | .map (some r)=>match h.get r with
  | some b=>if b.rw=true∧E.isKey ck k=true∧lim≤r then (E.mapPut k x b.cells).map fun cs=>h.put r (some ⟨cs,true⟩) else none
  | none=>none
 | _=>none
@[simp ↓] theorem mapSetH_map (lim:Nat) (h:Heap) (ck:CK) (r:Nat) (k x:Value):mapSetH lim h ck (.map (some r)) k x=match h.get r with
  | some b=>if b.rw=true∧E.isKey ck k=true∧lim≤r then (E.mapPut k x b.cells).map fun cs=>h.put r (some ⟨cs,true⟩) else none
  | none=>none:=rfl
def mapLenV (h:Heap):Value→Option Value
 | .map (some r)=>(h.get r).map fun b=>.int .i64 b.cells.length
 | _=>none
@[simp ↓] theorem mapLenV_map (h:Heap) (r:Nat):mapLenV h (.map (some r))=(h.get r).map fun b=>.int .i64 b.cells.length:=rfl
@[simp] theorem isKey_int (k:IntKind) (n:Int):E.isKey (.int k) (.int k n)=true:=by simp[E.isKey]
@[simp] theorem isKey_str (s:ByteArray):E.isKey .str (.string s)=true:=rfl
section
variable {C:Ctx} {Q:St→Prop} {f:AFrame} {h:Heap} {i:Nat} {l:Log} {r:List EOper} {d:Option Nat} {frz:Bool}
@[simp ↓ high] theorem wpO_makeMap:wpO C (⟨d,.makeMap,none,[],false,frz⟩::r) i l ⟨f,h⟩ Q=wpO C r (i+1) l ⟨f.put d (.map (some h.length)),h.push ⟨[],true⟩⟩ Q:=by
 rw[wpO_step (o:=EOp.run C.lim h (C.eval f) .makeMap) rfl]; simp only[EOp.run,Eff.apply,wpV_some]
@[simp ↓ high] theorem wpO_mapGet (ck:CK) (zero:Value) (ok:Bool) (m k:Operand):wpO C (⟨d,.mapGet ck zero ok m k,none,[],false,frz⟩::r) i l ⟨f,h⟩ Q =
  Ev C f m fun a=>Ev C f k fun b=>wpV (mapGetV h ck zero ok a b) (KPut C d r i l f h Q):=by
 rw[wpO_step rfl]; simp only[EOp.run,Ev]
 generalize C.eval f k=w
 generalize C.eval f m=u
 rcases u with _ | a
 ·simp
 ·rw[wpV_some]
  cases a with
  | map o=>cases o with
   | none=>rcases w with _ | b <;> simp[mapGetV]
   | some rr =>
    rcases w with _ | b
    ·simp
    ·simp only[wpV_some,mapGetV_map]
     rcases h.get rr with _ | b'
     ·simp
     ·simp only
      split
      ·unfold E.mapVal
       rcases E.mapFind b b'.cells 0 with _ | _ | ⟨j,x⟩
       ·simp
       ·cases ok <;> simp[KPut,Eff.apply]
       ·cases ok <;> simp[KPut,Eff.apply]
      ·simp
  | _=>rcases w with _ | b <;> simp[mapGetV]
@[simp ↓ high] theorem wpO_mapSet (ck:CK) (m k x:Operand):wpO C (⟨d,.mapSet ck m k x,none,[],false,frz⟩::r) i l ⟨f,h⟩ Q =
  Ev C f m fun a=>Ev C f k fun b=>Ev C f x fun c=>wpV (mapSetH C.lim h ck a b c) fun h'=>wpO C r (i+1) l ⟨f.put d undef,h'⟩ Q:=by
 rw[wpO_step rfl]; simp only[EOp.run,Ev]
 generalize C.eval f m=u
 generalize C.eval f k=w
 generalize C.eval f x=z
 rcases u with _ | a
 ·simp
 ·rw[wpV_some]
  rcases w with _ | b
  ·cases a with
   | map o=>cases o <;> simp
   | _=>simp
  ·rw[wpV_some]
   rcases z with _ | c
   ·cases a with
    | map o=>cases o <;> simp
    | _=>simp
   ·rw[wpV_some]
    cases a with
    | map o=>cases o with
     | none=>simp[mapSetH]
     | some rr =>
      simp only[mapSetH_map]
      rcases h.get rr with _ | b'
      ·simp
      ·simp only
       split
       ·simp only[wpV_map,Eff.apply]
       ·simp only[wpV_none]
    | _=>simp[mapSetH]
@[simp ↓ high] theorem wpO_lenMap (x:Operand):wpO C (⟨d,.lenMap x,none,[],false,frz⟩::r) i l ⟨f,h⟩ Q=Ev C f x fun v=>wpV (mapLenV h v) (KPut C d r i l f h Q):=by
 rw[Ev,wpO_step rfl]; simp only[EOp.run]
 rcases C.eval f x with _ | v
 ·simp
 ·rw[wpV_some]
  cases v with
  | map o=>cases o with
   | none=>simp[mapLenV]
   | some rr =>
    simp only[mapLenV_map]
    rcases h.get rr with _ | b' <;> simp[KPut,Eff.apply]
  | _=>simp[mapLenV]
end
end Go.Abs
set_option linter.unusedSectionVars false
namespace Go.Abs
theorem addrs_no {d:Nat} {v:Value} (h:lowV 0 d v=true):addrs d v=some []:=by
 obtain⟨l,e,hl⟩:=low_addrs d v h
 have:l=[]:=by
  rcases l with _ | ⟨b,r⟩
  ·rfl
  ·have:=hl b (by simp); omega
 rw[e,this]
theorem ren_no {r:Nat→Nat}:∀ (d:Nat) (v:Value),lowV 0 d v=true→renV r d v=v
 | d,v,h=>by
  unfold lowV at h
  unfold renV
  by_cases hp:plainV v=true
  ·simp[hp]
  ·have hp':plainV v=false:=by simpa using hp
   simp only[hp',Bool.false_or,Bool.false_eq_true,if_false] at h ⊢
   have key:∀ (d:Nat) (cs:Array Value),cs.toList.all (lowV 0 d)=true→(∀ v,lowV 0 d v=true→renV r d v=v)→cs.map (renV r d)=cs:=by
    intro d cs hl ih
    apply Array.ext
    ·simp
    ·intro i h1 h2
     simp only[Array.getElem_map]
     apply ih
     rw[List.all_eq_true] at hl
     exact hl _ (by simp)
   match v with
   | .pointer (some ⟨b,o,none⟩)=>cases d <;> simp at h
   | .slice (some ⟨b,o,none⟩) k s=>cases d <;> simp at h
   | .map (some b)=>cases d <;> simp at h
   | .agg cs =>
    cases d with
    | zero=>simp at h
    | succ d=>simp only[key d _ h (ren_no d)]
   | .tuple cs =>
    cases d with
    | zero=>simp at h
    | succ d=>simp only[key d _ h (ren_no d)]
   | .bool _ | .int _ _ | .float _ _ | .complex _ _ _ | .string _ | .nilFunc | .nilIface=>simp[plainV] at hp
   | .pointer none | .map none | .chan none=>simp[plainV] at hp
   | .pointer (some ⟨b,o,some _⟩)=>cases d <;> simp at h
   | .slice (some ⟨b,o,some _⟩) k s=>cases d <;> simp at h
   | .slice none k s=>cases d <;> simp at h
   | .chan (some _)=>cases d <;> simp at h
   | .func fn a b =>
    cases d with
    | zero=>simp at h
    | succ d =>
     have h2:(a++b).toList.all (lowV 0 d)=true:=h
     rw[Array.toList_append,List.all_append,Bool.and_eq_true] at h2
     show Value.func fn (a.map _) (b.map _)=_
     rw[key d _ h2.1 (ren_no d),key d _ h2.2 (ren_no d)]
   | .iface _ _=>cases d <;> simp at h
theorem mapM_no {d:Nat}:∀ {l:List Value},l.all (lowV 0 d)=true→(l.mapM (addrs d)).map List.flatten=some []
 | [],_=>rfl
 | v::r,h=>by
  rw[List.all_cons,Bool.and_eq_true] at h
  have:=mapM_no h.2
  rw[List.mapM_cons,addrs_no h.1]
  rcases e:r.mapM (addrs d) with _ | m
  ·rw[e] at this; cases this
  ·rw[e] at this
   have hm:m.flatten=[]:=by simpa using this
   show some (([]:List Nat)::m).flatten=some []
   simp[hm]
theorem Blk_addrs_no {cs:List Value} {rw:Bool} (h:cs.all (lowV 0 4)=true):Blk.addrs ⟨cs,rw⟩=some []:=by
 unfold Blk.addrs
 split
 ·rfl
 ·exact mapM_no h
theorem Blk_ren_no {r:Nat→Nat} {cs:List Value} {rw:Bool} (h:cs.all (lowV 0 4)=true):Blk.ren r ⟨cs,rw⟩=⟨cs,rw⟩:=by
 unfold Blk.ren
 split
 ·rfl
 ·have:cs.map (renV r valDepth)=cs:=by
   refine (List.map_congr_left fun x hx=>?_).trans (List.map_id cs)
   exact ren_no 4 x (List.all_eq_true.1 h x hx)
  simp only[this]
attribute [simp] Blk_addrs_no Blk_ren_no
@[simp] theorem addrs_map (d b:Nat):addrs d (.map (some b))=some [b]:=by unfold addrs; cases d <;> simp[plainV]
@[simp] theorem renV_map (r:Nat→Nat) (d b:Nat):renV r d (.map (some b))=.map (some (r b)):=by unfold renV; cases d <;> simp[plainV]
@[simp] theorem addrs_mapnil (d:Nat):addrs d (.map none)=some []:=addrs_plainV rfl
@[simp] theorem renV_mapnil (r:Nat→Nat) (d:Nat):renV r d (.map none)=.map none:=renV_plainV rfl
@[simp] theorem plainV_map (b:Nat):plainV (.map (some b))=false:=rfl
@[simp] theorem plainV_mapnil:plainV (.map none)=true:=rfl
@[simp] theorem lowV_map (n d b:Nat):lowV n d (.map (some b))=decide (b<n):=by unfold lowV; cases d <;> simp[plainV]
@[simp] theorem lowV_mapnil (n d:Nat):lowV n d (.map none)=true:=lowV_plain rfl
@[simp] theorem fewV_map (d b:Nat):fewV d (.map (some b))=1:=by unfold fewV; cases d <;> simp[plainV]
@[simp] theorem fewV_mapnil (d:Nat):fewV d (.map none)=0:=fewV_plain rfl
@[simp] theorem fewOk_map (b:Nat):fewOk (.map (some b))=true:=by simp[fewOk]
@[simp] theorem fewOk_mapnil:fewOk (.map none)=true:=by simp[fewOk]
theorem lowV_tup (n d:Nat) (cs:Array Value):lowV n (d+1) (.tuple cs)=cs.toList.all (lowV n d):=by rw[lowV]; simp[plainV]
section
variable {κ ν:Type} [DecidableEq κ] {ek:κ→Value} {ev:ν→Value}
def encMap (ek:κ→Value) (ev:ν→Value) (l:List (κ × ν)):List Value:=l.map fun p=>.tuple #[ek p.1,ev p.2]
def mLook:List (κ × ν)→κ→Option ν
 | [],_=>none
 | p::r,k=>if k=p.1 then some p.2 else mLook r k
theorem encMap_snoc (l:List (κ × ν)) (k:κ) (v:ν):encMap ek ev l++[.tuple #[ek k,ev v]]=encMap ek ev (l++[(k,v)]):=by simp[encMap]
theorem encMap_no (hk:∀ k,lowV 0 3 (ek k)=true) (hv:∀ v,lowV 0 3 (ev v)=true):∀ (l:List (κ × ν)),(encMap ek ev l).all (lowV 0 4)=true
 | []=>rfl
 | p::r=>by
  show (lowV 0 4 (.tuple #[ek p.1,ev p.2]) && (encMap ek ev r).all (lowV 0 4))=true
  rw[encMap_no hk hv r,lowV_tup]
  simp[hk,hv]
theorem mapFind_enc (hs:∀ a b,E.sameKey (ek a) (ek b)=some (decide (a=b))) (k:κ):∀ (l:List (κ × ν)) (j:Nat),(mLook l k=none→E.mapFind (ek k) (encMap ek ev l) j=some none)∧(∀ v,mLook l k=some v→∃ i,E.mapFind (ek k) (encMap ek ev l) j=some (some (i,ev v)))
 | [],j=>⟨fun _=>rfl,fun v h=>by cases h⟩
 | p::r,j=>by
  have ih:=mapFind_enc hs k r (j+1)
  have st:E.mapFind (ek k) (encMap ek ev (p::r)) j=match E.sameKey (ek k) (ek p.1) with
   | some true=>some (some (j,ev p.2))
   | some false=>E.mapFind (ek k) (encMap ek ev r) (j+1)
   | none=>none:=rfl
  rw[st,hs]
  by_cases q:k=p.1
  ·simp only[mLook,if_pos q,q,decide_true]
   refine⟨fun h=>(by cases h),fun v h=>⟨j,?_⟩⟩
   cases h; rfl
  ·have qf:decide (k=p.1)=false:=by simp[q]
   simp only[mLook,if_neg q,qf]
   exact ih
theorem mapVal_enc (hs:∀ a b,E.sameKey (ek a) (ek b)=some (decide (a=b))) (l:List (κ × ν)) (k:κ):E.mapVal (ek k) (encMap ek ev l)=some ((mLook l k).map ev):=by
 obtain⟨h1,h2⟩:=mapFind_enc (ev:=ev) hs k l 0
 unfold E.mapVal
 rcases e:mLook l k with _ | v
 ·rw[h1 e]; rfl
 ·obtain⟨i,hi⟩:=h2 v e
  rw[hi]; rfl
theorem mapPut_new (hs:∀ a b,E.sameKey (ek a) (ek b)=some (decide (a=b))) {l:List (κ × ν)} {k:κ} (h:mLook l k=none) (x:Value):E.mapPut (ek k) x (encMap ek ev l)=some (encMap ek ev l++[.tuple #[ek k,x]]):=by
 unfold E.mapPut
 rw[(mapFind_enc hs k l 0).1 h]
end
theorem sameKey_str (a b:ByteArray):E.sameKey (.string a) (.string b)=some (decide (a=b)):=by
 simp only[E.sameKey]
 congr 1
 rw[Bool.eq_iff_iff,Go.MapKept.bytes_beq]; simp
end Go.Abs
