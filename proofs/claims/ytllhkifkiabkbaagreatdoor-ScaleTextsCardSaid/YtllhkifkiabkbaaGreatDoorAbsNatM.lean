--
import Derived.Test.YtllhkifkiabkbaaGreatDoorAbsBase
import Derived.Lib.AtoiAll
import Derived.Lib.ItoaNum
import Derived.Test.YtllhkifkiabkbaaGreatDoorAbsSoundM
import Derived.ProofKit
import Derived.Below
import Derived.Lib.Bytealg
import Derived.Lib.Join
set_option linter.unusedSimpArgs false
set_option linter.unusedVariables false
namespace Go.Abs
def digs (n:Nat):List UInt8:=if n<10 then [UInt8.ofNat (48+n)] else digs (n / 10)++[UInt8.ofNat (48+n % 10)]
termination_by n
decreasing_by omega
theorem digs_lt {n:Nat} (h:n<10):digs n=[UInt8.ofNat (48+n)]:=by rw[digs,if_pos h]
theorem digs_ge {n:Nat} (h:¬ n<10):digs n=digs (n / 10)++[UInt8.ofNat (48+n % 10)]:=by rw[digs,if_neg h]
def isDg (c:UInt8):Bool:=decide (48≤c.toNat) && decide (c.toNat≤57)
theorem toNat_dg {d:Nat} (h:d<10):(UInt8.ofNat (48+d)).toNat=48+d:=by
 rw[UInt8.toNat_ofNat']; omega
theorem isDg_dg {d:Nat} (h:d<10):isDg (UInt8.ofNat (48+d))=true:=by
 unfold isDg; rw[toNat_dg h]; simp; omega
theorem digs_ind {P:Nat→Prop} (h1:∀ n,n<10→P n) (h2:∀ n,¬ n<10→P (n / 10)→P n) (n:Nat):P n:=by
 induction n using Nat.strongRecOn with
 | ind n ih =>
  by_cases h:n<10
  ·exact h1 n h
  ·exact h2 n h (ih _ (by omega))
theorem digs_all (n:Nat):(digs n).all isDg=true:=by
 induction n using digs_ind with
 | h1 n h=>rw[digs_lt h,List.all_cons,isDg_dg h]; rfl
 | h2 n h ih=>rw[digs_ge h,List.all_append,ih,List.all_cons,isDg_dg (show n % 10<10 by omega)]; rfl
theorem digs_pos (n:Nat):0<(digs n).length:=by
 by_cases h:n<10
 ·rw[digs_lt h]; simp
 ·rw[digs_ge h]; simp
def valD (l:List UInt8):Nat:=l.foldl (fun a c=>10 * a+(c.toNat-48)) 0
theorem valD_nil:valD []=0:=rfl
theorem valD_snoc (l:List UInt8) (c:UInt8):valD (l++[c])=10 * valD l+(c.toNat-48):=by simp[valD]
theorem valD_digs (n:Nat):valD (digs n)=n:=by
 induction n using digs_ind with
 | h1 n h=>rw[digs_lt h,← List.nil_append [UInt8.ofNat _],valD_snoc,valD_nil,toNat_dg h]; omega
 | h2 n h ih=>rw[digs_ge h,valD_snoc,ih,toNat_dg (by omega)]; omega
theorem digs_len {n:Nat}:∀ k,0<k→((digs n).length≤k↔n<10 ^ k):=by
 induction n using digs_ind with
 | h1 n h =>
  intro k hk
  rw[digs_lt h]
  have:10 ^ 1≤10 ^ k:=Nat.pow_le_pow_right (by decide) hk
  simp; omega
 | h2 n h ih =>
  intro k hk
  rw[digs_ge h,List.length_append,List.length_singleton]
  rcases Nat.lt_or_ge 1 k with z | z
  ·obtain⟨j,rfl⟩:∃ j,k=j+1:=⟨k-1,by omega⟩
   have:=ih j (by omega)
   rw[Nat.pow_succ]
   have e:n<10 ^ j * 10↔n / 10<10 ^ j:=by rw[Nat.div_lt_iff_lt_mul (by decide)]
   rw[e]; omega
  ·obtain rfl:k=1:=by omega
   have:=digs_pos (n / 10)
   constructor
   ·intro q; omega
   ·intro q; omega
theorem valD_lt':∀ (l:List UInt8) (a:Nat),l.all isDg=true→l.foldl (fun a c=>10 * a+(c.toNat-48)) a<(a+1) * 10 ^ l.length
 | [],a,_=>by simp
 | c::r,a,h=>by
  rw[List.all_cons,Bool.and_eq_true] at h
  have hc:48≤c.toNat∧c.toNat≤57:=by simpa [isDg] using h.1
  have ih:=valD_lt' r (10 * a+(c.toNat-48)) h.2
  have b:(10 * a+(c.toNat-48)+1) * 10 ^ r.length≤(a+1) * 10 ^ (r.length+1):=by
   rw[Nat.pow_succ,Nat.mul_comm (10 ^ r.length) 10,← Nat.mul_assoc]
   exact Nat.mul_le_mul_right _ (by omega)
  rw[List.foldl_cons,List.length_cons]
  omega
theorem valD_lt (l:List UInt8) (h:l.all isDg=true):valD l<10 ^ l.length:=by
 have:=valD_lt' l 0 h
 simpa [valD] using this
def dec (n:Int):List UInt8:=if n<0 then 45::digs n.natAbs else digs n.natAbs
theorem dec_neg {n:Int} (h:n<0):dec n=45::digs n.natAbs:=by rw[dec,if_pos h]
theorem dec_nn {n:Int} (h:¬ n<0):dec n=digs n.natAbs:=by rw[dec,if_neg h]
theorem digs_no_minus {n:Nat} {r:List UInt8}:digs n≠45::r:=by
 intro h
 have:=digs_all n
 rw[h,List.all_cons,Bool.and_eq_true] at this
 exact absurd this.1 (by decide)
def unsg (s:List UInt8):List UInt8:=match s with | 45::r=>r | s=>s
theorem unsg_dec (n:Int):unsg (dec n)=digs n.natAbs:=by
 by_cases a:n<0
 ·rw[dec_neg a]; rfl
 ·rw[dec_nn a]
  unfold unsg
  split
  ·rename_i h; exact absurd h digs_no_minus
  ·rfl
end Go.Abs
namespace Go.Abs
theorem digs_eq (n:Nat):Lib.decDigits n=digs n:=by
 induction n using digs_ind with
 | h1 n h=>rw[digs_lt h,Lib.decDigits,dif_pos h]
 | h2 n h ih=>rw[digs_ge h,Lib.decDigits,dif_neg h,ih]
theorem itoa_dec (n:Int):Lib.itoa n=dec n:=by
 unfold Lib.itoa dec
 split
 ·rw[digs_eq]
 ·rename_i h
  rw[digs_eq,show n.toNat=n.natAbs by omega]
theorem parse_all:∀ (l:List UInt8) (acc:Nat),l.all isDg=true→(acc+1) * 10 ^ l.length≤1844674407370955161→Lib.parseUint10 acc l=.ok (l.foldl (fun a c=>10 * a+(c.toNat-48)) acc)
 | [],acc,_,_=>rfl
 | c::r,acc,h,hb=>by
  rw[List.all_cons,Bool.and_eq_true] at h
  have hc:48≤c.toNat∧c.toNat≤57:=by simpa [isDg] using h.1
  rw[List.length_cons,Nat.pow_succ] at hb
  have p:0<10 ^ r.length:=Nat.pow_pos (by decide)
  have b2:(acc+1) * 10≤(acc+1) * (10 ^ r.length * 10):=Nat.mul_le_mul_left _ (by omega)
  have b3:(acc * 10+(c.toNat-48)+1) * 10 ^ r.length≤(acc+1) * (10 ^ r.length * 10):=by
   rw[Nat.mul_comm (10 ^ r.length) 10,← Nat.mul_assoc]
   exact Nat.mul_le_mul_right _ (by omega)
  rw[Lib.parseUint10,if_pos hc,if_neg (by omega),if_neg (by omega),parse_all r _ h.2 (by omega)]
  rw[List.foldl_cons,Nat.mul_comm acc 10]
theorem parse_digs {n:Nat} (h:n<10 ^ 17):Lib.parseMag (digs n)=.ok n:=by
 unfold Lib.parseMag
 have p:=digs_pos n
 rw[if_neg (by intro q; rw[q] at p; cases p)]
 have l:=(digs_len (n:=n) 17 (by decide)).2 h
 have q:10 ^ (digs n).length≤10 ^ 17:=Nat.pow_le_pow_right (by decide) l
 rw[parse_all _ 0 (digs_all n) (by omega)]
 exact congrArg _ (valD_digs n)
theorem digs_head {n:Nat} {c:UInt8} {r:List UInt8} (h:digs n=c::r):48≤c.toNat∧c.toNat≤57:=by
 have:=digs_all n
 rw[h,List.all_cons,Bool.and_eq_true] at this
 simpa [isDg] using this.1
theorem atoi_dec {n:Int} (h:n.natAbs<10 ^ 17):Lib.atoiAll (dec n)=.ok n:=by
 by_cases a:n<0
 ·rw[dec_neg a]
  unfold Lib.atoiAll
  simp only[show (45:UInt8).toNat=45 from rfl,true_or,or_true,if_true,parse_digs h]
  rw[if_neg (by simp),if_neg (by simp; omega)]
  simp; omega
 ·rw[dec_nn a]
  rcases e:digs n.natAbs with _ | ⟨c,r⟩
  ·have:=digs_pos n.natAbs; rw[e] at this; cases this
  ·have:=digs_head e
   unfold Lib.atoiAll
   simp only
   rw[if_neg (by omega),← e,parse_digs h]
   simp only
   rw[if_neg (by omega),if_neg (by omega),if_neg (by omega)]
   congr 1; omega
end Go.Abs
namespace Go.Abs
open Go.ChangeShapes Go.WideShapes Go.RowKit
variable {K:LoopKind} {P:Program} {glob:List Nat} {f:FuncId} {lim:Nat} {vs:List Value} {h:Heap}
theorem below_frame {Own:Nat→Prop} {w w':World} (b:Below w.heap.size w w'):Frame Own w w':=⟨b.os,b.tape,b.output,b.size,fun k hk _=>b.block k hk⟩
theorem below_same {w w':World} (b:Below w.heap.size w w'):∀ (i:Nat) (x:Obj),w.heap[i]?=some x→(∀ d,x≠Obj.deferred d)→w'.heap[i]?=some x:=fun i x e _=>by
 rw[b.block i (Array.getElem?_eq_some_iff.1 e).1]; exact e
theorem callOk_plain {v:Value} (hf:callable P f=true) (hp:vs.all plainV=true) (hv:∀ ρ,VRel ρ v v)
  (hc:∀ (w:World) (Own:Nat→Prop) (ρ:Ren),GlobOk glob ρ→LaidOk P glob Own w→Sim K Own ρ h.get w→Calls P f vs.toArray w fun e w'=>e=.returned v∧Below w.heap.size w w'):CallOk P K glob f lim vs h v h:=by
 refine⟨hf,Nat.le_refl _,.refl _ _,fun ρ w Own args hown hg hs hd hr=>?_⟩
 obtain rfl:=LRel.plain_same hp hr
 refine (hc w Own ρ hg.1 hg.2 hs).mono ?_
 rintro e w' ⟨rfl,b⟩
 exact⟨v,ρ,rfl,fun _ _=>rfl,hv ρ,hs.same (below_same b),hd,fun i L q1 q2=>absurd (hd i L q1) (by omega),below_frame b⟩
theorem callOk_err {n:Int} {t:TypeId} (hf:callable P f=true) (hp:vs.all plainV=true)
  (hc:∀ (w:World) (Own:Nat→Prop) (ρ:Ren),GlobOk glob ρ→LaidOk P glob Own w→Sim K Own ρ h.get w →
   Calls P f vs.toArray w fun e w'=>∃ N,e=.returned (.tuple #[.int .i64 n,.iface t (.pointer (some ⟨N,0,none⟩))])∧w.heap.size≤N∧N<w'.heap.size∧Below w.heap.size w w') :
  CallOk P K glob f lim vs h (.tuple #[.int .i64 n,.iface t (.pointer (some ⟨h.length,0,none⟩))]) (h++[none]):=by
 have gt:∀ i b,Heap.get (h++[none]) i=some b→i<h.length∧h.get i=some b:=fun i b e=>by
  rcases Nat.lt_or_ge i h.length with z | z
  ·rw[Heap.get_append_lt z] at e; exact⟨z,e⟩
  ·rw[Heap.get_append_ge z] at e
   unfold Heap.get at e
   rcases q:i-h.length with _ | k
   ·rw[q] at e; cases e
   ·rw[q] at e; simp at e
 refine⟨hf,by simp,Kept.of_same fun i hi=>?_,fun ρ w Own args hown hg hs hd hr=>?_⟩
 ·rcases Nat.lt_or_ge i h.length with z | z
  ·rw[Heap.get_append_lt z]
  ·rw[Heap.get_ge z]
   rcases e:Heap.get (h++[none]) i with _ | b
   ·rfl
   ·have:=(gt i b e).1; omega
 obtain rfl:=LRel.plain_same hp hr
 refine (hc w Own ρ hg.1 hg.2 hs).mono ?_
 rintro e w' ⟨N,rfl,hN,hN2,b⟩
 have hid:ρ h.length=none:=by
  rcases q:ρ h.length with _ | L
  ·rfl
  ·exact absurd (hd _ _ q) (by omega)
 let L:Loc:=⟨N,0,0,false⟩
 have hle:ρ.le (upd ρ h.length L):=le_upd hid
 have hlow:∀ i,i<h.length→upd ρ h.length L i=ρ i:=fun i hi=>by simp[upd,Nat.ne_of_lt hi]
 have hup:upd ρ h.length L h.length=some L:=by simp[upd]
 have hs':=hs.same (below_same b)
 refine⟨.tuple #[.int .i64 n,.iface t (.pointer (some ⟨N,0,none⟩))],upd ρ h.length L,rfl,hlow,?_,⟨?_,?_,?_⟩,?_,?_,below_frame b⟩
 ·exact VRel.tuple_mk (xs:=[.int .i64 n,.iface t (.pointer (some ⟨h.length,0,none⟩))]) (ys:=[.int .i64 n,.iface t (.pointer (some ⟨N,0,none⟩))])
   ⟨.plain rfl,.iface (VRel.ptr (L:=L) (o:=0) hup rfl),trivial⟩
 ·intro i c M e1 e2
  obtain⟨hi,e1⟩:=gt i c e1
  rw[hlow i hi] at e2
  exact (hs'.blk i c M e1 e2).mono hle
 ·intro i c M e1 e2 e3
  obtain⟨hi,e1⟩:=gt i c e1
  rw[hlow i hi] at e2
  exact hs'.own i c M e1 e2 e3
 ·intro i j c c2 M M2 q e1 e2 e3 e4 e5
  obtain⟨hi,e1⟩:=gt i c e1
  obtain⟨hj,e3⟩:=gt j c2 e3
  rw[hlow i hi] at e4
  rw[hlow j hj] at e5
  exact hs'.excl i j c c2 M M2 q e1 e2 e3 e4 e5
 ·intro i M q
  rw[List.length_append,List.length_singleton]
  rcases Nat.lt_or_ge i h.length with z | z
  ·omega
  ·by_cases y:i=h.length
   ·omega
   ·have:upd ρ h.length L i=ρ i:=by simp[upd,y]
    rw[this] at q
    have:=hd i M q; omega
 ·intro i M q z
  by_cases y:i=h.length
  ·subst y
   rw[hup] at q; cases q
   exact⟨hown _ hN,hN2⟩
  ·have:upd ρ h.length L i=ρ i:=by simp[upd,y]
   rw[this] at q
   have:=hd i M q; omega
def natItoa:List Value→Heap→Option (Value × Heap)
 | [.int .i64 n],h=>if -9223372036854775808≤n∧n≤9223372036854775807 then some (.string ⟨(dec n).toArray⟩,h) else none
 | _,_=>none
def natIndex1:List Value→Heap→Option (Value × Heap)
 | [.string s,.string p],h=>match p.data.toList with
  | [c]=>some (.int .i64 (Lib.indexByte s.data.toList c),h)
  | _=>none
 | _,_=>none
def natCount1:List Value→Heap→Option (Value × Heap)
 | [.string s,.string p],h=>match p.data.toList with
  | [c]=>some (.int .i64 (Lib.countByte s.data.toList c),h)
  | _=>none
 | _,_=>none
def natIndexByte:List Value→Heap→Option (Value × Heap)
 | [.string s,.int .u8 c],h=>some (.int .i64 (Lib.indexByte s.data.toList c.toNat.toUInt8),h)
 | _,_=>none
def isErr (h:Heap) (i:Nat):Bool:=match h.get i with
 | some ⟨[.iface _ _],_⟩=>true
 | _=>false
def synE:Lib.NumEnd Int:=Lib.atoiAll []
def natAtoi (t:TypeId) (i j:Nat):List Value→Heap→Option (Value × Heap)
 | [.string s],h=>if s.size≤281474976710656 then match Lib.atoiAll s.data.toList with
  | .ok v=>some (.tuple #[.int .i64 v,.nilIface],h)
  | .range=>if isErr h j then some (.tuple #[.int .i64 (Lib.atoiSat s.data.toList),.iface t (.pointer (some ⟨h.length,0,none⟩))],h++[none]) else none
  | _=>if isErr h i then some (.tuple #[.int .i64 0,.iface t (.pointer (some ⟨h.length,0,none⟩))],h++[none]) else none
  else none
 | _,_=>none
theorem byte1 {p:ByteArray} {c:UInt8} (h:p.data.toList=[c]):p=⟨#[c]⟩:=by
 obtain⟨⟨l⟩⟩:=p
 simp at h; subst h; rfl
theorem natItoa_ok {g : Nat} (hf : callable P f = true) (hg : P.globalNamed "internal/strconv.uint64pow10" = some g) (hgl : (globPos glob g).isSome = true)
  (hc : ∀ (n : Int), -9223372036854775808 ≤ n → n ≤ 9223372036854775807 → ∀ w, Lib.TabIs P w "internal/strconv.uint64pow10" .u64 Lib.pow10Tab → Calls P f #[.int .i64 n] w fun e w' => e = .returned (.string ⟨(Lib.itoa n).toArray⟩) ∧ Below w.heap.size w w')
  (lim:Nat) (vs:List Value) (h:Heap) (v:Value) (h':Heap) (_:lim≤h.length) (hN:natItoa vs h=some (v,h')):CallOk P K glob f lim vs h v h':=by
 unfold natItoa at hN
 split at hN
 ·rename_i n
  split at hN
  ·rename_i hb
   cases hN
   refine callOk_plain hf rfl (fun ρ=>.plain rfl) fun w Own ρ _ hl _=>?_
   rw[← itoa_dec]
   exact hc n hb.1 hb.2 w (hl g hg hgl).2.2
  ·cases hN
 ·cases hN
theorem natIndex1_ok (hf:callable P f=true) (hc:∀ (s:ByteArray) (c:UInt8) w,Calls P f #[.string s,.string ⟨#[c]⟩] w fun e w'=>e=.returned (.int .i64 (Lib.indexByte s.data.toList c))∧w'=w)
  (lim:Nat) (vs:List Value) (h:Heap) (v:Value) (h':Heap) (_:lim≤h.length) (hN:natIndex1 vs h=some (v,h')):CallOk P K glob f lim vs h v h':=by
 unfold natIndex1 at hN
 split at hN
 ·rename_i s p
  split at hN
  ·rename_i c hp
   cases hN
   refine callOk_plain hf rfl (fun ρ=>.plain rfl) fun w Own ρ _ hl _=>?_
   rw[byte1 hp]
   exact (hc s c w).mono fun e w' ⟨a,b⟩=>⟨a,b ▸ Below.refl _ _⟩
  ·cases hN
 ·cases hN
theorem natCount1_ok (hf:callable P f=true) (hc:∀ (s:ByteArray) (c:UInt8) w,Calls P f #[.string s,.string ⟨#[c]⟩] w fun e w'=>e=.returned (.int .i64 (Lib.countByte s.data.toList c))∧w'=w)
  (lim:Nat) (vs:List Value) (h:Heap) (v:Value) (h':Heap) (_:lim≤h.length) (hN:natCount1 vs h=some (v,h')):CallOk P K glob f lim vs h v h':=by
 unfold natCount1 at hN
 split at hN
 ·rename_i s p
  split at hN
  ·rename_i c hp
   cases hN
   refine callOk_plain hf rfl (fun ρ=>.plain rfl) fun w Own ρ _ hl _=>?_
   rw[byte1 hp]
   exact (hc s c w).mono fun e w' ⟨a,b⟩=>⟨a,b ▸ Below.refl _ _⟩
  ·cases hN
 ·cases hN
theorem natIndexByte_ok (hf:callable P f=true) (hc:∀ (s:ByteArray) (c:Int) w,Calls P f #[.string s,.int .u8 c] w fun e w'=>e=.returned (.int .i64 (Lib.indexByte s.data.toList c.toNat.toUInt8))∧w'=w)
  (lim:Nat) (vs:List Value) (h:Heap) (v:Value) (h':Heap) (_:lim≤h.length) (hN:natIndexByte vs h=some (v,h')):CallOk P K glob f lim vs h v h':=by
 unfold natIndexByte at hN
 split at hN
 ·rename_i s c
  cases hN
  refine callOk_plain hf rfl (fun ρ=>.plain rfl) fun w Own ρ _ hl _=>?_
  exact (hc s c w).mono fun e w' ⟨a,b⟩=>⟨a,b ▸ Below.refl _ _⟩
 ·cases hN
theorem isErr_cell {i g:Nat} {Own:Nat→Prop} {ρ:Ren} {w:World} (hgl:globPos glob g=some i) (hg:GlobOk glob ρ) (hs:Sim K Own ρ h.get w) (he:isErr h i=true):∃ te pe,w.cell? ⟨g,0,none⟩=some (.iface te pe):=by
 unfold isErr at he
 split at he
 ·rename_i te pe rw e
  obtain⟨L,e1,rfl,e3,e4⟩:=hg g i hgl
  obtain⟨cur,_,_,c1,c2,c3,c4,c5⟩:=(hs.blk i _ L e e1).1 e4
  obtain⟨v',q1,q2⟩:=c5 0 _ rfl
  obtain⟨u,rfl,_⟩:=q2.iface_inv
  refine⟨te,u,?_⟩
  rw[e3] at q1
  simp only[World.cell?,c1]
  simpa using q1
 ·cases he
theorem natAtoi_ok {t:TypeId} {i j gs gr:Nat} (hf:callable P f=true) (h1:globPos glob gs=some i) (h2:globPos glob gr=some j)
  (c1:∀ (s:ByteArray) (v:Int),s.size≤281474976710656→Lib.atoiAll s.data.toList=.ok v→∀ w,Calls P f #[.string s] w fun e w'=>e=.returned (.tuple #[.int .i64 v,.nilIface])∧Below w.heap.size w w')
  (c2:∀ (s:ByteArray),s.size≤281474976710656→Lib.atoiAll s.data.toList=synE→∀ te pe w,w.cell? ⟨gs,0,none⟩=some (.iface te pe) →
   Calls P f #[.string s] w fun e w'=>∃ N,e=.returned (.tuple #[.int .i64 0,.iface t (.pointer (some ⟨N,0,none⟩))])∧w.heap.size≤N∧N<w'.heap.size∧Below w.heap.size w w')
  (c3:∀ (s:ByteArray),s.size≤281474976710656→Lib.atoiAll s.data.toList=.range→∀ te pe w,w.cell? ⟨gr,0,none⟩=some (.iface te pe) →
   Calls P f #[.string s] w fun e w'=>∃ N,e=.returned (.tuple #[.int .i64 (Lib.atoiSat s.data.toList),.iface t (.pointer (some ⟨N,0,none⟩))])∧w.heap.size≤N∧N<w'.heap.size∧Below w.heap.size w w')
  (lim:Nat) (vs:List Value) (h:Heap) (v:Value) (h':Heap) (_:lim≤h.length) (hN:natAtoi t i j vs h=some (v,h')):CallOk P K glob f lim vs h v h':=by
 unfold natAtoi at hN
 split at hN
 ·rename_i s
  split at hN
  ·rename_i hsz
   rcases e0:Lib.atoiAll s.data.toList with v0 | _ | _
   ·rw[e0] at hN
    cases hN
    refine callOk_plain hf rfl (fun ρ=>VRel.tuple_mk (xs:=[.int .i64 v0,.nilIface]) (ys:=[.int .i64 v0,.nilIface]) ⟨.plain rfl,.plain rfl,trivial⟩) fun w Own ρ _ _ _=>c1 s v0 hsz e0 w
   ·rw[e0] at hN
    simp only at hN
    split at hN
    ·rename_i he
     cases hN
     refine callOk_err hf rfl fun w Own ρ hg _ hs=>?_
     obtain⟨te,pe,q⟩:=isErr_cell h1 hg hs he
     exact c2 s hsz e0 te pe w q
    ·cases hN
   ·rw[e0] at hN
    simp only at hN
    split at hN
    ·rename_i he
     cases hN
     refine callOk_err hf rfl fun w Own ρ hg _ hs=>?_
     obtain⟨te,pe,q⟩:=isErr_cell h2 hg hs he
     exact c3 s hsz e0 te pe w q
    ·cases hN
  ·cases hN
 ·cases hN
end Go.Abs
