--
import Derived.Test.YtllhkifkiabkbaaGreatDoorAbsNatM
import Derived.Lib.Bytealg
import Derived.Lib.Join
set_option linter.unusedSimpArgs false
set_option linter.unusedVariables false
namespace Go.Abs
def cutB (c:UInt8):List UInt8→List (List UInt8)
 | []=>[[]]
 | x::r=>if x=c then []::cutB c r else match cutB c r with | []=>[] | w::ws=>(x::w)::ws
theorem cutB_ne (c:UInt8):∀ s,cutB c s≠[]
 | []=>by simp[cutB]
 | x::r=>by
  unfold cutB
  split
  ·simp
  ·split
   ·rename_i h; exact absurd h (cutB_ne c r)
   ·simp
theorem cutB_at {c:UInt8} {b:List UInt8}:∀ {a:List UInt8},c ∉ a→cutB c (a++c::b)=a::cutB c b
 | [],_=>by rw[List.nil_append,cutB,if_pos rfl]
 | x::r,h=>by
  rw[List.mem_cons,not_or] at h
  rw[List.cons_append,cutB,if_neg (fun e=>h.1 e.symm),cutB_at h.2]
theorem cutB_no {c:UInt8}:∀ {a:List UInt8},c ∉ a→cutB c a=[a]
 | [],_=>rfl
 | x::r,h=>by
  rw[List.mem_cons,not_or] at h
  rw[cutB,if_neg (fun e=>h.1 e.symm),cutB_no h.2]
theorem mem_split {c:UInt8}:∀ {s:List UInt8},c∈s→∃ a b,s=a++c::b∧c ∉ a
 | [],h=>by cases h
 | x::r,h=>by
  by_cases e:x=c
  ·exact⟨[],r,by rw[e,List.nil_append],by simp⟩
  ·obtain⟨a,b,e1,e2⟩:=mem_split ((List.mem_cons.1 h).resolve_left fun q=>e q.symm)
   exact⟨x::a,b,by rw[e1,List.cons_append],by rw[List.mem_cons,not_or]; exact⟨fun q=>e q.symm,e2⟩⟩
theorem idx_at {c:UInt8} {b:List UInt8}:∀ {a:List UInt8},c ∉ a→Lib.indexByte (a++c::b) c=(a.length:Int)
 | [],_=>by simp[Lib.indexByte]
 | x::r,h=>by
  rw[List.mem_cons,not_or] at h
  rw[List.cons_append,Lib.indexByte,idx_at h.2,if_neg (by simp; exact fun e=>h.1 e.symm),if_neg (by simp; try omega)]
  simp
theorem idx_no {c:UInt8}:∀ {a:List UInt8},c ∉ a→Lib.indexByte a c=-1
 | [],_=>rfl
 | x::r,h=>by
  rw[List.mem_cons,not_or] at h
  rw[Lib.indexByte,idx_no h.2,if_neg (by simp; exact fun e=>h.1 e.symm)]
  rfl
def cw (c:UInt8) (s:List UInt8):Nat→List (List UInt8) × Nat
 | 0=>([],0)
 | i+1=>if i=s.length∨s[i]?=some c then ((cw c s i).1++[(s.take i).drop (cw c s i).2],i+1) else cw c s i
theorem cw_fits (c:UInt8) (s:List UInt8):∀ i,i≤s.length→(cw c s i).2≤i∧c ∉ (s.take i).drop (cw c s i).2∧cutB c s=(cw c s i).1++cutB c (s.drop (cw c s i).2)
 | 0,_=>⟨Nat.le_refl _,by simp[cw],by simp[cw]⟩
 | i+1,h=>by
  obtain⟨h1,h2,h3⟩:=cw_fits c s i (by omega)
  have hi:i<s.length:=by omega
  have e:s.take (i+1)=s.take i++[s[i]]:=List.take_succ_eq_append_getElem hi
  have l:(s.take i).length=i:=by rw[List.length_take]; omega
  unfold cw
  split
  ·rename_i q
   have q:s[i]=c:=by
    rcases q with q | q
    ·omega
    ·rw[List.getElem?_eq_getElem hi] at q; exact Option.some.inj q
   refine⟨Nat.le_refl _,?_,?_⟩
   ·rw[List.drop_of_length_le (by rw[List.length_take]; omega)]; simp
   ·rw[h3,List.append_assoc]
    congr 1
    have d:s.drop (cw c s i).2=(s.take i).drop (cw c s i).2++c::s.drop (i+1):=by
     have e2:s=s.take i++c::s.drop (i+1):=by rw[← q,← List.drop_eq_getElem_cons hi,List.take_append_drop]
     generalize (cw c s i).2=k at *
     conv=>lhs; rw[e2]
     rw[List.drop_append_of_le_length (by omega)]
    rw[d,cutB_at h2]; rfl
  ·rename_i q
   rw[not_or] at q
   refine⟨by omega,?_,h3⟩
   rw[e,List.drop_append_of_le_length (by omega),List.mem_append,not_or]
   refine⟨h2,fun z=>q.2 ?_⟩
   rw[List.getElem?_eq_getElem hi,List.mem_singleton.1 z]
theorem cw_end (c:UInt8) (s:List UInt8):(cw c s (s.length+1)).1=cutB c s:=by
 obtain⟨h1,h2,h3⟩:=cw_fits c s s.length (Nat.le_refl _)
 rw[cw,if_pos (Or.inl rfl),h3]
 show _++_=_
 congr 1
 rw[List.take_length] at h2 ⊢
 rw[cutB_no h2]
theorem cw_le (c:UInt8) (s:List UInt8) (i:Nat) (h:i≤s.length):(cw c s i).2≤i:=(cw_fits c s i h).1
def IsNum (d:Nat) (s:List UInt8) (n:Int):Prop:=s=dec n∧n.natAbs<10 ^ d
theorem digs_not {n:Nat} {c:UInt8} (h:isDg c=false):c ∉ digs n:=fun q=>by
 have:=List.all_eq_true.1 (digs_all n) c q
 rw[h] at this; cases this
theorem dec_not {n:Int} {c:UInt8} (h:isDg c=false) (h2:c≠45):c ∉ dec n:=by
 by_cases a:n<0
 ·rw[dec_neg a,List.mem_cons,not_or]; exact⟨h2,digs_not h⟩
 ·rw[dec_nn a]; exact digs_not h
def whl (d:Nat) (s:List UInt8):Int × Bool:=match Lib.atoiAll s with
 | .ok n=>(n,decide (dec n=s) && decide ((unsg s).length≤d))
 | .range=>(Lib.atoiSat s,false)
 | _=>(0,false)
theorem whl_is {d:Nat} {s:List UInt8} {n:Int} (hd:0<d) (hd2:d≤17):whl d s=(n,true)↔IsNum d s n:=by
 constructor
 ·intro h
  unfold whl at h
  split at h
  ·rename_i m e
   simp only[Prod.mk.injEq,Bool.and_eq_true,decide_eq_true_eq] at h
   obtain⟨rfl,h1,h2⟩:=h
   refine⟨h1.symm,?_⟩
   rw[← h1,unsg_dec] at h2
   exact (digs_len d hd).1 h2
  ·cases h
  ·cases h
 ·rintro ⟨rfl,h⟩
  have h17:n.natAbs<10 ^ 17:=Nat.lt_of_lt_of_le h (Nat.pow_le_pow_right (by decide) hd2)
  unfold whl
  rw[atoi_dec h17]
  simp only[unsg_dec,(digs_len d hd).2 h,decide_true,Bool.and_self]
def nub (s:List UInt8):Int:=if s.head?=some 45 then -(valD (unsg s):Int) else valD (unsg s)
def rdn (d:Nat) (s:List UInt8):Int × Bool :=
 if (unsg s).length=0∨d<(unsg s).length then (0,false) else if (unsg s).all isDg then (nub s,decide (dec (nub s)=s)) else (0,false)
theorem nub_dec (n:Int):nub (dec n)=n:=by
 unfold nub
 rw[unsg_dec,valD_digs]
 by_cases a:n<0
 ·rw[dec_neg a,List.head?_cons,if_pos rfl]; omega
 ·rw[dec_nn a,if_neg]
  ·omega
  ·intro h
   rcases e:digs n.natAbs with _ | ⟨c,r⟩
   ·rw[e] at h; cases h
   ·rw[e] at h; cases h; exact absurd e digs_no_minus
theorem nub_abs (s:List UInt8):(nub s).natAbs=valD (unsg s):=by unfold nub; split <;> omega
theorem rdn_is {d:Nat} {s:List UInt8} {n:Int} (hd:0<d):rdn d s=(n,true)↔IsNum d s n:=by
 constructor
 ·intro h
  unfold rdn at h
  split at h
  ·cases h
  ·rename_i hl
   split at h
   ·rename_i ha
    simp only[Prod.mk.injEq,decide_eq_true_eq] at h
    obtain⟨rfl,h1⟩:=h
    refine⟨h1.symm,?_⟩
    rw[nub_abs]
    exact Nat.lt_of_lt_of_le (valD_lt _ ha) (Nat.pow_le_pow_right (by decide) (by omega))
   ·cases h
 ·rintro ⟨rfl,h⟩
  have p:=digs_pos n.natAbs
  have q:=(digs_len d hd).2 h
  unfold rdn
  rw[unsg_dec,if_neg (by omega),if_pos (digs_all _),nub_dec,decide_eq_true rfl]
theorem whl_rdn {d:Nat} {s:List UInt8} (hd:0<d) (hd2:d≤17):(∃ n,IsNum d s n∧whl d s=(n,true)∧rdn d s=(n,true))∨((∀ n,¬ IsNum d s n)∧(whl d s).2=false∧(rdn d s).2=false):=by
 by_cases h:∃ n,IsNum d s n
 ·obtain⟨n,h⟩:=h
  exact .inl ⟨n,h,(whl_is hd hd2).2 h,(rdn_is hd).2 h⟩
 ·refine .inr ⟨fun n q=>h ⟨n,q⟩,?_,?_⟩
  ·rcases e:whl d s with ⟨n,_ | _⟩
   ·rfl
   ·exact absurd ⟨n,(whl_is hd hd2).1 e⟩ h
  ·rcases e:rdn d s with ⟨n,_ | _⟩
   ·rfl
   ·exact absurd ⟨n,(rdn_is hd).1 e⟩ h
end Go.Abs
namespace Go.Abs
theorem cutB_cons (c x:UInt8) (r:List UInt8):cutB c (x::r)=if x=c then []::cutB c r else match cutB c r with | []=>[] | w::ws=>(x::w)::ws:=rfl
def nmW (R:List UInt8→Int × Bool) (cnt:Nat) (ws:List (List UInt8)):List Int × Bool :=
 if ws.all (fun w=>(R w).2) then (ws.map (fun w=>(R w).1),decide (ws.length=cnt)) else ([],false)
def linesL (l:List (List UInt8)):List UInt8:=l.flatMap fun w=>w++[10]
theorem cut_lines:∀ l:List (List UInt8),(∀ w∈l,(10:UInt8) ∉ w)→cutB 10 (linesL l)=l++[[]]
 | [],_=>rfl
 | w::r,h=>by
  have ih:=cut_lines r fun x hx=>h x (List.mem_cons_of_mem _ hx)
  have e:linesL (w::r)=w++10::linesL r:=by simp[linesL]
  rw[e,cutB_at (h w (List.mem_cons_self ..)),ih]; rfl
end Go.Abs
namespace Go.Abs
end Go.Abs
