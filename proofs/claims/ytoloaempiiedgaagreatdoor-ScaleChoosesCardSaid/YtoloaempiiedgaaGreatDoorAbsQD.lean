--
import Derived.Test.YtoloaempiiedgaaGreatDoorAbsQA
set_option linter.unusedSimpArgs false
set_option linter.unusedVariables false
namespace Go.Abs
namespace Q
set_option maxRecDepth 100000
set_option maxHeartbeats 0
theorem qdiv_nn {a b:Int} (h:0≤a):qdiv a b=a / b:=by unfold qdiv; exact Int.tdiv_eq_ediv_of_nonneg h
theorem div_bd {a b:Int} (h:0≤a) (hb:0<b):0≤a / b∧a / b≤a:=⟨Int.ediv_nonneg h (Int.le_of_lt hb),Int.ediv_le_self _ h⟩
theorem up_neg {n m:Int} (hm:0<m):-((-n) / m)=up n m:=by
 unfold up
 have e:=Int.mul_ediv_add_emod (n+m-1) m
 have r0:=Int.emod_nonneg (n+m-1) (Int.ne_of_gt hm)
 have r1:=Int.emod_lt_of_pos (n+m-1) hm
 generalize (n+m-1) / m=q at *
 generalize (n+m-1) % m=s at *
 have:=(Int.ediv_emod_unique (a:=-n) (r:=m-1-s) (q:=-q) hm).2 ⟨by rw[Int.mul_neg]; omega,by omega,by omega⟩
 omega
theorem up_bd {a b:Int} (h:0≤a) (hb:0<b):0≤up a b∧up a b≤a:=by
 refine⟨by unfold up; exact Int.ediv_nonneg (by omega) (by omega),?_⟩
 rw[← up_neg hb]
 have e:=Int.mul_ediv_add_emod (-a) b
 have r1:=Int.emod_lt_of_pos (-a) hb
 have r0:=Int.emod_nonneg (-a) (Int.ne_of_gt hb)
 generalize (-a) / b=q at *
 generalize (-a) % b=s at *
 rcases Int.lt_or_le (-q) a with z | z
 ·omega
 ·rcases Int.lt_or_le a (-q) with z2 | z2
  ·exfalso
   have:=Int.mul_le_mul_of_nonneg_right (show (1:Int)≤b by omega) (show 0≤-q by omega)
   rw[Int.one_mul,Int.mul_neg] at this
   have h3:b * q≤-a-s:=by omega
   have:b * (q+a+1)≤0:=by
    have:b * (q+a+1)≤b * 0:=Int.mul_le_mul_of_nonneg_left (by omega) (by omega)
    simpa using this
   rw[Int.mul_add,Int.mul_add,Int.mul_one] at this
   have ba:a≤b * a:=by
    have:=Int.mul_le_mul_of_nonneg_right (show (1:Int)≤b by omega) h
    rwa [Int.one_mul] at this
   omega
  ·omega
theorem qmod_nn {a b:Int} (h:0≤a) (hb:0<b):0≤qmod a b:=by unfold qmod; rw[Int.tmod_eq_emod_of_nonneg h]; exact Int.emod_nonneg _ (by omega)
theorem floorV_nn {n m:Int} (h0:0≤n) (h1:n<9223372036854775808) (hm:0<m):floorV n m=n / m:=by
 have b:=div_bd h0 hm
 unfold floorV
 rw[if_neg (by have:=qmod_nn h0 hm; omega),qdiv_nn h0,wrap_eq (by omega) (by omega)]
theorem ceilV_nn {n m:Int} (h0:0≤n) (h1:n<9223372036854775808) (hm:0<m):ceilV n m=up n m:=by
 have u:=up_bd h0 hm
 have key:floorV (-n) m=(-n) / m:=by
  unfold floorV
  have e:=Int.mul_tdiv_add_tmod (-n) m
  have q:qdiv (-n) m=-(n / m):=by unfold qdiv; rw[Int.neg_tdiv,Int.tdiv_eq_ediv_of_nonneg h0]
  have r:qmod (-n) m=-(n % m):=by unfold qmod; rw[Int.neg_tmod,Int.tmod_eq_emod_of_nonneg h0]
  have b:=div_bd h0 hm
  have r0:=Int.emod_nonneg n (Int.ne_of_gt hm)
  have r1:=Int.emod_lt_of_pos n hm
  have d:=Int.mul_ediv_add_emod n m
  rw[q,r]
  split
  ·have w:IntKind.wrap .i64 (-(n / m))=-(n / m):=wrap_eq (by omega) (by omega)
   rw[w]
   have uq:=(Int.ediv_emod_unique (a:=-n) (r:=m-n % m) (q:=-(n / m)-1) hm).2 ⟨by rw[Int.mul_sub,Int.mul_neg,Int.mul_one]; omega,by omega,by omega⟩
   rw[uq.1]
   have un:=up_neg (n:=n) hm
   rw[uq.1] at un
   rw[wrap_eq (by omega) (by omega)]
  ·have z:n % m=0:=by omega
   rw[wrap_eq (by omega) (by omega)]
   exact ((Int.ediv_emod_unique (a:=-n) (r:=0) (q:=-(n / m)) hm).2 ⟨by rw[Int.mul_neg]; omega,by omega,by omega⟩).1.symm
 have w:IntKind.wrap .i64 (-n)=-n:=wrap_eq (by omega) (by omega)
 unfold ceilV
 rw[w,key]
 have un:=up_neg (n:=n) hm
 rw[un,wrap_eq (by omega) (by omega)]
end Q
end Go.Abs
