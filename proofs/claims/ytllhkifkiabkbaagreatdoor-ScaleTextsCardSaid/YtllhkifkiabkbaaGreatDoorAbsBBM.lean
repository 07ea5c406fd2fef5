--
import Derived.Test.YtllhkifkiabkbaaGreatDoorAbsBBL
set_option linter.unusedSimpArgs false
set_option linter.unusedVariables false
namespace Go.Abs
theorem ofF_fuel:∀ (f g n:Nat),n≤f→n≤g→ofF f n=ofF g n
 | 0,g,n,h,_=>by
  have:n=0:=by omega
  subst this; rw[ofF_zero,ofF_zero]
 | f+1,0,n,_,h=>by
  have:n=0:=by omega
  subst this; rw[ofF_zero,ofF_zero]
 | f+1,g+1,n,h1,h2=>by
  unfold ofF
  split
  ·rfl
  ·rw[ofF_fuel f g (n / 10000) (by omega) (by omega)]
def dgs (n:Nat):List Nat:=ofF n n
theorem dgs_zero:dgs 0=[]:=rfl
theorem dgs_pos {n:Nat} (h:0<n):dgs n=n % 10000::dgs (n / 10000):=by
 unfold dgs; rw[ofF_pos (Nat.le_refl n) h,ofF_fuel (n-1) (n / 10000) _ (by omega) (Nat.le_refl _)]
theorem dgs_uniq:∀ {l:List Nat},digB 10000 l→l=dgs (val 10000 l)++List.replicate (l.length-(dgs (val 10000 l)).length) 0
 | [],_=>by simp[val,dgs_zero]
 | x::r,h=>by
  have hx:=h x (List.mem_cons_self ..)
  have ih:=dgs_uniq (l:=r) (fun y hy=>h y (List.mem_cons_of_mem _ hy))
  simp only[val,List.length_cons]
  generalize val 10000 r=V at *
  by_cases q:x+10000 * V=0
  ·have:V=0:=by omega
   subst this
   have:x=0:=by omega
   subst this
   rw[dgs_zero] at ih ⊢
   simp at ih ⊢
   rw[List.replicate_succ,← ih]
  ·have e1:(x+10000 * V) % 10000=x:=by omega
   have e2:(x+10000 * V) / 10000=V:=by omega
   rw[dgs_pos (by omega),e1,e2]
   simp only[List.cons_append,List.length_cons,Nat.add_sub_add_right]
   rw[← ih]
theorem dgs_val (n:Nat):val 10000 (dgs n)=n:=ofF_val n n (Nat.le_refl n)
theorem dgs_dig (n:Nat):digB 10000 (dgs n):=ofF_dig n n
theorem dgs_topped (n:Nat):topped (dgs n):=ofF_topped n n (Nat.le_refl n)
theorem val_set (B:Nat) (y:Nat):∀ {l:List Nat} {p:Nat} (h:p<l.length),val B (l.set p y)+l[p] * B ^ p=val B l+y * B ^ p
 | x::r,0,h=>by simp[val]; omega
 | x::r,p+1,h=>by
  have h':p<r.length:=by simpa using h
  have ih:=val_set B y (l:=r) (p:=p) h'
  simp only[List.set_cons_succ,val,List.getElem_cons_succ,Nat.pow_succ]
  have:=congrArg (B * ·) ih
  simp only[Nat.mul_add] at this
  have e1:B * (r[p] * B ^ p)=r[p] * (B ^ p * B):=by rw[Nat.mul_comm B,Nat.mul_assoc]
  have e2:B * (y * B ^ p)=y * (B ^ p * B):=by rw[Nat.mul_comm B,Nat.mul_assoc]
  omega
theorem step_val {o:List Nat} {p i j c a x V:Nat} (hp:p<o.length) (e:p=i+j) (h:val 10000 o+c * 10000 ^ p=V) :
  val 10000 (o.set p ((o[p]+c+a * x) % 10000))+(o[p]+c+a * x) / 10000 * 10000 ^ (p+1)=V+a * (10000 ^ j * x) * 10000 ^ i:=by
 have hs:=val_set 10000 ((o[p]+c+a * x) % 10000) hp
 have hd:=Nat.div_add_mod (o[p]+c+a * x) 10000
 have e1:a * (10000 ^ j * x) * 10000 ^ i=a * x * 10000 ^ p:=by
  rw[e,Nat.pow_add,Nat.mul_comm (10000 ^ i),Nat.mul_comm (10000 ^ j) x]
  simp only[Nat.mul_assoc]
 rw[e1,Nat.pow_succ]
 generalize o[p]=y at *
 generalize hq:(y+c+a * x) / 10000=Q at *
 generalize hr:(y+c+a * x) % 10000=R at *
 generalize 10000 ^ p=P at *
 have e2:(10000 * Q+R) * P=(y+c+a * x) * P:=by rw[hd]
 rw[Nat.add_mul,Nat.add_mul,Nat.add_mul] at e2
 have e3:Q * (P * 10000)=10000 * Q * P:=by rw[Nat.mul_comm P,← Nat.mul_assoc,Nat.mul_comm Q]
 omega
theorem set_dig {o:List Nat} {p y:Nat} (h:digB 10000 o) (hy:y<10000):digB 10000 (o.set p y):=by
 intro x hx
 rcases List.mem_or_eq_of_mem_set hx with q | q
 ·exact h x q
 ·omega
theorem carry_lt {y c a x:Nat} (hy:y<10000) (hc:c<10000) (ha:a<10000) (hx:x<10000):(y+c+a * x) / 10000<10000:=by
 have:a * x≤9999 * 9999:=Nat.mul_le_mul (by omega) (by omega)
 omega
theorem val_take (B:Nat) {l:List Nat} {i:Nat} (h:i<l.length):val B (l.take (i+1))=val B (l.take i)+B ^ i * l[i]:=by
 have e:l.take (i+1)=l.take i++[l[i]]:=by simp
 have n:(l.take i).length=i:=by simp; omega
 rw[e,val_snoc,n]
theorem carry_end {o:List Nat} {c i j:Nat} {l r:List Nat} (hi:i<l.length) (dl:digB 10000 l) (dr:digB 10000 r)
  (h:val 10000 o+c * 10000 ^ (i+j)=val 10000 (l.take i) * val 10000 r+l[i] * val 10000 r * 10000 ^ i) (hj:r.length<j):c=0:=by
 have h1:val 10000 (l.take (i+1))<10000 ^ (i+1):=by
  have:=val_lt (B:=10000) (by decide) (l:=l.take (i+1)) (fun x hx=>dl x (List.mem_of_mem_take hx))
  have n:(l.take (i+1)).length=i+1:=by simp; omega
  rwa [n] at this
 have h2:=val_lt (B:=10000) (by decide) dr
 have e:val 10000 (l.take i) * val 10000 r+l[i] * val 10000 r * 10000 ^ i=val 10000 (l.take (i+1)) * val 10000 r:=by
  rw[val_take 10000 hi,Nat.add_mul]
  congr 1
  rw[Nat.mul_comm (10000 ^ i),Nat.mul_assoc,Nat.mul_assoc,Nat.mul_comm (val 10000 r)]
 rw[e] at h
 have h3:val 10000 (l.take (i+1)) * val 10000 r<10000 ^ (i+1) * 10000 ^ r.length:=Nat.mul_lt_mul'' h1 h2
 rw[← Nat.pow_add] at h3
 have h4:10000 ^ (i+1+r.length)≤10000 ^ (i+j):=Nat.pow_le_pow_right (by decide) (by omega)
 rcases Nat.eq_zero_or_pos c with q | q
 ·exact q
 ·have:=Nat.mul_le_mul_right (10000 ^ (i+j)) q
  omega
end Go.Abs
namespace Go.Abs
namespace B
set_option maxRecDepth 100000
set_option maxHeartbeats 0
theorem cW_set (o:List Nat) (P R:Nat):(cW o).set P (.int .i64 (R:Int))=cW (o.set P R):=by simp[cW,List.map_set]
abbrev LowS (h:Heap) (v:Value):Prop:=v=.slice none 0 0∨∃ b o m t,v=.slice (some ⟨b,o,none⟩) m t∧b<h.length
theorem col4 {h:Heap} {v w:Value} {o:List Nat} {k:Nat} {a:Int} (hv:LowS h v) (hw:LowS h w) :
  collect h.length [v,w,.slice (some ⟨h.length,0,none⟩) k 1,i64 a] (h.freeze++[some ⟨cW o,true⟩])=some ([v,w,.slice (some ⟨h.length,0,none⟩) k 1,i64 a],[some ⟨cW o,true⟩]):=by
 rcases hv with rfl | ⟨b,p,m,t,rfl,hb⟩ <;> rcases hw with rfl | ⟨b',p',m',t',rfl,hb'⟩ <;> simp[*]
theorem col6 {h:Heap} {v w:Value} {o:List Nat} {k:Nat} {a b c:Int} (hv:LowS h v) (hw:LowS h w) :
  collect h.length [v,w,.slice (some ⟨h.length,0,none⟩) k 1,i64 a,i64 b,i64 c] (h.freeze++[some ⟨cW o,true⟩])=some ([v,w,.slice (some ⟨h.length,0,none⟩) k 1,i64 a,i64 b,i64 c],[some ⟨cW o,true⟩]):=by
 rcases hv with rfl | ⟨b,p,m,t,rfl,hb⟩ <;> rcases hw with rfl | ⟨b',p',m',t',rfl,hb'⟩ <;> simp[*]
theorem c117 {d lim:Nat} {h:Heap} {v w:Value} {l r:List Nat} (s:SlW h v l) (t:SlW h w r) (dl:digB 10000 l) (dr:digB 10000 r) (hs:l.length+r.length<1000000) :
  E.call (d+1) lim 117 [v,w] h=some (.slice (some ⟨h.length,0,none⟩) (dgs (val 10000 l * val 10000 r)).length 1,
   h++[some ⟨cW (dgs (val 10000 l * val 10000 r)++List.replicate (l.length+r.length+1-(dgs (val 10000 l * val 10000 r)).length) 0),true⟩]):=by
 have p:=s.rules2
 have p':=t.rules2
 have k4:=fun o k a=>@col4 h v w o k a s.low t.low
 have k6:=fun o k a b c=>@col6 h v w o k a b c s.low t.low
 have w0:IntKind.wrap .i64 ((l.length:Int)+r.length)=(l.length:Int)+r.length:=by rw[wrap_eq (by omega) (by omega)]
 have w1:IntKind.wrap .i64 ((l.length:Int)+r.length+1)=(l.length:Int)+r.length+1:=by rw[wrap_eq (by omega) (by omega)]
 have e1:(0:Int)≤(l.length:Int)+r.length+1:=by omega
 have e2:8 * ((l.length:Int)+r.length+1)≤140737488355328:=by omega
 have e3:(l.length:Int)+r.length+1≤maxLen:=by
  have:l.length+r.length+1≤maxLen:=Nat.le_trans (by omega:l.length+r.length+1≤1000001) (by decide)
  omega
 refine call_pure fn117 rfl (by simp[ef117]) ?_
 simp[ef117,p,p',w0,w1,zeros,e1,e2,e3]
 refine wpC_loop (fun q st=>∃ i o,q=l.length-i∧i≤l.length∧o.length=l.length+r.length+1∧digB 10000 o∧val 10000 o=val 10000 (l.take i) * val 10000 r ∧
  st=⟨[(0,v),(1,w),(5,.slice (some ⟨h.length,0,none⟩) o.length 1),(6,i64 i)],h.freeze++[some ⟨cW o,true⟩]⟩) l.length (by show l.length<2 ^ 64; omega) ?_ ?_
 ·have e4:((l.length:Int)+r.length+1).toNat=l.length+r.length+1:=by omega
  have e5:List.replicate (l.length+r.length+1) (Value.int .i64 0)=cW (List.replicate (l.length+r.length+1) 0):=by simp[cW]
  have e6:val 10000 (List.replicate (l.length+r.length+1) 0)=0:=by
   generalize l.length+r.length+1=n
   induction n with
   | zero=>rfl
   | succ n ih=>simp[List.replicate_succ,val,ih]
  have e7:digB 10000 (List.replicate (l.length+r.length+1) 0):=by intro x hx; rw[List.mem_replicate] at hx; omega
  simp[St.tidy,e4,e5,k4]
  exact⟨0,by omega,by omega,List.replicate (l.length+r.length+1) 0,by simp,e7,by simp[e6,val],by simp,rfl⟩
 ·rintro q0 hq _ ⟨i,o,rfl,hi,ho,hd,hval,rfl⟩
  by_cases hlt:i<l.length
  ·have u1:IntKind.wrap .i64 ((i:Int)+1)=((i+1:Nat):Int):=by rw[wrap_eq (by omega) (by omega)]; rfl
   simp[hlt,Nat.not_le.2 hlt,p]
   refine wpC_loop (fun q st=>∃ j c o,q=r.length+1-j∧j≤r.length+1∧c<10000∧o.length=l.length+r.length+1∧digB 10000 o ∧
    val 10000 o+c * 10000 ^ (i+j)=val 10000 (l.take i) * val 10000 r+l[i] * val 10000 (r.take j) * 10000 ^ i ∧
    st=⟨[(0,v),(1,w),(5,.slice (some ⟨h.length,0,none⟩) o.length 1),(6,i64 i),(7,i64 c),(8,i64 j)],h.freeze++[some ⟨cW o,true⟩]⟩) (r.length+1) ?_ ?_ ?_
   ·show r.length+1<2 ^ 64; omega
   ·simp[St.tidy,k6]
    exact⟨0,by omega,by omega,0,by omega,o,ho,hd,by rw[hval]; simp[val],⟨rfl,rfl,rfl⟩,rfl⟩
   ·rintro q1 hq1 _ ⟨j,c,o,rfl,hj,hc,ho,hd,hval,rfl⟩
    have cget:∀ (k:Nat) (hk:k<o.length),(cW o)[k]?=some (.int .i64 (o[k]'hk)):=fun k hk=>cW_get hk
    have u2:IntKind.wrap .i64 ((i:Int)+j)=((i+j:Nat):Int):=by rw[wrap_eq (by omega) (by omega)]; rfl
    have u3:IntKind.wrap .i64 ((j:Int)+1)=((j+1:Nat):Int):=by rw[wrap_eq (by omega) (by omega)]; rfl
    by_cases hjr:j<r.length
    ·obtain⟨P,hP⟩:∃ P,P=i+j:=⟨_,rfl⟩
     have hPi:(i:Int)+(j:Int)=(P:Int):=by omega
     have pl:P<o.length:=by omega
     have pl':P+1≤o.length:=pl
     have u4:IntKind.wrap .i64 (P:Int)=P:=by rw[wrap_eq (by omega) (by omega)]
     obtain⟨y,hy⟩:∃ y,o[P]=y:=⟨_,rfl⟩
     obtain⟨x,hx⟩:∃ x,l[i]=x:=⟨_,rfl⟩
     obtain⟨b,hb⟩:∃ b,r[j]=b:=⟨_,rfl⟩
     have y1:y<10000:=by rw[← hy]; exact hd _ (List.getElem_mem pl)
     have x1:x<10000:=by rw[← hx]; exact dl _ (List.getElem_mem hlt)
     have b1:b<10000:=by rw[← hb]; exact dr _ (List.getElem_mem hjr)
     have q1:=carry_lt y1 hc x1 b1
     have m1:x * b≤9999 * 9999:=Nat.mul_le_mul (by omega) (by omega)
     have hval':=hval
     rw[← hP] at hval'
     have hsv:=step_val (a:=x) (x:=b) pl hP hval'
     rw[hy] at hsv
     obtain⟨A,hA⟩:∃ A,x * b=A:=⟨_,rfl⟩
     have hAi:(x:Int) * (b:Int)=(A:Int):=by rw[← hA]; rfl
     rw[hA] at hsv q1 m1
     obtain⟨Q,hQ⟩:∃ Q,(y+c+A) / 10000=Q:=⟨_,rfl⟩
     obtain⟨R,hR⟩:∃ R,(y+c+A) % 10000=R:=⟨_,rfl⟩
     have R1:R<10000:=by omega
     rw[hQ] at q1
     rw[hQ,hR] at hsv
     have t1:IntKind.wrap .i64 ((y:Int)+c)=y+c:=by rw[wrap_eq (by omega) (by omega)]
     have t2:IntKind.wrap .i64 (A:Int)=A:=by rw[wrap_eq (by omega) (by omega)]
     have t3:IntKind.wrap .i64 ((y:Int)+c+A)=y+c+A:=by rw[wrap_eq (by omega) (by omega)]
     have t4:qmod ((y:Int)+c+A) 10000=(R:Int):=by unfold qmod; rw[Int.tmod_eq_emod_of_nonneg (by omega)]; omega
     have t5:IntKind.wrap .i64 (qdiv ((y:Int)+c+A) 10000)=(Q:Int):=by
      have:qdiv ((y:Int)+c+A) 10000=(Q:Int):=by unfold qdiv; rw[Int.tdiv_eq_ediv_of_nonneg (by omega)]; omega
      rw[this,wrap_eq (by omega) (by omega)]
     have g1:=cget P pl
     have g2:=cW_get hlt
     have g3:=cW_get hjr
     rw[hy] at g1
     rw[hx] at g2
     rw[hb] at g3
     simp[hjr,Nat.not_le.2 hjr,p,p',hlt,hPi,pl,u4,hy,hx,hb,hAi,t1,t2,t3,t4,t5,g1,g2,g3,u3,cW_set,pl']
     simp[St.tidy,k6]
     refine⟨r.length+1-(j+1),by omega,j+1,rfl,by omega,Q,q1,o.set P R,by simpa using ho,set_dig hd R1,?_,by simp,rfl⟩
     rw[val_take 10000 hjr,hb,Nat.mul_add,Nat.add_mul]
     rw[hx] at hsv
     have e9:i+(j+1)=P+1:=by omega
     rw[e9,hsv,Nat.add_assoc]
    ·by_cases c0:0<c
     ·have hj':j=r.length:=by
       rcases Nat.lt_or_ge r.length j with z | z
       ·have tk:r.take j=r:=List.take_of_length_le (by omega)
        rw[tk] at hval
        have:=carry_end hlt dl dr hval z
        omega
       ·omega
      have c0':(0:Int)<c:=by omega
      obtain⟨P,hP⟩:∃ P,P=i+j:=⟨_,rfl⟩
      have hPi:(i:Int)+(j:Int)=(P:Int):=by omega
      have pl:P<o.length:=by omega
      have pl':P+1≤o.length:=pl
      have u4:IntKind.wrap .i64 (P:Int)=P:=by rw[wrap_eq (by omega) (by omega)]
      obtain⟨y,hy⟩:∃ y,o[P]=y:=⟨_,rfl⟩
      have y1:y<10000:=by rw[← hy]; exact hd _ (List.getElem_mem pl)
      have hval':=hval
      rw[← hP] at hval'
      have hsv:=step_val (a:=0) (x:=0) pl hP hval'
      rw[hy,Nat.zero_mul,Nat.add_zero,Nat.zero_mul,Nat.zero_mul,Nat.add_zero] at hsv
      obtain⟨Q,hQ⟩:∃ Q,(y+c) / 10000=Q:=⟨_,rfl⟩
      obtain⟨R,hR⟩:∃ R,(y+c) % 10000=R:=⟨_,rfl⟩
      have R1:R<10000:=by omega
      have q1:Q<10000:=by omega
      rw[hQ,hR] at hsv
      have t3:IntKind.wrap .i64 ((y:Int)+c)=y+c:=by rw[wrap_eq (by omega) (by omega)]
      have t4:qmod ((y:Int)+c) 10000=(R:Int):=by unfold qmod; rw[Int.tmod_eq_emod_of_nonneg (by omega)]; omega
      have t5:IntKind.wrap .i64 (qdiv ((y:Int)+c) 10000)=(Q:Int):=by
       have:qdiv ((y:Int)+c) 10000=(Q:Int):=by unfold qdiv; rw[Int.tdiv_eq_ediv_of_nonneg (by omega)]; omega
       rw[this,wrap_eq (by omega) (by omega)]
      have g1:=cget P pl
      rw[hy] at g1
      have tk1:r.take j=r:=List.take_of_length_le (by omega)
      have tk2:r.take (j+1)=r:=List.take_of_length_le (by omega)
      simp[hjr,Nat.not_lt.1 hjr,c0,c0',p,p',hlt,hPi,pl,u4,hy,t3,t4,t5,g1,u3,cW_set,pl']
      simp[St.tidy,k6]
      refine⟨r.length+1-(j+1),by omega,j+1,rfl,by omega,Q,q1,o.set P R,by simpa using ho,set_dig hd R1,?_,by simp,rfl⟩
      have e9:i+(j+1)=P+1:=by omega
      rw[tk1] at hsv
      rw[e9,tk2,hsv,Nat.add_zero]
     ·have c0':¬ (0:Int)<c:=by omega
      have cz:c=0:=by omega
      have tk1:r.take j=r:=List.take_of_length_le (by omega)
      rw[cz,Nat.zero_mul,Nat.add_zero,tk1] at hval
      simp[hjr,Nat.not_lt.1 hjr,c0,c0',cz,p,p',u1]
      simp[St.tidy,k4]
      refine⟨l.length-(i+1),by omega,i+1,rfl,by omega,o,ho,hd,?_,by simp,rfl⟩
      rw[hval,val_take 10000 hlt,Nat.add_mul]
      congr 1
      rw[Nat.mul_comm (10000 ^ i),Nat.mul_assoc,Nat.mul_assoc,Nat.mul_comm (val 10000 r)]
  ·have e:i=l.length:=by omega
   subst e
   rw[List.take_length] at hval
   have hu:=dgs_uniq hd
   rw[hval,ho] at hu
   generalize hV:val 10000 l * val 10000 r=V at *
   have hle:(dgs V).length≤o.length:=by rw[hu]; simp
   have htop:=dgs_topped V
   have zer:∀ k (hk:k<o.length),(dgs V).length≤k→o[k]=0:=fun k hk hge=>by
    have:o[k]?=some 0:=by
     rw[hu,List.getElem?_append_right hge,List.getElem?_replicate,if_pos (by omega)]
    rw[List.getElem?_eq_getElem hk] at this
    exact Option.some.inj this
   have nz:∀ k (hk:k<o.length),(dgs V).length=k+1→o[k]≠0:=fun k hk he=>by
    have hne:dgs V≠[]:=by intro z; rw[z] at he; simp at he
    have h1:=htop hne
    rw[List.getLast_eq_getElem] at h1
    have h2:o[k]?=(dgs V)[k]?:=by rw[hu,List.getElem?_append_left (by omega)]
    rw[List.getElem?_eq_getElem hk,List.getElem?_eq_getElem (by omega)] at h2
    rw[Option.some.inj h2]
    intro h3
    apply h1
    rw[← h3]
    congr 1
    omega
   simp[p]
   refine wpC_loop (fun q st=>q≤o.length∧(dgs V).length≤q∧st=⟨[(5,.slice (some ⟨h.length,0,none⟩) q 1)],h.freeze++[some ⟨cW o,true⟩]⟩) o.length ?_ ?_ ?_
   ·show o.length<2 ^ 64; omega
   ·simp[St.tidy]; exact hle
   ·rintro q hq _ ⟨hq1,hq2,rfl⟩
    cases q with
    | zero =>
     have:(dgs V).length=0:=by omega
     simp[St.tidy,this]
     rw[this,Nat.sub_zero] at hu
     rw[← hu]
    | succ q =>
     have ql:q<o.length:=hq1
     have ql':q+1≤o.length:=hq1
     have g1:=cW_get ql
     have u5:IntKind.wrap .i64 (q:Int)=q:=by rw[wrap_eq (by omega) (by omega)]
     by_cases z:(dgs V).length=q+1
     ·have:=nz q ql z
      simp[ql,ql',g1,u5,this,St.tidy]
      exact⟨by omega,z.symm,by rw[← hu]⟩
     ·have:=zer q ql (by omega)
      have ba:(q:Int)<q+1:=by omega
      simp[ql,ql',g1,u5,this,St.tidy,E.bound,Ctx.eval,ba]
      exact⟨q,by omega,by omega,by omega,rfl⟩
end B
end Go.Abs
namespace Go.Abs
theorem dgs_len {n k:Nat} (h:n<10000 ^ k):(dgs n).length≤k:=by
 rcases Nat.lt_or_ge k (dgs n).length with z | z
 ·have hne:dgs n≠[]:=by intro e; rw[e] at z; simp at z
  have h1:=val_ge (B:=10000) hne (dgs_topped n)
  rw[dgs_val] at h1
  have h2:10000 ^ k≤10000 ^ ((dgs n).length-1):=Nat.pow_le_pow_right (by decide) (by omega)
  omega
 ·exact z
theorem cW_app (l m:List Nat):cW (l++m)=cW l++cW m:=by simp[cW]
theorem SlW_pad {h:Heap} {b:Nat} {l m:List Nat} {rw:Bool} (hb:b<h.length) (e:h.get b=some ⟨cW (l++m),rw⟩):SlW h (.slice (some ⟨b,0,none⟩) l.length 1) l :=
 ⟨rfl,by simp,fun _=>rfl,.inr ⟨b,0,l.length,1,rfl,hb⟩,fun k hk=>by
  simp only[slB_some,slO_some,Nat.zero_add]; rw[cell_get e,cW_app,List.getElem?_append_left (by simpa using hk)]⟩
end Go.Abs
namespace Go.Abs
namespace B
set_option maxRecDepth 100000
set_option maxHeartbeats 0
abbrev bW (n z:Nat):Option Blk:=some ⟨cW (dgs n++List.replicate z 0),true⟩
abbrev sW (b n:Nat):Value:=.slice (some ⟨b,0,none⟩) (dgs n).length 1
theorem SlW_bW {h:Heap} {b n z:Nat} (hb:b<h.length) (e:h.get b=some ⟨cW (dgs n++List.replicate z 0),true⟩):SlW h (sW b n) (dgs n):=SlW_pad (rw:=true) hb e
theorem c117d {d lim:Nat} {h:Heap} {v w:Value} {A B:Nat} (s:SlW h v (dgs A)) (t:SlW h w (dgs B)) (hs:(dgs A).length+(dgs B).length<1000000) :
  ∃ z,E.call (d+1) lim 117 [v,w] h=some (sW h.length (A * B),h++[bW (A * B) z]):=by
 have:=c117 (d:=d) (lim:=lim) s t (dgs_dig A) (dgs_dig B) hs
 simp only[dgs_val] at this
 exact⟨_,this⟩
theorem pow_len {X L m K:Nat} (hX:X<10000 ^ L) (hm:m≤K):(dgs (X ^ m)).length≤L * K+1:=by
 refine dgs_len ?_
 have h1:X ^ m≤(10000 ^ L) ^ m:=Nat.pow_le_pow_left (by omega) m
 rw[← Nat.pow_mul] at h1
 have h2:10000 ^ (L * m)≤10000 ^ (L * K):=Nat.pow_le_pow_right (by decide) (Nat.mul_le_mul_left _ hm)
 have h3:10000 ^ (L * K)<10000 ^ (L * K+1):=Nat.pow_lt_pow_right (by decide) (by omega)
 omega
theorem dgs_one:dgs 1=[1]:=by rw[dgs_pos (by omega)]; rfl
theorem c118 {d lim:Nat} {h:Heap} {v:Value} {X L K:Nat} (s:SlW h v (dgs X)) (hX:X<10000 ^ L) (hL:1≤L) (hK:L * K<300000) :
  ∃ z,E.call (d+2) lim 118 [v,i64 K] h=some (sW h.length (X ^ K),h++[bW (X ^ K) z]):=by
 have kb:K<300000:=Nat.lt_of_le_of_lt (by have:=Nat.mul_le_mul_right K hL; omega) hK
 have p:=s.rules2
 have lowv:=s.low
 have d1:(dgs 1).length=1:=by rw[dgs_one]; rfl
 have wq:∀ n:Nat,n<300000→IntKind.wrap .i64 (qdiv (n:Int) 2)=((n / 2:Nat):Int):=fun n hn=>by
  have:qdiv (n:Int) 2=((n / 2:Nat):Int):=by unfold qdiv; rw[Int.tdiv_eq_ediv_of_nonneg (by omega)]; omega
  rw[this,wrap_eq (by omega) (by omega)]
 have wm:∀ n:Nat,qmod (n:Int) 2=((n % 2:Nat):Int):=fun n=>by
  unfold qmod; rw[Int.tmod_eq_emod_of_nonneg (by omega)]; omega
 obtain⟨_,_,e,z,rfl,rfl⟩:=call_pure_ex (E:=E) (d:=d+1) (lim:=lim) (h:=h) (args:=[v,i64 K]) (Q:=fun v bs=>∃ z,v=sW h.length (X ^ K)∧bs=[bW (X ^ K) z]) fn118 rfl (by simp[ef118]) (by
  simp[ef118]
  refine wpC_loop (fun n st=>(n=K∧st=⟨[(0,v),(1,i64 n),(5,sW h.length 1)],h.freeze++[bW 1 0]⟩) ∨
   (∃ m r zb zr,n≤K∧r+m * n=K∧st=⟨[(0,sW h.length (X ^ m)),(1,i64 n),(5,sW (h.length+1) (X ^ r))],h.freeze++[bW (X ^ m) zb,bW (X ^ r) zr]⟩)) K (by show K<2 ^ 64; omega) ?_ ?_
  ·rcases lowv with rfl | ⟨b,o,m',t',rfl,hb⟩ <;> simp[St.tidy, *,dgs_one,cW]
  ·rintro n hn _ (⟨rfl,rfl⟩ | ⟨m,r,zb,zr,hnK,hm,rfl⟩)
   ·by_cases h0:n=0
    ·subst h0
     simp[St.tidy]
     exact⟨0,rfl⟩
    ·have hp:(0:Int)<n:=by omega
     have hp':0<n:=by omega
     have s1:SlW (h.freeze++[bW 1 0]) v (dgs X):=(Sl_freeze.2 s).app _
     have t1:SlW (h.freeze++[bW 1 0]) (sW h.length 1) (dgs 1):=SlW_bW (z:=0) (by simp) (by rw[hget_base0 (by simp)]; rfl)
     have l1:=pow_len (m:=1) hX (show 1≤n by omega)
     rw[Nat.pow_one] at l1
     by_cases od:n % 2=1
     ·obtain⟨z1,e1⟩:=c117d (d:=d) (lim:=h.length) t1 s1 (by omega)
      have s2:SlW (h.freeze++[bW 1 0,bW (1 * X) z1]) v (dgs X):=(Sl_freeze.2 s).app _
      obtain⟨z2,e2⟩:=c117d (d:=d) (lim:=h.length) s2 s2 (by omega)
      simp only[Nat.one_mul,List.length_append,Heap.length_freeze,List.length_cons,List.length_nil,List.append_assoc,List.cons_append,List.nil_append] at e1 e2
      simp[hp,hp',wm,wq n (by omega),od,e1,e2,St.tidy]
      exact⟨n / 2,by omega,by omega,2,1,by omega,⟨by rw[Nat.pow_two],by omega,by rw[Nat.pow_one]⟩,⟨z2,by rw[Nat.pow_two]⟩,⟨z1,by rw[Nat.pow_one]⟩⟩
     ·have od':n % 2=0:=by omega
      obtain⟨z2,e2⟩:=c117d (d:=d) (lim:=h.length) s1 s1 (by omega)
      simp only[List.length_append,Heap.length_freeze,List.length_cons,List.length_nil,List.append_assoc,List.cons_append,List.nil_append] at e2
      simp[hp,hp',wm,wq n (by omega),od',e2,St.tidy]
      exact⟨n / 2,by omega,by omega,2,0,by omega,⟨by rw[Nat.pow_two],by omega,by rw[Nat.pow_zero]⟩,⟨z2,by rw[Nat.pow_two]⟩,⟨0,by rw[Nat.pow_zero]; simp⟩⟩
   ·by_cases h0:n=0
    ·subst h0
     have:r=K:=by omega
     subst this
     simp[St.tidy]
     exact⟨zr,rfl⟩
    ·have hp:(0:Int)<n:=by omega
     have hp':0<n:=by omega
     have hmK:m≤K:=by have:=Nat.le_mul_of_pos_right m hp'; omega
     have lm:=pow_len (m:=m) hX hmK
     have lr:=pow_len (m:=r) hX (show r≤K by omega)
     have t1:SlW (h.freeze++[bW (X ^ m) zb,bW (X ^ r) zr]) (sW h.length (X ^ m)) (dgs (X ^ m)):=SlW_bW (z:=zb) (by simp) (by rw[hget_base0 (by simp)]; rfl)
     have t2:SlW (h.freeze++[bW (X ^ m) zb,bW (X ^ r) zr]) (sW (h.length+1) (X ^ r)) (dgs (X ^ r)):=SlW_bW (z:=zr) (by simp) (by rw[hget_base (by simp)]; rfl)
     have em:m * 2 * (n / 2)+m * (n % 2)=m * n:=by
      conv=>rhs; rw[← Nat.div_add_mod n 2]
      rw[Nat.mul_add,Nat.mul_assoc]
     by_cases od:n % 2=1
     ·obtain⟨z1,e1⟩:=c117d (d:=d) (lim:=h.length) t2 t1 (by omega)
      have t3:SlW (h.freeze++[bW (X ^ m) zb,bW (X ^ r) zr,bW (X ^ r * X ^ m) z1]) (sW h.length (X ^ m)) (dgs (X ^ m)):=SlW_bW (z:=zb) (by simp) (by rw[hget_base0 (by simp)]; rfl)
      obtain⟨z2,e2⟩:=c117d (d:=d) (lim:=h.length) t3 t3 (by omega)
      simp only[← Nat.pow_add,← Nat.mul_two,List.length_append,Heap.length_freeze,List.length_cons,List.length_nil,List.append_assoc,List.cons_append,List.nil_append] at e1 e2
      simp[hp,hp',wm,wq n (by omega),od,e1,e2,St.tidy]
      rw[od] at em
      exact⟨n / 2,by omega,by omega,m * 2,r+m,by omega,⟨rfl,by omega,rfl⟩,⟨z2,rfl⟩,⟨z1,rfl⟩⟩
     ·have od':n % 2=0:=by omega
      obtain⟨z2,e2⟩:=c117d (d:=d) (lim:=h.length) t1 t1 (by omega)
      simp only[← Nat.pow_add,← Nat.mul_two,List.length_append,Heap.length_freeze,List.length_cons,List.length_nil,List.append_assoc,List.cons_append,List.nil_append] at e2
      simp[hp,hp',wm,wq n (by omega),od',e2,St.tidy]
      rw[od'] at em
      exact⟨n / 2,by omega,by omega,m * 2,r,by omega,⟨rfl,by omega,rfl⟩,⟨z2,rfl⟩,⟨zr,rfl⟩⟩)
 exact⟨z,e⟩
end B
end Go.Abs
namespace Go.Abs
namespace B
set_option maxRecDepth 100000
set_option maxHeartbeats 0
theorem P3_lt (i:Nat):P3 i<10000:=by
 match i with
 | 0=>decide
 | 1=>decide
 | _+2=>simp[P3]
theorem E3_le {a b c:Int} {M:Int} (ha:a≤M) (hb:b≤M) (hc:c≤M) (i:Nat):E3 a b c i≤M:=by
 match i with
 | 0=>exact ha
 | 1=>exact hb
 | _+2=>exact hc
theorem E3_neg (a b c:Int) (i:Nat):E3 (-a) (-b) (-c) i=-E3 a b c i:=by
 match i with
 | 0=>rfl
 | 1=>rfl
 | _+2=>rfl
theorem numV_lt {K:Nat} {a b c:Int} (ha:a≤K) (hb:b≤K) (hc:c≤K):∀ i,numV a b c i<10000 ^ (K * i+1)
 | 0=>by simp[numV]
 | i+1=>by
  have ih:=numV_lt ha hb hc i
  have e:=E3_le ha hb hc i
  have h1:P3 i ^ (E3 a b c i).toNat≤10000 ^ K:=Nat.le_trans (Nat.pow_le_pow_left (Nat.le_of_lt (P3_lt i)) _) (Nat.pow_le_pow_right (by decide) (by omega))
  have h2:numV a b c i * P3 i ^ (E3 a b c i).toNat≤numV a b c i * 10000 ^ K:=Nat.mul_le_mul_left _ h1
  have h3:numV a b c i * 10000 ^ K<10000 ^ (K * i+1) * 10000 ^ K:=Nat.mul_lt_mul_of_pos_right ih (Nat.pow_pos (by decide))
  rw[← Nat.pow_add] at h3
  have h4:K * i+1+K=K * (i+1)+1:=by rw[Nat.mul_succ]; omega
  rw[h4] at h3
  show numV a b c i * P3 i ^ (E3 a b c i).toNat<_
  omega
theorem numV_len {a b c:Int} (ha:a≤20000) (hb:b≤20000) (hc:c≤20000) {i:Nat} (hi:i≤3):(dgs (numV a b c i)).length≤60001:=by
 obtain⟨K,hK⟩:∃ K:Nat,K=20000:=⟨_,rfl⟩
 have h:=dgs_len (numV_lt (a:=a) (b:=b) (c:=c) (K:=K) (by omega) (by omega) (by omega) i)
 have:K * i≤K * 3:=Nat.mul_le_mul_left _ hi
 omega
theorem c119d {d lim:Nat} {h:Heap} {n:Nat} (h0:0<n) (hn:n<9223372036854775808) :
  E.call (d+1) lim 119 [i64 n] h=some (sW h.length n,h++[bW n 0]):=by
 rw[c119 (d:=d) (lim:=lim) (h:=h) h0 hn]
 simp[sW,bW,dgs]
theorem c116 {d lim:Nat} {h:Heap} {a b c:Int} (ha:R2 a) (hb:R2 b) (hc:R2 c) :
  ∃ y z,E.call (d+3) lim 116 [i64 a,i64 b,i64 c] h=some (.tuple #[sW h.length (numV a b c 3),sW (h.length+1) (numV (-a) (-b) (-c) 3)],
   h++[bW (numV a b c 3) y,bW (numV (-a) (-b) (-c) 3) z]):=by
 obtain⟨a1,a2⟩:=ha; obtain⟨b1,b2⟩:=hb; obtain⟨c1,c2⟩:=hc
 obtain⟨_,_,e,y,z,rfl,rfl⟩:=call_pure_ex (E:=E) (d:=d+2) (lim:=lim) (h:=h) (args:=[i64 a,i64 b,i64 c])
  (Q:=fun v bs=>∃ y z,v=.tuple #[sW h.length (numV a b c 3),sW (h.length+1) (numV (-a) (-b) (-c) 3)]∧bs=[bW (numV a b c 3) y,bW (numV (-a) (-b) (-c) 3) z]) fn116 rfl (by simp[ef116]) (by
  simp[ef116]
  refine wpC_loop (fun q st=>∃ i y z,q=3-i∧i≤3∧st=⟨[(8,sW h.length (numV a b c i)),(9,sW (h.length+1) (numV (-a) (-b) (-c) i)),(18,.agg #[i64 a,i64 b,i64 c]),(19,i64 (i:Nat))],
   h.freeze++[bW (numV a b c i) y,bW (numV (-a) (-b) (-c) i) z]⟩) 3 (by show 3<2 ^ 64; decide) ?_ ?_
  ·simp[St.tidy]
   exact⟨0,rfl,by omega,by simp[numV,dgs_one],⟨0,by simp[numV,dgs_one,cW]⟩,⟨0,by simp[numV,dgs_one,cW]⟩⟩
  ·rintro q0 hq _ ⟨i,y,z,rfl,hi,rfl⟩
   by_cases hlt:i<3
   ·have gi:∀ hh:i<[i64 a,i64 b,i64 c].length,[i64 a,i64 b,i64 c][i]'hh=i64 (E3 a b c i):=fun hh=>by
     match i,hlt with
     | 0,_=>rfl
     | 1,_=>rfl
     | 2,_=>rfl
    have gp:∀ hh:i<[i64 2,i64 3,i64 5].length,[i64 2,i64 3,i64 5][i]'hh=i64 (P3 i:Nat):=fun hh=>by
     match i,hlt with
     | 0,_=>rfl
     | 1,_=>rfl
     | 2,_=>rfl
    have eN:numV a b c (i+1)=numV a b c i * P3 i ^ (E3 a b c i).toNat:=rfl
    have eD:numV (-a) (-b) (-c) (i+1)=numV (-a) (-b) (-c) i * P3 i ^ (-E3 a b c i).toNat:=by rw[← E3_neg]; rfl
    have rE:=E3_le a2 b2 c2 i
    have rE':=E3_le (a:=-a) (b:=-b) (c:=-c) (M:=20000) (by omega) (by omega) (by omega) i
    rw[E3_neg] at rE'
    have lN':=numV_len a2 b2 c2 hi
    have lD':=numV_len (a:=-a) (b:=-b) (c:=-c) (by omega) (by omega) (by omega) hi
    have pP:=P3_lt i
    have pP0:=(P3_pos i).1
    have ilt:(i:Int)<3:=by omega
    have wi:IntKind.wrap .i64 ((i:Int)+1)=((i+1:Nat):Int):=by rw[wrap_eq (by omega) (by omega)]; rfl
    generalize E3 a b c i=e at *
    generalize P3 i=P at *
    generalize numV a b c i=N at *
    generalize numV (-a) (-b) (-c) i=D at *
    have wn:IntKind.wrap .i64 (-e)=-e:=by rw[wrap_eq (by omega) (by omega)]
    have e1:=c119d (d:=d+1) (lim:=h.length) (h:=h.freeze++[bW N y,bW D z]) pP0 (show P<9223372036854775808 by omega)
    have sP:SlW (h.freeze++[bW N y,bW D z,bW P 0]) (sW (h.length+2) P) (dgs P):=SlW_bW (z:=0) (by simp) (by rw[hget_base (by simp)]; rfl)
    have pl:=pow_len (X:=P) (L:=1) (K:=20000) (by omega) (show (if 0<e then e else -e).toNat≤20000 by split <;> omega)
    simp only[List.length_append,Heap.length_freeze,List.length_cons,List.length_nil,List.append_assoc,List.cons_append,List.nil_append] at e1
    by_cases he:0<e
    ·rw[if_pos he] at pl
     have en:((e.toNat:Nat):Int)=e:=by omega
     obtain⟨z1,e2⟩:=c118 (d:=d) (lim:=h.length) (K:=e.toNat) (L:=1) sP (by omega) (by omega) (by omega)
     rw[en] at e2
     have sN:SlW (h.freeze++[bW N y,bW D z,bW P 0,bW (P ^ e.toNat) z1]) (sW h.length N) (dgs N):=SlW_bW (z:=y) (by simp) (by rw[hget_base0 (by simp)]; rfl)
     have sX:SlW (h.freeze++[bW N y,bW D z,bW P 0,bW (P ^ e.toNat) z1]) (sW (h.length+3) (P ^ e.toNat)) (dgs (P ^ e.toNat)):=SlW_bW (z:=z1) (by simp) (by rw[hget_base (by simp)]; rfl)
     obtain⟨z2,e3⟩:=c117d (d:=d+1) (lim:=h.length) sN sX (by omega)
     simp only[List.length_append,Heap.length_freeze,List.length_cons,List.length_nil,List.append_assoc,List.cons_append,List.nil_append] at e2 e3
     have ne:(-e).toNat=0:=by omega
     rw[ne,Nat.pow_zero,Nat.mul_one] at eD
     simp[hlt,ilt,gi,gp,he,wi,e1,e2,e3,St.tidy]
     exact⟨3-(i+1),by omega,i+1,rfl,by omega,by rw[eN,eD]; simp,⟨z2,by rw[eN]⟩,⟨z,by rw[eD]⟩⟩
    ·rw[if_neg he] at pl
     have en:(((-e).toNat:Nat):Int)=-e:=by omega
     obtain⟨z1,e2⟩:=c118 (d:=d) (lim:=h.length) (K:=(-e).toNat) (L:=1) sP (by omega) (by omega) (by omega)
     rw[en] at e2
     have sN:SlW (h.freeze++[bW N y,bW D z,bW P 0,bW (P ^ (-e).toNat) z1]) (sW (h.length+1) D) (dgs D):=SlW_bW (z:=z) (by simp) (by rw[hget_base (by simp)]; rfl)
     have sX:SlW (h.freeze++[bW N y,bW D z,bW P 0,bW (P ^ (-e).toNat) z1]) (sW (h.length+3) (P ^ (-e).toNat)) (dgs (P ^ (-e).toNat)):=SlW_bW (z:=z1) (by simp) (by rw[hget_base (by simp)]; rfl)
     obtain⟨z2,e3⟩:=c117d (d:=d+1) (lim:=h.length) sN sX (by omega)
     simp only[List.length_append,Heap.length_freeze,List.length_cons,List.length_nil,List.append_assoc,List.cons_append,List.nil_append] at e2 e3
     have ne:e.toNat=0:=by omega
     rw[ne,Nat.pow_zero,Nat.mul_one] at eN
     simp[hlt,ilt,gi,gp,he,wi,wn,e1,e2,e3,St.tidy]
     exact⟨3-(i+1),by omega,i+1,rfl,by omega,by rw[eN,eD]; simp,⟨y,by rw[eN]⟩,⟨z2,by rw[eD]⟩⟩
   ·have e:i=3:=by omega
    subst e
    simp[St.tidy]
    exact⟨⟨y,rfl⟩,⟨z,rfl⟩⟩)
 exact⟨y,z,e⟩
end B
end Go.Abs
namespace Go.Abs
namespace B
theorem cmpN_mul {a b k:Nat} (hk:0<k):cmpN (a * k) (b * k)=cmpN a b:=by
 unfold cmpN
 simp only[Nat.mul_lt_mul_right hk]
theorem cmpN_pow {a b g:Nat} (hg:0<g):cmpN (a ^ g) (b ^ g)=cmpN a b:=by
 unfold cmpN
 simp only[Nat.pow_lt_pow_iff_left (Nat.pos_iff_ne_zero.1 hg)]
theorem cmpN_nonpos {a b:Nat}:cmpN a b≤0↔a≤b:=by unfold cmpN; split <;> (try split) <;> omega
theorem cmpN_zero {a b:Nat}:cmpN a b=0↔a=b:=by unfold cmpN; split <;> (try split) <;> omega
theorem numV_eq (a b c:Int):numV a b c 3=2 ^ a.toNat * 3 ^ b.toNat * 5 ^ c.toNat:=by
 simp[numV,P3,E3]
theorem ordE_nat (u v w u' v' w':Nat):ordE ((u:Int)-u') ((v:Int)-v') ((w:Int)-w')=cmpN (2 ^ u * 3 ^ v * 5 ^ w) (2 ^ u' * 3 ^ v' * 5 ^ w'):=by
 have sp:∀ (p x y:Nat),p ^ x=p ^ ((x:Int)-y).toNat * p ^ (min x y)∧p ^ y=p ^ (-((x:Int)-y)).toNat * p ^ (min x y):=fun p x y=>by
  constructor
  ·rw[← Nat.pow_add]; congr 1; omega
  ·rw[← Nat.pow_add]; congr 1; omega
 unfold ordE
 rw[numV_eq,numV_eq]
 rw[(sp 2 u u').1,(sp 2 u u').2,(sp 3 v v').1,(sp 3 v v').2,(sp 5 w w').1,(sp 5 w w').2]
 have e:∀ a b c x y z:Nat,a * x * (b * y) * (c * z)=a * b * c * (x * y * z):=fun a b c x y z=>by
  simp only[Nat.mul_assoc,Nat.mul_left_comm]
 rw[e,e,cmpN_mul]
 exact Nat.mul_pos (Nat.mul_pos (Nat.pow_pos (by decide)) (Nat.pow_pos (by decide))) (Nat.pow_pos (by decide))
theorem ordE_scale {g:Int} (hg:0<g) (a b c:Int):ordE (g * a) (g * b) (g * c)=ordE a b c:=by
 have sp:∀ x:Int,((x.toNat:Nat):Int)-((-x).toNat:Nat)=x:=fun x=>by omega
 obtain⟨k,rfl⟩:∃ k:Nat,g=k:=⟨g.toNat,by omega⟩
 have sg:∀ x:Int,((k * x.toNat:Nat):Int)-((k * (-x).toNat:Nat):Int)=(k:Int) * x:=fun x=>by
  rw[Int.natCast_mul,Int.natCast_mul,← Int.mul_sub,sp]
 rw[← sg a,← sg b,← sg c,ordE_nat]
 have e:∀ x y z:Nat,2 ^ (k * x) * 3 ^ (k * y) * 5 ^ (k * z)=(2 ^ x * 3 ^ y * 5 ^ z) ^ k:=fun x y z=>by
  rw[Nat.mul_pow,Nat.mul_pow,← Nat.pow_mul,← Nat.pow_mul,← Nat.pow_mul,Nat.mul_comm x,Nat.mul_comm y,Nat.mul_comm z]
 rw[e,e,cmpN_pow (by omega),← ordE_nat,sp,sp,sp]
def rG (a b c e:Int):Nat:=Int.gcd (Int.gcd a b) (Int.gcd c e)
theorem rG_dvd (a b c e:Int):(rG a b c e:Int) ∣ a∧(rG a b c e:Int) ∣ b∧(rG a b c e:Int) ∣ c∧(rG a b c e:Int) ∣ e:=by
 have h1:(rG a b c e:Int) ∣ (Int.gcd a b:Int):=Int.gcd_dvd_left ..
 have h2:(rG a b c e:Int) ∣ (Int.gcd c e:Int):=Int.gcd_dvd_right ..
 exact⟨Int.dvd_trans h1 (Int.gcd_dvd_left ..),Int.dvd_trans h1 (Int.gcd_dvd_right ..),Int.dvd_trans h2 (Int.gcd_dvd_left ..),Int.dvd_trans h2 (Int.gcd_dvd_right ..)⟩
theorem rG_pos {a b c e:Int} (h:0<e):0<rG a b c e:=by
 rcases Nat.eq_zero_or_pos (rG a b c e) with z | z
 ·have:=(rG_dvd a b c e).2.2.2; rw[z] at this
  have:=Int.zero_dvd.1 this; omega
 ·exact z
def Rb (x:Int):Prop:=-1000000000000≤x∧x≤1000000000000
theorem gcd_le_b {a b:Int} (ha:Rb a) (hb:Rb b):(Int.gcd a b:Int)≤1000000000000:=by
 obtain⟨a1,a2⟩:=ha; obtain⟨b1,b2⟩:=hb
 by_cases h:a=0
 ·subst h; rw[Int.gcd_zero_left]; omega
 ·have:=Int.gcd_le_natAbs_left b h; omega
theorem redG_eq {a b c e:Int} (ha:Rb a) (hb:Rb b) (hc:Rb c) (he:Rb e):redG a b c e=rG a b c e:=by
 have r:∀ {x},Rb x→R64 x:=fun h=>⟨by have:=h.1; omega,by have:=h.2; omega⟩
 unfold redG rG
 have g1:=gcd_le_b ha hb
 have g2:=gcd_le_b hc he
 rw[gcdL_eq (r ha) (r hb),gcdL_eq (r hc) (r he),wrap_eq (by omega) (by omega),wrap_eq (by omega) (by omega),gcdL_eq (r ⟨by omega,g1⟩) (r ⟨by omega,g2⟩)]
 have g3:=gcd_le_b (a:=(Int.gcd a b:Int)) (b:=(Int.gcd c e:Int)) ⟨by omega,g1⟩ ⟨by omega,g2⟩
 rw[wrap_eq (by omega) (by omega)]
theorem red_eq {a b c e x:Int} (ha:Rb a) (hb:Rb b) (hc:Rb c) (he:Rb e) (h0:0<e) (hx:Rb x) (hd:(rG a b c e:Int) ∣ x):red a b c e x=x / rG a b c e∧red a b c e x * rG a b c e=x∧Rb (red a b c e x):=by
 have p:=rG_pos (a:=a) (b:=b) (c:=c) h0
 have e1:qdiv x (rG a b c e)=x / rG a b c e:=by unfold qdiv; rw[Int.tdiv_eq_ediv_of_dvd hd]
 have e2:x / rG a b c e * rG a b c e=x:=Int.ediv_mul_cancel hd
 have b1:Rb (x / rG a b c e):=by
  generalize x / (rG a b c e:Int)=q at *
  generalize (rG a b c e)=g at *
  obtain⟨h1,h2⟩:=hx
  have hg:(1:Int)≤g:=by omega
  constructor
  ·rcases Int.le_total 0 q with z | z
   ·omega
   ·have:=Int.mul_le_mul_of_nonpos_left (a:=q) z hg
    rw[Int.mul_one] at this; omega
  ·rcases Int.le_total 0 q with z | z
   ·have:=Int.mul_le_mul_of_nonneg_left hg z
    rw[Int.mul_one] at this; omega
   ·omega
 have:red a b c e x=x / rG a b c e:=by
  unfold red
  rw[redG_eq ha hb hc he,e1,wrap_eq (by have:=b1.1; omega) (by have:=b1.2; omega)]
 rw[this]
 exact⟨rfl,e2,b1⟩
theorem red_pos {a b c e:Int} (ha:Rb a) (hb:Rb b) (hc:Rb c) (he:Rb e) (h0:0<e):0<red a b c e e:=by
 obtain⟨_,m,_⟩:=red_eq ha hb hc he h0 he (rG_dvd a b c e).2.2.2
 have p:=rG_pos (a:=a) (b:=b) (c:=c) h0
 rcases Int.lt_or_le 0 (red a b c e e) with z | z
 ·exact z
 ·have:=Int.mul_le_mul_of_nonneg_right z (show (0:Int)≤rG a b c e by omega)
  rw[Int.zero_mul] at this; omega
theorem ordE_red {a b c e:Int} (ha:Rb a) (hb:Rb b) (hc:Rb c) (he:Rb e) (h0:0<e):ordE (red a b c e a) (red a b c e b) (red a b c e c)=ordE a b c:=by
 have d:=rG_dvd a b c e
 obtain⟨_,m1,_⟩:=red_eq ha hb hc he h0 ha d.1
 obtain⟨_,m2,_⟩:=red_eq ha hb hc he h0 hb d.2.1
 obtain⟨_,m3,_⟩:=red_eq ha hb hc he h0 hc d.2.2.1
 have p:=rG_pos (a:=a) (b:=b) (c:=c) h0
 have:=ordE_scale (g:=rG a b c e) (by omega) (red a b c e a) (red a b c e b) (red a b c e c)
 rw[Int.mul_comm _ (red a b c e a),Int.mul_comm _ (red a b c e b),Int.mul_comm _ (red a b c e c),m1,m2,m3] at this
 exact this.symm
theorem red_le {a b c e x M:Int} (ha:Rb a) (hb:Rb b) (hc:Rb c) (he:Rb e) (h0:0<e) (hx:Rb x) (hd:(rG a b c e:Int) ∣ x) (hM:-M≤x∧x≤M):-M≤red a b c e x∧red a b c e x≤M:=by
 obtain⟨_,m,_⟩:=red_eq ha hb hc he h0 hx hd
 have p:=rG_pos (a:=a) (b:=b) (c:=c) h0
 generalize red a b c e x=q at *
 generalize (rG a b c e)=g at *
 have hg:(1:Int)≤g:=by omega
 constructor
 ·rcases Int.le_total 0 q with z | z
  ·omega
  ·have:=Int.mul_le_mul_of_nonpos_left (a:=q) z hg
   rw[Int.mul_one] at this; omega
 ·rcases Int.le_total 0 q with z | z
  ·have:=Int.mul_le_mul_of_nonneg_left hg z
   rw[Int.mul_one] at this; omega
  ·omega
end B
end Go.Abs
namespace Go.Abs
namespace B
set_option maxRecDepth 100000
set_option maxHeartbeats 0
def Sm (x:Int):Prop:=-100000≤x∧x≤100000
def Dn (x:Int):Prop:=1≤x∧x≤12
theorem mul_sm {a j:Int} (ha:Sm a) (hj:Dn j):-1200000≤a * j∧a * j≤1200000:=by
 obtain⟨a1,a2⟩:=ha; obtain⟨j1,j2⟩:=hj
 have h1:=Int.mul_le_mul_of_nonneg_right a1 (show 0≤j by omega)
 have h2:=Int.mul_le_mul_of_nonneg_right a2 (show 0≤j by omega)
 omega
theorem jn_m {a f e j:Int} (ha:Sm a) (hf:Sm f) (he:Dn e) (hj:Dn j):jn a f (-1) e j=a * j-f * e:=by
 have h1:=mul_sm ha hj
 have h2:=mul_sm hf he
 have e1:-1 * f=-f:=by omega
 unfold jn
 rw[e1,wrap_eq (n:=-f) (by have:=hf.2; omega) (by have:=hf.1; omega),Int.neg_mul,wrap_eq (n:=-(f * e)) (by omega) (by omega),wrap_eq (n:=a * j) (by omega) (by omega),wrap_eq (by omega) (by omega)]; omega
theorem mul_dn {e j:Int} (he:Dn e) (hj:Dn j):1≤e * j∧e * j≤144:=by
 obtain⟨e1,e2⟩:=he; obtain⟨j1,j2⟩:=hj
 have h1:=Int.mul_le_mul e1 j1 (by omega) (by omega)
 have h2:=Int.mul_le_mul e2 j2 (by omega) (by omega)
 omega
theorem wrap_dn {e j:Int} (he:Dn e) (hj:Dn j):IntKind.wrap .i64 (e * j)=e * j:=by
 have:=mul_dn he hj
 rw[wrap_eq (by omega) (by omega)]
def ordP (a b c e f g i j:Int):Int:=ordE (a * j-f * e) (b * j-g * e) (c * j-i * e)
structure Two (a b c e f g i j:Int):Prop where
 pa:Sm a
 pb:Sm b
 pc:Sm c
 pe:Dn e
 pf:Sm f
 pg:Sm g
 pi:Sm i
 pj:Dn j
 px:R2 (a * j-f * e)
 py:R2 (b * j-g * e)
 pz:R2 (c * j-i * e)
theorem R2_Rb {x:Int} (h:R2 x):Rb x:=⟨by have:=h.1; omega,by have:=h.2; omega⟩
theorem c160' {d lim:Nat} {h:Heap} {a b c e f g i j:Int} (sp:SlU h (.slice (some ⟨0,0,none⟩) 3 1) [2,3,5]) (T:Two a b c e f g i j) :
  E.call (d+5) lim 160 [pt a b c e,pt f g i j] h=some (i64 (ordP a b c e f g i j),h):=by
 have m:=mul_dn T.pe T.pj
 have w:=wrap_dn T.pe T.pj
 have hb:Rb (e * j):=⟨by omega,by omega⟩
 have j1:=jn_m T.pa T.pf T.pe T.pj
 have j2:=jn_m T.pb T.pg T.pe T.pj
 have j3:=jn_m T.pc T.pi T.pe T.pj
 have dv:=rG_dvd (a * j-f * e) (b * j-g * e) (c * j-i * e) (e * j)
 have l1:=red_le (R2_Rb T.px) (R2_Rb T.py) (R2_Rb T.pz) hb (by omega) (R2_Rb T.px) dv.1 T.px
 have l2:=red_le (R2_Rb T.px) (R2_Rb T.py) (R2_Rb T.pz) hb (by omega) (R2_Rb T.py) dv.2.1 T.py
 have l3:=red_le (R2_Rb T.px) (R2_Rb T.py) (R2_Rb T.pz) hb (by omega) (R2_Rb T.pz) dv.2.2.1 T.pz
 rw[c160 (d:=d) sp (by omega) (by rw[j1,j2,j3,w]) (by rw[j1,j2,j3,w]) (by rw[j1,j2,j3,w]) l1 l2 l3,ordE_red (R2_Rb T.px) (R2_Rb T.py) (R2_Rb T.pz) hb (by omega)]
 rfl
theorem c110 {d lim:Nat} {h:Heap} {a b c e f g i j:Int} (sp:SlU h (.slice (some ⟨0,0,none⟩) 3 1) [2,3,5]) (h1:isPitch a b c e=true) (h2:isPitch f g i j=true) (T:Two a b c e f g i j) :
  E.call (d+6) lim 110 [pt a b c e,pt f g i j] h=some (.tuple #[i64 (ordP a b c e f g i j),i64 0],h):=by
 have hp:pit2 a b c e f g i j=0:=by unfold pit2; rw[check0.2 h1,check0.2 h2]; rfl
 have spA:∀ L,SlU (h.freeze++L) (.slice (some ⟨0,0,none⟩) 3 1) [2,3,5]:=(Sl_freeze.2 sp).app
 have q:=fun lim L=>c160' (d:=d) (lim:=lim) (spA L) T
 refine call1 fn110 rfl (by simp[ef110]) ?_
 simp[ef110,c159,hp,q]
theorem c79 {d lim:Nat} {h:Heap} {a b c e f g i j:Int} (T:Two a b c e f g i j) :
  E.call (d+4) lim 79 [pt a b c e,pt f g i j] h=some (i64 (ordP a b c e f g i j),h):=by
 have m:=mul_dn T.pe T.pj
 have w:=wrap_dn T.pe T.pj
 have hb:Rb (e * j):=⟨by omega,by omega⟩
 have j1:=jn_m T.pa T.pf T.pe T.pj
 have j2:=jn_m T.pb T.pg T.pe T.pj
 have j3:=jn_m T.pc T.pi T.pe T.pj
 have dv:=rG_dvd (a * j-f * e) (b * j-g * e) (c * j-i * e) (e * j)
 have l1:=red_le (R2_Rb T.px) (R2_Rb T.py) (R2_Rb T.pz) hb (by omega) (R2_Rb T.px) dv.1 T.px
 have l2:=red_le (R2_Rb T.px) (R2_Rb T.py) (R2_Rb T.pz) hb (by omega) (R2_Rb T.py) dv.2.1 T.py
 have l3:=red_le (R2_Rb T.px) (R2_Rb T.py) (R2_Rb T.pz) hb (by omega) (R2_Rb T.pz) dv.2.2.1 T.pz
 have ho:=ordE_red (R2_Rb T.px) (R2_Rb T.py) (R2_Rb T.pz) hb (by omega)
 have k52:=fun lim hh=>@c121 d lim hh (a * j-f * e) (b * j-g * e) (c * j-i * e) (e * j) ⟨by have:=T.px.1; omega,by have:=T.px.2; omega⟩ ⟨by have:=T.py.1; omega,by have:=T.py.2; omega⟩ ⟨by have:=T.pz.1; omega,by have:=T.pz.2; omega⟩ ⟨by omega,by omega⟩ (by omega)
 simp only[redV] at k52
 generalize red (a * j-f * e) (b * j-g * e) (c * j-i * e) (e * j) (a * j-f * e)=X at *
 generalize red (a * j-f * e) (b * j-g * e) (c * j-i * e) (e * j) (b * j-g * e)=Y at *
 generalize red (a * j-f * e) (b * j-g * e) (c * j-i * e) (e * j) (c * j-i * e)=Z at *
 generalize red (a * j-f * e) (b * j-g * e) (c * j-i * e) (e * j) (e * j)=W at *
 have k112:=fun lim hh=>@c122 (d+2) lim hh (-1) a b c e f g i j
 simp only[joinV,j1,j2,j3,w] at k112
 have lN:=numV_len l1.2 l2.2 l3.2 (Nat.le_refl 3)
 have lD:=numV_len (a:=-X) (b:=-Y) (c:=-Z) (by omega) (by omega) (by omega) (Nat.le_refl 3)
 obtain⟨y,z,k86⟩:=c116 (d:=d) (lim:=h.length) (h:=h.freeze++[some ⟨[i64 a,i64 b,i64 c,i64 e],true⟩,some ⟨[i64 f,i64 g,i64 i,i64 j],true⟩,some ⟨[i64 X,i64 Y,i64 Z,i64 W],true⟩]) l1 l2 l3
 have hord:cmpL (dgs (numV X Y Z 3)) (dgs (numV (-X) (-Y) (-Z) 3))=ordE X Y Z:=by
  rw[cmpL_val (B:=10000) (by decide) (dgs_dig _) (dgs_dig _) (dgs_topped _) (dgs_topped _),dgs_val,dgs_val]; rfl
 have k90:∀ (lim:Nat) (A B C:Option Blk),E.call (d+3) lim 120 [sW (h.length+3) (numV X Y Z 3),sW (h.length+4) (numV (-X) (-Y) (-Z) 3)] (h.freeze++[A,B,C,bW (numV X Y Z 3) y,bW (numV (-X) (-Y) (-Z) 3) z]) =
   some (i64 (ordE X Y Z),h.freeze++[A,B,C,bW (numV X Y Z 3) y,bW (numV (-X) (-Y) (-Z) 3) z]):=fun lim A B C=>by
  rw[← hord]
  exact c120 (d:=d+2) (SlW_bW (z:=y) (by simp) (by rw[hget_base (by simp)]; rfl)) (SlW_bW (z:=z) (by simp) (by rw[hget_base (by simp)]; rfl)) (by omega) (by omega)
 simp only[List.length_append,Heap.length_freeze,List.length_cons,List.length_nil,List.append_assoc,List.cons_append,List.nil_append] at k86
 simp only[ordP,← ho]
 refine call1 fn79 rfl (by simp[ef79]) ?_
 simp[ef79,k112,k52,k86,k90]
end B
end Go.Abs
