--
import Derived.Test.YtllhkifkiabkbaaGreatDoorAbsBUM
import Derived.Test.YtllhkifkiabkbaaGreatDoorAbsBVC
import Derived.Test.YtllhkifkiabkbaaGreatDoorAbsBVD
import Derived.Test.YtllhkifkiabkbaaGreatDoorAbsBY6
import Derived.Test.YtllhkifkiabkbaaGreatDoorAbsBZ1
set_option linter.unusedSimpArgs false
set_option linter.unusedVariables false
namespace Go.Abs
namespace B
set_option maxRecDepth 100000
set_option maxHeartbeats 0
theorem cW4_part {l:List Wi} {i:Nat} (h:i<l.length):((cS encW l).drop (i * 4)).take 4=[.string (atW l i).name,i64 (atW l i).mass,i64 (atW l i).str,i64 (atW l i).stiff]:=cW_part h
theorem c12 {d lim:Nat} {h:Heap} {v w v' w':Value} {wl:List Wi} {l:List Un} {t:Int} (s1:SlW h v wl) (q1:SlN h w l) (s2:SlW h v' wl) (q2:SlN h w' l) (hw:wl.length≤1000) (hl:l.length≤1000) :
  E.call (d+1) lim 12 [stV t v w,stV t v' w'] h=some (.bool true,h):=by
 have r1:=s1.rules2
 have r2:=s2.rules2
 have p1:=q1.rules2
 have p2:=q2.rules2
 have o1:=s1.own
 have o2:=s2.own
 have o3:=q1.own
 have o4:=q2.own
 refine call1 fn12 rfl (by simp[ef12]) ?_
 simp[ef12,r1,r2,p1,p2]
 refine wpC_loop (fun y st=>∃ i,y=wl.length-i∧i≤wl.length∧st=⟨[(2,.pointer (some ⟨h.length,0,none⟩)),(3,.pointer (some ⟨h.length+1,0,none⟩)),(5,i64 (i:Nat))],
  h.freeze++[some ⟨[i64 t,v,w],true⟩,some ⟨[i64 t,v',w'],true⟩]⟩) wl.length (by show wl.length<2 ^ 64; omega) ?_ ?_
 ·simp[-collect_own1,St.tidy,collect_box,o1,o2,o3,o4,r1,r2,p1,p2]
  exact⟨0,by omega,by omega,rfl⟩
 ·rintro y hy _ ⟨i,rfl,hi,rfl⟩
  by_cases hlt:i<wl.length
  ·have w1':=w1 (i:=i) (by omega)
   simp only[W] at w1'
   have hlti:(i:Int)<wl.length:=by omega
   have pp:=cW4_part hlt
   have k4:i * 4+4≤wl.length * 4:=by omega
   generalize atW wl i=u at *
   simp[-collect_own1,hlt,Nat.not_le.2 hlt,hlti,k4,pp,w1',St.tidy,collect_box,o1,o2,o3,o4,r1,r2,p1,p2]
   exact⟨wl.length-(i+1),by omega,i+1,by omega,by omega,by omega⟩
  ·obtain rfl:i=wl.length:=by omega
   simp[r1,r2,p1,p2]
   refine wpC_loop (fun y st=>∃ i,y=l.length-i∧i≤l.length∧st=⟨[(2,.pointer (some ⟨h.length,0,none⟩)),(3,.pointer (some ⟨h.length+1,0,none⟩)),(6,i64 (i:Nat))],
    h.freeze++[some ⟨[i64 t,v,w],true⟩,some ⟨[i64 t,v',w'],true⟩]⟩) l.length (by show l.length<2 ^ 64; omega) ?_ ?_
   ·simp[-collect_own1,St.tidy,collect_box,o1,o2,o3,o4,r1,r2,p1,p2]
    exact⟨0,by omega,by omega,rfl⟩
   ·rintro y hy _ ⟨i,rfl,hi,rfl⟩
    by_cases hlt:i<l.length
    ·have w1':=w1 (i:=i) (by omega)
     simp only[W] at w1'
     have hlti:(i:Int)<l.length:=by omega
     have pp:=cN_part hlt
     simp only[encN] at pp
     have k4:i * 10+10≤l.length * 10:=by omega
     generalize atN l i=u at *
     simp[-collect_own1,hlt,Nat.not_le.2 hlt,hlti,k4,pp,w1',St.tidy,collect_box,o1,o2,o3,o4,r1,r2,p1,p2]
     exact⟨l.length-(i+1),by omega,i+1,by omega,by omega,by omega⟩
    ·obtain rfl:i=l.length:=by omega
     simp[r1,r2,p1,p2]
end B
end Go.Abs
namespace Go.Abs
namespace B.T.U
set_option maxRecDepth 100000
set_option maxHeartbeats 0
def seqL:ECode→ECode
 | .seq a _=>a
 | c=>c
def seqR:ECode→ECode
 | .seq _ b=>b
 | c=>c
def p1:ECode:=seqL ef3.code
def p2:ECode:=seqL (seqR ef3.code)
def p3:ECode:=seqL (seqR (seqR ef3.code))
def p4:ECode:=seqL (seqR (seqR (seqR ef3.code)))
def p5:ECode:=seqL (seqR (seqR (seqR (seqR ef3.code))))
def tl3:ECode:=seqR (seqR (seqR (seqR (seqR ef3.code))))
theorem ef3_cut:ef3.code=.seq p1 (.seq p2 (.seq p3 (.seq p4 (.seq p5 tl3)))):=rfl
theorem prsS_len (R:List UInt8→Int × Bool) (t:List UInt8):(prsS R t).1.2.1.length≤1000∧(prsS R t).1.2.2.length≤1000:=by
 unfold prsS
 split
 ·simp[z3]
 split
 ·split
  ·rename_i z
   have O:=StOk.of z
   have:=chkW_few O.w
   have:=O.few
   simp only
   omega
  ·simp[z3]
 ·simp[z3]
theorem tail3 {h H:Heap} {text:List UInt8} {fr:AFrame} (hfr:fr.get 1=some (tx text)) (e:T.Er H) (sp:Pr H) (hn:h.length≤H.length) (hl:text.length≤4998∨60000<text.length∧text.length<100000) :
  wpC ⟨EProg.call E1 30,h.length,h.length,true,E1.glob,E1.fuel,EProg.roundOf E1 (EProg.call E1 30)⟩ tl3 ⟨fr,H⟩ (KFun h.length ef3.results (.bool true) []):=by
 have k10:=up1 (c10 (d:=21) (lim:=h.length) (s:=text) e sp hl)
 have pl:=prsS_len (rdn 9) text
 have gG:∀ (G:Heap) (x:Option Blk),(G++[x])[G.length]?=some x:=fun G x=>lget_right0 rfl
 have sG:∀ (G:Heap) (x y:Option Blk),(G++[x]).set G.length y=G++[y]:=fun G x y=>lset_right0 rfl
 rw[prsS_same] at k10
 rcases hp:prsS (rdn 9) text with ⟨⟨f,wl,l⟩,n,x⟩
 rw[hp] at k10 pl
 simp only at k10 pl
 by_cases ew:wl=[]
 ·by_cases eu:l=[]
  ·obtain⟨v,G,k13,cw,cu,wv,uv,rfl,g⟩:=c13 (d:=23) (lim:=h.length) (h:=H++[some ⟨[i64 f,.slice none 0 0,.slice none 0 0],true⟩]) (s:=text) e.app (by simp; omega) hl
   rw[hp] at k13 g
   simp only at k13 g
   have k13:=up1 k13
   simp only[List.append_assoc,List.cons_append,List.nil_append] at k13
   have S1:SlW (H++(some ⟨[i64 f,.slice none 0 0,.slice none 0 0],true⟩::(G++[some ⟨[i64 f,wv,uv],true⟩]))) (.slice none 0 0) wl:=(by rw[ew]; exact⟨rfl,by simp[cS],fun q=>absurd rfl q,.inl rfl,fun k hk=>by simp at hk⟩)
   have Q1:SlN (H++(some ⟨[i64 f,.slice none 0 0,.slice none 0 0],true⟩::(G++[some ⟨[i64 f,wv,uv],true⟩]))) (.slice none 0 0) l:=(by rw[eu]; exact⟨rfl,by simp[cS],fun q=>absurd rfl q,.inl rfl,fun k hk=>by simp at hk⟩)
   have S2:SlW (H++(some ⟨[i64 f,.slice none 0 0,.slice none 0 0],true⟩::(G++[some ⟨[i64 f,wv,uv],true⟩]))) wv wl:=by
    have:=(g.w.sl encW_len (H:=H++[some ⟨[i64 f,.slice none 0 0,.slice none 0 0],true⟩]) rfl).app [some ⟨[i64 f,wv,uv],true⟩]
    simpa only[List.append_assoc,List.cons_append,List.nil_append] using this
   have Q2:SlN (H++(some ⟨[i64 f,.slice none 0 0,.slice none 0 0],true⟩::(G++[some ⟨[i64 f,wv,uv],true⟩]))) uv l:=by
    have:=(g.u.sl encN_len (H:=H++[some ⟨[i64 f,.slice none 0 0,.slice none 0 0],true⟩]) rfl).app [some ⟨[i64 f,wv,uv],true⟩]
    simpa only[List.append_assoc,List.cons_append,List.nil_append] using this
   have k12:=up1 (c12 (d:=29) (lim:=h.length) (t:=f) S1 Q1 S2 Q2 pl.1 pl.2)
   simp only[wV,uV,wuB,if_pos ew,if_pos eu,List.append_nil,List.nil_append,List.cons_append,Nat.add_zero] at k10
   simp[tl3,seqR,ef3,hfr,k10,k13,k12,gG,sG,fillL,Heap.push]
   exact⟨.inl (by omega),⟨by rcases g.w with ⟨_,q⟩ | ⟨_,q,_⟩ <;> rw[q],by rcases g.u with ⟨_,q⟩ | ⟨_,q,_⟩ <;> rw[q]⟩,.inl (by omega)⟩
  ·obtain⟨v,G,k13,cw,cu,wv,uv,rfl,g⟩:=c13 (d:=23) (lim:=h.length) (h:=H++[some ⟨cS encN l,true⟩,some ⟨[i64 f,.slice none 0 0,.slice (some ⟨H.length,0,none⟩) l.length 10],true⟩]) (s:=text) e.app (by simp; omega) hl
   rw[hp] at k13 g
   simp only at k13 g
   have k13:=up1 k13
   simp only[List.append_assoc,List.cons_append,List.nil_append] at k13
   have S1:SlW (H++(some ⟨cS encN l,true⟩::some ⟨[i64 f,.slice none 0 0,.slice (some ⟨H.length,0,none⟩) l.length 10],true⟩::(G++[some ⟨[i64 f,wv,uv],true⟩]))) (.slice none 0 0) wl:=(by rw[ew]; exact⟨rfl,by simp[cS],fun q=>absurd rfl q,.inl rfl,fun k hk=>by simp at hk⟩)
   have Q1:SlN (H++(some ⟨cS encN l,true⟩::some ⟨[i64 f,.slice none 0 0,.slice (some ⟨H.length,0,none⟩) l.length 10],true⟩::(G++[some ⟨[i64 f,wv,uv],true⟩]))) (.slice (some ⟨H.length,0,none⟩) l.length 10) l:=Sl_own (f:=encN) encN_len (by rw[hget_base0 rfl]; rfl) rfl
   have S2:SlW (H++(some ⟨cS encN l,true⟩::some ⟨[i64 f,.slice none 0 0,.slice (some ⟨H.length,0,none⟩) l.length 10],true⟩::(G++[some ⟨[i64 f,wv,uv],true⟩]))) wv wl:=by
    have:=(g.w.sl encW_len (H:=H++[some ⟨cS encN l,true⟩,some ⟨[i64 f,.slice none 0 0,.slice (some ⟨H.length,0,none⟩) l.length 10],true⟩]) rfl).app [some ⟨[i64 f,wv,uv],true⟩]
    simpa only[List.append_assoc,List.cons_append,List.nil_append] using this
   have Q2:SlN (H++(some ⟨cS encN l,true⟩::some ⟨[i64 f,.slice none 0 0,.slice (some ⟨H.length,0,none⟩) l.length 10],true⟩::(G++[some ⟨[i64 f,wv,uv],true⟩]))) uv l:=by
    have:=(g.u.sl encN_len (H:=H++[some ⟨cS encN l,true⟩,some ⟨[i64 f,.slice none 0 0,.slice (some ⟨H.length,0,none⟩) l.length 10],true⟩]) rfl).app [some ⟨[i64 f,wv,uv],true⟩]
    simpa only[List.append_assoc,List.cons_append,List.nil_append] using this
   have k12:=up1 (c12 (d:=29) (lim:=h.length) (t:=f) S1 Q1 S2 Q2 pl.1 pl.2)
   simp only[wV,uV,wuB,if_pos ew,if_neg eu,List.append_nil,List.nil_append,List.cons_append,Nat.add_zero] at k10
   simp[tl3,seqR,ef3,hfr,k10,k13,k12,gG,sG,fillL,Heap.push]
   exact⟨.inl (by omega),⟨by rcases g.w with ⟨_,q⟩ | ⟨_,q,_⟩ <;> rw[q],by rcases g.u with ⟨_,q⟩ | ⟨_,q,_⟩ <;> rw[q]⟩,.inl (by omega)⟩
 ·by_cases eu:l=[]
  ·obtain⟨v,G,k13,cw,cu,wv,uv,rfl,g⟩:=c13 (d:=23) (lim:=h.length) (h:=H++[some ⟨cS encW wl,true⟩,some ⟨[i64 f,.slice (some ⟨H.length,0,none⟩) wl.length 4,.slice none 0 0],true⟩]) (s:=text) e.app (by simp; omega) hl
   rw[hp] at k13 g
   simp only at k13 g
   have k13:=up1 k13
   simp only[List.append_assoc,List.cons_append,List.nil_append] at k13
   have S1:SlW (H++(some ⟨cS encW wl,true⟩::some ⟨[i64 f,.slice (some ⟨H.length,0,none⟩) wl.length 4,.slice none 0 0],true⟩::(G++[some ⟨[i64 f,wv,uv],true⟩]))) (.slice (some ⟨H.length,0,none⟩) wl.length 4) wl:=Sl_own (f:=encW) encW_len (by rw[hget_base0 rfl]; rfl) rfl
   have Q1:SlN (H++(some ⟨cS encW wl,true⟩::some ⟨[i64 f,.slice (some ⟨H.length,0,none⟩) wl.length 4,.slice none 0 0],true⟩::(G++[some ⟨[i64 f,wv,uv],true⟩]))) (.slice none 0 0) l:=(by rw[eu]; exact⟨rfl,by simp[cS],fun q=>absurd rfl q,.inl rfl,fun k hk=>by simp at hk⟩)
   have S2:SlW (H++(some ⟨cS encW wl,true⟩::some ⟨[i64 f,.slice (some ⟨H.length,0,none⟩) wl.length 4,.slice none 0 0],true⟩::(G++[some ⟨[i64 f,wv,uv],true⟩]))) wv wl:=by
    have:=(g.w.sl encW_len (H:=H++[some ⟨cS encW wl,true⟩,some ⟨[i64 f,.slice (some ⟨H.length,0,none⟩) wl.length 4,.slice none 0 0],true⟩]) rfl).app [some ⟨[i64 f,wv,uv],true⟩]
    simpa only[List.append_assoc,List.cons_append,List.nil_append] using this
   have Q2:SlN (H++(some ⟨cS encW wl,true⟩::some ⟨[i64 f,.slice (some ⟨H.length,0,none⟩) wl.length 4,.slice none 0 0],true⟩::(G++[some ⟨[i64 f,wv,uv],true⟩]))) uv l:=by
    have:=(g.u.sl encN_len (H:=H++[some ⟨cS encW wl,true⟩,some ⟨[i64 f,.slice (some ⟨H.length,0,none⟩) wl.length 4,.slice none 0 0],true⟩]) rfl).app [some ⟨[i64 f,wv,uv],true⟩]
    simpa only[List.append_assoc,List.cons_append,List.nil_append] using this
   have k12:=up1 (c12 (d:=29) (lim:=h.length) (t:=f) S1 Q1 S2 Q2 pl.1 pl.2)
   simp only[wV,uV,wuB,if_neg ew,if_pos eu,List.append_nil,List.nil_append,List.cons_append,Nat.add_zero] at k10
   simp[tl3,seqR,ef3,hfr,k10,k13,k12,gG,sG,fillL,Heap.push]
   exact⟨.inl (by omega),⟨by rcases g.w with ⟨_,q⟩ | ⟨_,q,_⟩ <;> rw[q],by rcases g.u with ⟨_,q⟩ | ⟨_,q,_⟩ <;> rw[q]⟩,.inl (by omega)⟩
  ·obtain⟨v,G,k13,cw,cu,wv,uv,rfl,g⟩:=c13 (d:=23) (lim:=h.length) (h:=H++[some ⟨cS encW wl,true⟩,some ⟨cS encN l,true⟩,some ⟨[i64 f,.slice (some ⟨H.length,0,none⟩) wl.length 4,.slice (some ⟨H.length+1,0,none⟩) l.length 10],true⟩]) (s:=text) e.app (by simp; omega) hl
   rw[hp] at k13 g
   simp only at k13 g
   have k13:=up1 k13
   simp only[List.append_assoc,List.cons_append,List.nil_append] at k13
   have S1:SlW (H++(some ⟨cS encW wl,true⟩::some ⟨cS encN l,true⟩::some ⟨[i64 f,.slice (some ⟨H.length,0,none⟩) wl.length 4,.slice (some ⟨H.length+1,0,none⟩) l.length 10],true⟩::(G++[some ⟨[i64 f,wv,uv],true⟩]))) (.slice (some ⟨H.length,0,none⟩) wl.length 4) wl:=Sl_own (f:=encW) encW_len (by rw[hget_base0 rfl]; rfl) rfl
   have Q1:SlN (H++(some ⟨cS encW wl,true⟩::some ⟨cS encN l,true⟩::some ⟨[i64 f,.slice (some ⟨H.length,0,none⟩) wl.length 4,.slice (some ⟨H.length+1,0,none⟩) l.length 10],true⟩::(G++[some ⟨[i64 f,wv,uv],true⟩]))) (.slice (some ⟨H.length+1,0,none⟩) l.length 10) l:=Sl_own (f:=encN) encN_len (by rw[hget_base rfl]; rfl) rfl
   have S2:SlW (H++(some ⟨cS encW wl,true⟩::some ⟨cS encN l,true⟩::some ⟨[i64 f,.slice (some ⟨H.length,0,none⟩) wl.length 4,.slice (some ⟨H.length+1,0,none⟩) l.length 10],true⟩::(G++[some ⟨[i64 f,wv,uv],true⟩]))) wv wl:=by
    have:=(g.w.sl encW_len (H:=H++[some ⟨cS encW wl,true⟩,some ⟨cS encN l,true⟩,some ⟨[i64 f,.slice (some ⟨H.length,0,none⟩) wl.length 4,.slice (some ⟨H.length+1,0,none⟩) l.length 10],true⟩]) rfl).app [some ⟨[i64 f,wv,uv],true⟩]
    simpa only[List.append_assoc,List.cons_append,List.nil_append] using this
   have Q2:SlN (H++(some ⟨cS encW wl,true⟩::some ⟨cS encN l,true⟩::some ⟨[i64 f,.slice (some ⟨H.length,0,none⟩) wl.length 4,.slice (some ⟨H.length+1,0,none⟩) l.length 10],true⟩::(G++[some ⟨[i64 f,wv,uv],true⟩]))) uv l:=by
    have:=(g.u.sl encN_len (H:=H++[some ⟨cS encW wl,true⟩,some ⟨cS encN l,true⟩,some ⟨[i64 f,.slice (some ⟨H.length,0,none⟩) wl.length 4,.slice (some ⟨H.length+1,0,none⟩) l.length 10],true⟩]) rfl).app [some ⟨[i64 f,wv,uv],true⟩]
    simpa only[List.append_assoc,List.cons_append,List.nil_append] using this
   have k12:=up1 (c12 (d:=29) (lim:=h.length) (t:=f) S1 Q1 S2 Q2 pl.1 pl.2)
   simp only[wV,uV,wuB,if_neg ew,if_neg eu,List.append_nil,List.nil_append,List.cons_append,Nat.add_zero] at k10
   simp[tl3,seqR,ef3,hfr,k10,k13,k12,gG,sG,fillL,Heap.push]
   exact⟨.inl (by omega),⟨by rcases g.w with ⟨_,q⟩ | ⟨_,q,_⟩ <;> rw[q],by rcases g.u with ⟨_,q⟩ | ⟨_,q,_⟩ <;> rw[q]⟩,.inl (by omega)⟩
end B.T.U
end Go.Abs
namespace Go.Abs
namespace B.T.U
set_option maxRecDepth 100000
set_option maxHeartbeats 0
theorem txt_len {f:Int} {wl:List Wi} {l:List Un} (z:(stE f wl l).2=0) (h1:wl.length≤23) (h2:l.length≤6):(tU f wl l l.length).length≤4998:=by
 have O:=StOk.of z
 have q:=O.fork
 have hR:R64 f:=by
  unfold within at q
  simp at q
  unfold R64
  omega
 have few:=chkW_few O.w
 have:=tU_len hR (fun i hi=>St_okW O hi) (fun i hi=>St_okU O hi) l.length (Nat.le_refl _)
 omega
theorem mid3 {h:Heap} {s:List UInt8} {fr:AFrame} {v w:Value} {wl:List Wi} {l:List Un} {f:Int} (S:SlW h v wl) (Q:SlN h w l) (e:T.Er h) (sp:Pr h) (hp:∃ r,h.get 0=some ⟨[.int .u64 2,.int .u64 3,.int .u64 5],r⟩) (hfew:fewB wl l=true)
  (hfr:fr.get 1=some (tx s)) (hf2:fr.get 2=some (pt h.length)) (hl:s.length≤4998∨60000<s.length∧s.length<100000) :
  wpC ⟨EProg.call E1 30,h.length,h.length,true,E1.glob,E1.fuel,EProg.roundOf E1 (EProg.call E1 30)⟩ (.seq p4 (.seq p5 tl3)) ⟨fr,h.freeze++[some ⟨[i64 f,v,w],true⟩]⟩ (KFun h.length ef3.results (.bool true) []):=by
 obtain⟨f1,f2,f3⟩:=few_ok hfew
 have S':=Sl_freeze.2 S
 have Q':=Sl_freeze.2 Q
 have sp':∀ L,Pr (h.freeze++L):=fun L=>(Sl_freeze.2 sp).app L
 have er:∀ L,T.Er (h.freeze++L):=fun L=>e.freeze.app
 obtain⟨r0,hp⟩:=hp
 have g0:∀ L,∃ r,Heap.get (h.freeze++L) 0=some ⟨[.int .u64 2,.int .u64 3,.int .u64 5],r⟩:=fun L=>⟨false,by
  have:=hget_freeze hp
  rw[hget_l (Heap.get_lt this),this]⟩
 have k8:=up1 (c8 (d:=29) (lim:=h.length) (t:=f) (S'.app [some ⟨[i64 f,v,w],true⟩]) (Q'.app [some ⟨[i64 f,v,w],true⟩]) (by omega) (by omega))
 simp only[List.length_append,Heap.length_freeze,List.length_singleton,List.append_assoc,List.cons_append,List.nil_append,Nat.add_assoc,Nat.reduceAdd] at k8
 have k7:=c7 (d:=29) (lim:=h.length) (h:=h.freeze++[some ⟨[i64 f,v,w],true⟩,some ⟨cS encW wl,true⟩,some ⟨cS encN l,true⟩]) (b:=h.length+1) (c:=h.length+2) (f:=f) (wl:=wl) (l:=l) (by rw[hget_base (by simp)]; rfl) (by rw[hget_base (by simp)]; rfl) (g0 _) (by omega) f2
 have k9:=fun L:Heap=>up1 (c9 (d:=24) (lim:=h.length) (t:=f) (S'.app L) (Q'.app L) (by omega))
 have hn:∀ L:Heap,h.length≤(h.freeze++L).length:=fun L=>by simp
 by_cases z:(stE f wl l).2=0
 case neg =>
  have pv:prVS f wl l=.tuple #[tx [],i64 (stE f wl l).2]:=by unfold prVS; rw[if_neg z]
  rw[pv] at k7
  simp[p4,p5,seqL,seqR,ef3,hfr,hf2,k8,k7,k9,z,fillL]
  exact tail3 (by simp[hfr]) (er _) (sp' _) (hn _) hl
 have pv:prVS f wl l=.tuple #[tx (tU f wl l l.length),i64 0]:=by unfold prVS; rw[if_pos z]
 rw[pv] at k7
 have O:=StOk.of z
 have hR:R64 f:=by
  have q:=O.fork
  unfold within at q
  simp at q
  unfold R64
  omega
 have tl:=txt_len z f1 f3
 have bk:=prsS_back z (by omega)
 have few:=chkW_few O.w
 have k11:=fun L:Heap=>up1 (c11 (d:=26) (lim:=h.length) (S'.app L) (Q'.app L) hR (by omega) (by omega) (fun i hi=>St_okW O hi) (fun i hi=>St_okU O hi))
 have k10:=up1 (c10 (d:=21) (lim:=h.length) (s:=tU f wl l l.length) (er [some ⟨[i64 f,v,w],true⟩,some ⟨cS encW wl,true⟩,some ⟨cS encN l,true⟩]) (sp' _) (.inl tl))
 rw[bk] at k10
 simp only at k10
 generalize tU f wl l l.length=tt at *
 by_cases ew:wl=[]
 ·by_cases eu:l=[]
  ·have S1:SlW (h.freeze++[some ⟨[i64 f,v,w],true⟩,some ⟨cS encW wl,true⟩,some ⟨cS encN l,true⟩,some ⟨[i64 f,.slice none 0 0,.slice none 0 0],true⟩]) (.slice none 0 0) wl:=(by rw[ew]; exact⟨rfl,by simp[cS],fun q=>absurd rfl q,.inl rfl,fun k hk=>by simp at hk⟩)
   have Q1:SlN (h.freeze++[some ⟨[i64 f,v,w],true⟩,some ⟨cS encW wl,true⟩,some ⟨cS encN l,true⟩,some ⟨[i64 f,.slice none 0 0,.slice none 0 0],true⟩]) (.slice none 0 0) l:=(by rw[eu]; exact⟨rfl,by simp[cS],fun q=>absurd rfl q,.inl rfl,fun k hk=>by simp at hk⟩)
   have k12:=up1 (c12 (d:=29) (lim:=h.length) (t:=f) S1 Q1 (S'.app _) (Q'.app _) (by omega) (by omega))
   simp only[wV,uV,wuB,if_pos ew,if_pos eu,List.append_nil,List.nil_append,List.cons_append,Nat.add_zero,List.length_append,Heap.length_freeze,List.length_cons,List.length_nil,Nat.reduceAdd,List.append_assoc,Nat.add_assoc] at k10
   simp[p4,p5,seqL,seqR,ef3,hfr,hf2,k8,k7,k9,k10,k11,k12,z,fillL]
   exact tail3 (by simp[hfr]) (er _) (sp' _) (hn _) hl
  ·have S1:SlW (h.freeze++[some ⟨[i64 f,v,w],true⟩,some ⟨cS encW wl,true⟩,some ⟨cS encN l,true⟩,some ⟨cS encN l,true⟩,some ⟨[i64 f,.slice none 0 0,.slice (some ⟨h.length+3,0,none⟩) l.length 10],true⟩]) (.slice none 0 0) wl:=(by rw[ew]; exact⟨rfl,by simp[cS],fun q=>absurd rfl q,.inl rfl,fun k hk=>by simp at hk⟩)
   have Q1:SlN (h.freeze++[some ⟨[i64 f,v,w],true⟩,some ⟨cS encW wl,true⟩,some ⟨cS encN l,true⟩,some ⟨cS encN l,true⟩,some ⟨[i64 f,.slice none 0 0,.slice (some ⟨h.length+3,0,none⟩) l.length 10],true⟩]) (.slice (some ⟨h.length+3,0,none⟩) l.length 10) l:=Sl_own (f:=encN) encN_len (by rw[hget_base (by simp)]; rfl) rfl
   have k12:=up1 (c12 (d:=29) (lim:=h.length) (t:=f) S1 Q1 (S'.app _) (Q'.app _) (by omega) (by omega))
   simp only[wV,uV,wuB,if_pos ew,if_neg eu,List.append_nil,List.nil_append,List.cons_append,Nat.add_zero,List.length_append,Heap.length_freeze,List.length_cons,List.length_nil,Nat.reduceAdd,List.append_assoc,Nat.add_assoc] at k10
   simp[p4,p5,seqL,seqR,ef3,hfr,hf2,k8,k7,k9,k10,k11,k12,z,fillL]
   exact tail3 (by simp[hfr]) (er _) (sp' _) (hn _) hl
 ·by_cases eu:l=[]
  ·have S1:SlW (h.freeze++[some ⟨[i64 f,v,w],true⟩,some ⟨cS encW wl,true⟩,some ⟨cS encN l,true⟩,some ⟨cS encW wl,true⟩,some ⟨[i64 f,.slice (some ⟨h.length+3,0,none⟩) wl.length 4,.slice none 0 0],true⟩]) (.slice (some ⟨h.length+3,0,none⟩) wl.length 4) wl:=Sl_own (f:=encW) encW_len (by rw[hget_base (by simp)]; rfl) rfl
   have Q1:SlN (h.freeze++[some ⟨[i64 f,v,w],true⟩,some ⟨cS encW wl,true⟩,some ⟨cS encN l,true⟩,some ⟨cS encW wl,true⟩,some ⟨[i64 f,.slice (some ⟨h.length+3,0,none⟩) wl.length 4,.slice none 0 0],true⟩]) (.slice none 0 0) l:=(by rw[eu]; exact⟨rfl,by simp[cS],fun q=>absurd rfl q,.inl rfl,fun k hk=>by simp at hk⟩)
   have k12:=up1 (c12 (d:=29) (lim:=h.length) (t:=f) S1 Q1 (S'.app _) (Q'.app _) (by omega) (by omega))
   simp only[wV,uV,wuB,if_neg ew,if_pos eu,List.append_nil,List.nil_append,List.cons_append,Nat.add_zero,List.length_append,Heap.length_freeze,List.length_cons,List.length_nil,Nat.reduceAdd,List.append_assoc,Nat.add_assoc] at k10
   simp[p4,p5,seqL,seqR,ef3,hfr,hf2,k8,k7,k9,k10,k11,k12,z,fillL]
   exact tail3 (by simp[hfr]) (er _) (sp' _) (hn _) hl
  ·have S1:SlW (h.freeze++[some ⟨[i64 f,v,w],true⟩,some ⟨cS encW wl,true⟩,some ⟨cS encN l,true⟩,some ⟨cS encW wl,true⟩,some ⟨cS encN l,true⟩,some ⟨[i64 f,.slice (some ⟨h.length+3,0,none⟩) wl.length 4,.slice (some ⟨h.length+4,0,none⟩) l.length 10],true⟩]) (.slice (some ⟨h.length+3,0,none⟩) wl.length 4) wl:=Sl_own (f:=encW) encW_len (by rw[hget_base (by simp)]; rfl) rfl
   have Q1:SlN (h.freeze++[some ⟨[i64 f,v,w],true⟩,some ⟨cS encW wl,true⟩,some ⟨cS encN l,true⟩,some ⟨cS encW wl,true⟩,some ⟨cS encN l,true⟩,some ⟨[i64 f,.slice (some ⟨h.length+3,0,none⟩) wl.length 4,.slice (some ⟨h.length+4,0,none⟩) l.length 10],true⟩]) (.slice (some ⟨h.length+4,0,none⟩) l.length 10) l:=Sl_own (f:=encN) encN_len (by rw[hget_base (by simp)]; rfl) rfl
   have k12:=up1 (c12 (d:=29) (lim:=h.length) (t:=f) S1 Q1 (S'.app _) (Q'.app _) (by omega) (by omega))
   simp only[wV,uV,wuB,if_neg ew,if_neg eu,List.append_nil,List.nil_append,List.cons_append,Nat.add_zero,List.length_append,Heap.length_freeze,List.length_cons,List.length_nil,Nat.reduceAdd,List.append_assoc,Nat.add_assoc] at k10
   simp[p4,p5,seqL,seqR,ef3,hfr,hf2,k8,k7,k9,k10,k11,k12,z,fillL]
   exact tail3 (by simp[hfr]) (er _) (sp' _) (hn _) hl
theorem law3 {lim:Nat} {h:Heap} {v w:Value} {wl:List Wi} {l:List Un} {f:Int} {s:List UInt8} (S:SlW h v wl) (Q:SlN h w l) (e:T.Er h) (sp:Pr h) (hp:∃ r,h.get 0=some ⟨[.int .u64 2,.int .u64 3,.int .u64 5],r⟩):E1.call 31 lim 3 [stV f v w,tx s] h=some (.bool true,h):=by
 have f3:E1.fn 3=some ef3:=fn3
 refine call1 f3 rfl (by simp[ef3]) ?_
 rw[ef3_cut]
 have S':=Sl_freeze.2 S
 have Q':=Sl_freeze.2 Q
 have k5:=fun H:Heap=>up1 (c5 (d:=22) (lim:=h.length) (h:=H))
 have k6:=fun L:Heap=>up1 (c6 (d:=28) (lim:=h.length) (t:=f) (S'.app L) (Q'.app L))
 by_cases hfew:fewB wl l=true
 case neg=>simp[p1,p2,p3,seqL,seqR,ef3,k5,k6,hfew,fillL]
 rcases Nat.lt_or_ge 60100 s.length with g3 | g3
 ·have g3':(60100:Int)<s.length:=by omega
  have g1':(600:Int)<s.length:=by omega
  have g2':¬ (s.length:Int)≤60000:=by omega
  have g2n:(60000:Int)<s.length:=by omega
  simp[p1,p2,p3,seqL,seqR,ef3,k5,k6,hfew,g1',g2',g2n,g3',fillL]
 have g3':¬ (60100:Int)<s.length:=by omega
 have g3n:(s.length:Int)≤60100:=by omega
 rcases Nat.lt_or_ge 600 s.length with g1 | g1
 ·have g1':(600:Int)<s.length:=by omega
  rcases Nat.lt_or_ge 60000 s.length with g2 | g2
  ·have g2':¬ (s.length:Int)≤60000:=by omega
   have g2n:(60000:Int)<s.length:=by omega
   simp[p1,p2,p3,seqL,seqR,ef3,k5,k6,hfew,g1',g2',g2n,g3',g3n,fillL]
   rw[← wpC_seq]
   exact mid3 S Q e sp hp hfew rfl rfl (.inr ⟨g2,by omega⟩)
  ·have g2':(s.length:Int)≤60000:=by omega
   simp[p1,p2,p3,seqL,seqR,ef3,k5,k6,hfew,g1',g2',fillL]
 ·have g1':¬ (600:Int)<s.length:=by omega
  have g1n:(s.length:Int)≤600:=by omega
  simp[p1,p2,p3,seqL,seqR,ef3,k5,k6,hfew,g1',g1n,g3',g3n,fillL]
  rw[← wpC_seq]
  exact mid3 S Q e sp hp hfew rfl rfl (.inl (by omega))
end B.T.U
end Go.Abs
