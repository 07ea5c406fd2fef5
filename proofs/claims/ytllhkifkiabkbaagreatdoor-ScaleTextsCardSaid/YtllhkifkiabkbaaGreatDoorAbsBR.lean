--
import Derived.Test.YtllhkifkiabkbaaGreatDoorAbsBXB
import Derived.Test.YtllhkifkiabkbaaGreatDoorAbsBArgs
import Derived.Test.YtllhkifkiabkbaaGreatDoorAbsTypM
import Derived.Test.YtllhkifkiabkbaaGreatDoorAbsBJ
set_option linter.unusedSimpArgs false
set_option linter.unusedVariables false
namespace Go.Abs
namespace B
set_option maxRecDepth 100000
abbrev ctWs:CT:=.sl [.str,ctI,ctI,ctI]
abbrev ctUs:CT:=.sl [ctI,ctI,ctI,ctI,ctI,ctI,ctI,ctI,.str,.str]
abbrev ctP:Bool × List CT:=(true,[ctI,ctWs,ctUs])
def gStr:Value→ByteArray
 | .string s=>s
 | _=>⟨#[]⟩
def gInt:Value→Int
 | .int _ n=>n
 | _=>0
theorem typ_wires {d:Nat} {h:Heap} {u:Value} (a:Typ (d+1) h ctWs u):∃ l:List Wi,SlW h u l:=by
 obtain⟨l,s,_,_⟩:=typ_slX (cts:=[.str,ctI,ctI,ctI]) (by decide) encW (fun g=>⟨gStr (g 0),gInt (g 1),gInt (g 2),gInt (g 3)⟩) (fun _=>rfl) (d:=d) (h:=h) (fun g hg j hj=>by
  obtain⟨s0,e0,_⟩:=typ_str (hg 0 _ rfl)
  obtain⟨n1,e1,_⟩:=typ_int (hg 1 _ rfl)
  obtain⟨n2,e2,_⟩:=typ_int (hg 2 _ rfl)
  obtain⟨n3,e3,_⟩:=typ_int (hg 3 _ rfl)
  have hj':j<4:=hj
  have:j=0∨j=1∨j=2∨j=3:=by omega
  rcases this with rfl | rfl | rfl | rfl
  ·rw[e0]; rfl
  ·rw[e1]; rfl
  ·rw[e2]; rfl
  ·rw[e3]; rfl) a
 exact⟨l,s⟩
theorem typ_unisons {d:Nat} {h:Heap} {u:Value} (a:Typ (d+1) h ctUs u):∃ l:List Un,SlN h u l:=by
 obtain⟨l,s,_,_⟩:=typ_slX (cts:=[ctI,ctI,ctI,ctI,ctI,ctI,ctI,ctI,.str,.str]) (by decide) encN (fun g=>⟨gInt (g 0),gInt (g 1),gInt (g 2),gInt (g 3),gInt (g 4),⟨gInt (g 5),gInt (g 6),gInt (g 7),gStr (g 8),gStr (g 9)⟩⟩) (fun _=>rfl) (d:=d) (h:=h) (fun g hg j hj=>by
  obtain⟨n0,e0,_⟩:=typ_int (hg 0 _ rfl)
  obtain⟨n1,e1,_⟩:=typ_int (hg 1 _ rfl)
  obtain⟨n2,e2,_⟩:=typ_int (hg 2 _ rfl)
  obtain⟨n3,e3,_⟩:=typ_int (hg 3 _ rfl)
  obtain⟨n4,e4,_⟩:=typ_int (hg 4 _ rfl)
  obtain⟨n5,e5,_⟩:=typ_int (hg 5 _ rfl)
  obtain⟨n6,e6,_⟩:=typ_int (hg 6 _ rfl)
  obtain⟨n7,e7,_⟩:=typ_int (hg 7 _ rfl)
  obtain⟨s8,e8,_⟩:=typ_str (hg 8 _ rfl)
  obtain⟨s9,e9,_⟩:=typ_str (hg 9 _ rfl)
  have hj':j<10:=hj
  have:j=0∨j=1∨j=2∨j=3∨j=4∨j=5∨j=6∨j=7∨j=8∨j=9:=by omega
  rcases this with rfl | rfl | rfl | rfl | rfl | rfl | rfl | rfl | rfl | rfl
  ·rw[e0]; rfl
  ·rw[e1]; rfl
  ·rw[e2]; rfl
  ·rw[e3]; rfl
  ·rw[e4]; rfl
  ·rw[e5]; rfl
  ·rw[e6]; rfl
  ·rw[e7]; rfl
  ·rw[e8]; rfl
  ·rw[e9]; rfl) a
 exact⟨l,s⟩
theorem arg_stringing {d:Nat} {h:Heap} {u:Value} (a:ArgV (d+1) h ctP u):∃ t v w wl l,u=stV t v w∧SlW h v wl∧SlN h w l:=by
 obtain⟨us,rfl,hl,t⟩:=a
 match us,hl with
 | [u0,u1,u2],_ =>
  obtain⟨x,rfl,_⟩:=typ_int (t 0 _ _ rfl rfl)
  obtain⟨wl,s⟩:=typ_wires (t 1 _ _ rfl rfl)
  obtain⟨l,q⟩:=typ_unisons (t 2 _ _ rfl rfl)
  exact⟨x,u1,u2,wl,l,rfl,s,q⟩
def h00 (te:TypeId):Heap:=[primesB,some ⟨[.iface te (.pointer (some ⟨4,0,none⟩))],false⟩,some ⟨[.iface te (.pointer (some ⟨5,0,none⟩))],false⟩,some ⟨[],false⟩,none,none]
theorem er00 (te:TypeId) (L:Heap):T.Er (h00 te++L):=T.Er.app ⟨rfl,rfl⟩
theorem sp00 (te:TypeId) (L:Heap):Pr (h00 te++L):=sp1 _
theorem lawR {te:TypeId} (h0:Heap) (e0:h0=h00 te):∀ (bs:List (Option Blk)) us,Heap.freeze (h0++bs)=h0++bs→(∀ n,ctBlocks (([ctP,(false,[.str])]:List (Bool × List CT)).flatMap (·.2))=some n→bs.length=n) →
  ArgsV 6 (h0++bs) [ctP,(false,[.str])] us→∃ h',T.U.E1.call 31 (h0++bs).length 3 us (h0++bs)=some (.bool true,h'):=by
 intro bs us _ _ a
 obtain⟨u,r,rfl,a1,a2⟩:=args2 a
 obtain⟨t,v,w,wl,l,rfl,s,q⟩:=arg_stringing (d:=5) a1
 obtain⟨x,rfl,_⟩:=arg_str a2
 rw[tx_of x]
 subst e0
 exact⟨_,T.U.law3 s q (er00 te bs) (sp00 te bs) ⟨_,rfl⟩⟩
end B
end Go.Abs
