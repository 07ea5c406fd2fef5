--
import Derived.Test.YtllhkifkiabkbaaGreatDoorAbsBOk
import Derived.Test.YtllhkifkiabkbaaGreatDoorAbsBBN
import Derived.Test.YtllhkifkiabkbaaGreatDoorAbsRowM
import Derived.OpenShut
import Derived.JoinedOf
import Derived.Lay
import Derived.Stop.LaidErr
import Derived.Lib.LaidTab
import Derived.Test.YtllhkifkiabkbaaGreatDoorRows
import Derived.Test.YtllhkifkiabkbaaGreatDoorTie
set_option linter.unusedSimpArgs false
set_option linter.unusedVariables false
namespace Go.Proofs.YtllhkifkiabkbaaGreatDoor
open Go.ChangeShapes Go.WideShapes Go.RowKit Go.Abs Go.ChangeAt Go.WideElems Go.WideMaps
set_option maxRecDepth 100000
theorem Tryz.own:ownKnob Tryz.prog.godebug=none:=by kernel_rfl
theorem Tryz.laidOut:laidOutB Tryz.prog=true:=by kernel_rfl
theorem Tryz.looksAll:true=Tryz.pinned.checked.prog.looks []:=by kernel_rfl
theorem gPrimes : Tryz.prog.globalNamed "agraffe/number.primes" = some 0 := by kernel_rfl
theorem tPrimes:(Tryz.prog.globals[0]?).map (·.type)=some 249:=by kernel_rfl
theorem gES : Tryz.prog.globalNamed "strconv.ErrSyntax" = some 3 := by kernel_rfl
theorem tES:(Tryz.prog.globals[3]?).map (·.type)=some 90:=by kernel_rfl
theorem gER : Tryz.prog.globalNamed "strconv.ErrRange" = some 4 := by kernel_rfl
theorem tER:(Tryz.prog.globals[4]?).map (·.type)=some 90:=by kernel_rfl
theorem gPw : Tryz.prog.globalNamed "internal/strconv.uint64pow10" = some 2 := by kernel_rfl
theorem tPw:(Tryz.prog.globals[2]?).map (·.type)=some 279:=by kernel_rfl
theorem uP:Tryz.prog.underlying 249=some (.array 3 229):=by kernel_rfl
theorem uW:Tryz.prog.underlying 279=some (.array 20 229):=by kernel_rfl
theorem uU:Tryz.prog.underlying 229=some (.int .u64):=by kernel_rfl
theorem cU:Tryz.prog.cellsOf 229=1:=by kernel_rfl
theorem cP:Tryz.prog.cellsOf 249=3:=by kernel_rfl
theorem cW:Tryz.prog.cellsOf 279=20:=by kernel_rfl
theorem star : "*" ++ "errors.errorString" = "*errors.errorString" := by decide
theorem rowE (u : TypeId) (h : Tryz.prog.typeName? 3 u = some "*errors.errorString") : u = 300 :=
 typeName_ptr_named (nm := "errors.errorString") (by rw [star]; kernel_rfl) (by kernel_rfl) (by decide) u (by rw [star]; exact h)
theorem cE:Tryz.prog.cellsOf 302=1:=by kernel_rfl
theorem cS:Tryz.prog.cellsOf 9=1:=by kernel_rfl
abbrev laid0 : List (String × DataW Unit) := [("math/bits.deBruijn32tab", Rows.laid_math_bits_deBruijn32tab), ("math/bits.deBruijn64tab", Rows.laid_math_bits_deBruijn64tab), ("internal/strconv.uint64pow10", Rows.laid_internal_strconv_uint64pow10), ("unicode/utf8.acceptRanges", Rows.laid_unicode_utf8_acceptRanges), ("strconv.ErrRange", Rows.laid_strconv_ErrRange), ("strconv.ErrSyntax", Rows.laid_strconv_ErrSyntax), ("agraffe/number.primes", Rows.laid_agraffe_number_primes), ("unicode/utf8.first", Rows.laid_unicode_utf8_first)]
theorem laid_plain {W:World} (h:laidMetH Tryz.prog laid0 W):laidMet Tryz.prog laid0 W:=by
 rw[MakeChecks.laidMetH_plain _ _ _ (by kernel_rfl)] at h
 exact h
theorem var_at {W:World} {n:String} {g:Nat} {cs:Array Value} (hg:Tryz.prog.globalNamed n=some g) (h:W.var? Tryz.prog n=some cs):∃ e fz,W.heap[g]?=some (.cells cs e fz):=by
 simp only[World.var?,hg,Option.bind_some] at h
 split at h
 ·rename_i cs e fz hh; cases h; exact⟨e,fz,hh⟩
 ·cases h
theorem primes_of {W:World} (h:laidMet Tryz.prog laid0 W):∃ cs e fz,W.heap[0]?=some (.cells cs e fz)∧cs.toList=[.int .u64 2,.int .u64 3,.int .u64 5]:=by
 have:=Lib.tabIs_of_head (k:=.u64) (zs:=[2,3,5]) gPrimes tPrimes uP uU cU cP (h.tail.tail.tail.tail.tail.tail)
 unfold Lib.TabIs at this
 obtain⟨e,fz,q⟩:=var_at gPrimes this
 exact⟨_,e,fz,q,rfl⟩
theorem tab_of {W : World} (h : laidMet Tryz.prog laid0 W) : Lib.TabIs Tryz.prog W "internal/strconv.uint64pow10" .u64 Lib.pow10Tab :=
 Lib.tabIs_of_head gPw tPw uW uU cU cW (h.tail.tail)
theorem err_at {W:World} {n:String} {g:Nat} {a:Addr} {s:ByteArray} (hg:Tryz.prog.globalNamed n=some g) (h:W.var? Tryz.prog n=some #[.iface 300 (.pointer (some a))]) (hs:W.cell? a=some (.string s)) :
  ∃ N o,(∃ e fz,W.heap[g]?=some (.cells #[.iface 300 (.pointer (some ⟨N,o,none⟩))] e fz)):=by
 obtain⟨e,fz,q⟩:=var_at hg h
 obtain⟨b,o,sp⟩:=a
 unfold World.cell? at hs
 split at hs
 ·rcases sp with _ | sp
  ·exact⟨b,o,e,fz,q⟩
  ·simp at hs
 ·cases hs
theorem errS_of {W:World} (h:laidMet Tryz.prog laid0 W):∃ N o,(∃ e fz,W.heap[3]?=some (.cells #[.iface 300 (.pointer (some ⟨N,o,none⟩))] e fz)):=by
 obtain⟨a,s,q1,q2,_,_⟩:=laid_sentinel (h.tail.tail.tail.tail.tail) gES tES Tryz.underlying90 rowE Tryz.underlying300 Tryz.underlying302 rfl rfl Tryz.underlying9 cE cS
 exact err_at gES q1 q2
theorem errR_of {W:World} (h:laidMet Tryz.prog laid0 W):∃ N o,(∃ e fz,W.heap[4]?=some (.cells #[.iface 300 (.pointer (some ⟨N,o,none⟩))] e fz)):=by
 obtain⟨a,s,q1,q2,_,_⟩:=laid_sentinel (h.tail.tail.tail.tail) gER tER Tryz.underlying90 rowE Tryz.underlying300 Tryz.underlying302 rfl rfl Tryz.underlying9 cE cS
 exact err_at gER q1 q2
def ρ0 (N1 o1 N2 o2:Nat):Ren
 | 0=>some ⟨0,0,3,false⟩
 | 1=>some ⟨3,0,1,false⟩
 | 2=>some ⟨4,0,1,false⟩
 | 3=>some ⟨2,0,20,false⟩
 | 4=>some ⟨N1,o1,0,false⟩
 | 5=>some ⟨N2,o2,0,false⟩
 | _=>none
abbrev errB (j:Nat):Option Blk:=some ⟨[.iface 300 (.pointer (some ⟨j,0,none⟩))],false⟩
abbrev heap0:Heap:=[B.primesB,errB 4,errB 5,some ⟨[],false⟩,none,none]
theorem glob0 (N1 o1 N2 o2:Nat):GlobOk B.E.glob (ρ0 N1 o1 N2 o2):=by
 intro g i h
 have:B.E.glob=[0,3,4,2]:=rfl
 rw[this] at h
 simp only[globPos] at h
 split at h
 ·rename_i e; cases h; subst e; exact⟨_,rfl,rfl,rfl,rfl⟩
 ·split at h
  ·rename_i e; cases h; subst e; exact⟨_,rfl,rfl,rfl,rfl⟩
  ·split at h
   ·rename_i e; cases h; subst e; exact⟨_,rfl,rfl,rfl,rfl⟩
   ·split at h
    ·rename_i e; cases h; subst e; exact⟨_,rfl,rfl,rfl,rfl⟩
    ·simp at h
theorem start_of {W:World} (hL:laidMetH Tryz.prog laid0 W):∃ ρ,Inv W heap0 ρ∧GlobOk B.E.glob ρ:=by
 have h:=laid_plain hL
 obtain⟨cs,e,fz,hh,hc⟩:=primes_of h
 obtain⟨N1,o1,e1,fz1,h1⟩:=errS_of h
 obtain⟨N2,o2,e2,fz2,h2⟩:=errR_of h
 have ht:=tab_of h
 unfold Lib.TabIs at ht
 obtain⟨e3,fz3,h3⟩:=var_at gPw ht
 have hs:cs.size=3:=by rw[← Array.length_toList,hc]; rfl
 refine⟨ρ0 N1 o1 N2 o2,⟨fun i L q=>?_,fun i b q=>?_⟩,glob0 _ _ _ _⟩
 ·match i,q with
  | 0,_ | 1,_ | 2,_ | 3,_ | 4,_ | 5,_=>simp
  | i+6,q=>cases q
 ·match i,q with
  | 0,q =>
   simp[Heap.get] at q; subst q
   refine⟨rfl,fun L k=>?_⟩
   simp[ρ0] at k; subst k
   refine fun _=>CellsOk.ok ?_ rfl
   refine⟨cs,e,fz,hh,by simp[hs],by simp,(fun q=>by cases q),fun i v hv=>⟨v,?_,?_⟩⟩
   ·simp only[Nat.zero_add]
    rw[← Array.getElem?_toList,hc]; exact hv
   ·refine .plain ?_
    match i,hv with
    | 0,hv=>simp at hv; subst hv; rfl
    | 1,hv=>simp at hv; subst hv; rfl
    | 2,hv=>simp at hv; subst hv; rfl
    | i+3,hv=>simp at hv
  | 1,q =>
   simp[Heap.get] at q; subst q
   refine⟨rfl,fun L k=>?_⟩
   simp[ρ0] at k; subst k
   refine fun _=>CellsOk.ok ?_ rfl
   refine⟨_,e1,fz1,h1,by simp,by simp,(fun q=>by cases q),fun i v hv=>?_⟩
   match i,hv with
   | 0,hv =>
    simp at hv; subst hv
    exact⟨_,rfl,.iface (VRel.ptr (o:=0) (L:=⟨N1,o1,0,false⟩) rfl rfl)⟩
   | i+1,hv=>simp at hv
  | 2,q =>
   simp[Heap.get] at q; subst q
   refine⟨rfl,fun L k=>?_⟩
   simp[ρ0] at k; subst k
   refine fun _=>CellsOk.ok ?_ rfl
   refine⟨_,e2,fz2,h2,by simp,by simp,(fun q=>by cases q),fun i v hv=>?_⟩
   match i,hv with
   | 0,hv =>
    simp at hv; subst hv
    exact⟨_,rfl,.iface (VRel.ptr (o:=0) (L:=⟨N2,o2,0,false⟩) rfl rfl)⟩
   | i+1,hv=>simp at hv
  | 3,q =>
   simp[Heap.get] at q; subst q
   refine⟨rfl,fun L k=>?_⟩
   simp[ρ0] at k; subst k
   refine fun _=>CellsOk.ok ?_ rfl
   exact⟨_,e3,fz3,h3,by simp[Lib.pow10Tab_length],by simp,(fun q=>by cases q),fun i v hv=>by simp at hv⟩
  | 4,q=>simp[Heap.get] at q
  | 5,q=>simp[Heap.get] at q
  | i+6,q=>simp[Heap.get] at q
theorem laid_ok {W:World} (hL:laidMetH Tryz.prog laid0 W):LaidOk Tryz.prog B.E.glob (W.heap.size≤·) W:=by
 intro g h1 _
 obtain rfl:=Option.some.inj (gPw.symm.trans h1)
 have ht:=tab_of (laid_plain hL)
 have ht2:=ht
 unfold Lib.TabIs at ht2
 obtain⟨e3,fz3,h3⟩:=var_at gPw ht2
 have:=(Array.getElem?_eq_some_iff.1 h3).1
 exact⟨by omega,this,ht⟩
theorem trodAll_len {H:Type} {enc:TypeId × Value→H} {P:Program} {W:World}:∀ {ts:List TypeId} {vs:List Value} {ds:List (DataW H)} {ps:List MemPlace},DataW.TrodAll enc P W 0 (fun _=>true) true ts vs ds ps→ds.length=ts.length
 | [],[],[],_,_=>rfl
 | _::_,_::_,_::_,_,h=>by obtain⟨_,_,_,h2,_⟩:=h; simp[trodAll_len h2]
 | [],_::_,_,_,h=>h.elim
 | [],[],_::_,_,h=>h.elim
 | _::_,[],_,_,h=>h.elim
 | _::_,_::_,[],_,h=>h.elim
theorem door_met (os:Os) (args:Array Value):laidMetH Tryz.prog laid0 ((World.laidAll Tryz.prog os laid0).forCall (fun _ _=>0) ⟨#[],args,[]⟩).memory:=by
 rw[MakeChecks.laidMetH_plain _ _ _ (by kernel_rfl)]; exact laidMet_laidAll _ (by kernel_rfl) (by kernel_rfl)
theorem Tryz.c2:mapsRowed Tryz.prog=true:=by kernel_rfl
theorem Tryz.c3:(Tryz.prog.stops == [])=true:=by kernel_rfl
theorem Tryz.c4:(Tryz.prog.stopKnobs == [])=true:=by kernel_rfl
theorem Tryz.c9:(Rows.scaleTextsRow.plainKeys == Tryz.prog.plainKeys)=true:=by kernel_rfl
theorem Tryz.c10:Tryz.prog.stopsHeard=true:=by kernel_rfl
theorem Tryz.c11:Tryz.prog.mayEnter=true:=by kernel_rfl
theorem Tryz.c12:(Rows.scaleTextsRow.lifted == Tryz.prog.liftsFinal)=true:=by kernel_rfl
theorem Tryz.c13:(Tryz.prog.make == some Rows.scaleTextsRow.make)=true:=by kernel_rfl
theorem band {a b:Bool} (h:a=true) (k:b=true):(a && b)=true:=by rw[h,k]; rfl
end Go.Proofs.YtllhkifkiabkbaaGreatDoor
