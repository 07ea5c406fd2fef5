--
import Derived.Test.YtllhkifkiabkbaaGreatDoorAbsRowM
import Derived.Test.YtllhkifkiabkbaaGreatDoorAbsBGM
set_option linter.unusedSimpArgs false
set_option linter.unusedVariables false
namespace Go.Abs
theorem wf_R64 {n:Int} (h:(Lit.int .i64 n).wf=true):R64 n:=by
 simp[Lit.wf,IntKind.min,IntKind.max,IntKind.signed,IntKind.bits] at h
 exact⟨by omega,by omega⟩
theorem typ_int {d:Nat} {h:Heap} {v:Value} (t:Typ d h (.int .i64) v):∃ n,v=.int .i64 n∧R64 n:=by
 cases d <;> exact let ⟨n,e,w⟩:=t; ⟨n,e,wf_R64 w⟩
theorem typ_str {d:Nat} {h:Heap} {v:Value} (t:Typ d h .str v):∃ s,v=.string s∧s.size≤maxLen:=by
 cases d <;> exact t
abbrev ctI:CT:=.int .i64
theorem arg_str {d:Nat} {h:Heap} {u:Value} (a:ArgV d h (false,[.str]) u):∃ s,u=.string s∧s.size≤maxLen:=typ_str (a.2 0 _ _ rfl rfl)
theorem args1 {d:Nat} {h:Heap} {c:Bool × List CT} {us:List Value} (a:ArgsV d h [c] us):∃ u,us=[u]∧ArgV d h c u:=by
 match us,a with
 | [u],a=>exact⟨u,rfl,a.1⟩
 | u::v::r,a=>exact a.2.elim
theorem args2 {d:Nat} {h:Heap} {c c':Bool × List CT} {us:List Value} (a:ArgsV d h [c,c'] us):∃ u v,us=[u,v]∧ArgV d h c u∧ArgV d h c' v:=by
 match us,a with
 | u::r,a =>
  obtain⟨v,rfl,b⟩:=args1 a.2
  exact⟨u,v,rfl,a.1,b⟩
end Go.Abs
