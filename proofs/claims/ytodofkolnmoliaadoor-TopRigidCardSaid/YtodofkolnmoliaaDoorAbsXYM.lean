/- Chapter 2: the length system. -/
import Derived.Test.YtodofkolnmoliaaDoorAbsXXM
import Derived.Test.YtodofkolnmoliaaDoorAbsXLM
set_option linter.unusedSimpArgs false
set_option linter.unusedVariables false
/- Chapter 2: the length system. -/
namespace Go.Abs
namespace X
set_option maxRecDepth 100000
set_option maxHeartbeats 0
def encR (r : XR) : List Value := [i64 r.1, i64 r.2]
theorem cR_len (l : List XR) : (cS encR l).length = l.length * 2 := cS_len (f := encR) (es := 2) (fun _ => rfl) l
theorem cR_part {l : List XR} {i : Nat} (h : i < l.length) : ((cS encR l).drop (i * 2)).take 2 = [i64 (atR l i).1, i64 (atR l i).2] := by
  rw [cS_part (f := encR) (es := 2) (fun _ => rfl) l i h, atR_get h]; rfl
abbrev SlR (h : Heap) (v : Value) (l : List XR) : Prop := Sl 2 h v l.length (cS encR l)
end X
end Go.Abs
/- Chapter 2: the reference's length system; systems compared. -/
namespace Go.Abs
namespace X
set_option maxRecDepth 100000
set_option maxHeartbeats 0
end X
end Go.Abs
/- Chapter 2: smooth lengths: walked. -/
namespace Go.Abs
namespace X
set_option maxRecDepth 100000
set_option maxHeartbeats 0
end X
end Go.Abs
/- Chapter 2: smooth lengths: no solution; the reference's. -/
namespace Go.Abs
namespace X
set_option maxRecDepth 100000
set_option maxHeartbeats 0
end X
end Go.Abs
