--
import Derived.Test.YtoloaempiiedgaaDoorAbsRXM
import Derived.Test.YtoloaempiiedgaaDoorAbsRLM
set_option linter.unusedSimpArgs false
set_option linter.unusedVariables false
namespace Go.Abs
namespace R
set_option maxRecDepth 100000
set_option maxHeartbeats 0
def encR (r : XR) : List Value := [i64 r.1, i64 r.2]
theorem cR_len (l : List XR) : (cS encR l).length = l.length * 2 := cS_len (f := encR) (es := 2) (fun _ => rfl) l
theorem cR_part {l : List XR} {i : Nat} (h : i < l.length) : ((cS encR l).drop (i * 2)).take 2 = [i64 (atR l i).1, i64 (atR l i).2] := by
 rw [cS_part (f := encR) (es := 2) (fun _ => rfl) l i h, atR_get h]; rfl
abbrev SlR (h : Heap) (v : Value) (l : List XR) : Prop := Sl 2 h v l.length (cS encR l)
end R
end Go.Abs
namespace Go.Abs
namespace R
set_option maxRecDepth 100000
set_option maxHeartbeats 0
end R
end Go.Abs
namespace Go.Abs
namespace R
set_option maxRecDepth 100000
set_option maxHeartbeats 0
end R
end Go.Abs
namespace Go.Abs
namespace R
set_option maxRecDepth 100000
set_option maxHeartbeats 0
end R
end Go.Abs
