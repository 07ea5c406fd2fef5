/- The functions, compiled for the abstract evaluator. Written by wip/abs/Print.lean. -/
import Derived.Test.YtfbelnhibipndaaAbsU1
import Derived.Test.YtfbelnhibipndaaAbsU2
set_option linter.unusedSimpArgs false
set_option linter.unusedVariables false
set_option maxRecDepth 100000
set_option maxHeartbeats 0
namespace Go.Abs.U
open Go Go.Abs
/-- All functions. -/
def fns : Nat → Option EFun
  | 12 => some ef12
  | 14 => some ef14
  | 15 => some ef15
  | 19 => some ef19
  | 25 => some ef25
  | 29 => some ef29
  | 41 => some ef41
  | 47 => some ef47
  | 52 => some ef52
  | 53 => some ef53
  | 54 => some ef54
  | 59 => some ef59
  | 60 => some ef60
  | 61 => some ef61
  | 64 => some ef64
  | 65 => some ef65
  | 68 => some ef68
  | 70 => some ef70
  | 71 => some ef71
  | 72 => some ef72
  | 73 => some ef73
  | 75 => some ef75
  | 78 => some ef78
  | 83 => some ef83
  | 85 => some ef85
  | 86 => some ef86
  | 87 => some ef87
  | 89 => some ef89
  | 90 => some ef90
  | 91 => some ef91
  | 92 => some ef92
  | 93 => some ef93
  | 94 => some ef94
  | 98 => some ef98
  | 99 => some ef99
  | 100 => some ef100
  | 101 => some ef101
  | 104 => some ef104
  | 105 => some ef105
  | 106 => some ef106
  | 108 => some ef108
  | 109 => some ef109
  | 110 => some ef110
  | 111 => some ef111
  | 112 => some ef112
  | 113 => some ef113
  | 114 => some ef114
  | 115 => some ef115
  | 116 => some ef116
  | 117 => some ef117
  | 118 => some ef118
  | 119 => some ef119
  | 120 => some ef120
  | 121 => some ef121
  | 122 => some ef122
  | 123 => some ef123
  | 124 => some ef124
  | 125 => some ef125
  | 126 => some ef126
  | 127 => some ef127
  | 128 => some ef128
  | 129 => some ef129
  | 130 => some ef130
  | 131 => some ef131
  | 132 => some ef132
  | 133 => some ef133
  | 134 => some ef134
  | 135 => some ef135
  | 136 => some ef136
  | 137 => some ef137
  | 138 => some ef138
  | 139 => some ef139
  | 140 => some ef140
  | 141 => some ef141
  | _ => none
def E : EProg := ⟨fns, glob, 2 ^ 64⟩
theorem fn12 : E.fn 12 = some ef12 := rfl
theorem fn14 : E.fn 14 = some ef14 := rfl
theorem fn15 : E.fn 15 = some ef15 := rfl
theorem fn19 : E.fn 19 = some ef19 := rfl
theorem fn25 : E.fn 25 = some ef25 := rfl
theorem fn29 : E.fn 29 = some ef29 := rfl
theorem fn41 : E.fn 41 = some ef41 := rfl
theorem fn47 : E.fn 47 = some ef47 := rfl
theorem fn52 : E.fn 52 = some ef52 := rfl
theorem fn53 : E.fn 53 = some ef53 := rfl
theorem fn54 : E.fn 54 = some ef54 := rfl
theorem fn59 : E.fn 59 = some ef59 := rfl
theorem fn60 : E.fn 60 = some ef60 := rfl
theorem fn61 : E.fn 61 = some ef61 := rfl
theorem fn64 : E.fn 64 = some ef64 := rfl
theorem fn65 : E.fn 65 = some ef65 := rfl
theorem fn68 : E.fn 68 = some ef68 := rfl
theorem fn70 : E.fn 70 = some ef70 := rfl
theorem fn71 : E.fn 71 = some ef71 := rfl
theorem fn72 : E.fn 72 = some ef72 := rfl
theorem fn73 : E.fn 73 = some ef73 := rfl
theorem fn75 : E.fn 75 = some ef75 := rfl
theorem fn78 : E.fn 78 = some ef78 := rfl
theorem fn83 : E.fn 83 = some ef83 := rfl
theorem fn85 : E.fn 85 = some ef85 := rfl
theorem fn86 : E.fn 86 = some ef86 := rfl
theorem fn87 : E.fn 87 = some ef87 := rfl
theorem fn89 : E.fn 89 = some ef89 := rfl
theorem fn90 : E.fn 90 = some ef90 := rfl
theorem fn91 : E.fn 91 = some ef91 := rfl
theorem fn92 : E.fn 92 = some ef92 := rfl
theorem fn93 : E.fn 93 = some ef93 := rfl
theorem fn94 : E.fn 94 = some ef94 := rfl
theorem fn98 : E.fn 98 = some ef98 := rfl
theorem fn99 : E.fn 99 = some ef99 := rfl
theorem fn100 : E.fn 100 = some ef100 := rfl
theorem fn101 : E.fn 101 = some ef101 := rfl
theorem fn104 : E.fn 104 = some ef104 := rfl
theorem fn105 : E.fn 105 = some ef105 := rfl
theorem fn106 : E.fn 106 = some ef106 := rfl
theorem fn108 : E.fn 108 = some ef108 := rfl
theorem fn109 : E.fn 109 = some ef109 := rfl
theorem fn110 : E.fn 110 = some ef110 := rfl
theorem fn111 : E.fn 111 = some ef111 := rfl
theorem fn112 : E.fn 112 = some ef112 := rfl
theorem fn113 : E.fn 113 = some ef113 := rfl
theorem fn114 : E.fn 114 = some ef114 := rfl
theorem fn115 : E.fn 115 = some ef115 := rfl
theorem fn116 : E.fn 116 = some ef116 := rfl
theorem fn117 : E.fn 117 = some ef117 := rfl
theorem fn118 : E.fn 118 = some ef118 := rfl
theorem fn119 : E.fn 119 = some ef119 := rfl
theorem fn120 : E.fn 120 = some ef120 := rfl
theorem fn121 : E.fn 121 = some ef121 := rfl
theorem fn122 : E.fn 122 = some ef122 := rfl
theorem fn123 : E.fn 123 = some ef123 := rfl
theorem fn124 : E.fn 124 = some ef124 := rfl
theorem fn125 : E.fn 125 = some ef125 := rfl
theorem fn126 : E.fn 126 = some ef126 := rfl
theorem fn127 : E.fn 127 = some ef127 := rfl
theorem fn128 : E.fn 128 = some ef128 := rfl
theorem fn129 : E.fn 129 = some ef129 := rfl
theorem fn130 : E.fn 130 = some ef130 := rfl
theorem fn131 : E.fn 131 = some ef131 := rfl
theorem fn132 : E.fn 132 = some ef132 := rfl
theorem fn133 : E.fn 133 = some ef133 := rfl
theorem fn134 : E.fn 134 = some ef134 := rfl
theorem fn135 : E.fn 135 = some ef135 := rfl
theorem fn136 : E.fn 136 = some ef136 := rfl
theorem fn137 : E.fn 137 = some ef137 := rfl
theorem fn138 : E.fn 138 = some ef138 := rfl
theorem fn139 : E.fn 139 = some ef139 := rfl
theorem fn140 : E.fn 140 = some ef140 := rfl
theorem fn141 : E.fn 141 = some ef141 := rfl
end Go.Abs.U
