/- The functions, compiled for the abstract evaluator. Written by wip/abs/Print.lean. -/
import Derived.Test.YtinbdefjjfmfoaaDoorAbsT1
import Derived.Test.YtinbdefjjfmfoaaDoorAbsT2
import Derived.Test.YtinbdefjjfmfoaaDoorAbsT3
set_option linter.unusedSimpArgs false
set_option linter.unusedVariables false
set_option maxRecDepth 100000
set_option maxHeartbeats 0
namespace Go.Abs.T
open Go Go.Abs
/-- All functions. -/
def fns : Nat → Option EFun
  | 6 => some ef6
  | 13 => some ef13
  | 14 => some ef14
  | 17 => some ef17
  | 18 => some ef18
  | 19 => some ef19
  | 20 => some ef20
  | 21 => some ef21
  | 22 => some ef22
  | 23 => some ef23
  | 24 => some ef24
  | 26 => some ef26
  | 27 => some ef27
  | 28 => some ef28
  | 31 => some ef31
  | 35 => some ef35
  | 36 => some ef36
  | 37 => some ef37
  | 38 => some ef38
  | 39 => some ef39
  | 40 => some ef40
  | 41 => some ef41
  | 46 => some ef46
  | 48 => some ef48
  | 51 => some ef51
  | 52 => some ef52
  | 57 => some ef57
  | 58 => some ef58
  | 60 => some ef60
  | 62 => some ef62
  | 63 => some ef63
  | 64 => some ef64
  | 65 => some ef65
  | 66 => some ef66
  | 67 => some ef67
  | 68 => some ef68
  | 69 => some ef69
  | 70 => some ef70
  | 76 => some ef76
  | 78 => some ef78
  | 79 => some ef79
  | 80 => some ef80
  | 81 => some ef81
  | 82 => some ef82
  | 83 => some ef83
  | 84 => some ef84
  | 85 => some ef85
  | 86 => some ef86
  | 87 => some ef87
  | 88 => some ef88
  | 89 => some ef89
  | 90 => some ef90
  | 91 => some ef91
  | 92 => some ef92
  | 93 => some ef93
  | 94 => some ef94
  | 96 => some ef96
  | 97 => some ef97
  | 98 => some ef98
  | 99 => some ef99
  | 100 => some ef100
  | 103 => some ef103
  | 104 => some ef104
  | 105 => some ef105
  | 108 => some ef108
  | 109 => some ef109
  | 110 => some ef110
  | 111 => some ef111
  | 112 => some ef112
  | 113 => some ef113
  | 114 => some ef114
  | 115 => some ef115
  | 116 => some ef116
  | 122 => some ef122
  | 124 => some ef124
  | 125 => some ef125
  | 126 => some ef126
  | 127 => some ef127
  | 128 => some ef128
  | 129 => some ef129
  | 130 => some ef130
  | 131 => some ef131
  | 132 => some ef132
  | 133 => some ef133
  | 134 => some ef134
  | 135 => some ef135
  | 136 => some ef136
  | 137 => some ef137
  | 138 => some ef138
  | 139 => some ef139
  | 140 => some ef140
  | 141 => some ef141
  | 142 => some ef142
  | 143 => some ef143
  | 147 => some ef147
  | 148 => some ef148
  | 149 => some ef149
  | 150 => some ef150
  | 151 => some ef151
  | 152 => some ef152
  | 153 => some ef153
  | 154 => some ef154
  | 155 => some ef155
  | _ => none
def E : EProg := ⟨fns, glob, 2 ^ 64⟩
theorem fn6 : E.fn 6 = some ef6 := rfl
theorem fn13 : E.fn 13 = some ef13 := rfl
theorem fn14 : E.fn 14 = some ef14 := rfl
theorem fn17 : E.fn 17 = some ef17 := rfl
theorem fn18 : E.fn 18 = some ef18 := rfl
theorem fn19 : E.fn 19 = some ef19 := rfl
theorem fn20 : E.fn 20 = some ef20 := rfl
theorem fn21 : E.fn 21 = some ef21 := rfl
theorem fn22 : E.fn 22 = some ef22 := rfl
theorem fn23 : E.fn 23 = some ef23 := rfl
theorem fn24 : E.fn 24 = some ef24 := rfl
theorem fn26 : E.fn 26 = some ef26 := rfl
theorem fn27 : E.fn 27 = some ef27 := rfl
theorem fn28 : E.fn 28 = some ef28 := rfl
theorem fn31 : E.fn 31 = some ef31 := rfl
theorem fn35 : E.fn 35 = some ef35 := rfl
theorem fn36 : E.fn 36 = some ef36 := rfl
theorem fn37 : E.fn 37 = some ef37 := rfl
theorem fn38 : E.fn 38 = some ef38 := rfl
theorem fn39 : E.fn 39 = some ef39 := rfl
theorem fn40 : E.fn 40 = some ef40 := rfl
theorem fn41 : E.fn 41 = some ef41 := rfl
theorem fn46 : E.fn 46 = some ef46 := rfl
theorem fn48 : E.fn 48 = some ef48 := rfl
theorem fn51 : E.fn 51 = some ef51 := rfl
theorem fn52 : E.fn 52 = some ef52 := rfl
theorem fn57 : E.fn 57 = some ef57 := rfl
theorem fn58 : E.fn 58 = some ef58 := rfl
theorem fn60 : E.fn 60 = some ef60 := rfl
theorem fn62 : E.fn 62 = some ef62 := rfl
theorem fn63 : E.fn 63 = some ef63 := rfl
theorem fn64 : E.fn 64 = some ef64 := rfl
theorem fn65 : E.fn 65 = some ef65 := rfl
theorem fn66 : E.fn 66 = some ef66 := rfl
theorem fn67 : E.fn 67 = some ef67 := rfl
theorem fn68 : E.fn 68 = some ef68 := rfl
theorem fn69 : E.fn 69 = some ef69 := rfl
theorem fn70 : E.fn 70 = some ef70 := rfl
theorem fn76 : E.fn 76 = some ef76 := rfl
theorem fn78 : E.fn 78 = some ef78 := rfl
theorem fn79 : E.fn 79 = some ef79 := rfl
theorem fn80 : E.fn 80 = some ef80 := rfl
theorem fn81 : E.fn 81 = some ef81 := rfl
theorem fn82 : E.fn 82 = some ef82 := rfl
theorem fn83 : E.fn 83 = some ef83 := rfl
theorem fn84 : E.fn 84 = some ef84 := rfl
theorem fn85 : E.fn 85 = some ef85 := rfl
theorem fn86 : E.fn 86 = some ef86 := rfl
theorem fn87 : E.fn 87 = some ef87 := rfl
theorem fn88 : E.fn 88 = some ef88 := rfl
theorem fn89 : E.fn 89 = some ef89 := rfl
theorem fn90 : E.fn 90 = some ef90 := rfl
theorem fn91 : E.fn 91 = some ef91 := rfl
theorem fn92 : E.fn 92 = some ef92 := rfl
theorem fn93 : E.fn 93 = some ef93 := rfl
theorem fn94 : E.fn 94 = some ef94 := rfl
theorem fn96 : E.fn 96 = some ef96 := rfl
theorem fn97 : E.fn 97 = some ef97 := rfl
theorem fn98 : E.fn 98 = some ef98 := rfl
theorem fn99 : E.fn 99 = some ef99 := rfl
theorem fn100 : E.fn 100 = some ef100 := rfl
theorem fn103 : E.fn 103 = some ef103 := rfl
theorem fn104 : E.fn 104 = some ef104 := rfl
theorem fn105 : E.fn 105 = some ef105 := rfl
theorem fn108 : E.fn 108 = some ef108 := rfl
theorem fn109 : E.fn 109 = some ef109 := rfl
theorem fn110 : E.fn 110 = some ef110 := rfl
theorem fn111 : E.fn 111 = some ef111 := rfl
theorem fn112 : E.fn 112 = some ef112 := rfl
theorem fn113 : E.fn 113 = some ef113 := rfl
theorem fn114 : E.fn 114 = some ef114 := rfl
theorem fn115 : E.fn 115 = some ef115 := rfl
theorem fn116 : E.fn 116 = some ef116 := rfl
theorem fn122 : E.fn 122 = some ef122 := rfl
theorem fn124 : E.fn 124 = some ef124 := rfl
theorem fn125 : E.fn 125 = some ef125 := rfl
theorem fn126 : E.fn 126 = some ef126 := rfl
theorem fn127 : E.fn 127 = some ef127 := rfl
theorem fn128 : E.fn 128 = some ef128 := rfl
theorem fn129 : E.fn 129 = some ef129 := rfl
theorem fn130 : E.fn 130 = some ef130 := rfl
theorem fn131 : E.fn 131 = some ef131 := rfl
theorem fn132 : E.fn 132 = some ef132 := rfl
theorem fn133 : E.fn 133 = some ef133 := rfl
theorem fn134 : E.fn 134 = some ef134 := rfl
theorem fn135 : E.fn 135 = some ef135 := rfl
theorem fn136 : E.fn 136 = some ef136 := rfl
theorem fn137 : E.fn 137 = some ef137 := rfl
theorem fn138 : E.fn 138 = some ef138 := rfl
theorem fn139 : E.fn 139 = some ef139 := rfl
theorem fn140 : E.fn 140 = some ef140 := rfl
theorem fn141 : E.fn 141 = some ef141 := rfl
theorem fn142 : E.fn 142 = some ef142 := rfl
theorem fn143 : E.fn 143 = some ef143 := rfl
theorem fn147 : E.fn 147 = some ef147 := rfl
theorem fn148 : E.fn 148 = some ef148 := rfl
theorem fn149 : E.fn 149 = some ef149 := rfl
theorem fn150 : E.fn 150 = some ef150 := rfl
theorem fn151 : E.fn 151 = some ef151 := rfl
theorem fn152 : E.fn 152 = some ef152 := rfl
theorem fn153 : E.fn 153 = some ef153 := rfl
theorem fn154 : E.fn 154 = some ef154 := rfl
theorem fn155 : E.fn 155 = some ef155 := rfl
end Go.Abs.T
