--
import Derived.Test.YtoloaempiiedgaaDoorAbsR1
import Derived.Test.YtoloaempiiedgaaDoorAbsR2
set_option linter.unusedSimpArgs false
set_option linter.unusedVariables false
set_option maxRecDepth 100000
set_option maxHeartbeats 0
namespace Go.Abs.R
open Go Go.Abs
def fns : Nat → Option EFun
 | 5 => some ef5
 | 7 => some ef7
 | 9 => some ef9
 | 11 => some ef11
 | 12 => some ef12
 | 13 => some ef13
 | 20 => some ef20
 | 21 => some ef21
 | 22 => some ef22
 | 23 => some ef23
 | 24 => some ef24
 | 25 => some ef25
 | 26 => some ef26
 | 27 => some ef27
 | 28 => some ef28
 | 29 => some ef29
 | 33 => some ef33
 | 34 => some ef34
 | 35 => some ef35
 | 36 => some ef36
 | 37 => some ef37
 | 38 => some ef38
 | 39 => some ef39
 | 40 => some ef40
 | 41 => some ef41
 | 42 => some ef42
 | 43 => some ef43
 | 44 => some ef44
 | 45 => some ef45
 | 46 => some ef46
 | 47 => some ef47
 | 48 => some ef48
 | 49 => some ef49
 | 61 => some ef61
 | 62 => some ef62
 | 63 => some ef63
 | 64 => some ef64
 | 65 => some ef65
 | 66 => some ef66
 | 67 => some ef67
 | 68 => some ef68
 | 69 => some ef69
 | 70 => some ef70
 | 71 => some ef71
 | 72 => some ef72
 | 75 => some ef75
 | 76 => some ef76
 | 77 => some ef77
 | 78 => some ef78
 | 79 => some ef79
 | 80 => some ef80
 | 81 => some ef81
 | 93 => some ef93
 | 94 => some ef94
 | 96 => some ef96
 | 97 => some ef97
 | 98 => some ef98
 | 99 => some ef99
 | 100 => some ef100
 | 101 => some ef101
 | 102 => some ef102
 | 103 => some ef103
 | 104 => some ef104
 | 105 => some ef105
 | 106 => some ef106
 | 107 => some ef107
 | 108 => some ef108
 | 109 => some ef109
 | 110 => some ef110
 | 111 => some ef111
 | 112 => some ef112
 | 113 => some ef113
 | 114 => some ef114
 | 115 => some ef115
 | 121 => some ef121
 | 122 => some ef122
 | 123 => some ef123
 | 124 => some ef124
 | 125 => some ef125
 | 126 => some ef126
 | 127 => some ef127
 | 128 => some ef128
 | 130 => some ef130
 | 131 => some ef131
 | 132 => some ef132
 | 133 => some ef133
 | 148 => some ef148
 | _ => none
def E : EProg := ⟨fns, glob, 2 ^ 64⟩
theorem fn5 : E.fn 5 = some ef5 := rfl
theorem fn7 : E.fn 7 = some ef7 := rfl
theorem fn9 : E.fn 9 = some ef9 := rfl
theorem fn11 : E.fn 11 = some ef11 := rfl
theorem fn12 : E.fn 12 = some ef12 := rfl
theorem fn13 : E.fn 13 = some ef13 := rfl
theorem fn20 : E.fn 20 = some ef20 := rfl
theorem fn21 : E.fn 21 = some ef21 := rfl
theorem fn22 : E.fn 22 = some ef22 := rfl
theorem fn23 : E.fn 23 = some ef23 := rfl
theorem fn24 : E.fn 24 = some ef24 := rfl
theorem fn25 : E.fn 25 = some ef25 := rfl
theorem fn26 : E.fn 26 = some ef26 := rfl
theorem fn27 : E.fn 27 = some ef27 := rfl
theorem fn28 : E.fn 28 = some ef28 := rfl
theorem fn29 : E.fn 29 = some ef29 := rfl
theorem fn33 : E.fn 33 = some ef33 := rfl
theorem fn34 : E.fn 34 = some ef34 := rfl
theorem fn35 : E.fn 35 = some ef35 := rfl
theorem fn36 : E.fn 36 = some ef36 := rfl
theorem fn37 : E.fn 37 = some ef37 := rfl
theorem fn38 : E.fn 38 = some ef38 := rfl
theorem fn39 : E.fn 39 = some ef39 := rfl
theorem fn40 : E.fn 40 = some ef40 := rfl
theorem fn41 : E.fn 41 = some ef41 := rfl
theorem fn42 : E.fn 42 = some ef42 := rfl
theorem fn43 : E.fn 43 = some ef43 := rfl
theorem fn44 : E.fn 44 = some ef44 := rfl
theorem fn45 : E.fn 45 = some ef45 := rfl
theorem fn46 : E.fn 46 = some ef46 := rfl
theorem fn47 : E.fn 47 = some ef47 := rfl
theorem fn48 : E.fn 48 = some ef48 := rfl
theorem fn49 : E.fn 49 = some ef49 := rfl
theorem fn61 : E.fn 61 = some ef61 := rfl
theorem fn62 : E.fn 62 = some ef62 := rfl
theorem fn63 : E.fn 63 = some ef63 := rfl
theorem fn64 : E.fn 64 = some ef64 := rfl
theorem fn65 : E.fn 65 = some ef65 := rfl
theorem fn66 : E.fn 66 = some ef66 := rfl
theorem fn67 : E.fn 67 = some ef67 := rfl
theorem fn68 : E.fn 68 = some ef68 := rfl
theorem fn69 : E.fn 69 = some ef69 := rfl
theorem fn70 : E.fn 70 = some ef70 := rfl
theorem fn71 : E.fn 71 = some ef71 := rfl
theorem fn72 : E.fn 72 = some ef72 := rfl
theorem fn75 : E.fn 75 = some ef75 := rfl
theorem fn76 : E.fn 76 = some ef76 := rfl
theorem fn77 : E.fn 77 = some ef77 := rfl
theorem fn78 : E.fn 78 = some ef78 := rfl
theorem fn79 : E.fn 79 = some ef79 := rfl
theorem fn80 : E.fn 80 = some ef80 := rfl
theorem fn81 : E.fn 81 = some ef81 := rfl
theorem fn93 : E.fn 93 = some ef93 := rfl
theorem fn94 : E.fn 94 = some ef94 := rfl
theorem fn96 : E.fn 96 = some ef96 := rfl
theorem fn97 : E.fn 97 = some ef97 := rfl
theorem fn98 : E.fn 98 = some ef98 := rfl
theorem fn99 : E.fn 99 = some ef99 := rfl
theorem fn100 : E.fn 100 = some ef100 := rfl
theorem fn101 : E.fn 101 = some ef101 := rfl
theorem fn102 : E.fn 102 = some ef102 := rfl
theorem fn103 : E.fn 103 = some ef103 := rfl
theorem fn104 : E.fn 104 = some ef104 := rfl
theorem fn105 : E.fn 105 = some ef105 := rfl
theorem fn106 : E.fn 106 = some ef106 := rfl
theorem fn107 : E.fn 107 = some ef107 := rfl
theorem fn108 : E.fn 108 = some ef108 := rfl
theorem fn109 : E.fn 109 = some ef109 := rfl
theorem fn110 : E.fn 110 = some ef110 := rfl
theorem fn111 : E.fn 111 = some ef111 := rfl
theorem fn112 : E.fn 112 = some ef112 := rfl
theorem fn113 : E.fn 113 = some ef113 := rfl
theorem fn114 : E.fn 114 = some ef114 := rfl
theorem fn115 : E.fn 115 = some ef115 := rfl
theorem fn121 : E.fn 121 = some ef121 := rfl
theorem fn122 : E.fn 122 = some ef122 := rfl
theorem fn123 : E.fn 123 = some ef123 := rfl
theorem fn124 : E.fn 124 = some ef124 := rfl
theorem fn125 : E.fn 125 = some ef125 := rfl
theorem fn126 : E.fn 126 = some ef126 := rfl
theorem fn127 : E.fn 127 = some ef127 := rfl
theorem fn128 : E.fn 128 = some ef128 := rfl
theorem fn130 : E.fn 130 = some ef130 := rfl
theorem fn131 : E.fn 131 = some ef131 := rfl
theorem fn132 : E.fn 132 = some ef132 := rfl
theorem fn133 : E.fn 133 = some ef133 := rfl
theorem fn148 : E.fn 148 = some ef148 := rfl
end Go.Abs.R
