--
import Derived.Test.YtmjkdaloalaiiaaGreatDoorAbsM1
set_option linter.unusedSimpArgs false
set_option linter.unusedVariables false
set_option maxRecDepth 100000
set_option maxHeartbeats 0
namespace Go.Abs.M
open Go Go.Abs
def fns : Nat → Option EFun
 | 4 => some ef4
 | 5 => some ef5
 | 6 => some ef6
 | 8 => some ef8
 | 9 => some ef9
 | 10 => some ef10
 | 11 => some ef11
 | 12 => some ef12
 | 13 => some ef13
 | 14 => some ef14
 | 15 => some ef15
 | 16 => some ef16
 | 17 => some ef17
 | 18 => some ef18
 | 21 => some ef21
 | 22 => some ef22
 | 23 => some ef23
 | 24 => some ef24
 | 25 => some ef25
 | 26 => some ef26
 | 27 => some ef27
 | 28 => some ef28
 | 29 => some ef29
 | 30 => some ef30
 | 31 => some ef31
 | 32 => some ef32
 | 33 => some ef33
 | 34 => some ef34
 | 35 => some ef35
 | 36 => some ef36
 | 37 => some ef37
 | 38 => some ef38
 | 39 => some ef39
 | 40 => some ef40
 | 41 => some ef41
 | 46 => some ef46
 | 47 => some ef47
 | 48 => some ef48
 | 49 => some ef49
 | 50 => some ef50
 | 51 => some ef51
 | 52 => some ef52
 | 53 => some ef53
 | 54 => some ef54
 | 55 => some ef55
 | 56 => some ef56
 | 57 => some ef57
 | 58 => some ef58
 | 59 => some ef59
 | 60 => some ef60
 | 61 => some ef61
 | 67 => some ef67
 | 68 => some ef68
 | 69 => some ef69
 | 70 => some ef70
 | 71 => some ef71
 | 72 => some ef72
 | 73 => some ef73
 | 74 => some ef74
 | 76 => some ef76
 | 78 => some ef78
 | 90 => some ef90
 | 91 => some ef91
 | 92 => some ef92
 | 93 => some ef93
 | 94 => some ef94
 | 95 => some ef95
 | 96 => some ef96
 | 97 => some ef97
 | 98 => some ef98
 | 99 => some ef99
 | 100 => some ef100
 | 114 => some ef114
 | 115 => some ef115
 | 116 => some ef116
 | 117 => some ef117
 | _ => none
def E : EProg := ⟨fns, glob, 2 ^ 64⟩
theorem fn4 : E.fn 4 = some ef4 := rfl
theorem fn5 : E.fn 5 = some ef5 := rfl
theorem fn6 : E.fn 6 = some ef6 := rfl
theorem fn8 : E.fn 8 = some ef8 := rfl
theorem fn9 : E.fn 9 = some ef9 := rfl
theorem fn10 : E.fn 10 = some ef10 := rfl
theorem fn11 : E.fn 11 = some ef11 := rfl
theorem fn12 : E.fn 12 = some ef12 := rfl
theorem fn13 : E.fn 13 = some ef13 := rfl
theorem fn14 : E.fn 14 = some ef14 := rfl
theorem fn15 : E.fn 15 = some ef15 := rfl
theorem fn16 : E.fn 16 = some ef16 := rfl
theorem fn17 : E.fn 17 = some ef17 := rfl
theorem fn18 : E.fn 18 = some ef18 := rfl
theorem fn21 : E.fn 21 = some ef21 := rfl
theorem fn22 : E.fn 22 = some ef22 := rfl
theorem fn23 : E.fn 23 = some ef23 := rfl
theorem fn24 : E.fn 24 = some ef24 := rfl
theorem fn25 : E.fn 25 = some ef25 := rfl
theorem fn26 : E.fn 26 = some ef26 := rfl
theorem fn27 : E.fn 27 = some ef27 := rfl
theorem fn28 : E.fn 28 = some ef28 := rfl
theorem fn29 : E.fn 29 = some ef29 := rfl
theorem fn30 : E.fn 30 = some ef30 := rfl
theorem fn31 : E.fn 31 = some ef31 := rfl
theorem fn32 : E.fn 32 = some ef32 := rfl
theorem fn33 : E.fn 33 = some ef33 := rfl
theorem fn34 : E.fn 34 = some ef34 := rfl
theorem fn35 : E.fn 35 = some ef35 := rfl
theorem fn36 : E.fn 36 = some ef36 := rfl
theorem fn37 : E.fn 37 = some ef37 := rfl
theorem fn38 : E.fn 38 = some ef38 := rfl
theorem fn39 : E.fn 39 = some ef39 := rfl
theorem fn40 : E.fn 40 = some ef40 := rfl
theorem fn41 : E.fn 41 = some ef41 := rfl
theorem fn46 : E.fn 46 = some ef46 := rfl
theorem fn47 : E.fn 47 = some ef47 := rfl
theorem fn48 : E.fn 48 = some ef48 := rfl
theorem fn49 : E.fn 49 = some ef49 := rfl
theorem fn50 : E.fn 50 = some ef50 := rfl
theorem fn51 : E.fn 51 = some ef51 := rfl
theorem fn52 : E.fn 52 = some ef52 := rfl
theorem fn53 : E.fn 53 = some ef53 := rfl
theorem fn54 : E.fn 54 = some ef54 := rfl
theorem fn55 : E.fn 55 = some ef55 := rfl
theorem fn56 : E.fn 56 = some ef56 := rfl
theorem fn57 : E.fn 57 = some ef57 := rfl
theorem fn58 : E.fn 58 = some ef58 := rfl
theorem fn59 : E.fn 59 = some ef59 := rfl
theorem fn60 : E.fn 60 = some ef60 := rfl
theorem fn61 : E.fn 61 = some ef61 := rfl
theorem fn67 : E.fn 67 = some ef67 := rfl
theorem fn68 : E.fn 68 = some ef68 := rfl
theorem fn69 : E.fn 69 = some ef69 := rfl
theorem fn70 : E.fn 70 = some ef70 := rfl
theorem fn71 : E.fn 71 = some ef71 := rfl
theorem fn72 : E.fn 72 = some ef72 := rfl
theorem fn73 : E.fn 73 = some ef73 := rfl
theorem fn74 : E.fn 74 = some ef74 := rfl
theorem fn76 : E.fn 76 = some ef76 := rfl
theorem fn78 : E.fn 78 = some ef78 := rfl
theorem fn90 : E.fn 90 = some ef90 := rfl
theorem fn91 : E.fn 91 = some ef91 := rfl
theorem fn92 : E.fn 92 = some ef92 := rfl
theorem fn93 : E.fn 93 = some ef93 := rfl
theorem fn94 : E.fn 94 = some ef94 := rfl
theorem fn95 : E.fn 95 = some ef95 := rfl
theorem fn96 : E.fn 96 = some ef96 := rfl
theorem fn97 : E.fn 97 = some ef97 := rfl
theorem fn98 : E.fn 98 = some ef98 := rfl
theorem fn99 : E.fn 99 = some ef99 := rfl
theorem fn100 : E.fn 100 = some ef100 := rfl
theorem fn114 : E.fn 114 = some ef114 := rfl
theorem fn115 : E.fn 115 = some ef115 := rfl
theorem fn116 : E.fn 116 = some ef116 := rfl
theorem fn117 : E.fn 117 = some ef117 := rfl
end Go.Abs.M
