--
import Derived.Test.YtmjkdaloalaiiaaDoorAbsJ1
set_option linter.unusedSimpArgs false
set_option linter.unusedVariables false
set_option maxRecDepth 100000
set_option maxHeartbeats 0
namespace Go.Abs.J
open Go Go.Abs
def fns : Nat → Option EFun
 | 3 => some ef3
 | 4 => some ef4
 | 5 => some ef5
 | 6 => some ef6
 | 7 => some ef7
 | 8 => some ef8
 | 9 => some ef9
 | 10 => some ef10
 | 11 => some ef11
 | 12 => some ef12
 | 13 => some ef13
 | 14 => some ef14
 | 15 => some ef15
 | 16 => some ef16
 | 17 => some ef17
 | 18 => some ef18
 | 19 => some ef19
 | 20 => some ef20
 | 21 => some ef21
 | 22 => some ef22
 | 23 => some ef23
 | 24 => some ef24
 | 25 => some ef25
 | 26 => some ef26
 | 27 => some ef27
 | 28 => some ef28
 | 29 => some ef29
 | 30 => some ef30
 | 31 => some ef31
 | 32 => some ef32
 | 33 => some ef33
 | 34 => some ef34
 | 35 => some ef35
 | 36 => some ef36
 | 37 => some ef37
 | 38 => some ef38
 | 39 => some ef39
 | 40 => some ef40
 | 41 => some ef41
 | 42 => some ef42
 | 43 => some ef43
 | 44 => some ef44
 | 45 => some ef45
 | 47 => some ef47
 | 48 => some ef48
 | 49 => some ef49
 | 50 => some ef50
 | 51 => some ef51
 | 52 => some ef52
 | 55 => some ef55
 | 67 => some ef67
 | _ => none
def E : EProg := ⟨fns, glob, 2 ^ 64⟩
theorem fn3 : E.fn 3 = some ef3 := rfl
theorem fn4 : E.fn 4 = some ef4 := rfl
theorem fn5 : E.fn 5 = some ef5 := rfl
theorem fn6 : E.fn 6 = some ef6 := rfl
theorem fn7 : E.fn 7 = some ef7 := rfl
theorem fn8 : E.fn 8 = some ef8 := rfl
theorem fn9 : E.fn 9 = some ef9 := rfl
theorem fn10 : E.fn 10 = some ef10 := rfl
theorem fn11 : E.fn 11 = some ef11 := rfl
theorem fn12 : E.fn 12 = some ef12 := rfl
theorem fn13 : E.fn 13 = some ef13 := rfl
theorem fn14 : E.fn 14 = some ef14 := rfl
theorem fn15 : E.fn 15 = some ef15 := rfl
theorem fn16 : E.fn 16 = some ef16 := rfl
theorem fn17 : E.fn 17 = some ef17 := rfl
theorem fn18 : E.fn 18 = some ef18 := rfl
theorem fn19 : E.fn 19 = some ef19 := rfl
theorem fn20 : E.fn 20 = some ef20 := rfl
theorem fn21 : E.fn 21 = some ef21 := rfl
theorem fn22 : E.fn 22 = some ef22 := rfl
theorem fn23 : E.fn 23 = some ef23 := rfl
theorem fn24 : E.fn 24 = some ef24 := rfl
theorem fn25 : E.fn 25 = some ef25 := rfl
theorem fn26 : E.fn 26 = some ef26 := rfl
theorem fn27 : E.fn 27 = some ef27 := rfl
theorem fn28 : E.fn 28 = some ef28 := rfl
theorem fn29 : E.fn 29 = some ef29 := rfl
theorem fn30 : E.fn 30 = some ef30 := rfl
theorem fn31 : E.fn 31 = some ef31 := rfl
theorem fn32 : E.fn 32 = some ef32 := rfl
theorem fn33 : E.fn 33 = some ef33 := rfl
theorem fn34 : E.fn 34 = some ef34 := rfl
theorem fn35 : E.fn 35 = some ef35 := rfl
theorem fn36 : E.fn 36 = some ef36 := rfl
theorem fn37 : E.fn 37 = some ef37 := rfl
theorem fn38 : E.fn 38 = some ef38 := rfl
theorem fn39 : E.fn 39 = some ef39 := rfl
theorem fn40 : E.fn 40 = some ef40 := rfl
theorem fn41 : E.fn 41 = some ef41 := rfl
theorem fn42 : E.fn 42 = some ef42 := rfl
theorem fn43 : E.fn 43 = some ef43 := rfl
theorem fn44 : E.fn 44 = some ef44 := rfl
theorem fn45 : E.fn 45 = some ef45 := rfl
theorem fn47 : E.fn 47 = some ef47 := rfl
theorem fn48 : E.fn 48 = some ef48 := rfl
theorem fn49 : E.fn 49 = some ef49 := rfl
theorem fn50 : E.fn 50 = some ef50 := rfl
theorem fn51 : E.fn 51 = some ef51 := rfl
theorem fn52 : E.fn 52 = some ef52 := rfl
theorem fn55 : E.fn 55 = some ef55 := rfl
theorem fn67 : E.fn 67 = some ef67 := rfl
end Go.Abs.J
