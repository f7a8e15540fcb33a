/- MADE BY PROGRAM (mkE.py): the table of functions. -/
import Derived.Test.YtkmmpbmmmbebgaaAbE0
set_option linter.all false
namespace Go.Ab.Ytkmmpbmmmbebgaa
def E : Nat → Option AF
  | 5 => some af5
  | 8 => some af8
  | 9 => some af9
  | 10 => some af10
  | 11 => some af11
  | 12 => some af12
  | 14 => some af14
  | 16 => some af16
  | 17 => some af17
  | 18 => some af18
  | 19 => some af19
  | 20 => some af20
  | 21 => some af21
  | 22 => some af22
  | 23 => some af23
  | 24 => some af24
  | 26 => some af26
  | 27 => some af27
  | 28 => some af28
  | 29 => some af29
  | 30 => some af30
  | 32 => some af32
  | 35 => some af35
  | 36 => some af36
  | 37 => some af37
  | 38 => some af38
  | 39 => some af39
  | 40 => some af40
  | 41 => some af41
  | 42 => some af42
  | 43 => some af43
  | 46 => some af46
  | 47 => some af47
  | 48 => some af48
  | 49 => some af49
  | 50 => some af50
  | 51 => some af51
  | 52 => some af52
  | 53 => some af53
  | 54 => some af54
  | 55 => some af55
  | 56 => some af56
  | 57 => some af57
  | 60 => some af60
  | 61 => some af61
  | 62 => some af62
  | 63 => some af63
  | 66 => some af66
  | _ => none
end Go.Ab.Ytkmmpbmmmbebgaa
