/- The shapes of the data of the chapter on rules, and what its functions compute, in plain Lean. No condition. -/
import Derived.Test.YtjaooadhjmlhnaaDoorAxT
set_option linter.all false
namespace Go.Rl
open Go Go.Ax
abbrev Str := List UInt8
abbrev dI (n : Int) : D := .int .i64 n
structure TagRule where
  tag : Str
  rep : Bool
  must : Bool
  codes : Str
  once : Str
  needs : Str
  auth : Int
deriving DecidableEq
structure Sub where
  code : UInt8
  value : Str
deriving DecidableEq
structure Fld where
  tag : Str
  ind : Str
  subs : List Sub
  auth : Int
deriving DecidableEq
structure Problem where
  kind : Int
  index : Int
  tag : Str
  code : UInt8
deriving DecidableEq
abbrev dB (c : UInt8) : D := .int .u8 c.toNat
def TagRule.ds (x : TagRule) : List D := [.str x.tag, .bool x.rep, .bool x.must, .str x.codes, .str x.once, .str x.needs, dI x.auth]
def Sub.ds (x : Sub) : List D := [dB x.code, .str x.value]
def Fld.ds (x : Fld) : List D := [.str x.tag, .str x.ind, .lst 2 (x.subs.map Sub.ds), dI x.auth]
def Problem.ds (x : Problem) : List D := [dI x.kind, dI x.index, .str x.tag, dB x.code]
def noRule : TagRule := ⟨[], false, false, [], [], [], 0⟩
end Go.Rl
