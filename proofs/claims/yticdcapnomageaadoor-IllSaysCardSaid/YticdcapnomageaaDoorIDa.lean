/- Part of a proof about this program; no condition of its own. -/
import Derived.Test.YticdcapnomageaaDoorGxD
import Derived.Test.YticdcapnomageaaDoorTXb
set_option linter.all false
/- The data of the chapters on loans between libraries, and what their functions compute, in plain Lean. No condition. -/
namespace Go.Il
open Go Go.Ax Go.Tx
structure Msg where
  frm : Int
  dst : Int
  req : Int
  seq : Int
  kind : Int
  rcd : Int
  day : Int
  note : List UInt8
  deriving DecidableEq
structure Side where
  req : Int
  ptn : Int
  role : Int
  state : Int
  rcd : Int
  due : Int
  heard : Int
  sent : List Msg
  early : List Msg
  deriving DecidableEq
def iD (n : Int) : List D := [.int .i64 n]
def Msg.ds (m : Msg) : List D := [.int .i64 m.frm, .int .i64 m.dst, .int .i64 m.req, .int .i64 m.seq, .int .i64 m.kind, .int .i64 m.rcd, .int .i64 m.day, .str m.note]
def Side.ds (s : Side) : List D := [.int .i64 s.req, .int .i64 s.ptn, .int .i64 s.role, .int .i64 s.state, .int .i64 s.rcd, .int .i64 s.due, .int .i64 s.heard, .lst 8 (s.sent.map Msg.ds), .lst 8 (s.early.map Msg.ds)]
attribute [push_cast] iD Msg.ds Side.ds
def inB (n low high : Int) : Bool := decide (low ≤ n) && decide (n ≤ high)
def msg0 : Msg := ⟨0, 0, 0, 0, 0, 0, 0, []⟩
def side0 : Side := ⟨0, 0, 0, 0, 0, 0, 0, [], []⟩
/-- illmsg.Right. -/
def msgF (m : Msg) : Int :=
  bif !(inB m.frm 1 4 && inB m.dst 1 4) then 2
  else bif decide (m.frm = m.dst) then 1
  else bif !(inB m.req 1 9999 && inB m.seq 1 99) then 2
  else bif !inB m.kind 1 11 then 1
  else bif !(inB m.rcd (if m.kind = 1 then 1 else 0) 9999 && inB m.day 0 109572) then 2
  else bif !noteF m.note then 3
  else bif decide (40 < m.note.length) then 4 else 0
/-- What a kind of messages does. -/
structure Kd where
  role : Int
  sent : List Int
  state : Int
  due : Int
  taken : List Int
def Kd.ds (k : Kd) : List D := [.int .i64 k.role, .lst 1 (k.sent.map iD), .int .i64 k.state, .int .i64 k.due, .lst 1 (k.taken.map iD)]
attribute [push_cast] Kd.ds
def kd0 : Kd := ⟨0, [], 0, 0, []⟩
def kinds : List Kd := [kd0, ⟨1, [], 1, 0, [0]⟩, ⟨2, [1], 2, 0, [1]⟩, ⟨2, [1], 8, 0, [1, 9]⟩, ⟨2, [2], 3, 1, [2, 9]⟩, ⟨1, [3], 4, 0, [3]⟩, ⟨1, [4], 5, 0, [4]⟩, ⟨2, [5], 4, 1, [5]⟩, ⟨2, [4], 0, 2, []⟩, ⟨1, [4], 6, 0, [4]⟩, ⟨2, [6], 7, 0, [6]⟩, ⟨1, [1, 2], 9, 0, [1, 2]⟩]
def ofF (kind : Int) : Kd := if kind < 1 ∨ 12 ≤ kind then kd0 else kinds.getD kind.toNat kd0
def hasF (l : List Int) (n : Int) : Bool := l.any fun x => decide (x = n)
def allowF (role state kind : Int) : Bool := decide ((ofF kind).role = role) && hasF (ofF kind).sent state
/-- Right of a side. -/
def sentL (s : Side) : Int → List Msg → Bool
  | _, [] => true
  | i, m :: r => decide (msgF m = 0 ∧ m.seq = i + 1 ∧ m.dst = s.ptn ∧ m.req = s.req) && sentL s (i + 1) r
def earlyL (s : Side) : Int → List Msg → Bool
  | _, [] => true
  | last, m :: r => decide (msgF m = 0 ∧ (ofF m.kind).role = 3 - s.role ∧ m.kind ≠ 1 ∧ m.frm = s.ptn ∧ m.req = s.req ∧ last < m.seq) && earlyL s m.seq r
def sideF (s : Side) : Int :=
  bif !(inB s.req 1 9999 && inB s.ptn 1 4 && inB s.rcd 0 9999 && inB s.due 0 109572 && inB s.heard 0 99) then 2
  else bif decide (s.role ≠ 2 ∧ s.role ≠ 1) || !inB s.state 0 9 then 1
  else bif decide (s.state = 0 ∧ (s.role ≠ 2 ∨ s.heard ≠ 0)) || decide (s.state ≠ 0 ∧ s.role = 2 ∧ s.heard = 0) then 1
  else bif decide (99 < s.sent.length ∨ 8 < s.early.length) then 13
  else bif !(sentL s 0 s.sent && earlyL s (s.heard + 1) s.early) then 3 else 0
def overF (s : Side) : Bool := decide (s.state = 7) || decide (s.state = 8) || decide (s.state = 9)
def smallF (s : Side) : Bool := decide (s.sent.length ≤ 120) && decide (s.early.length ≤ 20) && s.sent.all (fun m => decide (m.note.length ≤ 100)) && s.early.all fun m => decide (m.note.length ≤ 100)
/-- Ask. -/
def askM (id request partner record day : Int) : Msg := ⟨id, partner, request, 1, 1, record, day, []⟩
def askS (id request partner record day : Int) : Side := ⟨request, partner, 1, 1, record, 0, 0, [askM id request partner record day], []⟩
def askE (id request partner record day : Int) : Int :=
  bif !(inB id 1 4 && inB partner 1 4 && inB request 1 9999 && inB record 1 9999 && inB day 0 109572) then 2 else bif decide (partner = id) then 1 else 0
/-- Say. -/
def becomeF (s : Side) (kind day : Int) : Side :=
  { s with state := if (ofF kind).state ≠ 0 then (ofF kind).state else s.state, due := if (ofF kind).due = 1 then day else if (ofF kind).due = 2 then imin s.due day else s.due }
def sayM (id : Int) (s : Side) (kind day : Int) (note : List UInt8) : Msg := ⟨id, s.ptn, s.req, s.sent.length + 1, kind, s.rcd, day, note⟩
def sayE (id : Int) (s : Side) (kind day : Int) (note : List UInt8) : Int :=
  bif !allowF s.role s.state kind then 12 else bif decide (99 ≤ s.sent.length) then 13 else msgF (sayM id s kind day note)
def sayS (id : Int) (s : Side) (kind day : Int) (note : List UInt8) : Side := { becomeF s kind day with sent := s.sent ++ [sayM id s kind day note] }
/-- Open. -/
def openE (id : Int) (m : Msg) : Int := bif decide (msgF m ≠ 0 ∨ m.dst ≠ id ∨ (ofF m.kind).role ≠ 1) then 1 else 0
def openS (m : Msg) : Side := ⟨m.req, m.frm, 2, 0, 0, 0, 0, [], []⟩
/-- Hear. -/
def takeF (s : Side) (m : Msg) : Side :=
  let t := { s with heard := s.heard + 1 }
  if m.kind = 8 ∨ hasF (ofF m.kind).taken s.state = true then (let u := becomeF t m.kind m.day; if m.kind = 1 then { u with rcd := m.rcd } else u) else t
def fitsF (id : Int) (s : Side) (m : Msg) : Bool :=
  decide (msgF m = 0 ∧ m.dst = id ∧ m.frm = s.ptn ∧ m.req = s.req ∧ (ofF m.kind).role = 3 - s.role) && (decide (s.role = 1) || (decide (m.seq = 1) == decide (m.kind = 1)))
end Go.Il
