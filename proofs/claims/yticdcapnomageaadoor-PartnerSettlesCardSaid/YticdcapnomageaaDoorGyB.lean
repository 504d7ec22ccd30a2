/- Part of a proof about this program; no condition of its own. -/
import Derived.Test.YticdcapnomageaaDoorGxD
import Derived.Test.YticdcapnomageaaDoorGyA
import Derived.Test.YticdcapnomageaaDoorTXd
import Derived.Test.YticdcapnomageaaDoorIT
set_option linter.all false
/- The data of the chapters on loans between libraries, and what their functions compute, in plain Lean. No condition. -/
namespace Go.Il
open Go Go.Ax Go.Tx
structure Msg where
  frm : Int
  dst : Int
  req : Int
  seq : Int
  kind : Int
  rcd : Int
  day : Int
  note : List UInt8
  deriving DecidableEq
structure Side where
  req : Int
  ptn : Int
  role : Int
  state : Int
  rcd : Int
  due : Int
  heard : Int
  sent : List Msg
  early : List Msg
  deriving DecidableEq
def iD (n : Int) : List D := [.int .i64 n]
def Msg.ds (m : Msg) : List D := [.int .i64 m.frm, .int .i64 m.dst, .int .i64 m.req, .int .i64 m.seq, .int .i64 m.kind, .int .i64 m.rcd, .int .i64 m.day, .str m.note]
def Side.ds (s : Side) : List D := [.int .i64 s.req, .int .i64 s.ptn, .int .i64 s.role, .int .i64 s.state, .int .i64 s.rcd, .int .i64 s.due, .int .i64 s.heard, .lst 8 (s.sent.map Msg.ds), .lst 8 (s.early.map Msg.ds)]
attribute [push_cast] iD Msg.ds Side.ds
def inB (n low high : Int) : Bool := decide (low ≤ n) && decide (n ≤ high)
def msg0 : Msg := ⟨0, 0, 0, 0, 0, 0, 0, []⟩
def side0 : Side := ⟨0, 0, 0, 0, 0, 0, 0, [], []⟩
/-- illmsg.Right. -/
def msgF (m : Msg) : Int :=
  bif !(inB m.frm 1 4 && inB m.dst 1 4) then 2
  else bif decide (m.frm = m.dst) then 1
  else bif !(inB m.req 1 9999 && inB m.seq 1 99) then 2
  else bif !inB m.kind 1 11 then 1
  else bif !(inB m.rcd (if m.kind = 1 then 1 else 0) 9999 && inB m.day 0 109572) then 2
  else bif !noteF m.note then 3
  else bif decide (40 < m.note.length) then 4 else 0
/-- What a kind of messages does. -/
structure Kd where
  role : Int
  sent : List Int
  state : Int
  due : Int
  taken : List Int
def Kd.ds (k : Kd) : List D := [.int .i64 k.role, .lst 1 (k.sent.map iD), .int .i64 k.state, .int .i64 k.due, .lst 1 (k.taken.map iD)]
attribute [push_cast] Kd.ds
def kd0 : Kd := ⟨0, [], 0, 0, []⟩
def kinds : List Kd := [kd0, ⟨1, [], 1, 0, [0]⟩, ⟨2, [1], 2, 0, [1]⟩, ⟨2, [1], 8, 0, [1, 9]⟩, ⟨2, [2], 3, 1, [2, 9]⟩, ⟨1, [3], 4, 0, [3]⟩, ⟨1, [4], 5, 0, [4]⟩, ⟨2, [5], 4, 1, [5]⟩, ⟨2, [4], 0, 2, []⟩, ⟨1, [4], 6, 0, [4]⟩, ⟨2, [6], 7, 0, [6]⟩, ⟨1, [1, 2], 9, 0, [1, 2]⟩]
def ofF (kind : Int) : Kd := if kind < 1 ∨ 12 ≤ kind then kd0 else kinds.getD kind.toNat kd0
def hasF (l : List Int) (n : Int) : Bool := l.any fun x => decide (x = n)
def allowF (role state kind : Int) : Bool := decide ((ofF kind).role = role) && hasF (ofF kind).sent state
/-- Right of a side. -/
def sentL (s : Side) : Int → List Msg → Bool
  | _, [] => true
  | i, m :: r => decide (msgF m = 0 ∧ m.seq = i + 1 ∧ m.dst = s.ptn ∧ m.req = s.req) && sentL s (i + 1) r
def earlyL (s : Side) : Int → List Msg → Bool
  | _, [] => true
  | last, m :: r => decide (msgF m = 0 ∧ (ofF m.kind).role = 3 - s.role ∧ m.kind ≠ 1 ∧ m.frm = s.ptn ∧ m.req = s.req ∧ last < m.seq) && earlyL s m.seq r
def sideF (s : Side) : Int :=
  bif !(inB s.req 1 9999 && inB s.ptn 1 4 && inB s.rcd 0 9999 && inB s.due 0 109572 && inB s.heard 0 99) then 2
  else bif decide (s.role ≠ 2 ∧ s.role ≠ 1) || !inB s.state 0 9 then 1
  else bif decide (s.state = 0 ∧ (s.role ≠ 2 ∨ s.heard ≠ 0)) || decide (s.state ≠ 0 ∧ s.role = 2 ∧ s.heard = 0) then 1
  else bif decide (99 < s.sent.length ∨ 8 < s.early.length) then 13
  else bif !(sentL s 0 s.sent && earlyL s (s.heard + 1) s.early) then 3 else 0
def overF (s : Side) : Bool := decide (s.state = 7) || decide (s.state = 8) || decide (s.state = 9)
def smallF (s : Side) : Bool := decide (s.sent.length ≤ 120) && decide (s.early.length ≤ 20) && s.sent.all (fun m => decide (m.note.length ≤ 100)) && s.early.all fun m => decide (m.note.length ≤ 100)
/-- Ask. -/
def askM (id request partner record day : Int) : Msg := ⟨id, partner, request, 1, 1, record, day, []⟩
def askS (id request partner record day : Int) : Side := ⟨request, partner, 1, 1, record, 0, 0, [askM id request partner record day], []⟩
def askE (id request partner record day : Int) : Int :=
  bif !(inB id 1 4 && inB partner 1 4 && inB request 1 9999 && inB record 1 9999 && inB day 0 109572) then 2 else bif decide (partner = id) then 1 else 0
/-- Say. -/
def becomeF (s : Side) (kind day : Int) : Side :=
  { s with state := if (ofF kind).state ≠ 0 then (ofF kind).state else s.state, due := if (ofF kind).due = 1 then day else if (ofF kind).due = 2 then imin s.due day else s.due }
def sayM (id : Int) (s : Side) (kind day : Int) (note : List UInt8) : Msg := ⟨id, s.ptn, s.req, s.sent.length + 1, kind, s.rcd, day, note⟩
def sayE (id : Int) (s : Side) (kind day : Int) (note : List UInt8) : Int :=
  bif !allowF s.role s.state kind then 12 else bif decide (99 ≤ s.sent.length) then 13 else msgF (sayM id s kind day note)
def sayS (id : Int) (s : Side) (kind day : Int) (note : List UInt8) : Side := { becomeF s kind day with sent := s.sent ++ [sayM id s kind day note] }
/-- Open. -/
def openE (id : Int) (m : Msg) : Int := bif decide (msgF m ≠ 0 ∨ m.dst ≠ id ∨ (ofF m.kind).role ≠ 1) then 1 else 0
def openS (m : Msg) : Side := ⟨m.req, m.frm, 2, 0, 0, 0, 0, [], []⟩
/-- Hear. -/
def takeF (s : Side) (m : Msg) : Side :=
  let t := { s with heard := s.heard + 1 }
  if m.kind = 8 ∨ hasF (ofF m.kind).taken s.state = true then (let u := becomeF t m.kind m.day; if m.kind = 1 then { u with rcd := m.rcd } else u) else t
def fitsF (id : Int) (s : Side) (m : Msg) : Bool :=
  decide (msgF m = 0 ∧ m.dst = id ∧ m.frm = s.ptn ∧ m.req = s.req ∧ (ofF m.kind).role = 3 - s.role) && (decide (s.role = 1) || (decide (m.seq = 1) == decide (m.kind = 1)))
end Go.Il

/- Walks of the chapters on loans between libraries, first part: texts. -/
namespace Go.Proofs
open Go Go.Ax Go.Tx Go.Lib Go.Il Go.RowKit
set_option maxRecDepth 100000
def Γ0 : List (Nat × List D) := [(1, firstD), (2, acceptD), (0, (kinds.map Kd.ds).flatten)]
theorem c120 (s : List UInt8) (hs : s.length ≤ 1000000) : AFn Tryd.prog Γ0 120 [.c (.d (.str s))] [.d (.bool (validD s))] :=
  AFn.validString Tryd.lays196 (by simp [Γ0, Tryd.lays196_ren]) (by simp [Γ0, Tryd.lays196_ren]) s (by omega)
theorem c113 (s : List UInt8) (hs : s.length ≤ 1000000) : AFn Tryd.prog Γ0 113 [.c (.d (.str s))] [.d (.bool (validF s))] := by
  refine AFn.ofFlat ⟨⟨_, Tryd.func113, by kernel_rfl, by kernel_rfl⟩⟩ fun V w vals hv ha => ?_
  cases ha with | cons a1 a2 =>
  cases a2
  have hT : Utf8Tabs (Tryd.lays196_ren.g 3) (Tryd.lays196_ren.g 4) w :=
    ⟨fun c hc => glob_cell hv (ds := firstD) (by simp [Γ0, Tryd.lays196_ren]) (by simp [firstD, hc]), fun i hi => ⟨glob_cell hv (ds := acceptD) (by simp [Γ0, Tryd.lays196_ren]) (acceptD_at i hi).1, glob_cell hv (ds := acceptD) (by simp [Γ0, Tryd.lays196_ren]) (acceptD_at i hi).2⟩⟩
  rw [ar_str a1]
  have hsz : (⟨s.toArray⟩ : ByteArray).size = s.length := rfl
  refine (textValid_calls ⟨s.toArray⟩ w (by rw [hsz]; omega) hT).mono fun e w' ⟨he, hb⟩ => ⟨_, he, ?_, hb⟩
  rw [show (⟨s.toArray⟩ : ByteArray).data.toList = s by simp, valid_same s.length s (Nat.le_refl _)]
  exact .bool _
theorem gives123 (W : World) (x : Nat) (hx : x ≤ 1114111) : FnGives Tryd.prog 123 #[] #[encR x] (.bool (blankR x)) W := by
  show Calls Tryd.prog 123 #[.int .i32 (x : Int)] W _
  go_enter Tryd.func123, Tryd.ntmps123
  go_wp2
  all_goals go_ret
  · next h =>
    have : x = 32 := by omega
    subst this
    exact ⟨rfl, 0, rfl⟩
  · next h =>
    refine ⟨?_, 0, rfl⟩
    have h1 : ((x : Int) == 32) = decide (x = 32) := by rw [Bool.eq_iff_iff]; simp; omega
    have h2 : ((x : Int) == 160) = decide (x = 160) := by rw [Bool.eq_iff_iff]; simp; omega
    show Ending.returned (.bool ((x : Int) == 32 || (x : Int) == 160)) = _
    rw [h1, h2]; rfl
theorem ArgOk.clo0 {pm : Pm} {h : List LB} {f : FuncId} : ArgOk pm h (.c (.clo f [])) (.c (.clo f [])) := fun cx G w v _ _ hv => by
  obtain ⟨bs, rfl, hbs⟩ := hv
  cases hbs
  exact ⟨[], rfl, .nil⟩
theorem c122 (s : List UInt8) (hs : s.length ≤ 1000000) : AFn Tryd.prog Γ0 122 [.c (.d (.str s)), .c (.clo 123 [])] [.fresh 9 1 (((goFieldsP blankR ⟨s.toArray⟩).map (·.data.toList)).map fun x => [.str x])] :=
  AFn.fieldsFunc Tryd.lays229 123 blankR (fun args w => run_callFunc ⟨⟨_, Tryd.func123, by kernel_rfl, by kernel_rfl⟩⟩ args w) gives123 (by kernel_rfl) (by kernel_rfl) s (by omega)
theorem bextra : Builder.Extra Tryd.prog Tryd.lays156_ren := {
  sizeBuilder := by kernel_rfl
  liesBuilder := by kernel_rfl
  t5 := Tryd.underlying5
  a5 := Tryd.isAgg5
  z5 := Tryd.sizeOf5
  v5 := Tryd.zeroValue5
  infoByte := by kernel_rfl
  cellsByte := by kernel_rfl
  sizeByte := by kernel_rfl
  neB5 := by decide }
theorem c121 (xs : List (List UInt8)) (sep : List UInt8) (hN : xs.length ≤ 140737488355328) (hlen : (join xs sep).length ≤ 140737488355328) :
    AFn Tryd.prog Γ0 121 [.c (.bor 1 (xs.map fun x => [.str x])), .c (.d (.str sep))] [.d (.str (join xs sep))] := AFn.join Tryd.lays156 bextra xs sep hN hlen
theorem spans_len (p : Nat → Bool) (s : ByteArray) : ∀ (f pos : Nat) (st : Option Nat) (acc : List (Nat × Nat)), (spansFromP p s f pos st acc).1.length ≤ acc.length + f
  | 0, _, _, acc => by simp [spansFromP]
  | f + 1, pos, st, acc => by
    unfold spansFromP
    split
    · split
      · cases st with
        | none => have := spans_len p s f (pos + (Utf8.decode s pos).2) none acc; simp only; omega
        | some a => have := spans_len p s f (pos + (Utf8.decode s pos).2) none (acc ++ [(a, pos)]); rw [List.length_append] at this; simp only at this ⊢; simp only [List.length_cons, List.length_nil] at this; omega
      · cases st with
        | none => have := spans_len p s f (pos + (Utf8.decode s pos).2) (some pos) acc; simp only; omega
        | some a => have := spans_len p s f (pos + (Utf8.decode s pos).2) (some a) acc; simp only; omega
    · simp
theorem fields_len (p : Nat → Bool) (s : List UInt8) : (goFieldsP p ⟨s.toArray⟩).length ≤ s.length + 1 := by
  unfold goFieldsP spansOfP closeSpans
  rw [List.length_map]
  have := spans_len p ⟨s.toArray⟩ s.length 0 none []
  have hsz : (⟨s.toArray⟩ : ByteArray).size = s.length := rfl
  rw [hsz]
  simp only [List.length_nil] at this
  split
  · rw [List.length_append]; simp only [List.length_cons, List.length_nil]; omega
  · omega
theorem cleanG_len : ∀ (f : Nat) (l : List UInt8) (st : List UInt8 × Bool), (cleanG f l st).length ≤ st.1.length + 2 * l.length
  | 0, _, st => by simp [cleanG]
  | f + 1, l, st => by
    unfold cleanG
    split
    · omega
    · next hne =>
      have hl : 1 ≤ l.length := List.length_pos_iff.2 hne
      have h1 := cleanG_len f (l.drop (max (decF l).2 1)) (cleanStep st (decF l).1 (l.take (max (decF l).2 1)))
      have h2 : (cleanStep st (decF l).1 (l.take (max (decF l).2 1))).1.length ≤ st.1.length + 1 + min (max (decF l).2 1) l.length := by
        unfold cleanStep
        split
        · simp only; omega
        · simp only [List.length_append, List.length_take]; split <;> simp <;> omega
      rw [List.length_drop] at h1
      omega
theorem c114 (s : List UInt8) (hs : s.length ≤ 1000000) (hv : validF s = true) : AFn Tryd.prog Γ0 114 [.c (.d (.str s))] [.d (.str (cleanP s))] := by
  refine AFn.vc [] Tryd.func114 rfl Tryd.mixed (by kernel_rfl) Tryd.ntmps114 Tryd.results114 (by simp) ?_
  push_cast
  refine CallL.own (c122 s hs) ?_ (.cons ArgOk.d (.cons ArgOk.clo0 .nil))
  push_cast
  have h1 := fields_len blankR s
  have h2 := cleanG_len s.length s ([], false)
  refine CallL.q (c121 ((goFieldsP blankR ⟨s.toArray⟩).map (·.data.toList)) [32] (by rw [List.length_map]; omega) ?_) ?_
  · show (cleanP s).length ≤ _
    rw [clean_same s hv]
    unfold cleanF
    simp only [List.length_nil] at h2
    omega
  push_cast
  rfl
end Go.Proofs

/- Walks of the chapters on loans between libraries, second part: the reference's characters. -/
namespace Go.Proofs
open Go Go.Ax Go.Tx Go.Il
set_option maxRecDepth 100000
variable {Γ : List (Nat × List D)}
theorem c118 (c : Nat) : AFn Tryd.prog Γ 118 [.c (.d (.int .i64 c))] [.d (.bool (blankR c))] := by
  refine AFn.vc [] Tryd.func118 rfl Tryd.mixed (by kernel_rfl) Tryd.ntmps118 Tryd.results118 (by simp) ?_
  push_cast
  unfold blankR
  refine ⟨fun h => ?_, fun h => ?_⟩
  · rw [decide_eq_false (by omega : ¬ c = 32), Bool.false_or]
    exact decide_eq_decide.2 (by omega)
  · rw [decide_eq_true (by omega : c = 32)]; rfl
theorem c116_p0 (s : List UInt8) (i b c : Nat) (hi : i < s.length) (hs : s.length ≤ 1000000) (ha : s[i].toNat < 256) (hb : b < 256) (hc : c < 256) (eb : ∀ (z : Nat) (hz : z = i + 1) (h : z < s.length), s[z].toNat = b) (ec : ∀ (z : Nat) (hz : z = i + 2) (h : z < s.length), s[z].toNat = c) (p : 32 ≤ s[i].toNat ∧ s[i].toNat < 127) : AFn Tryd.prog Γ 116 [.c (.d (.str s)), .c (.d (.int .i64 i))] [.d (.int .i64 (dec3 s[i].toNat b c (s.length - i)).1), .d (.int .i64 (dec3 s[i].toNat b c (s.length - i)).2)] := by
  have hA1 : (32 ≤ (s[i].toNat : Int)) = True := eq_true (by omega)
  have hA2 : ((s[i].toNat : Int) < 127) = True := eq_true (by omega)
  have e : dec3 s[i].toNat b c (s.length - i) = (s[i].toNat, 1) := by unfold dec3; rw [if_pos (by omega)]
  rw [e]
  clear e
  refine AFn.vc [] Tryd.func116 rfl Tryd.mixed (by kernel_rfl) Tryd.ntmps116 Tryd.results116 (by simp) ?_
  push_cast [hA1, hA2]
  repeat' (first | apply And.intro | intro _ | refine Exists.intro (by omega) ?_)
  all_goals first | omega | rfl
theorem c116_p1 (s : List UInt8) (i b c : Nat) (hi : i < s.length) (hs : s.length ≤ 1000000) (ha : s[i].toNat < 256) (hb : b < 256) (hc : c < 256) (eb : ∀ (z : Nat) (hz : z = i + 1) (h : z < s.length), s[z].toNat = b) (ec : ∀ (z : Nat) (hz : z = i + 2) (h : z < s.length), s[z].toNat = c) (p : s[i].toNat < 32) : AFn Tryd.prog Γ 116 [.c (.d (.str s)), .c (.d (.int .i64 i))] [.d (.int .i64 (dec3 s[i].toNat b c (s.length - i)).1), .d (.int .i64 (dec3 s[i].toNat b c (s.length - i)).2)] := by
  have hA1 : (32 ≤ (s[i].toNat : Int)) = False := eq_false (by omega)
  have hB1 : (194 ≤ (s[i].toNat : Int)) = False := eq_false (by omega)
  have hC1 : (224 ≤ (s[i].toNat : Int)) = False := eq_false (by omega)
  have e : dec3 s[i].toNat b c (s.length - i) = (0, 0) := by unfold dec3; rw [if_neg (by omega), if_neg (by omega), if_neg (by omega)]
  rw [e]
  clear e
  refine AFn.vc [] Tryd.func116 rfl Tryd.mixed (by kernel_rfl) Tryd.ntmps116 Tryd.results116 (by simp) ?_
  push_cast [hA1, hB1, hC1]
  repeat' (first | apply And.intro | intro _ | refine Exists.intro (by omega) ?_)
  all_goals first | omega | rfl
theorem c116_p2 (s : List UInt8) (i b c : Nat) (hi : i < s.length) (hs : s.length ≤ 1000000) (ha : s[i].toNat < 256) (hb : b < 256) (hc : c < 256) (eb : ∀ (z : Nat) (hz : z = i + 1) (h : z < s.length), s[z].toNat = b) (ec : ∀ (z : Nat) (hz : z = i + 2) (h : z < s.length), s[z].toNat = c) (p : 127 ≤ s[i].toNat ∧ s[i].toNat < 194) : AFn Tryd.prog Γ 116 [.c (.d (.str s)), .c (.d (.int .i64 i))] [.d (.int .i64 (dec3 s[i].toNat b c (s.length - i)).1), .d (.int .i64 (dec3 s[i].toNat b c (s.length - i)).2)] := by
  have hA1 : (32 ≤ (s[i].toNat : Int)) = True := eq_true (by omega)
  have hA2 : ((s[i].toNat : Int) < 127) = False := eq_false (by omega)
  have hB1 : (194 ≤ (s[i].toNat : Int)) = False := eq_false (by omega)
  have hC1 : (224 ≤ (s[i].toNat : Int)) = False := eq_false (by omega)
  have e : dec3 s[i].toNat b c (s.length - i) = (0, 0) := by unfold dec3; rw [if_neg (by omega), if_neg (by omega), if_neg (by omega)]
  rw [e]
  clear e
  refine AFn.vc [] Tryd.func116 rfl Tryd.mixed (by kernel_rfl) Tryd.ntmps116 Tryd.results116 (by simp) ?_
  push_cast [hA1, hA2, hB1, hC1]
  repeat' (first | apply And.intro | intro _ | refine Exists.intro (by omega) ?_)
  all_goals first | omega | rfl
theorem c116_p3 (s : List UInt8) (i b c : Nat) (hi : i < s.length) (hs : s.length ≤ 1000000) (ha : s[i].toNat < 256) (hb : b < 256) (hc : c < 256) (eb : ∀ (z : Nat) (hz : z = i + 1) (h : z < s.length), s[z].toNat = b) (ec : ∀ (z : Nat) (hz : z = i + 2) (h : z < s.length), s[z].toNat = c) (p : 194 ≤ s[i].toNat ∧ s[i].toNat < 224 ∧ ¬ i + 1 < s.length) : AFn Tryd.prog Γ 116 [.c (.d (.str s)), .c (.d (.int .i64 i))] [.d (.int .i64 (dec3 s[i].toNat b c (s.length - i)).1), .d (.int .i64 (dec3 s[i].toNat b c (s.length - i)).2)] := by
  have hA1 : (32 ≤ (s[i].toNat : Int)) = True := eq_true (by omega)
  have hA2 : ((s[i].toNat : Int) < 127) = False := eq_false (by omega)
  have hB1 : (194 ≤ (s[i].toNat : Int)) = True := eq_true (by omega)
  have hB2 : ((s[i].toNat : Int) < 224) = True := eq_true (by omega)
  have hB3 : ((i : Int) + 1 < (s.length : Int)) = False := eq_false (by omega)
  have hC1 : (224 ≤ (s[i].toNat : Int)) = False := eq_false (by omega)
  have e : dec3 s[i].toNat b c (s.length - i) = (0, 0) := by unfold dec3; rw [if_neg (by omega), if_neg (by omega), if_neg (by omega)]
  rw [e]
  clear e
  refine AFn.vc [] Tryd.func116 rfl Tryd.mixed (by kernel_rfl) Tryd.ntmps116 Tryd.results116 (by simp) ?_
  push_cast [hA1, hA2, hB1, hB2, hB3, hC1]
  repeat' (first | apply And.intro | intro _ | refine Exists.intro (by omega) ?_)
  all_goals first | omega | rfl
theorem c116_p4 (s : List UInt8) (i b c : Nat) (hi : i < s.length) (hs : s.length ≤ 1000000) (ha : s[i].toNat < 256) (hb : b < 256) (hc : c < 256) (eb : ∀ (z : Nat) (hz : z = i + 1) (h : z < s.length), s[z].toNat = b) (ec : ∀ (z : Nat) (hz : z = i + 2) (h : z < s.length), s[z].toNat = c) (p : 194 ≤ s[i].toNat ∧ s[i].toNat < 224 ∧ i + 1 < s.length ∧ b < 128) : AFn Tryd.prog Γ 116 [.c (.d (.str s)), .c (.d (.int .i64 i))] [.d (.int .i64 (dec3 s[i].toNat b c (s.length - i)).1), .d (.int .i64 (dec3 s[i].toNat b c (s.length - i)).2)] := by
  have hA1 : (32 ≤ (s[i].toNat : Int)) = True := eq_true (by omega)
  have hA2 : ((s[i].toNat : Int) < 127) = False := eq_false (by omega)
  have hB1 : (194 ≤ (s[i].toNat : Int)) = True := eq_true (by omega)
  have hB2 : ((s[i].toNat : Int) < 224) = True := eq_true (by omega)
  have hB3 : ((i : Int) + 1 < (s.length : Int)) = True := eq_true (by omega)
  have hB4 : ∀ h, (128 ≤ ((s[((i : Int) + 1).toNat]'h).toNat : Int)) = False := fun h => by have := eb _ (by omega) h; exact eq_false (by omega)
  have hC1 : (224 ≤ (s[i].toNat : Int)) = False := eq_false (by omega)
  have e : dec3 s[i].toNat b c (s.length - i) = (0, 0) := by unfold dec3; rw [if_neg (by omega), if_neg (by omega), if_neg (by omega)]
  rw [e]
  clear e
  refine AFn.vc [] Tryd.func116 rfl Tryd.mixed (by kernel_rfl) Tryd.ntmps116 Tryd.results116 (by simp) ?_
  push_cast [hA1, hA2, hB1, hB2, hB3, hB4, hC1]
  repeat' (first | apply And.intro | intro _ | refine Exists.intro (by omega) ?_)
  all_goals first | omega | rfl
theorem c116_p5 (s : List UInt8) (i b c : Nat) (hi : i < s.length) (hs : s.length ≤ 1000000) (ha : s[i].toNat < 256) (hb : b < 256) (hc : c < 256) (eb : ∀ (z : Nat) (hz : z = i + 1) (h : z < s.length), s[z].toNat = b) (ec : ∀ (z : Nat) (hz : z = i + 2) (h : z < s.length), s[z].toNat = c) (p : 194 ≤ s[i].toNat ∧ s[i].toNat < 224 ∧ i + 1 < s.length ∧ 192 ≤ b) : AFn Tryd.prog Γ 116 [.c (.d (.str s)), .c (.d (.int .i64 i))] [.d (.int .i64 (dec3 s[i].toNat b c (s.length - i)).1), .d (.int .i64 (dec3 s[i].toNat b c (s.length - i)).2)] := by
  have hA1 : (32 ≤ (s[i].toNat : Int)) = True := eq_true (by omega)
  have hA2 : ((s[i].toNat : Int) < 127) = False := eq_false (by omega)
  have hB1 : (194 ≤ (s[i].toNat : Int)) = True := eq_true (by omega)
  have hB2 : ((s[i].toNat : Int) < 224) = True := eq_true (by omega)
  have hB3 : ((i : Int) + 1 < (s.length : Int)) = True := eq_true (by omega)
  have hB4 : ∀ h, (128 ≤ ((s[((i : Int) + 1).toNat]'h).toNat : Int)) = True := fun h => by have := eb _ (by omega) h; exact eq_true (by omega)
  have hB5 : ∀ h, (((s[((i : Int) + 1).toNat]'h).toNat : Int) < 192) = False := fun h => by have := eb _ (by omega) h; exact eq_false (by omega)
  have hC1 : (224 ≤ (s[i].toNat : Int)) = False := eq_false (by omega)
  have e : dec3 s[i].toNat b c (s.length - i) = (0, 0) := by unfold dec3; rw [if_neg (by omega), if_neg (by omega), if_neg (by omega)]
  rw [e]
  clear e
  refine AFn.vc [] Tryd.func116 rfl Tryd.mixed (by kernel_rfl) Tryd.ntmps116 Tryd.results116 (by simp) ?_
  push_cast [hA1, hA2, hB1, hB2, hB3, hB4, hB5, hC1]
  repeat' (first | apply And.intro | intro _ | refine Exists.intro (by omega) ?_)
  all_goals first | omega | rfl
theorem c116_p6 (s : List UInt8) (i b c : Nat) (hi : i < s.length) (hs : s.length ≤ 1000000) (ha : s[i].toNat < 256) (hb : b < 256) (hc : c < 256) (eb : ∀ (z : Nat) (hz : z = i + 1) (h : z < s.length), s[z].toNat = b) (ec : ∀ (z : Nat) (hz : z = i + 2) (h : z < s.length), s[z].toNat = c) (p : 194 ≤ s[i].toNat ∧ s[i].toNat < 224 ∧ i + 1 < s.length ∧ 128 ≤ b ∧ b < 192) : AFn Tryd.prog Γ 116 [.c (.d (.str s)), .c (.d (.int .i64 i))] [.d (.int .i64 (dec3 s[i].toNat b c (s.length - i)).1), .d (.int .i64 (dec3 s[i].toNat b c (s.length - i)).2)] := by
  have hA1 : (32 ≤ (s[i].toNat : Int)) = True := eq_true (by omega)
  have hA2 : ((s[i].toNat : Int) < 127) = False := eq_false (by omega)
  have hB1 : (194 ≤ (s[i].toNat : Int)) = True := eq_true (by omega)
  have hB2 : ((s[i].toNat : Int) < 224) = True := eq_true (by omega)
  have hB3 : ((i : Int) + 1 < (s.length : Int)) = True := eq_true (by omega)
  have hB4 : ∀ h, (128 ≤ ((s[((i : Int) + 1).toNat]'h).toNat : Int)) = True := fun h => by have := eb _ (by omega) h; exact eq_true (by omega)
  have hB5 : ∀ h, (((s[((i : Int) + 1).toNat]'h).toNat : Int) < 192) = True := fun h => by have := eb _ (by omega) h; exact eq_true (by omega)
  have e : dec3 s[i].toNat b c (s.length - i) = if 160 ≤ (s[i].toNat - 192) * 64 + (b - 128) then ((s[i].toNat - 192) * 64 + (b - 128), 2) else (0, 0) := by unfold dec3; rw [if_neg (by omega), if_pos (by omega)]
  rw [e]
  clear e
  refine AFn.vc [] Tryd.func116 rfl Tryd.mixed (by kernel_rfl) Tryd.ntmps116 Tryd.results116 (by simp) ?_
  push_cast [hA1, hA2, hB1, hB2, hB3, hB4, hB5]
  have fb : ∀ h : ((i : Int) + 1).toNat < s.length, (s[((i : Int) + 1).toNat]'h).toNat = b := fun h => eb _ (by omega) h
  have fc : ∀ h : ((i : Int) + 2).toNat < s.length, (s[((i : Int) + 2).toNat]'h).toNat = c := fun h => ec _ (by omega) h
  simp only [fb, fc]
  clear fb fc eb ec hA1 hA2 hB1 hB2 hB4 hB5
  repeat' (first | apply And.intro | intro _ | refine Exists.intro (by omega) ?_)
  all_goals first
    | omega
    | (rw [if_pos (by omega)]; simp only; omega)
    | (rw [if_neg (by omega)]; rfl)
theorem c116_p7 (s : List UInt8) (i b c : Nat) (hi : i < s.length) (hs : s.length ≤ 1000000) (ha : s[i].toNat < 256) (hb : b < 256) (hc : c < 256) (eb : ∀ (z : Nat) (hz : z = i + 1) (h : z < s.length), s[z].toNat = b) (ec : ∀ (z : Nat) (hz : z = i + 2) (h : z < s.length), s[z].toNat = c) (p : 240 ≤ s[i].toNat) : AFn Tryd.prog Γ 116 [.c (.d (.str s)), .c (.d (.int .i64 i))] [.d (.int .i64 (dec3 s[i].toNat b c (s.length - i)).1), .d (.int .i64 (dec3 s[i].toNat b c (s.length - i)).2)] := by
  have hA1 : (32 ≤ (s[i].toNat : Int)) = True := eq_true (by omega)
  have hA2 : ((s[i].toNat : Int) < 127) = False := eq_false (by omega)
  have hB1 : (194 ≤ (s[i].toNat : Int)) = True := eq_true (by omega)
  have hB2 : ((s[i].toNat : Int) < 224) = False := eq_false (by omega)
  have hC1 : (224 ≤ (s[i].toNat : Int)) = True := eq_true (by omega)
  have hC2 : ((s[i].toNat : Int) < 240) = False := eq_false (by omega)
  have e : dec3 s[i].toNat b c (s.length - i) = (0, 0) := by unfold dec3; rw [if_neg (by omega), if_neg (by omega), if_neg (by omega)]
  rw [e]
  clear e
  refine AFn.vc [] Tryd.func116 rfl Tryd.mixed (by kernel_rfl) Tryd.ntmps116 Tryd.results116 (by simp) ?_
  push_cast [hA1, hA2, hB1, hB2, hC1, hC2]
  repeat' (first | apply And.intro | intro _ | refine Exists.intro (by omega) ?_)
  all_goals first | omega | rfl
theorem c116_p8 (s : List UInt8) (i b c : Nat) (hi : i < s.length) (hs : s.length ≤ 1000000) (ha : s[i].toNat < 256) (hb : b < 256) (hc : c < 256) (eb : ∀ (z : Nat) (hz : z = i + 1) (h : z < s.length), s[z].toNat = b) (ec : ∀ (z : Nat) (hz : z = i + 2) (h : z < s.length), s[z].toNat = c) (p : 224 ≤ s[i].toNat ∧ s[i].toNat < 240 ∧ ¬ i + 2 < s.length) : AFn Tryd.prog Γ 116 [.c (.d (.str s)), .c (.d (.int .i64 i))] [.d (.int .i64 (dec3 s[i].toNat b c (s.length - i)).1), .d (.int .i64 (dec3 s[i].toNat b c (s.length - i)).2)] := by
  have hA1 : (32 ≤ (s[i].toNat : Int)) = True := eq_true (by omega)
  have hA2 : ((s[i].toNat : Int) < 127) = False := eq_false (by omega)
  have hB1 : (194 ≤ (s[i].toNat : Int)) = True := eq_true (by omega)
  have hB2 : ((s[i].toNat : Int) < 224) = False := eq_false (by omega)
  have hC1 : (224 ≤ (s[i].toNat : Int)) = True := eq_true (by omega)
  have hC2 : ((s[i].toNat : Int) < 240) = True := eq_true (by omega)
  have hC3 : ((i : Int) + 2 < (s.length : Int)) = False := eq_false (by omega)
  have e : dec3 s[i].toNat b c (s.length - i) = (0, 0) := by unfold dec3; rw [if_neg (by omega), if_neg (by omega), if_neg (by omega)]
  rw [e]
  clear e
  refine AFn.vc [] Tryd.func116 rfl Tryd.mixed (by kernel_rfl) Tryd.ntmps116 Tryd.results116 (by simp) ?_
  push_cast [hA1, hA2, hB1, hB2, hC1, hC2, hC3]
  repeat' (first | apply And.intro | intro _ | refine Exists.intro (by omega) ?_)
  all_goals first | omega | rfl
theorem c116_p9 (s : List UInt8) (i b c : Nat) (hi : i < s.length) (hs : s.length ≤ 1000000) (ha : s[i].toNat < 256) (hb : b < 256) (hc : c < 256) (eb : ∀ (z : Nat) (hz : z = i + 1) (h : z < s.length), s[z].toNat = b) (ec : ∀ (z : Nat) (hz : z = i + 2) (h : z < s.length), s[z].toNat = c) (p : 224 ≤ s[i].toNat ∧ s[i].toNat < 240 ∧ i + 2 < s.length ∧ b < 128) : AFn Tryd.prog Γ 116 [.c (.d (.str s)), .c (.d (.int .i64 i))] [.d (.int .i64 (dec3 s[i].toNat b c (s.length - i)).1), .d (.int .i64 (dec3 s[i].toNat b c (s.length - i)).2)] := by
  have hA1 : (32 ≤ (s[i].toNat : Int)) = True := eq_true (by omega)
  have hA2 : ((s[i].toNat : Int) < 127) = False := eq_false (by omega)
  have hB1 : (194 ≤ (s[i].toNat : Int)) = True := eq_true (by omega)
  have hB2 : ((s[i].toNat : Int) < 224) = False := eq_false (by omega)
  have hC1 : (224 ≤ (s[i].toNat : Int)) = True := eq_true (by omega)
  have hC2 : ((s[i].toNat : Int) < 240) = True := eq_true (by omega)
  have hC3 : ((i : Int) + 2 < (s.length : Int)) = True := eq_true (by omega)
  have hB4 : ∀ h, (128 ≤ ((s[((i : Int) + 1).toNat]'h).toNat : Int)) = False := fun h => by have := eb _ (by omega) h; exact eq_false (by omega)
  have e : dec3 s[i].toNat b c (s.length - i) = (0, 0) := by unfold dec3; rw [if_neg (by omega), if_neg (by omega), if_neg (by omega)]
  rw [e]
  clear e
  refine AFn.vc [] Tryd.func116 rfl Tryd.mixed (by kernel_rfl) Tryd.ntmps116 Tryd.results116 (by simp) ?_
  push_cast [hA1, hA2, hB1, hB2, hC1, hC2, hC3, hB4]
  repeat' (first | apply And.intro | intro _ | refine Exists.intro (by omega) ?_)
  all_goals first | omega | rfl
theorem c116_p10 (s : List UInt8) (i b c : Nat) (hi : i < s.length) (hs : s.length ≤ 1000000) (ha : s[i].toNat < 256) (hb : b < 256) (hc : c < 256) (eb : ∀ (z : Nat) (hz : z = i + 1) (h : z < s.length), s[z].toNat = b) (ec : ∀ (z : Nat) (hz : z = i + 2) (h : z < s.length), s[z].toNat = c) (p : 224 ≤ s[i].toNat ∧ s[i].toNat < 240 ∧ i + 2 < s.length ∧ 192 ≤ b) : AFn Tryd.prog Γ 116 [.c (.d (.str s)), .c (.d (.int .i64 i))] [.d (.int .i64 (dec3 s[i].toNat b c (s.length - i)).1), .d (.int .i64 (dec3 s[i].toNat b c (s.length - i)).2)] := by
  have hA1 : (32 ≤ (s[i].toNat : Int)) = True := eq_true (by omega)
  have hA2 : ((s[i].toNat : Int) < 127) = False := eq_false (by omega)
  have hB1 : (194 ≤ (s[i].toNat : Int)) = True := eq_true (by omega)
  have hB2 : ((s[i].toNat : Int) < 224) = False := eq_false (by omega)
  have hC1 : (224 ≤ (s[i].toNat : Int)) = True := eq_true (by omega)
  have hC2 : ((s[i].toNat : Int) < 240) = True := eq_true (by omega)
  have hC3 : ((i : Int) + 2 < (s.length : Int)) = True := eq_true (by omega)
  have hB4 : ∀ h, (128 ≤ ((s[((i : Int) + 1).toNat]'h).toNat : Int)) = True := fun h => by have := eb _ (by omega) h; exact eq_true (by omega)
  have hB5 : ∀ h, (((s[((i : Int) + 1).toNat]'h).toNat : Int) < 192) = False := fun h => by have := eb _ (by omega) h; exact eq_false (by omega)
  have e : dec3 s[i].toNat b c (s.length - i) = (0, 0) := by unfold dec3; rw [if_neg (by omega), if_neg (by omega), if_neg (by omega)]
  rw [e]
  clear e
  refine AFn.vc [] Tryd.func116 rfl Tryd.mixed (by kernel_rfl) Tryd.ntmps116 Tryd.results116 (by simp) ?_
  push_cast [hA1, hA2, hB1, hB2, hC1, hC2, hC3, hB4, hB5]
  repeat' (first | apply And.intro | intro _ | refine Exists.intro (by omega) ?_)
  all_goals first | omega | rfl
theorem c116_p11 (s : List UInt8) (i b c : Nat) (hi : i < s.length) (hs : s.length ≤ 1000000) (ha : s[i].toNat < 256) (hb : b < 256) (hc : c < 256) (eb : ∀ (z : Nat) (hz : z = i + 1) (h : z < s.length), s[z].toNat = b) (ec : ∀ (z : Nat) (hz : z = i + 2) (h : z < s.length), s[z].toNat = c) (p : 224 ≤ s[i].toNat ∧ s[i].toNat < 240 ∧ i + 2 < s.length ∧ 128 ≤ b ∧ b < 192 ∧ c < 128) : AFn Tryd.prog Γ 116 [.c (.d (.str s)), .c (.d (.int .i64 i))] [.d (.int .i64 (dec3 s[i].toNat b c (s.length - i)).1), .d (.int .i64 (dec3 s[i].toNat b c (s.length - i)).2)] := by
  have hA1 : (32 ≤ (s[i].toNat : Int)) = True := eq_true (by omega)
  have hA2 : ((s[i].toNat : Int) < 127) = False := eq_false (by omega)
  have hB1 : (194 ≤ (s[i].toNat : Int)) = True := eq_true (by omega)
  have hB2 : ((s[i].toNat : Int) < 224) = False := eq_false (by omega)
  have hC1 : (224 ≤ (s[i].toNat : Int)) = True := eq_true (by omega)
  have hC2 : ((s[i].toNat : Int) < 240) = True := eq_true (by omega)
  have hC3 : ((i : Int) + 2 < (s.length : Int)) = True := eq_true (by omega)
  have hB4 : ∀ h, (128 ≤ ((s[((i : Int) + 1).toNat]'h).toNat : Int)) = True := fun h => by have := eb _ (by omega) h; exact eq_true (by omega)
  have hB5 : ∀ h, (((s[((i : Int) + 1).toNat]'h).toNat : Int) < 192) = True := fun h => by have := eb _ (by omega) h; exact eq_true (by omega)
  have hC6 : ∀ h, (128 ≤ ((s[((i : Int) + 2).toNat]'h).toNat : Int)) = False := fun h => by have := ec _ (by omega) h; exact eq_false (by omega)
  have e : dec3 s[i].toNat b c (s.length - i) = (0, 0) := by unfold dec3; rw [if_neg (by omega), if_neg (by omega), if_neg (by omega)]
  rw [e]
  clear e
  refine AFn.vc [] Tryd.func116 rfl Tryd.mixed (by kernel_rfl) Tryd.ntmps116 Tryd.results116 (by simp) ?_
  push_cast [hA1, hA2, hB1, hB2, hC1, hC2, hC3, hB4, hB5, hC6]
  repeat' (first | apply And.intro | intro _ | refine Exists.intro (by omega) ?_)
  all_goals first | omega | rfl
theorem c116_p12 (s : List UInt8) (i b c : Nat) (hi : i < s.length) (hs : s.length ≤ 1000000) (ha : s[i].toNat < 256) (hb : b < 256) (hc : c < 256) (eb : ∀ (z : Nat) (hz : z = i + 1) (h : z < s.length), s[z].toNat = b) (ec : ∀ (z : Nat) (hz : z = i + 2) (h : z < s.length), s[z].toNat = c) (p : 224 ≤ s[i].toNat ∧ s[i].toNat < 240 ∧ i + 2 < s.length ∧ 128 ≤ b ∧ b < 192 ∧ 192 ≤ c) : AFn Tryd.prog Γ 116 [.c (.d (.str s)), .c (.d (.int .i64 i))] [.d (.int .i64 (dec3 s[i].toNat b c (s.length - i)).1), .d (.int .i64 (dec3 s[i].toNat b c (s.length - i)).2)] := by
  have hA1 : (32 ≤ (s[i].toNat : Int)) = True := eq_true (by omega)
  have hA2 : ((s[i].toNat : Int) < 127) = False := eq_false (by omega)
  have hB1 : (194 ≤ (s[i].toNat : Int)) = True := eq_true (by omega)
  have hB2 : ((s[i].toNat : Int) < 224) = False := eq_false (by omega)
  have hC1 : (224 ≤ (s[i].toNat : Int)) = True := eq_true (by omega)
  have hC2 : ((s[i].toNat : Int) < 240) = True := eq_true (by omega)
  have hC3 : ((i : Int) + 2 < (s.length : Int)) = True := eq_true (by omega)
  have hB4 : ∀ h, (128 ≤ ((s[((i : Int) + 1).toNat]'h).toNat : Int)) = True := fun h => by have := eb _ (by omega) h; exact eq_true (by omega)
  have hB5 : ∀ h, (((s[((i : Int) + 1).toNat]'h).toNat : Int) < 192) = True := fun h => by have := eb _ (by omega) h; exact eq_true (by omega)
  have hC6 : ∀ h, (128 ≤ ((s[((i : Int) + 2).toNat]'h).toNat : Int)) = True := fun h => by have := ec _ (by omega) h; exact eq_true (by omega)
  have hC7 : ∀ h, (((s[((i : Int) + 2).toNat]'h).toNat : Int) < 192) = False := fun h => by have := ec _ (by omega) h; exact eq_false (by omega)
  have e : dec3 s[i].toNat b c (s.length - i) = (0, 0) := by unfold dec3; rw [if_neg (by omega), if_neg (by omega), if_neg (by omega)]
  rw [e]
  clear e
  refine AFn.vc [] Tryd.func116 rfl Tryd.mixed (by kernel_rfl) Tryd.ntmps116 Tryd.results116 (by simp) ?_
  push_cast [hA1, hA2, hB1, hB2, hC1, hC2, hC3, hB4, hB5, hC6, hC7]
  repeat' (first | apply And.intro | intro _ | refine Exists.intro (by omega) ?_)
  all_goals first | omega | rfl
theorem c116_p13 (s : List UInt8) (i b c : Nat) (hi : i < s.length) (hs : s.length ≤ 1000000) (ha : s[i].toNat < 256) (hb : b < 256) (hc : c < 256) (eb : ∀ (z : Nat) (hz : z = i + 1) (h : z < s.length), s[z].toNat = b) (ec : ∀ (z : Nat) (hz : z = i + 2) (h : z < s.length), s[z].toNat = c) (p : 224 ≤ s[i].toNat ∧ s[i].toNat < 240 ∧ i + 2 < s.length ∧ 128 ≤ b ∧ b < 192 ∧ 128 ≤ c ∧ c < 192) : AFn Tryd.prog Γ 116 [.c (.d (.str s)), .c (.d (.int .i64 i))] [.d (.int .i64 (dec3 s[i].toNat b c (s.length - i)).1), .d (.int .i64 (dec3 s[i].toNat b c (s.length - i)).2)] := by
  have hA1 : (32 ≤ (s[i].toNat : Int)) = True := eq_true (by omega)
  have hA2 : ((s[i].toNat : Int) < 127) = False := eq_false (by omega)
  have hB1 : (194 ≤ (s[i].toNat : Int)) = True := eq_true (by omega)
  have hB2 : ((s[i].toNat : Int) < 224) = False := eq_false (by omega)
  have hC1 : (224 ≤ (s[i].toNat : Int)) = True := eq_true (by omega)
  have hC2 : ((s[i].toNat : Int) < 240) = True := eq_true (by omega)
  have hC3 : ((i : Int) + 2 < (s.length : Int)) = True := eq_true (by omega)
  have hB4 : ∀ h, (128 ≤ ((s[((i : Int) + 1).toNat]'h).toNat : Int)) = True := fun h => by have := eb _ (by omega) h; exact eq_true (by omega)
  have hB5 : ∀ h, (((s[((i : Int) + 1).toNat]'h).toNat : Int) < 192) = True := fun h => by have := eb _ (by omega) h; exact eq_true (by omega)
  have hC6 : ∀ h, (128 ≤ ((s[((i : Int) + 2).toNat]'h).toNat : Int)) = True := fun h => by have := ec _ (by omega) h; exact eq_true (by omega)
  have hC7 : ∀ h, (((s[((i : Int) + 2).toNat]'h).toNat : Int) < 192) = True := fun h => by have := ec _ (by omega) h; exact eq_true (by omega)
  have e : dec3 s[i].toNat b c (s.length - i) = if 2048 ≤ (s[i].toNat - 224) * 4096 + (b - 128) * 64 + (c - 128) ∧ ((s[i].toNat - 224) * 4096 + (b - 128) * 64 + (c - 128) < 55296 ∨ 57343 < (s[i].toNat - 224) * 4096 + (b - 128) * 64 + (c - 128)) then ((s[i].toNat - 224) * 4096 + (b - 128) * 64 + (c - 128), 3) else (0, 0) := by unfold dec3; rw [if_neg (by omega), if_neg (by omega), if_pos (by omega)]
  rw [e]
  clear e
  refine AFn.vc [] Tryd.func116 rfl Tryd.mixed (by kernel_rfl) Tryd.ntmps116 Tryd.results116 (by simp) ?_
  push_cast [hA1, hA2, hB1, hB2, hC1, hC2, hC3, hB4, hB5, hC6, hC7]
  have fb : ∀ h : ((i : Int) + 1).toNat < s.length, (s[((i : Int) + 1).toNat]'h).toNat = b := fun h => eb _ (by omega) h
  have fc : ∀ h : ((i : Int) + 2).toNat < s.length, (s[((i : Int) + 2).toNat]'h).toNat = c := fun h => ec _ (by omega) h
  simp only [fb, fc]
  clear fb fc eb ec hA1 hA2 hB1 hB2 hB4 hB5
  repeat' (first | apply And.intro | intro _ | refine Exists.intro (by omega) ?_)
  all_goals first
    | omega
    | (rw [if_pos (by omega)]; simp only; omega)
    | (rw [if_neg (by omega)]; rfl)
theorem c116 (s : List UInt8) (i : Nat) (hi : i < s.length) (hs : s.length ≤ 1000000) : AFn Tryd.prog Γ 116 [.c (.d (.str s)), .c (.d (.int .i64 i))] [.d (.int .i64 (decF (s.drop i)).1), .d (.int .i64 (decF (s.drop i)).2)] := by
  have ea : ((s.drop i).getD 0 0) = s[i] := by simp [List.getD_eq_getElem?_getD, hi]
  have eb : ∀ (z : Nat) (hz : z = i + 1) (h : z < s.length), s[z].toNat = ((s.drop i).getD 1 0).toNat := fun z hz h => by subst hz; simp [List.getD_eq_getElem?_getD, h]
  have ec : ∀ (z : Nat) (hz : z = i + 2) (h : z < s.length), s[z].toNat = ((s.drop i).getD 2 0).toNat := fun z hz h => by subst hz; simp [List.getD_eq_getElem?_getD, h]
  have en : (s.drop i).length = s.length - i := by simp
  unfold decF
  rw [ea, en]
  have hb : ((s.drop i).getD 1 0).toNat < 256 := UInt8.toNat_lt _
  have hc : ((s.drop i).getD 2 0).toNat < 256 := UInt8.toNat_lt _
  have ha : s[i].toNat < 256 := UInt8.toNat_lt _
  generalize ((s.drop i).getD 1 0).toNat = b at *
  generalize ((s.drop i).getD 2 0).toNat = c at *
  by_cases a1 : s[i].toNat < 32
  · exact c116_p1 s i b c hi hs ha hb hc eb ec a1
  by_cases a2 : s[i].toNat < 127
  · exact c116_p0 s i b c hi hs ha hb hc eb ec ⟨by omega, a2⟩
  by_cases a3 : s[i].toNat < 194
  · exact c116_p2 s i b c hi hs ha hb hc eb ec ⟨by omega, a3⟩
  by_cases a4 : s[i].toNat < 224
  · by_cases n1 : i + 1 < s.length
    · by_cases b1 : b < 128
      · exact c116_p4 s i b c hi hs ha hb hc eb ec ⟨by omega, a4, n1, b1⟩
      by_cases b2 : b < 192
      · exact c116_p6 s i b c hi hs ha hb hc eb ec ⟨by omega, a4, n1, by omega, b2⟩
      · exact c116_p5 s i b c hi hs ha hb hc eb ec ⟨by omega, a4, n1, by omega⟩
    · exact c116_p3 s i b c hi hs ha hb hc eb ec ⟨by omega, a4, n1⟩
  by_cases a5 : s[i].toNat < 240
  · by_cases n2 : i + 2 < s.length
    · by_cases b1 : b < 128
      · exact c116_p9 s i b c hi hs ha hb hc eb ec ⟨by omega, a5, n2, b1⟩
      by_cases b2 : b < 192
      · by_cases c1 : c < 128
        · exact c116_p11 s i b c hi hs ha hb hc eb ec ⟨by omega, a5, n2, by omega, b2, c1⟩
        by_cases c2 : c < 192
        · exact c116_p13 s i b c hi hs ha hb hc eb ec ⟨by omega, a5, n2, by omega, b2, by omega, c2⟩
        · exact c116_p12 s i b c hi hs ha hb hc eb ec ⟨by omega, a5, n2, by omega, b2, by omega⟩
      · exact c116_p10 s i b c hi hs ha hb hc eb ec ⟨by omega, a5, n2, by omega⟩
    · exact c116_p8 s i b c hi hs ha hb hc eb ec ⟨by omega, a5, n2⟩
  · exact c116_p7 s i b c hi hs ha hb hc eb ec (by omega)
end Go.Proofs

/- Walks of the chapters on loans between libraries, third part: notes and messages. -/
namespace Go.Proofs
open Go Go.Ax Go.Tx Go.Il
set_option maxRecDepth 100000
variable {Γ : List (Nat × List D)}
theorem c117 (s : List UInt8) (i : Nat) (hi : i < s.length) (hs : s.length ≤ 1000000) : AFn Tryd.prog Γ 117 [.c (.d (.str s)), .c (.d (.int .i64 i))] [.d (.int .i64 ((max (decF (s.drop i)).2 1 : Nat) : Int))] := by
  refine AFn.vc [] Tryd.func117 rfl Tryd.mixed (by kernel_rfl) Tryd.ntmps117 Tryd.results117 (by simp) ?_
  push_cast
  refine CallL.q (c116 s i hi hs) ?_
  push_cast
  unfold imax
  split <;> omega
theorem cleanG_fuel : ∀ (n m : Nat) (l : List UInt8) (st : List UInt8 × Bool), l.length ≤ n → l.length ≤ m → cleanG n l st = cleanG m l st
  | 0, 0, _, _, _, _ => rfl
  | 0, m + 1, l, st, h, _ => by obtain rfl : l = [] := List.length_eq_zero_iff.1 (by omega); simp [cleanG]
  | n + 1, 0, l, st, _, h => by obtain rfl : l = [] := List.length_eq_zero_iff.1 (by omega); simp [cleanG]
  | n + 1, m + 1, l, st, h1, h2 => by
    unfold cleanG
    split
    · rfl
    · next hne =>
      have : 1 ≤ l.length := List.length_pos_iff.2 hne
      exact cleanG_fuel n m _ _ (by rw [List.length_drop]; omega) (by rw [List.length_drop]; omega)
theorem clean_at {s : List UInt8} {k : Nat} (hk : k < s.length) (st : List UInt8 × Bool) : cleanG (s.length - k) (s.drop k) st =
    cleanG (s.length - (k + max (decF (s.drop k)).2 1)) (s.drop (k + max (decF (s.drop k)).2 1)) (cleanStep st (decF (s.drop k)).1 ((s.drop k).take (max (decF (s.drop k)).2 1))) := by
  obtain ⟨m, hm⟩ : ∃ m, s.length - k = m + 1 := ⟨s.length - k - 1, by omega⟩
  have hne : s.drop k ≠ [] := by intro e; have := congrArg List.length e; rw [List.length_drop] at this; simp at this; omega
  rw [hm]
  show (if s.drop k = [] then st.1 else cleanG m ((s.drop k).drop (max (decF (s.drop k)).2 1)) _) = _
  rw [if_neg hne, List.drop_drop]
  exact cleanG_fuel _ _ _ _ (by rw [List.length_drop]; omega) (by rw [List.length_drop]; omega)
theorem dec_at {s : List UInt8} {k : Nat} (hk : k < s.length) : k + (decF (s.drop k)).2 ≤ s.length := by
  have hne : s.drop k ≠ [] := by intro e; have := congrArg List.length e; rw [List.length_drop] at this; simp at this; omega
  have := decF_le _ hne
  rw [List.length_drop] at this; omega
theorem valid_at {s : List UInt8} {k : Nat} (hk : k < s.length) : validF (s.drop k) = (decide (0 < (decF (s.drop k)).2) && validF (s.drop (k + (decF (s.drop k)).2))) := by
  rw [validF_step (by intro e; have := congrArg List.length e; rw [List.length_drop] at this; simp at this; omega), List.drop_drop]
theorem c109 (s : List UInt8) (hs : s.length ≤ 1000000) : AFn Tryd.prog Γ 109 [.c (.d (.str s))] [.d (.bool (validF s))] := by
  refine AFn.vc [] Tryd.func109 rfl Tryd.mixed (by kernel_rfl) Tryd.ntmps109 Tryd.results109 (by simp) ?_
  push_cast
  refine LoopV.of0 Tryd.mixed [0] (fun k : Nat => [(3, .c (.d (.int .i64 k)))]) (fun k => k ≤ s.length ∧ validF (s.drop k) = validF s) (fun k => s.length - k) 0 ⟨Nat.zero_le _, by simp⟩ ?_ (by push_cast)
  rintro k ⟨hk, hv⟩
  push_cast
  refine ⟨fun h => ?_, fun h => ?_⟩
  · have hk' : k < s.length := by omega
    refine CallL.q (c116 s k hk' hs) ?_
    push_cast
    have hv2 := valid_at hk'
    have hle := dec_at hk'
    rw [hv] at hv2
    refine ⟨fun e => ?_, fun e => ⟨⟨by omega, by omega⟩, k + (decF (s.drop k)).2, ⟨⟨hle, ?_⟩, by omega⟩, by omega⟩⟩
    · rw [hv2, decide_eq_false (by omega)]; rfl
    · rw [hv2, decide_eq_true (by omega), Bool.true_and]
  · rw [← hv, List.drop_eq_nil_of_le (by omega)]; rfl
theorem c110 (s : List UInt8) (hs : s.length ≤ 100000) : AFn Tryd.prog Γ 110 [.c (.d (.str s))] [.d (.str (cleanF s))] := by
  refine AFn.vc [] Tryd.func110 rfl Tryd.mixed (by kernel_rfl) Tryd.ntmps110 Tryd.results110 (by simp) ?_
  push_cast
  refine LoopV.of0 Tryd.mixed [0] (fun q : Nat × (List UInt8 × Bool) => [(3, .c (.d (.str q.2.1))), (4, .c (.d (.bool q.2.2))), (5, .c (.d (.int .i64 q.1)))]) (fun q => q.1 ≤ s.length ∧ cleanG (s.length - q.1) (s.drop q.1) q.2 = cleanF s ∧ q.2.1.length ≤ 2 * q.1) (fun q => s.length - q.1) (0, [], false) ⟨Nat.zero_le _, by simp [cleanF], by simp⟩ ?_ (by push_cast)
  rintro ⟨k, out, gap⟩ ⟨hk, hv, hl⟩
  have hk : k ≤ s.length := hk
  have hl : out.length ≤ 2 * k := hl
  have hv : cleanG (s.length - k) (s.drop k) (out, gap) = cleanF s := hv
  push_cast
  refine ⟨fun h => ?_, fun h => ?_⟩
  · have hk' : k < s.length := by omega
    refine CallL.q (c116 s k hk' (by omega)) ?_
    push_cast
    refine CallL.q (c117 s k hk' (by omega)) ?_
    push_cast
    refine CallL.q (c118 (decF (s.drop k)).1) ?_
    push_cast
    have hst := clean_at hk' (out, gap)
    have hle := dec_at hk'
    rw [hv] at hst
    have hn1 : 1 ≤ max (decF (s.drop k)).2 1 := by omega
    have hn2 : k + max (decF (s.drop k)).2 1 ≤ s.length := by omega
    generalize hn : max (decF (s.drop k)).2 1 = n at *
    generalize hcc : (decF (s.drop k)).1 = c at *
    have hzn : ((k : Int) + (n : Int)).toNat - k = n := by omega
    have fin : ∀ (o : List UInt8) (g : Bool), cleanStep (out, gap) c ((s.drop k).take n) = (o, g) → o.length ≤ 2 * (k + n) → ∃ s' : Nat × (List UInt8 × Bool), ((s'.1 ≤ s.length ∧ cleanG (s.length - s'.1) (s.drop s'.1) s'.2 = cleanF s ∧ s'.2.1.length ≤ 2 * s'.1) ∧ s.length - s'.1 < s.length - k) ∧ s'.2.1 = o ∧ s'.2.2 = g ∧ (s'.1 : Int) = (k : Int) + n := fun o g e hlo =>
      ⟨(k + n, o, g), ⟨⟨hn2, by rw [e] at hst; exact hst.symm, hlo⟩, by show s.length - (k + n) < _; omega⟩, rfl, rfl, by show ((k + n : Nat) : Int) = _; omega⟩
    have ht : ((s.drop k).take n).length ≤ n := by rw [List.length_take]; omega
    rw [hzn]
    refine ⟨fun b => ⟨⟨by omega, by omega⟩, fin out true (by unfold cleanStep; rw [if_pos b]) (by omega)⟩, fun b => ?_⟩
    have hcs : cleanStep (out, gap) c ((s.drop k).take n) = ((if gap = true ∧ out ≠ [] then out ++ [32] else out) ++ (s.drop k).take n, false) := by unfold cleanStep; rw [if_neg (by simp [b])]
    have hlen : ∀ o : List UInt8, (o ++ (s.drop k).take n).length ≤ o.length + n := fun o => by rw [List.length_append]; omega
    have c1 : (-9223372036854775808 ≤ (k : Int) + n ∧ (k : Int) + n ≤ 9223372036854775807) := ⟨by omega, by omega⟩
    have c2 : k ≤ ((k : Int) + n).toNat ∧ ((k : Int) + n).toNat ≤ s.length := ⟨by omega, by omega⟩
    refine ⟨fun g => ⟨fun o => ⟨by omega, c1, by omega, c2, by omega, c1, fin _ false (by rw [hcs, if_pos ⟨g, o⟩]) ?_⟩, fun o => ⟨c1, by omega, c2, by omega, c1, fin _ false (by rw [hcs, if_neg (by simp [o])]) ?_⟩⟩, fun g => ⟨c1, by omega, c2, by omega, c1, fin _ false (by rw [hcs, if_neg (by simp [g])]) ?_⟩⟩
    · have := hlen (out ++ [32])
      have h9 : (out ++ [32]).length = out.length + 1 := by simp
      omega
    · have := hlen out; omega
    · have := hlen out; omega
  · rw [← hv, List.drop_eq_nil_of_le (by omega)]
    cases s.length - k <;> rfl
theorem c92 (n low high : Int) : AFn Tryd.prog Γ 92 [.c (.d (.int .i64 n)), .c (.d (.int .i64 low)), .c (.d (.int .i64 high))] [.d (.bool (inB n low high))] := by
  refine AFn.vc [] Tryd.func92 rfl Tryd.mixed (by kernel_rfl) Tryd.ntmps92 Tryd.results92 (by simp) ?_
  push_cast
  refine ⟨fun h => by simp [inB, h], fun h => by simp [inB]; omega⟩
theorem c99 (n low high : Int) : AFn Tryd.prog Γ 99 [.c (.d (.int .i64 n)), .c (.d (.int .i64 low)), .c (.d (.int .i64 high))] [.d (.bool (inB n low high))] := by
  refine AFn.vc [] Tryd.func99 rfl Tryd.mixed (by kernel_rfl) Tryd.ntmps99 Tryd.results99 (by simp) ?_
  push_cast
  refine ⟨fun h => by simp [inB, h], fun h => by simp [inB]; omega⟩
theorem c67 (n low high : Int) : AFn Tryd.prog Γ 67 [.c (.d (.int .i64 n)), .c (.d (.int .i64 low)), .c (.d (.int .i64 high))] [.d (.bool (inB n low high))] := by
  refine AFn.vc [] Tryd.func67 rfl Tryd.mixed (by kernel_rfl) Tryd.ntmps67 Tryd.results67 (by simp) ?_
  push_cast
  refine ⟨fun h => by simp [inB, h], fun h => by simp [inB]; omega⟩
theorem c100 (s : List UInt8) (hs : s.length ≤ 100000) : AFn Tryd.prog Γ0 100 [.c (.d (.str s))] [.d (.bool (noteF s))] := by
  refine AFn.vc [] Tryd.func100 rfl Tryd.mixed (by kernel_rfl) Tryd.ntmps100 Tryd.results100 (by simp) ?_
  push_cast
  refine CallL.q (c113 s (by omega)) ?_
  push_cast
  rw [← note_same]
  refine ⟨fun h => ?_, fun h => by rw [h]; rfl⟩
  refine CallL.q (c114 s (by omega) h) ?_
  push_cast
  rw [h, Bool.true_and]
theorem c93 (s : List UInt8) (hs : s.length ≤ 100000) : AFn Tryd.prog Γ 93 [.c (.d (.str s))] [.d (.bool (noteF s))] := by
  refine AFn.vc [] Tryd.func93 rfl Tryd.mixed (by kernel_rfl) Tryd.ntmps93 Tryd.results93 (by simp) ?_
  push_cast
  refine CallL.q (c109 s (by omega)) ?_
  push_cast
  refine ⟨fun h => ?_, fun h => by unfold noteF; rw [h]; rfl⟩
  refine CallL.q (c110 s hs) ?_
  push_cast
  unfold noteF
  rw [h, Bool.true_and]
end Go.Proofs

/- Walks of the chapters on loans between libraries, fourth part: messages. -/
namespace Go.Proofs
open Go Go.Ax Go.Tx Go.Il
set_option maxRecDepth 100000
variable {Γ : List (Nat × List D)}
theorem c61 (m : Msg) (hl : m.note.length ≤ 100000) : AFn Tryd.prog Γ 61 [.agg (m.ds.map C.d)] [.d (.int .i64 (msgF m))] := by
  refine AFn.vc [] Tryd.func61 rfl Tryd.mixed (by kernel_rfl) Tryd.ntmps61 Tryd.results61 (by simp) ?_
  push_cast
  refine CallL.q (c92 m.frm 1 4) ?_
  push_cast
  refine ⟨fun h1 => ?_, fun h1 => by simp [msgF, h1]⟩
  refine CallL.q (c92 m.dst 1 4) ?_
  push_cast
  refine ⟨fun h2 => by simp [msgF, h1, h2], fun h2 => ?_⟩
  refine ⟨fun h3 => by simp [msgF, h1, h2, h3], fun h3 => ?_⟩
  refine CallL.q (c92 m.req 1 9999) ?_
  push_cast
  refine ⟨fun h4 => ?_, fun h4 => by simp [msgF, h1, h2, h3, h4]⟩
  refine CallL.q (c92 m.seq 1 99) ?_
  push_cast
  refine ⟨fun h5 => by simp [msgF, h1, h2, h3, h4, h5], fun h5 => ?_⟩
  refine CallL.q (c92 m.kind 1 11) ?_
  push_cast
  refine ⟨fun h6 => by simp [msgF, h1, h2, h3, h4, h5, h6], fun h6 => ?_⟩
  refine CallL.q (c92 m.rcd 0 9999) ?_
  push_cast
  have hm : inB m.rcd (if m.kind = 1 then 1 else 0) 9999 = (inB m.rcd 0 9999 && !(decide (m.kind = 1) && decide (m.rcd = 0))) := by
    unfold inB
    rw [Bool.eq_iff_iff]
    split <;> simp <;> omega
  have e : msgF m = bif !(inB m.rcd 0 9999 && !(decide (m.kind = 1) && decide (m.rcd = 0)) && inB m.day 0 109572) then 2 else bif !noteF m.note then 3 else bif decide (40 < m.note.length) then 4 else 0 := by
    unfold msgF; rw [h1, h2, decide_eq_false h3, h4, h5, h6, hm]; rfl
  rw [e]
  refine ⟨fun h7 => ⟨fun hk => ⟨fun h8 => ?_, fun h8 => by simp [h7, hk, h8]⟩, fun hk => ?_⟩, fun h7 => by simp [h7]⟩
  all_goals
    refine CallL.q (c92 m.day 0 109572) ?_
    push_cast
    refine ⟨fun h9 => by simp [h9], fun h9 => ?_⟩
    refine CallL.q (c93 m.note hl) ?_
    push_cast
    refine ⟨fun h10 => by simp_all, fun h10 => ?_⟩
    refine ⟨fun h11 => ?_, fun h11 => ?_⟩
    · have h12 : 40 < m.note.length := by omega
      simp_all
    · have h12 : ¬ 40 < m.note.length := by omega
      simp only [decide_eq_false h12]
      simp_all
theorem c72 (m : Msg) (hl : m.note.length ≤ 100000) : AFn Tryd.prog Γ0 72 [.agg (m.ds.map C.d)] [.d (.int .i64 (msgF m))] := by
  refine AFn.vc [] Tryd.func72 rfl Tryd.mixed (by kernel_rfl) Tryd.ntmps72 Tryd.results72 (by simp) ?_
  push_cast
  have key : ∀ (lo : Int), lo = (if m.kind = 1 then 1 else 0) → True := fun _ _ => trivial
  refine ⟨fun hk => ?_, fun hk => ?_⟩
  all_goals
    refine CallL.q (c99 m.frm 1 4) ?_
    push_cast
    refine ⟨fun h1 => ?_, fun h1 => by simp [msgF, h1]⟩
    refine CallL.q (c99 m.dst 1 4) ?_
    push_cast
    refine ⟨fun h2 => by simp [msgF, h1, h2], fun h2 => ?_⟩
    refine ⟨fun h3 => by simp [msgF, h1, h2, h3], fun h3 => ?_⟩
    refine CallL.q (c99 m.req 1 9999) ?_
    push_cast
    refine ⟨fun h4 => ?_, fun h4 => by simp [msgF, h1, h2, h3, h4]⟩
    refine CallL.q (c99 m.seq 1 99) ?_
    push_cast
    refine ⟨fun h5 => by simp [msgF, h1, h2, h3, h4, h5], fun h5 => ?_⟩
    refine CallL.q (c99 m.kind 1 11) ?_
    push_cast
    refine ⟨fun h6 => by simp [msgF, h1, h2, h3, h4, h5, h6], fun h6 => ?_⟩
    have e : msgF m = bif !(inB m.rcd (if m.kind = 1 then 1 else 0) 9999 && inB m.day 0 109572) then 2 else bif !noteF m.note then 3 else bif decide (40 < m.note.length) then 4 else 0 := by
      unfold msgF; rw [h1, h2, decide_eq_false h3, h4, h5, h6]; rfl
    rw [e]
  · rw [if_pos hk]
    refine CallL.q (c99 m.rcd 1 9999) ?_
    push_cast
    refine ⟨fun h7 => ?_, fun h7 => by simp [h7]⟩
    refine CallL.q (c99 m.day 0 109572) ?_
    push_cast
    refine ⟨fun h9 => by simp [h9], fun h9 => ?_⟩
    refine CallL.q (c100 m.note hl) ?_
    push_cast
    refine ⟨fun h10 => by simp_all, fun h10 => ?_⟩
    refine ⟨fun h11 => ?_, fun h11 => ?_⟩
    · have h12 : 40 < m.note.length := by omega
      simp_all
    · have h12 : ¬ 40 < m.note.length := by omega
      simp only [decide_eq_false h12]
      simp_all
  · rw [if_neg hk]
    refine CallL.q (c99 m.rcd 0 9999) ?_
    push_cast
    refine ⟨fun h7 => ?_, fun h7 => by simp [h7]⟩
    refine CallL.q (c99 m.day 0 109572) ?_
    push_cast
    refine ⟨fun h9 => by simp [h9], fun h9 => ?_⟩
    refine CallL.q (c100 m.note hl) ?_
    push_cast
    refine ⟨fun h10 => by simp_all, fun h10 => ?_⟩
    refine ⟨fun h11 => ?_, fun h11 => ?_⟩
    · have h12 : 40 < m.note.length := by omega
      simp_all
    · have h12 : ¬ 40 < m.note.length := by omega
      simp only [decide_eq_false h12]
      simp_all
end Go.Proofs

/- Walks of the chapters on loans between libraries, fifth part: kinds of messages. -/
namespace Go.Proofs
open Go Go.Ax Go.Tx Go.Il
set_option maxRecDepth 100000
variable {Γ : List (Nat × List D)}
theorem c95 (r : Int) (h1 : -1000 ≤ r) (h2 : r ≤ 1000) : AFn Tryd.prog Γ 95 [.c (.d (.int .i64 r))] [.d (.int .i64 (3 - r))] := by
  refine AFn.vc [] Tryd.func95 rfl Tryd.mixed (by kernel_rfl) Tryd.ntmps95 Tryd.results95 (by simp) ?_
  push_cast
  exact ⟨by omega, by omega⟩
theorem c94 (l : List Int) (n : Int) (hl : l.length ≤ 1000000) : AFn Tryd.prog Γ 94 [.c (.bor 1 (l.map iD)), .c (.d (.int .i64 n))] [.d (.int .i64 (fI (fun x => decide (x = n)) 0 l))] := by
  refine AFn.vc [] Tryd.func94 rfl Tryd.mixed (by kernel_rfl) Tryd.ntmps94 Tryd.results94 (by simp) ?_
  push_cast
  refine LoopV.cnt Tryd.mixed [0, 1, 7] l.length (fun k => [(8, .c (.d (.int .i64 k)))]) (fun k => fI (fun x => decide (x = n)) k (l.drop k) = fI (fun x => decide (x = n)) 0 l) (by simp) ?_ (by push_cast)
  intro k hk hinv
  push_cast
  refine ⟨fun h => ?_, fun h => ?_⟩
  · have hk' : k < l.length := by omega
    rw [drop_cons hk', fI] at hinv
    refine ⟨hk', fun a => ?_, fun a => ⟨by omega, by omega, ?_⟩⟩
    · rw [← hinv, if_pos (decide_eq_true a.symm)]
    · rw [← hinv, if_neg (by simpa using fun e => a e.symm)]
  · rw [← hinv, drop_end (by omega)]; rfl
theorem c63 (l : List Int) (n : Int) (hl : l.length ≤ 1000000) : AFn Tryd.prog Γ 63 [.c (.bor 1 (l.map iD)), .c (.d (.int .i64 n))] [.d (.bool (hasF l n))] := by
  refine AFn.vc [] Tryd.func63 rfl Tryd.mixed (by kernel_rfl) Tryd.ntmps63 Tryd.results63 (by simp) ?_
  push_cast
  refine CallL.q (c94 l n hl) ?_
  push_cast
  exact fI_ge _ l
theorem lkG0 : lkG 0 Γ0 = .c (.ptr ((kinds.map Kd.ds).flatten)) := rfl
theorem c62 (kind : Int) : AFn Tryd.prog Γ0 62 [.c (.d (.int .i64 kind))] [.agg (ofF kind).ds] := by
  by_cases h : kind < 1 ∨ 12 ≤ kind
  · have e : ofF kind = kd0 := by unfold ofF; rw [if_pos h]
    rw [e]
    rcases h with h | h
    · have h1 : (kind < 1) = True := eq_true h
      refine AFn.vc [] Tryd.func62 rfl Tryd.mixed (by kernel_rfl) Tryd.ntmps62 Tryd.results62 (by simp) ?_
      push_cast [h1]
      exact ⟨rfl, rfl, rfl, rfl, rfl⟩
    · have h1 : (kind < 1) = False := eq_false (by omega)
      have h2 : (12 ≤ kind) = True := eq_true h
      refine AFn.vc [] Tryd.func62 rfl Tryd.mixed (by kernel_rfl) Tryd.ntmps62 Tryd.results62 (by simp) ?_
      push_cast [h1, h2]
      exact ⟨rfl, rfl, rfl, rfl, rfl⟩
  · have : kind = 1 ∨ kind = 2 ∨ kind = 3 ∨ kind = 4 ∨ kind = 5 ∨ kind = 6 ∨ kind = 7 ∨ kind = 8 ∨ kind = 9 ∨ kind = 10 ∨ kind = 11 := by omega
    rcases this with rfl | rfl | rfl | rfl | rfl | rfl | rfl | rfl | rfl | rfl | rfl
    all_goals
      refine AFn.vc [] Tryd.func62 rfl Tryd.mixed (by kernel_rfl) Tryd.ntmps62 Tryd.results62 (by simp) ?_
      push_cast [lkG0]
      refine ⟨by decide, ⟨by decide, by decide⟩, ?_⟩
      exact ⟨⟨rfl, rfl, rfl, rfl, rfl, trivial⟩, trivial⟩
end Go.Proofs

/- Walks of the chapters on loans between libraries, sixth part: what may be sent. -/
namespace Go.Il
open Go Go.Ax
def refAllow (role state kind : Int) : Bool :=
  if role = 1 then (decide (state = 3) && decide (kind = 5)) || (decide (state = 4) && (decide (kind = 6) || decide (kind = 9))) || ((decide (state = 1) || decide (state = 2)) && decide (kind = 11))
  else if role = 2 then (decide (state = 1) && (decide (kind = 2) || decide (kind = 3))) || (decide (state = 2) && decide (kind = 4)) || (decide (state = 5) && decide (kind = 7)) || (decide (state = 4) && decide (kind = 8)) || (decide (state = 6) && decide (kind = 10))
  else false
theorem of_cases (kind : Int) : (ofF kind = kd0 ∧ (kind < 1 ∨ 12 ≤ kind)) ∨ kind = 1 ∨ kind = 2 ∨ kind = 3 ∨ kind = 4 ∨ kind = 5 ∨ kind = 6 ∨ kind = 7 ∨ kind = 8 ∨ kind = 9 ∨ kind = 10 ∨ kind = 11 := by
  by_cases h : kind < 1 ∨ 12 ≤ kind
  · exact .inl ⟨by unfold ofF; rw [if_pos h], h⟩
  · right; omega
theorem allow_eq (role state kind : Int) : refAllow role state kind = allowF role state kind := by
  rcases of_cases kind with ⟨e, h⟩ | rfl | rfl | rfl | rfl | rfl | rfl | rfl | rfl | rfl | rfl | rfl
  · unfold allowF refAllow
    rw [e]
    simp only [kd0, hasF, List.any_nil, Bool.and_false]
    rw [Bool.eq_false_iff]
    intro q
    split at q
    · simp at q; omega
    · split at q
      · simp at q; omega
      · cases q
  all_goals
    unfold allowF refAllow
    rw [Bool.eq_iff_iff]
    simp [ofF, kinds, hasF]
    repeat' split
    all_goals (try simp); all_goals omega
end Go.Il
namespace Go.Proofs
open Go Go.Ax Go.Tx Go.Il
set_option maxRecDepth 100000
variable {Γ : List (Nat × List D)}
theorem sent_len (kind : Int) : (ofF kind).sent.length ≤ 1000000 ∧ (ofF kind).taken.length ≤ 1000000 := by
  rcases of_cases kind with ⟨e, h⟩ | rfl | rfl | rfl | rfl | rfl | rfl | rfl | rfl | rfl | rfl | rfl
  · rw [e]; decide
  all_goals decide
theorem c20 (role state kind : Int) : AFn Tryd.prog Γ0 20 [.c (.d (.int .i64 role)), .c (.d (.int .i64 state)), .c (.d (.int .i64 kind))] [.d (.bool (allowF role state kind))] := by
  refine AFn.vc [] Tryd.func20 rfl Tryd.mixed (by kernel_rfl) Tryd.ntmps20 Tryd.results20 (by simp) ?_
  push_cast
  refine CallL.q (c62 kind) ?_
  push_cast
  unfold allowF
  refine ⟨fun h => ?_, fun h => by rw [decide_eq_false h]; rfl⟩
  refine CallL.q (c63 (ofF kind).sent state (sent_len kind).1) ?_
  push_cast
  rw [decide_eq_true h]; rfl
theorem c21_b (state kind : Int) : AFn Tryd.prog Γ 21 [.c (.d (.int .i64 1)), .c (.d (.int .i64 state)), .c (.d (.int .i64 kind))] [.d (.bool (refAllow 1 state kind))] := by
  have hc : state = 3 ∨ state = 4 ∨ state = 1 ∨ state = 2 ∨ (state ≠ 3 ∧ state ≠ 4 ∧ state ≠ 1 ∧ state ≠ 2) := by omega
  rcases hc with rfl | rfl | rfl | rfl | ⟨h1, h2, h3, h4⟩
  all_goals refine AFn.vc [] Tryd.func21 rfl Tryd.mixed (by kernel_rfl) Tryd.ntmps21 Tryd.results21 (by simp) ?_
  rotate_right
  · have e0 : True := trivial
    have e1 := eq_false h1
    have e2 := eq_false h2
    have e3 := eq_false h3
    have e4 := eq_false h4
    push_cast [e1, e2, e3, e4]
    simp [refAllow, *]
  all_goals
    push_cast
    unfold refAllow
    repeat' (first | apply And.intro | intro _)
    all_goals simp_all
theorem c21_l (state kind : Int) : AFn Tryd.prog Γ 21 [.c (.d (.int .i64 2)), .c (.d (.int .i64 state)), .c (.d (.int .i64 kind))] [.d (.bool (refAllow 2 state kind))] := by
  have hc : state = 1 ∨ state = 2 ∨ state = 5 ∨ state = 4 ∨ state = 6 ∨ (state ≠ 1 ∧ state ≠ 2 ∧ state ≠ 5 ∧ state ≠ 4 ∧ state ≠ 6) := by omega
  rcases hc with rfl | rfl | rfl | rfl | rfl | ⟨h1, h2, h3, h4, h5⟩
  all_goals refine AFn.vc [] Tryd.func21 rfl Tryd.mixed (by kernel_rfl) Tryd.ntmps21 Tryd.results21 (by simp) ?_
  rotate_right
  · have e0 : True := trivial
    have e1 := eq_false h1
    have e2 := eq_false h2
    have e3 := eq_false h3
    have e4 := eq_false h4
    have e5 := eq_false h5
    push_cast [e1, e2, e3, e4, e5]
    simp [refAllow, *]
  all_goals
    push_cast
    unfold refAllow
    repeat' (first | apply And.intro | intro _)
    all_goals simp_all
theorem c21 (role state kind : Int) : AFn Tryd.prog Γ 21 [.c (.d (.int .i64 role)), .c (.d (.int .i64 state)), .c (.d (.int .i64 kind))] [.d (.bool (allowF role state kind))] := by
  rw [← allow_eq]
  by_cases h1 : role = 1
  · subst h1; exact c21_b state kind
  by_cases h2 : role = 2
  · subst h2; exact c21_l state kind
  refine AFn.vc [] Tryd.func21 rfl Tryd.mixed (by kernel_rfl) Tryd.ntmps21 Tryd.results21 (by simp) ?_
  have e1 := eq_false h1
  have e2 := eq_false h2
  push_cast [e1, e2]
  unfold refAllow
  rw [if_neg h1, if_neg h2]
end Go.Proofs

/- Walks of the chapters on loans between libraries, seventh part: small functions. -/
namespace Go.Proofs
open Go Go.Ax Go.Tx Go.Il
set_option maxRecDepth 100000
variable {Γ : List (Nat × List D)}
theorem c28 (s : Side) : AFn Tryd.prog Γ 28 [.agg (s.ds.map C.d)] [.d (.bool (overF s))] := by
  refine AFn.vc [] Tryd.func28 rfl Tryd.mixed (by kernel_rfl) Tryd.ntmps28 Tryd.results28 (by simp) ?_
  push_cast
  unfold overF
  repeat' (first | apply And.intro | intro _)
  all_goals simp_all
theorem c29 (s : Side) : AFn Tryd.prog Γ 29 [.agg (s.ds.map C.d)] [.d (.bool (overF s))] := by
  refine AFn.vc [] Tryd.func29 rfl Tryd.mixed (by kernel_rfl) Tryd.ntmps29 Tryd.results29 (by simp) ?_
  push_cast
  unfold overF
  repeat' (first | apply And.intro | intro _)
  all_goals simp_all
theorem c71 (r : Int) : AFn Tryd.prog Γ 71 [.c (.d (.int .i64 r))] [.d (.int .i64 (if r = 2 then 1 else 2))] := by
  refine AFn.vc [] Tryd.func71 rfl Tryd.mixed (by kernel_rfl) Tryd.ntmps71 Tryd.results71 (by simp) ?_
  push_cast
  exact ⟨fun h => by rw [if_pos h], fun h => by rw [if_neg h]⟩
theorem c101 (a b : Int) : AFn Tryd.prog Γ 101 [.c (.d (.int .i64 a)), .c (.d (.int .i64 b))] [.d (.int .i64 (imin a b))] := by
  refine AFn.vc [] Tryd.func101 rfl Tryd.mixed (by kernel_rfl) Tryd.ntmps101 Tryd.results101 (by simp) ?_
  push_cast
  unfold imin
  exact ⟨fun h => by rw [if_pos h], fun h => by rw [if_neg (by omega)]⟩
theorem c70_1 (kind : Int) : AFn Tryd.prog Γ 70 [.c (.d (.int .i64 1)), .c (.d (.int .i64 kind))] [.d (.bool (decide ((ofF kind).role = 1)))] := by
  rcases of_cases kind with ⟨e, h⟩ | rfl | rfl | rfl | rfl | rfl | rfl | rfl | rfl | rfl | rfl | rfl
  · rw [e]
    have e1 := eq_false (show ¬ kind = 1 by omega)
    have e2 := eq_false (show ¬ kind = 5 by omega)
    have e3 := eq_false (show ¬ kind = 6 by omega)
    have e4 := eq_false (show ¬ kind = 9 by omega)
    have e5 := eq_false (show ¬ kind = 11 by omega)
    refine AFn.vc [] Tryd.func70 rfl Tryd.mixed (by kernel_rfl) Tryd.ntmps70 Tryd.results70 (by simp) ?_
    push_cast [e1, e2, e3, e4, e5]
    rfl
  all_goals
    refine AFn.vc [] Tryd.func70 rfl Tryd.mixed (by kernel_rfl) Tryd.ntmps70 Tryd.results70 (by simp) ?_
    push_cast
    rfl
theorem c70_2 (kind : Int) : AFn Tryd.prog Γ 70 [.c (.d (.int .i64 2)), .c (.d (.int .i64 kind))] [.d (.bool (decide ((ofF kind).role = 2)))] := by
  rcases of_cases kind with ⟨e, h⟩ | rfl | rfl | rfl | rfl | rfl | rfl | rfl | rfl | rfl | rfl | rfl
  · rw [e]
    have e1 := eq_false (show ¬ kind = 1 by omega)
    have e2 := eq_false (show ¬ kind = 5 by omega)
    have e3 := eq_false (show ¬ kind = 6 by omega)
    have e4 := eq_false (show ¬ kind = 9 by omega)
    have e5 := eq_false (show ¬ kind = 11 by omega)
    refine AFn.vc [] Tryd.func70 rfl Tryd.mixed (by kernel_rfl) Tryd.ntmps70 Tryd.results70 (by simp) ?_
    push_cast [e1, e2, e3, e4, e5]
    have hr : kd0.role = 0 := rfl
    rw [hr]
    refine ⟨fun h1 => ?_, fun h1 => by simp⟩
    simp; omega
  all_goals
    refine AFn.vc [] Tryd.func70 rfl Tryd.mixed (by kernel_rfl) Tryd.ntmps70 Tryd.results70 (by simp) ?_
    push_cast
    rfl
theorem c75 (s : Side) (kind day : Int) : AFn Tryd.prog Γ 75 [.agg (s.ds.map C.d), .c (.d (.int .i64 kind)), .c (.d (.int .i64 day))] [.agg (becomeF s kind day).ds] := by
  rcases of_cases kind with ⟨e, h⟩ | rfl | rfl | rfl | rfl | rfl | rfl | rfl | rfl | rfl | rfl | rfl
  · have hb : becomeF s kind day = s := by unfold becomeF; rw [e]; rfl
    rw [hb]
    have e1 := eq_false (show ¬ kind = 1 by omega)
    have e2 := eq_false (show ¬ kind = 2 by omega)
    have e3 := eq_false (show ¬ kind = 3 by omega)
    have e4 := eq_false (show ¬ kind = 4 by omega)
    have e5 := eq_false (show ¬ kind = 5 by omega)
    have e6 := eq_false (show ¬ kind = 6 by omega)
    have e7 := eq_false (show ¬ kind = 7 by omega)
    have e8 := eq_false (show ¬ kind = 8 by omega)
    have e9 := eq_false (show ¬ kind = 9 by omega)
    have e10 := eq_false (show ¬ kind = 10 by omega)
    have e11 := eq_false (show ¬ kind = 11 by omega)
    refine AFn.vc [] Tryd.func75 rfl Tryd.mixed (by kernel_rfl) Tryd.ntmps75 Tryd.results75 (by simp) ?_
    push_cast [e1, e2, e3, e4, e5, e6, e7, e8, e9, e10, e11]
  case' inr.inr.inr.inr.inr.inr.inr.inr.inl =>
    refine AFn.vc [] Tryd.func75 rfl Tryd.mixed (by kernel_rfl) Tryd.ntmps75 Tryd.results75 (by simp) ?_
    push_cast
    refine CallL.q (c101 s.due day) ?_
    push_cast
    exact ⟨rfl, rfl, rfl, rfl, rfl, rfl, rfl, rfl, rfl⟩
  all_goals
    refine AFn.vc [] Tryd.func75 rfl Tryd.mixed (by kernel_rfl) Tryd.ntmps75 Tryd.results75 (by simp) ?_
    push_cast
    exact ⟨rfl, rfl, rfl, rfl, rfl, rfl, rfl, rfl, rfl⟩
end Go.Proofs
