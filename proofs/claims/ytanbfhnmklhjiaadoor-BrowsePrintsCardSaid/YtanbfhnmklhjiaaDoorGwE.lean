/- Part of a proof about this program; no condition of its own. -/
import Derived.Test.YtanbfhnmklhjiaaDoorGwC
import Derived.Test.YtanbfhnmklhjiaaDoorGwD
set_option linter.all false
/- The kinds of tags, by the reference and by the program. No condition. -/
namespace Go.Fc
open Go Go.Ax Go.Or Go.Tx
structure Tr where
  tag : Str
  rep : Bool
  must : Bool
  codes : Str
  once : Str
  needs : Str
  auth : Int
  deriving DecidableEq, Inhabited
def Tr.ds (t : Tr) : List D := [.str t.tag, .bool t.rep, .bool t.must, .str t.codes, .str t.once, .str t.needs, .int .i64 t.auth]
@[push_cast] theorem Tr.ds_eq (t : Tr) : t.ds = [.str t.tag, .bool t.rep, .bool t.must, .str t.codes, .str t.once, .str t.needs, .int .i64 t.auth] := rfl
def Tr0 : Tr := ⟨[], false, false, [], [], [], 0⟩
def stdL : List Tr := [⟨[48, 50, 48], true, false, [97, 122], [], [], 0⟩, ⟨[48, 50, 50], true, false, [97], [], [], 0⟩, ⟨[48, 52, 49], true, false, [97], [], [], 0⟩, ⟨[49, 48, 48], false, false, [52, 97, 100], [97], [97], 1⟩, ⟨[49, 49, 48], false, false, [97, 98], [97], [97], 2⟩,
  ⟨[50, 52, 53], false, true, [97, 98, 99, 110, 112], [97, 99], [97], 0⟩, ⟨[50, 52, 54], true, false, [97, 98], [97], [97], 0⟩, ⟨[50, 53, 48], false, false, [97, 98], [], [], 0⟩, ⟨[50, 54, 48], true, false, [97, 98, 99], [], [], 0⟩, ⟨[50, 54, 52], true, false, [97, 98, 99], [], [], 0⟩,
  ⟨[51, 48, 48], true, false, [97, 98, 99], [], [], 0⟩, ⟨[52, 52, 48], true, false, [97, 118], [97], [97], 4⟩, ⟨[52, 57, 48], true, false, [97, 118], [97], [97], 0⟩, ⟨[53, 48, 48], true, false, [97], [97], [97], 0⟩, ⟨[53, 50, 48], true, false, [97], [], [], 0⟩,
  ⟨[54, 48, 48], true, false, [97, 100, 120, 121, 122], [97], [97], 1⟩, ⟨[54, 49, 48], true, false, [97, 98, 120, 121, 122], [97], [97], 2⟩, ⟨[54, 53, 48], true, false, [97, 120, 121, 122], [97], [97], 3⟩, ⟨[54, 53, 49], true, false, [97, 120, 121, 122], [97], [97], 3⟩, ⟨[55, 48, 48], true, false, [52, 97, 100], [97], [97], 1⟩,
  ⟨[55, 49, 48], true, false, [97, 98], [97], [97], 2⟩, ⟨[55, 55, 54], true, false, [116, 119], [], [], 0⟩, ⟨[55, 56, 55], true, false, [116, 119], [], [], 0⟩, ⟨[56, 51, 48], true, false, [97, 118], [97], [97], 4⟩, ⟨[56, 53, 54], true, false, [117, 122], [], [], 0⟩]
theorem stdL_len : stdL.length = 25 := rfl
def findT (l : List Tr) (tag : Str) : Option Tr := l.find? fun t => decide (t.tag = tag)
def kindF (tag : Str) : Int := ((findT stdL tag).getD Tr0).auth
theorem findT_step {l : List Tr} {k : Nat} {tag : Str} (h : k < l.length) : findT (l.drop k) tag = if l[k].tag = tag then some l[k] else findT (l.drop (k + 1)) tag := by
  rw [drop_cons h]
  unfold findT
  rw [List.find?_cons]
  by_cases e : l[k].tag = tag
  · rw [if_pos e, decide_eq_true e]
  · rw [if_neg e, decide_eq_false e]
end Go.Fc
namespace Go.Proofs
open Go Go.Ax Go.Tx Go.Lib Go.RowKit Go.Fc
set_option maxRecDepth 100000
set_option maxHeartbeats 0
variable {Γ : List (Nat × List D)}
def stdD : List D := (stdL.map Fc.Tr.ds).flatten
def predTr (p : Fc.Tr → Bool) : List AV → List RV → Prop := fun a r => ∃ x : Fc.Tr, a = [.agg (x.ds.map C.d)] ∧ r = [.d (.bool (p x))]
theorem c59 (x : Fc.Tr) (tag : Str) : AFn Tryd.prog Γ 59 [.agg (x.ds.map C.d), .c (.ptr [.str tag])] [.d (.bool (decide (x.tag = tag)))] := by
  refine AFn.vc [] Tryd.func59 rfl Tryd.mixed (by kernel_rfl) Tryd.ntmps59 Tryd.results59 (by simp) ?_
  push_cast
theorem c58 (l : List Fc.Tr) (p : Fc.Tr → Bool) (hl : l.length ≤ 2000000) : AFn Tryd.prog Γ 58 [.c (.bor 7 (l.map Fc.Tr.ds)), .c (.fn (FnSpec Tryd.prog Γ (predTr p)))] [.d (.int .i64 (fI p 0 l))] := by
  refine AFn.vc [] Tryd.func58 rfl Tryd.mixed (by kernel_rfl) Tryd.ntmps58 Tryd.results58 (by simp) ?_
  push_cast
  refine LoopV.cnt Tryd.mixed [0, 1, 7] l.length (fun k => [(8, .c (.d (.int .i64 k)))]) (fun k => fI p k (l.drop k) = fI p 0 l) (by simp) ?_ (by push_cast)
  intro k hk hinv
  push_cast
  refine ⟨fun h => ⟨by omega, CallL.fn _ _ ⟨l[k], rfl, rfl⟩ ?_⟩, fun h => ?_⟩
  · push_cast
    refine ⟨fun a => ?_, fun a => ⟨by omega, by omega, ?_⟩⟩
    · rw [← hinv, Fc.drop_cons (by omega), fI, if_pos a]
    · rw [← hinv, Fc.drop_cons (show k < l.length by omega), fI, if_neg (by simp [a])]
  · rw [← hinv, List.drop_eq_nil_of_le (by omega)]; rfl
theorem c60 (l : List Fc.Tr) (hl : l.length ≤ 1000) : AFn Tryd.prog Γ 60 [.c (.bor 7 (l.map Fc.Tr.ds))] [.fresh 70 7 (l.map Fc.Tr.ds)] := by
  refine AFn.vc [] Tryd.func60 rfl Tryd.mixed (by kernel_rfl) Tryd.ntmps60 Tryd.results60 (by simp) ?_
  push_cast
  exact ⟨fun _ => ⟨by omega, by omega⟩, fun h b => ⟨fun _ => h, fun _ => ⟨by omega, by omega⟩⟩⟩
theorem bor_of_glob {V : Vw} {g sz : Nat} {els : List (List D)} (h : Gp ⟨V, []⟩ (g, els.flatten)) (hl : ∀ e ∈ els, e.length = sz) (hm : els.length ≤ maxLen) : Ar ⟨V, []⟩ (.c (.bor sz els)) (.slice (some ⟨g, 0, none⟩) els.length els.length) := by
  obtain ⟨ad, u, e, hc⟩ := h.1
  cases e
  exact ⟨some ⟨g, 0, none⟩, els.length, fun i j => u (i * sz + j), rfl, Nat.le_refl _, hm, hl, fun _ => ⟨⟨g, 0, none⟩, rfl, fun i e j c h1 h2 => (hc _ c (flat_get els hl i e j c h1 h2)).1⟩, fun i e j c h1 h2 => (hc _ c (flat_get els hl i e j c h1 h2)).2⟩
theorem c32 (hΓ : (0, stdD) ∈ Γ) : AFn Tryd.prog Γ 32 [] [.fresh 70 7 (stdL.map Fc.Tr.ds)] := by
  refine ⟨⟨_, Tryd.func32, by kernel_rfl, by kernel_rfl⟩, fun V w vals hv ha => ?_⟩
  cases ha
  have hb := bor_of_glob (sz := 7) (els := stdL.map Fc.Tr.ds) (hv.glob _ hΓ) (fun e he => by obtain ⟨x, _, rfl⟩ := List.mem_map.1 he; rfl) (by rw [List.length_map, stdL_len]; unfold maxLen; omega)
  rw [List.length_map, stdL_len] at hb
  have hc := (c60 (Γ := Γ) stdL (by rw [stdL_len]; omega)).run V w [.slice (some ⟨0, 0, none⟩) 25 25] hv (.cons hb .nil)
  show Calls Tryd.prog 32 #[] w _
  generalize stdL.map Fc.Tr.ds = els at *
  go_enter Tryd.func32, Tryd.ntmps32
  go_wp2_with (go_at_call 60; refine hc.mono ?_; rintro e w' ⟨V', vs, rfl, h1, h2, h3, h4, h5⟩)
  cases h4 with | cons h6 h7 =>
  cases h7
  go_ret
  exact ⟨V', _, rfl, h1, h2, h3, .cons h6 .nil, h5⟩
def fiT (l : List Fc.Tr) (tag : Str) : Int := fI (fun t : Fc.Tr => decide (t.tag = tag)) 0 l
theorem fiT_find : ∀ (l : List Fc.Tr) (tag : Str), (fiT l tag < 0 ∧ findT l tag = none) ∨ (0 ≤ fiT l tag ∧ ∃ h : (fiT l tag).toNat < l.length, findT l tag = some l[(fiT l tag).toNat]) := by
  intro l tag
  unfold fiT findT
  have e := fI_find (fun t : Fc.Tr => decide (t.tag = tag)) l 0
  by_cases h : l.findIdx (fun t : Fc.Tr => decide (t.tag = tag)) < l.length
  · rw [if_pos h] at e
    rw [e]
    refine .inr ⟨by omega, by simpa using h, ?_⟩
    have : (((0 + l.findIdx fun t : Fc.Tr => decide (t.tag = tag)) : Nat) : Int).toNat = l.findIdx fun t : Fc.Tr => decide (t.tag = tag) := by omega
    simp only [this]
    rw [List.find?_eq_some_iff_getElem]
    refine ⟨List.findIdx_getElem (w := h), _, h, rfl, fun j hj => ?_⟩
    have := List.not_of_lt_findIdx hj
    simpa using this
  · rw [if_neg h] at e
    rw [e]
    refine .inl ⟨by omega, ?_⟩
    rw [List.find?_eq_none]
    intro x hx hp
    exact h (List.findIdx_lt_length_of_exists ⟨x, hx, hp⟩)
theorem c31 (l : List Fc.Tr) (tag : Str) (hl : l.length ≤ 1000) : AFn Tryd.prog Γ 31 [.c (.bor 7 (l.map Fc.Tr.ds)), .c (.d (.str tag))] [.agg ((findT l tag).getD Tr0).ds, .d (.bool (findT l tag).isSome)] := by
  have hR := fiT_find l tag
  have hc := c58 (Γ := Γ) l (fun t => decide (t.tag = tag)) (by omega)
  rw [show fI (fun t : Fc.Tr => decide (t.tag = tag)) 0 l = fiT l tag from rfl] at hc
  generalize fiT l tag = R at *
  generalize findT l tag = F at *
  refine AFn.vc [] Tryd.func31 rfl Tryd.mixed (by kernel_rfl) Tryd.ntmps31 Tryd.results31 (by simp) ?_
  push_cast
  refine CallL.q hc ?_ (.cons (ArgOk.bor rfl) (.cons (ArgOk.clo (dss := [[.str tag]]) (c59 (Γ := []) Tr0 []).call rfl (fun a r h => by obtain ⟨x, rfl, rfl⟩ := h; exact c59 x _)) .nil))
  push_cast
  rcases hR with ⟨h1, rfl⟩ | ⟨h1, h2, rfl⟩
  · exact ⟨fun _ => ⟨⟨rfl, rfl, rfl, rfl, rfl, rfl, rfl⟩, rfl⟩, fun h => by omega⟩
  · exact ⟨fun h => by omega, fun _ => ⟨h1, h2, ⟨rfl, rfl, rfl, rfl, rfl, rfl, rfl⟩, rfl⟩⟩
theorem c24 (hΓ : (0, stdD) ∈ Γ) (tag : Str) : AFn Tryd.prog Γ 24 [.c (.d (.str tag))] [.d (.int .i64 (kindF tag))] := by
  refine AFn.vc [] Tryd.func24 rfl Tryd.mixed (by kernel_rfl) Tryd.ntmps24 Tryd.results24 (by simp) ?_
  push_cast
  refine CallL.own (c32 hΓ) ?_
  push_cast
  refine CallL.q (c31 stdL tag (by rw [stdL_len]; omega)) ?_
  push_cast
  rfl
end Go.Proofs

/- Headings of fields. No condition. -/
namespace Go.Fc
open Go Go.Ax Go.Or Go.Tx
theorem join_bd2 {K : Nat} (sep : Str) : ∀ (l : List Str), (∀ v ∈ l, v.length ≤ K) → (Lib.join l sep).length ≤ l.length * (K + sep.length)
  | [], _ => by simp [Lib.join]
  | [x], h => by
    have := h x (by simp)
    simp [Lib.join]; omega
  | x :: y :: r, h => by
    have h1 := h x (by simp)
    have h2 := join_bd2 sep (y :: r) (fun v hv => h v (List.mem_cons_of_mem _ hv))
    have e : (Lib.join (x :: y :: r) sep).length = x.length + sep.length + (Lib.join (y :: r) sep).length := by
      simp [Lib.join]; omega
    rw [e, List.length_cons, Nat.add_mul]
    omega
/-- A field of moderate size. -/
structure Fld.hok (f : Fld) : Prop where
  n : f.subs.length ≤ 100
  v : ∀ s ∈ f.subs, s.val.length ≤ 1000 ∧ 0 ≤ s.code ∧ s.code ≤ 255
theorem Fld.hok.join {f : Fld} (h : f.hok) (codes sep : Str) (hs : sep.length ≤ 10) : (Lib.join (allS f.subs codes) sep).length ≤ 110000 := by
  have h1 := join_bd2 (K := 1000) sep (allS f.subs codes) (fun v hv => by obtain ⟨s, hs, rfl⟩ := allS_mem hv; exact (h.v s hs).1)
  have h2 := allS_len f.subs codes
  have h3 := h.n
  have h4 : (allS f.subs codes).length * (1000 + sep.length) ≤ 100 * 1010 := Nat.mul_le_mul (by omega) (by omega)
  omega
theorem getS_len {f : Fld} (h : f.hok) (c : Int) : (getS f.subs c).1.length ≤ 1000 := by
  unfold getS
  split
  · next s hs => exact (h.v s (List.mem_of_find?_eq_some hs)).1
  · simp
def headF (f : Fld) : Str :=
  if kindF f.tag = 1 then (if (getS f.subs 100).2 = true then Lib.join (allS f.subs [97]) [32] ++ ([44, 32] ++ (getS f.subs 100).1) else Lib.join (allS f.subs [97]) [32])
  else if kindF f.tag = 2 ∨ kindF f.tag = 4 then (getS f.subs 97).1 else if kindF f.tag = 3 then Lib.join (allS f.subs [97, 120, 121, 122]) [45, 45] else []
theorem headF_len {f : Fld} (h : f.hok) : (headF f).length ≤ 120000 := by
  have h1 := h.join [97] [32] (by decide)
  have h2 := h.join [97, 120, 121, 122] [45, 45] (by decide)
  have h3 := getS_len h 97
  have h4 := getS_len h 100
  unfold headF
  repeat' split
  all_goals (try simp only [List.length_append, List.length_cons, List.length_nil])
  all_goals omega
end Go.Fc
namespace Go.Proofs
open Go Go.Ax Go.Tx Go.Lib Go.RowKit Go.Fc
set_option maxRecDepth 100000
set_option maxHeartbeats 0
variable {Γ : List (Nat × List D)}
theorem c25 (hΓ : (0, stdD) ∈ Γ) (f : Fld) (hk : f.hok) : AFn Tryd.prog Γ 25 [.agg (f.ds.map C.d)] [.d (.str (headF f))] := by
  have hn := hk.n
  have h1 := hk.join [97] [32] (by decide)
  have h2 := hk.join [97, 120, 121, 122] [45, 45] (by decide)
  have h4 := getS_len hk 100
  unfold headF
  refine AFn.vc [] Tryd.func25 rfl Tryd.mixed (by kernel_rfl) Tryd.ntmps25 Tryd.results25 (by simp) ?_
  push_cast
  refine CallL.q (c24 hΓ f.tag) ?_
  push_cast
  have hu : ∀ s ∈ f.subs, 0 ≤ s.code ∧ s.code ≤ 255 := fun s hs => (hk.v s hs).2
  generalize kindF f.tag = K
  have no : ∀ {a : Prop} {p : Prop}, ¬ a → a → p := fun h1 h2 => absurd h2 h1
  by_cases e1 : K = 1
  · subst e1
    refine ⟨fun _ => ?_, no (by omega)⟩
    refine CallL.q (c33 f [97] (by omega) hu (by omega)) ?_
    push_cast
    refine CallL.q (c34 f 100 (by omega)) ?_
    push_cast
    refine ⟨fun g => ?_, fun g => ?_⟩
    · rw [if_pos g]
      first
        | exact ⟨by omega, by omega, by simp⟩
        | exact ⟨by simp only [List.length_append, List.length_cons, List.length_nil]; omega, by simp only [List.length_append, List.length_cons, List.length_nil]; omega, rfl⟩
    · rw [if_neg (by simp [g])]
  by_cases e2 : K = 2
  · subst e2
    refine ⟨no (by omega), fun _ => ⟨fun _ => ⟨fun _ => ?_, no (by omega)⟩, no (by omega)⟩⟩
    refine CallL.q (c34 f 97 (by omega)) ?_
    push_cast
  by_cases e4 : K = 4
  · subst e4
    refine ⟨no (by omega), fun _ => ⟨no (by omega), fun _ => ⟨fun _ => ?_, no (by omega)⟩⟩⟩
    refine CallL.q (c34 f 97 (by omega)) ?_
    push_cast
  by_cases e3 : K = 3
  · subst e3
    refine ⟨no (by omega), fun _ => ⟨no (by omega), fun _ => ⟨no (by omega), fun _ => ⟨fun _ => ?_, no (by omega)⟩⟩⟩⟩
    refine CallL.q (c36 f [97, 120, 121, 122] (by omega) hu) ?_
    push_cast
    refine CallL.q (c35 (allS f.subs [97, 120, 121, 122]) [45, 45] (by have := allS_len f.subs [97, 120, 121, 122]; omega) (by omega)) ?_
    push_cast
  refine ⟨no e1, fun _ => ⟨no e2, fun _ => ⟨no e4, fun _ => ⟨no e3, fun _ => ?_⟩⟩⟩⟩
  rw [if_neg e1, if_neg (by omega), if_neg e3]
end Go.Proofs
