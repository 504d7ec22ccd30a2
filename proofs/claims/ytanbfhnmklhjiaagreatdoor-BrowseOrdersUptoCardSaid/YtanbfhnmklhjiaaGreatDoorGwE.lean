/- Part of a proof about this program; no condition of its own. -/
import Derived.Test.YtanbfhnmklhjiaaGreatDoorGwC
import Derived.Test.YtanbfhnmklhjiaaGreatDoorGwD
import Derived.Test.YtanbfhnmklhjiaaGreatDoorGtA
import Derived.Test.YtanbfhnmklhjiaaGreatDoorGfA
set_option linter.all false
/- The kinds of tags, by the reference and by the program. No condition. -/
namespace Go.Fc
open Go Go.Ax Go.Or Go.Tx
structure Tr where
  tag : Str
  rep : Bool
  must : Bool
  codes : Str
  once : Str
  needs : Str
  auth : Int
  deriving DecidableEq, Inhabited
def Tr.ds (t : Tr) : List D := [.str t.tag, .bool t.rep, .bool t.must, .str t.codes, .str t.once, .str t.needs, .int .i64 t.auth]
@[push_cast] theorem Tr.ds_eq (t : Tr) : t.ds = [.str t.tag, .bool t.rep, .bool t.must, .str t.codes, .str t.once, .str t.needs, .int .i64 t.auth] := rfl
def Tr0 : Tr := ⟨[], false, false, [], [], [], 0⟩
def stdL : List Tr := [⟨[48, 50, 48], true, false, [97, 122], [], [], 0⟩, ⟨[48, 50, 50], true, false, [97], [], [], 0⟩, ⟨[48, 52, 49], true, false, [97], [], [], 0⟩, ⟨[49, 48, 48], false, false, [52, 97, 100], [97], [97], 1⟩, ⟨[49, 49, 48], false, false, [97, 98], [97], [97], 2⟩,
  ⟨[50, 52, 53], false, true, [97, 98, 99, 110, 112], [97, 99], [97], 0⟩, ⟨[50, 52, 54], true, false, [97, 98], [97], [97], 0⟩, ⟨[50, 53, 48], false, false, [97, 98], [], [], 0⟩, ⟨[50, 54, 48], true, false, [97, 98, 99], [], [], 0⟩, ⟨[50, 54, 52], true, false, [97, 98, 99], [], [], 0⟩,
  ⟨[51, 48, 48], true, false, [97, 98, 99], [], [], 0⟩, ⟨[52, 52, 48], true, false, [97, 118], [97], [97], 4⟩, ⟨[52, 57, 48], true, false, [97, 118], [97], [97], 0⟩, ⟨[53, 48, 48], true, false, [97], [97], [97], 0⟩, ⟨[53, 50, 48], true, false, [97], [], [], 0⟩,
  ⟨[54, 48, 48], true, false, [97, 100, 120, 121, 122], [97], [97], 1⟩, ⟨[54, 49, 48], true, false, [97, 98, 120, 121, 122], [97], [97], 2⟩, ⟨[54, 53, 48], true, false, [97, 120, 121, 122], [97], [97], 3⟩, ⟨[54, 53, 49], true, false, [97, 120, 121, 122], [97], [97], 3⟩, ⟨[55, 48, 48], true, false, [52, 97, 100], [97], [97], 1⟩,
  ⟨[55, 49, 48], true, false, [97, 98], [97], [97], 2⟩, ⟨[55, 55, 54], true, false, [116, 119], [], [], 0⟩, ⟨[55, 56, 55], true, false, [116, 119], [], [], 0⟩, ⟨[56, 51, 48], true, false, [97, 118], [97], [97], 4⟩, ⟨[56, 53, 54], true, false, [117, 122], [], [], 0⟩]
theorem stdL_len : stdL.length = 25 := rfl
def findT (l : List Tr) (tag : Str) : Option Tr := l.find? fun t => decide (t.tag = tag)
def kindF (tag : Str) : Int := ((findT stdL tag).getD Tr0).auth
theorem findT_step {l : List Tr} {k : Nat} {tag : Str} (h : k < l.length) : findT (l.drop k) tag = if l[k].tag = tag then some l[k] else findT (l.drop (k + 1)) tag := by
  rw [drop_cons h]
  unfold findT
  rw [List.find?_cons]
  by_cases e : l[k].tag = tag
  · rw [if_pos e, decide_eq_true e]
  · rw [if_neg e, decide_eq_false e]
end Go.Fc
namespace Go.Proofs
open Go Go.Ax Go.Tx Go.Lib Go.RowKit Go.Fc
set_option maxRecDepth 100000
set_option maxHeartbeats 0
variable {Γ : List (Nat × List D)}
theorem c190 (a : Str) (b c : Bool) (d e f : Str) (n : Int) : AFn Tryz.prog Γ 190 [.c (.d (.str a)), .c (.d (.bool b)), .c (.d (.bool c)), .c (.d (.str d)), .c (.d (.str e)), .c (.d (.str f)), .c (.d (.int .i64 n))] [.agg [.str a, .bool b, .bool c, .str d, .str e, .str f, .int .i64 n]] := by
  refine AFn.vc [] Tryz.func190 rfl Tryz.mixed (by kernel_rfl) Tryz.ntmps190 Tryz.results190 (by simp) ?_
  push_cast
theorem c131 : AFn Tryz.prog Γ 131 [] [.d (.lst 7 (stdL.map Fc.Tr.ds))] := by
  refine AFn.vc [] Tryz.func131 rfl Tryz.mixed (by kernel_rfl) Tryz.ntmps131 Tryz.results131 (by simp) ?_
  push_cast
  iterate 25
    refine CallL.q (c190 _ _ _ _ _ _ _) ?_
    push_cast
  rfl
theorem c130 (l : List Fc.Tr) (tag : Str) (hl : l.length ≤ 1000) : AFn Tryz.prog Γ 130 [.c (.d (.lst 7 (l.map Fc.Tr.ds))), .c (.d (.str tag))] [.agg ((findT l tag).getD Tr0).ds, .d (.bool (findT l tag).isSome)] := by
  refine AFn.vc [] Tryz.func130 rfl Tryz.mixed (by kernel_rfl) Tryz.ntmps130 Tryz.results130 (by simp) ?_
  push_cast
  refine LoopV.cnt Tryz.mixed [0, 1, 4] l.length (fun k => [(6, .c (.d (.int .i64 k)))]) (fun k => findT (l.drop k) tag = findT l tag) (by simp) ?_ (by push_cast)
  intro k hk hinv
  push_cast
  refine ⟨fun h => ?_, fun h => ?_⟩
  · have hlt : k < l.length := by omega
    rw [findT_step hlt] at hinv
    refine ⟨hlt, fun e => ?_, fun e => ?_⟩
    · rw [if_pos e] at hinv
      rw [← hinv]
      exact ⟨hlt, ⟨rfl, rfl, rfl, rfl, rfl, rfl, rfl⟩, rfl⟩
    · rw [if_neg e] at hinv
      exact ⟨by omega, hlt, hinv⟩
  · rw [List.drop_eq_nil_of_le (by omega)] at hinv
    rw [← hinv]
    exact ⟨⟨rfl, rfl, rfl, rfl, rfl, rfl, rfl⟩, rfl⟩
theorem c67 (tag : Str) : AFn Tryz.prog Γ 67 [.c (.d (.str tag))] [.d (.int .i64 (kindF tag))] := by
  refine AFn.vc [] Tryz.func67 rfl Tryz.mixed (by kernel_rfl) Tryz.ntmps67 Tryz.results67 (by simp) ?_
  push_cast
  refine CallL.q c131 ?_
  push_cast
  refine CallL.q (c130 stdL tag (by rw [stdL_len]; omega)) ?_
  push_cast
  unfold kindF
  cases findT stdL tag <;> simp [Tr0]
def stdD : List D := (stdL.map Fc.Tr.ds).flatten
def predTr (p : Fc.Tr → Bool) : List AV → List RV → Prop := fun a r => ∃ x : Fc.Tr, a = [.agg (x.ds.map C.d)] ∧ r = [.d (.bool (p x))]
theorem c241 (x : Fc.Tr) (tag : Str) : AFn Tryz.prog Γ 241 [.agg (x.ds.map C.d), .c (.ptr [.str tag])] [.d (.bool (decide (x.tag = tag)))] := by
  refine AFn.vc [] Tryz.func241 rfl Tryz.mixed (by kernel_rfl) Tryz.ntmps241 Tryz.results241 (by simp) ?_
  push_cast
theorem c240 (l : List Fc.Tr) (p : Fc.Tr → Bool) (hl : l.length ≤ 2000000) : AFn Tryz.prog Γ 240 [.c (.bor 7 (l.map Fc.Tr.ds)), .c (.fn (FnSpec Tryz.prog Γ (predTr p)))] [.d (.int .i64 (fI p 0 l))] := by
  refine AFn.vc [] Tryz.func240 rfl Tryz.mixed (by kernel_rfl) Tryz.ntmps240 Tryz.results240 (by simp) ?_
  push_cast
  refine LoopV.cnt Tryz.mixed [0, 1, 7] l.length (fun k => [(8, .c (.d (.int .i64 k)))]) (fun k => fI p k (l.drop k) = fI p 0 l) (by simp) ?_ (by push_cast)
  intro k hk hinv
  push_cast
  refine ⟨fun h => ⟨by omega, CallL.fn _ _ ⟨l[k], rfl, rfl⟩ ?_⟩, fun h => ?_⟩
  · push_cast
    refine ⟨fun a => ?_, fun a => ⟨by omega, by omega, ?_⟩⟩
    · rw [← hinv, Fc.drop_cons (by omega), fI, if_pos a]
    · rw [← hinv, Fc.drop_cons (show k < l.length by omega), fI, if_neg (by simp [a])]
  · rw [← hinv, List.drop_eq_nil_of_le (by omega)]; rfl
theorem c242 (l : List Fc.Tr) (hl : l.length ≤ 1000) : AFn Tryz.prog Γ 242 [.c (.bor 7 (l.map Fc.Tr.ds))] [.fresh 155 7 (l.map Fc.Tr.ds)] := by
  refine AFn.vc [] Tryz.func242 rfl Tryz.mixed (by kernel_rfl) Tryz.ntmps242 Tryz.results242 (by simp) ?_
  push_cast
  exact ⟨fun _ => ⟨by omega, by omega⟩, fun h b => ⟨fun _ => h, fun _ => ⟨by omega, by omega⟩⟩⟩
theorem bor_of_glob {V : Vw} {g sz : Nat} {els : List (List D)} (h : Gp ⟨V, []⟩ (g, els.flatten)) (hl : ∀ e ∈ els, e.length = sz) (hm : els.length ≤ maxLen) : Ar ⟨V, []⟩ (.c (.bor sz els)) (.slice (some ⟨g, 0, none⟩) els.length els.length) := by
  obtain ⟨ad, u, e, hc⟩ := h.1
  cases e
  exact ⟨some ⟨g, 0, none⟩, els.length, fun i j => u (i * sz + j), rfl, Nat.le_refl _, hm, hl, fun _ => ⟨⟨g, 0, none⟩, rfl, fun i e j c h1 h2 => (hc _ c (flat_get els hl i e j c h1 h2)).1⟩, fun i e j c h1 h2 => (hc _ c (flat_get els hl i e j c h1 h2)).2⟩
theorem c171 (hΓ : (1, stdD) ∈ Γ) : AFn Tryz.prog Γ 171 [] [.fresh 155 7 (stdL.map Fc.Tr.ds)] := by
  refine ⟨⟨_, Tryz.func171, by kernel_rfl, by kernel_rfl⟩, fun V w vals hv ha => ?_⟩
  cases ha
  have hb := bor_of_glob (sz := 7) (els := stdL.map Fc.Tr.ds) (hv.glob _ hΓ) (fun e he => by obtain ⟨x, _, rfl⟩ := List.mem_map.1 he; rfl) (by rw [List.length_map, stdL_len]; unfold maxLen; omega)
  rw [List.length_map, stdL_len] at hb
  have hc := (c242 (Γ := Γ) stdL (by rw [stdL_len]; omega)).run V w [.slice (some ⟨1, 0, none⟩) 25 25] hv (.cons hb .nil)
  show Calls Tryz.prog 171 #[] w _
  generalize stdL.map Fc.Tr.ds = els at *
  go_enter Tryz.func171, Tryz.ntmps171
  go_wp2_with (go_at_call 242; refine hc.mono ?_; rintro e w' ⟨V', vs, rfl, h1, h2, h3, h4, h5⟩)
  cases h4 with | cons h6 h7 =>
  cases h7
  go_ret
  exact ⟨V', _, rfl, h1, h2, h3, .cons h6 .nil, h5⟩
def fiT (l : List Fc.Tr) (tag : Str) : Int := fI (fun t : Fc.Tr => decide (t.tag = tag)) 0 l
theorem fiT_find : ∀ (l : List Fc.Tr) (tag : Str), (fiT l tag < 0 ∧ findT l tag = none) ∨ (0 ≤ fiT l tag ∧ ∃ h : (fiT l tag).toNat < l.length, findT l tag = some l[(fiT l tag).toNat]) := by
  intro l tag
  unfold fiT findT
  have e := fI_find (fun t : Fc.Tr => decide (t.tag = tag)) l 0
  by_cases h : l.findIdx (fun t : Fc.Tr => decide (t.tag = tag)) < l.length
  · rw [if_pos h] at e
    rw [e]
    refine .inr ⟨by omega, by simpa using h, ?_⟩
    have : (((0 + l.findIdx fun t : Fc.Tr => decide (t.tag = tag)) : Nat) : Int).toNat = l.findIdx fun t : Fc.Tr => decide (t.tag = tag) := by omega
    simp only [this]
    rw [List.find?_eq_some_iff_getElem]
    refine ⟨List.findIdx_getElem (w := h), _, h, rfl, fun j hj => ?_⟩
    have := List.not_of_lt_findIdx hj
    simpa using this
  · rw [if_neg h] at e
    rw [e]
    refine .inl ⟨by omega, ?_⟩
    rw [List.find?_eq_none]
    intro x hx hp
    exact h (List.findIdx_lt_length_of_exists ⟨x, hx, hp⟩)
theorem c170 (l : List Fc.Tr) (tag : Str) (hl : l.length ≤ 1000) : AFn Tryz.prog Γ 170 [.c (.bor 7 (l.map Fc.Tr.ds)), .c (.d (.str tag))] [.agg ((findT l tag).getD Tr0).ds, .d (.bool (findT l tag).isSome)] := by
  have hR := fiT_find l tag
  have hc := c240 (Γ := Γ) l (fun t => decide (t.tag = tag)) (by omega)
  rw [show fI (fun t : Fc.Tr => decide (t.tag = tag)) 0 l = fiT l tag from rfl] at hc
  generalize fiT l tag = R at *
  generalize findT l tag = F at *
  refine AFn.vc [] Tryz.func170 rfl Tryz.mixed (by kernel_rfl) Tryz.ntmps170 Tryz.results170 (by simp) ?_
  push_cast
  refine CallL.q hc ?_ (.cons (ArgOk.bor rfl) (.cons (ArgOk.clo (dss := [[.str tag]]) (c241 (Γ := []) Tr0 []).call rfl (fun a r h => by obtain ⟨x, rfl, rfl⟩ := h; exact c241 x _)) .nil))
  push_cast
  rcases hR with ⟨h1, rfl⟩ | ⟨h1, h2, rfl⟩
  · exact ⟨fun _ => ⟨⟨rfl, rfl, rfl, rfl, rfl, rfl, rfl⟩, rfl⟩, fun h => by omega⟩
  · exact ⟨fun h => by omega, fun _ => ⟨h1, h2, ⟨rfl, rfl, rfl, rfl, rfl, rfl, rfl⟩, rfl⟩⟩
theorem c122 (hΓ : (1, stdD) ∈ Γ) (tag : Str) : AFn Tryz.prog Γ 122 [.c (.d (.str tag))] [.d (.int .i64 (kindF tag))] := by
  refine AFn.vc [] Tryz.func122 rfl Tryz.mixed (by kernel_rfl) Tryz.ntmps122 Tryz.results122 (by simp) ?_
  push_cast
  refine CallL.own (c171 hΓ) ?_
  push_cast
  refine CallL.q (c170 stdL tag (by rw [stdL_len]; omega)) ?_
  push_cast
  rfl
end Go.Proofs

/- Headings of fields. No condition. -/
namespace Go.Fc
open Go Go.Ax Go.Or Go.Tx
theorem join_bd2 {K : Nat} (sep : Str) : ∀ (l : List Str), (∀ v ∈ l, v.length ≤ K) → (Lib.join l sep).length ≤ l.length * (K + sep.length)
  | [], _ => by simp [Lib.join]
  | [x], h => by
    have := h x (by simp)
    simp [Lib.join]; omega
  | x :: y :: r, h => by
    have h1 := h x (by simp)
    have h2 := join_bd2 sep (y :: r) (fun v hv => h v (List.mem_cons_of_mem _ hv))
    have e : (Lib.join (x :: y :: r) sep).length = x.length + sep.length + (Lib.join (y :: r) sep).length := by
      simp [Lib.join]; omega
    rw [e, List.length_cons, Nat.add_mul]
    omega
/-- A field of moderate size. -/
structure Fld.hok (f : Fld) : Prop where
  n : f.subs.length ≤ 100
  v : ∀ s ∈ f.subs, s.val.length ≤ 1000 ∧ 0 ≤ s.code ∧ s.code ≤ 255
theorem Fld.hok.join {f : Fld} (h : f.hok) (codes sep : Str) (hs : sep.length ≤ 10) : (Lib.join (allS f.subs codes) sep).length ≤ 110000 := by
  have h1 := join_bd2 (K := 1000) sep (allS f.subs codes) (fun v hv => by obtain ⟨s, hs, rfl⟩ := allS_mem hv; exact (h.v s hs).1)
  have h2 := allS_len f.subs codes
  have h3 := h.n
  have h4 : (allS f.subs codes).length * (1000 + sep.length) ≤ 100 * 1010 := Nat.mul_le_mul (by omega) (by omega)
  omega
theorem getS_len {f : Fld} (h : f.hok) (c : Int) : (getS f.subs c).1.length ≤ 1000 := by
  unfold getS
  split
  · next s hs => exact (h.v s (List.mem_of_find?_eq_some hs)).1
  · simp
def headF (f : Fld) : Str :=
  if kindF f.tag = 1 then (if (getS f.subs 100).2 = true then Lib.join (allS f.subs [97]) [32] ++ ([44, 32] ++ (getS f.subs 100).1) else Lib.join (allS f.subs [97]) [32])
  else if kindF f.tag = 2 ∨ kindF f.tag = 4 then (getS f.subs 97).1 else if kindF f.tag = 3 then Lib.join (allS f.subs [97, 120, 121, 122]) [45, 45] else []
theorem headF_len {f : Fld} (h : f.hok) : (headF f).length ≤ 120000 := by
  have h1 := h.join [97] [32] (by decide)
  have h2 := h.join [97, 120, 121, 122] [45, 45] (by decide)
  have h3 := getS_len h 97
  have h4 := getS_len h 100
  unfold headF
  repeat' split
  all_goals (try simp only [List.length_append, List.length_cons, List.length_nil])
  all_goals omega
end Go.Fc
namespace Go.Proofs
open Go Go.Ax Go.Tx Go.Lib Go.RowKit Go.Fc
set_option maxRecDepth 100000
set_option maxHeartbeats 0
variable {Γ : List (Nat × List D)}
theorem c127 (f : Fld) (c : Int) (hl : f.subs.length ≤ 2000000) : AFn Tryz.prog Γ 127 [.agg (f.ds.map C.d), .c (.d (.int .u8 c))] [.d (.str (getS f.subs c).1)] := by
  refine AFn.vc [] Tryz.func127 rfl Tryz.mixed (by kernel_rfl) Tryz.ntmps127 Tryz.results127 (by simp) ?_
  push_cast
  refine CallL.q (c104 f c hl) ?_
  push_cast
theorem c128 (l : List Str) (sep : Str) (hl : l.length ≤ 2000000) (hlen : (Lib.join l sep).length ≤ 1000000000) : AFn Tryz.prog Γ 128 [.c (.d (.lst 1 (l.map Fc.sD))), .c (.d (.str sep))] [.d (.str (Lib.join l sep))] := by
  refine AFn.vc [] Tryz.func128 rfl Tryz.mixed (by kernel_rfl) Tryz.ntmps128 Tryz.results128 (by simp) ?_
  push_cast
  refine LoopV.cnt Tryz.mixed [0, 1] l.length (fun k => [(5, .c (.d (.str (Lib.join (l.take k) sep)))), (6, .c (.d (.int .i64 k)))]) (fun k => True) trivial ?_ (by push_cast; rfl)
  intro k hk _
  push_cast
  refine ⟨fun h => ?_, fun h => by rw [List.take_of_length_le (by omega)]⟩
  have hlt : k < l.length := by omega
  have hn := join_next sep hlt
  have h1 := join_len_take l sep (k + 1)
  rw [hn] at h1
  refine ⟨fun h0 => ?_, fun h0 => ?_⟩
  · rw [if_neg (by omega)] at hn h1
    simp only [List.length_append] at h1
    exact ⟨by omega, hlt, by omega, by omega, hlt, hn⟩
  · obtain rfl : k = 0 := by omega
    rw [if_pos rfl] at hn h1
    simp only [List.take_zero, Lib.join_nil, List.length_nil, List.nil_append]
    exact ⟨hlt, by omega, by omega, hlt, hn⟩
theorem c66 (f : Fld) (hk : f.hok) : AFn Tryz.prog Γ 66 [.agg (f.ds.map C.d)] [.d (.str (headF f))] := by
  have hn := hk.n
  have h1 := hk.join [97] [32] (by decide)
  have h2 := hk.join [97, 120, 121, 122] [45, 45] (by decide)
  have h4 := getS_len hk 100
  unfold headF
  refine AFn.vc [] Tryz.func66 rfl Tryz.mixed (by kernel_rfl) Tryz.ntmps66 Tryz.results66 (by simp) ?_
  push_cast
  refine CallL.q (c67 f.tag) ?_
  push_cast
  generalize kindF f.tag = K
  have no : ∀ {a : Prop} {p : Prop}, ¬ a → a → p := fun h1 h2 => absurd h2 h1
  by_cases e1 : K = 1
  · subst e1
    refine ⟨fun _ => ?_, no (by omega)⟩
    refine CallL.q (c105 f [97] (by omega) (by decide) (by omega)) ?_
    push_cast
    refine CallL.q (c104 f 100 (by omega)) ?_
    push_cast
    refine ⟨fun g => ?_, fun g => ?_⟩
    · rw [if_pos g]
      first
        | exact ⟨by omega, by omega, by simp⟩
        | exact ⟨by simp only [List.length_append, List.length_cons, List.length_nil]; omega, by simp only [List.length_append, List.length_cons, List.length_nil]; omega, rfl⟩
    · rw [if_neg (by simp [g])]
  by_cases e2 : K = 2
  · subst e2
    refine ⟨no (by omega), fun _ => ⟨fun _ => ⟨fun _ => ?_, no (by omega)⟩, no (by omega)⟩⟩
    refine CallL.q (c127 f 97 (by omega)) ?_
    push_cast
  by_cases e4 : K = 4
  · subst e4
    refine ⟨no (by omega), fun _ => ⟨no (by omega), fun _ => ⟨fun _ => ?_, no (by omega)⟩⟩⟩
    refine CallL.q (c127 f 97 (by omega)) ?_
    push_cast
  by_cases e3 : K = 3
  · subst e3
    refine ⟨no (by omega), fun _ => ⟨no (by omega), fun _ => ⟨no (by omega), fun _ => ⟨fun _ => ?_, no (by omega)⟩⟩⟩⟩
    refine CallL.q (c129 f [97, 120, 121, 122] (by omega) (by decide)) ?_
    push_cast
    refine CallL.q (c128 (allS f.subs [97, 120, 121, 122]) [45, 45] (by have := allS_len f.subs [97, 120, 121, 122]; omega) (by omega)) ?_
    push_cast
  refine ⟨no e1, fun _ => ⟨no e2, fun _ => ⟨no e4, fun _ => ⟨no e3, fun _ => ?_⟩⟩⟩⟩
  rw [if_neg e1, if_neg (by omega), if_neg e3]
theorem c123 (hΓ : (1, stdD) ∈ Γ) (f : Fld) (hk : f.hok) : AFn Tryz.prog Γ 123 [.agg (f.ds.map C.d)] [.d (.str (headF f))] := by
  have hn := hk.n
  have h1 := hk.join [97] [32] (by decide)
  have h2 := hk.join [97, 120, 121, 122] [45, 45] (by decide)
  have h4 := getS_len hk 100
  unfold headF
  refine AFn.vc [] Tryz.func123 rfl Tryz.mixed (by kernel_rfl) Tryz.ntmps123 Tryz.results123 (by simp) ?_
  push_cast
  refine CallL.q (c122 hΓ f.tag) ?_
  push_cast
  have hu : ∀ s ∈ f.subs, 0 ≤ s.code ∧ s.code ≤ 255 := fun s hs => (hk.v s hs).2
  generalize kindF f.tag = K
  have no : ∀ {a : Prop} {p : Prop}, ¬ a → a → p := fun h1 h2 => absurd h2 h1
  by_cases e1 : K = 1
  · subst e1
    refine ⟨fun _ => ?_, no (by omega)⟩
    refine CallL.q (c157 f [97] (by omega) hu (by omega)) ?_
    push_cast
    refine CallL.q (c156 f 100 (by omega)) ?_
    push_cast
    refine ⟨fun g => ?_, fun g => ?_⟩
    · rw [if_pos g]
      first
        | exact ⟨by omega, by omega, by simp⟩
        | exact ⟨by simp only [List.length_append, List.length_cons, List.length_nil]; omega, by simp only [List.length_append, List.length_cons, List.length_nil]; omega, rfl⟩
    · rw [if_neg (by simp [g])]
  by_cases e2 : K = 2
  · subst e2
    refine ⟨no (by omega), fun _ => ⟨fun _ => ⟨fun _ => ?_, no (by omega)⟩, no (by omega)⟩⟩
    refine CallL.q (c156 f 97 (by omega)) ?_
    push_cast
  by_cases e4 : K = 4
  · subst e4
    refine ⟨no (by omega), fun _ => ⟨no (by omega), fun _ => ⟨fun _ => ?_, no (by omega)⟩⟩⟩
    refine CallL.q (c156 f 97 (by omega)) ?_
    push_cast
  by_cases e3 : K = 3
  · subst e3
    refine ⟨no (by omega), fun _ => ⟨no (by omega), fun _ => ⟨no (by omega), fun _ => ⟨fun _ => ?_, no (by omega)⟩⟩⟩⟩
    refine CallL.q (c172 f [97, 120, 121, 122] (by omega) hu) ?_
    push_cast
    refine CallL.q (c142 (allS f.subs [97, 120, 121, 122]) [45, 45] (by have := allS_len f.subs [97, 120, 121, 122]; omega) (by omega)) ?_
    push_cast
  refine ⟨no e1, fun _ => ⟨no e2, fun _ => ⟨no e4, fun _ => ⟨no e3, fun _ => ?_⟩⟩⟩⟩
  rw [if_neg e1, if_neg (by omega), if_neg e3]
end Go.Proofs

/- Headings by the reference: pieces, words, parts, normal forms. No condition. -/
namespace Go.Proofs
open Go Go.Ax Go.Tx Go.Lib Go.RowKit Go.Fc
set_option maxRecDepth 100000
set_option maxHeartbeats 0
variable {Γ : List (Nat × List D)}
theorem piece_grow {s : Str} {a i : Nat} (ha : a ≤ i) (hi : i < s.length) : (s.drop a).take (i - a) ++ (s.drop i).take 1 = (s.drop a).take (i + 1 - a) := by
  rw [show i + 1 - a = (i - a) + 1 by omega, List.take_add, List.drop_drop, show a + (i - a) = i by omega]
theorem c196 (s sep : Str) (hs : s.length ≤ 4000000) (h1 : 1 ≤ sep.length) (h2 : sep.length ≤ 1000) : AFn Tryz.prog Γ 196 [.c (.d (.str s)), .c (.d (.str sep))] [.d (.lst 1 ((splF s sep).map Fc.sD))] := by
  generalize hR : splF s sep = R
  refine AFn.vc [] Tryz.func196 rfl Tryz.mixed (by kernel_rfl) Tryz.ntmps196 Tryz.results196 (by simp) ?_
  push_cast
  refine LoopV.of Tryz.mixed [0, 1] (S := List Str × Nat × Nat) (fun q => [(5, .c (.own 0 q.1.length)), (6, .c (.d (.int .i64 q.2.1))), (7, .c (.d (.int .i64 q.2.2)))]) (fun q => [.row 9 1 (q.1.map Fc.sD) q.1.length]) (fun q => q.2.1 ≤ q.2.2 ∧ q.2.2 ≤ s.length ∧ q.1.length ≤ q.2.2 ∧ R = q.1 ++ splR sep ((s.drop q.2.1).take (q.2.2 - q.2.1)) (s.drop q.2.2)) (fun q => s.length - q.2.2) ([], 0, 0) (by simp [← hR, splF, splR]) (by push_cast) ?_
  rintro ⟨o, a, i⟩ ⟨hai, hi, ho, hinv⟩
  simp only at hai hi ho hinv
  push_cast
  have e1 : ((i : Int) + (sep.length : Int)).toNat = i + sep.length := by omega
  rw [e1]
  refine ⟨by omega, fun h => ⟨by omega, by omega, ⟨by omega, by omega⟩, fun e => ?_, fun e => ?_⟩, fun h => ?_⟩
  · rw [show i + sep.length - i = sep.length by omega] at e
    rw [splR_hit h1 (by rw [List.length_drop]; omega) e, List.drop_drop] at hinv
    exact ⟨⟨hai, hi⟩, ⟨by omega, by omega⟩, by omega, (o ++ [(s.drop a).take (i - a)], i + sep.length, i + sep.length), ⟨⟨Nat.le_refl _, by show i + sep.length ≤ _; omega, by simp; omega, by rw [hinv]; simp⟩, by show s.length - (i + sep.length) < _; omega⟩, ⟨by simp, by push_cast, by push_cast⟩, by simp [Fc.sD], by simp⟩
  · rw [show i + sep.length - i = sep.length by omega] at e
    rw [splR_miss h1 (by rw [List.length_drop]; omega) e, piece_grow hai (by omega), List.drop_drop] at hinv
    exact ⟨by omega, (o, a, i + 1), ⟨⟨by show a ≤ i + 1; omega, by show i + 1 ≤ _; omega, by show o.length ≤ i + 1; omega, hinv⟩, by show s.length - (i + 1) < _; omega⟩, ⟨rfl, rfl, by push_cast⟩, rfl, rfl⟩
  · rw [splR_end h1 (by rw [List.length_drop]; omega)] at hinv
    have e2 : (s.drop a).take (i - a) ++ s.drop i = s.drop a := by
      have := List.take_append_drop (i - a) (s.drop a)
      rwa [List.drop_drop, show a + (i - a) = i by omega] at this
    rw [e2] at hinv
    exact ⟨⟨by omega, by omega⟩, ⟨by omega, by omega⟩, by rw [hinv]; simp [Fc.sD]⟩
theorem c203 (c : Nat) : AFn Tryz.prog Γ 203 [.c (.d (.int .i64 c))] [.d (.bool (letterC c))] := by
  refine AFn.vc [] Tryz.func203 rfl Tryz.mixed (by kernel_rfl) Tryz.ntmps203 Tryz.results203 (by simp) ?_
  push_cast
  unfold letterC
  repeat' (first | (intro _) | (refine And.intro ?_ ?_))
  all_goals (rw [Bool.eq_iff_iff]; simp only [Bool.or_eq_true, Bool.and_eq_true, decide_eq_true_eq, true_iff]; omega)
theorem c144 (s : Str) (hs : s.length ≤ 2000000) : AFn Tryz.prog Γ 144 [.c (.d (.str s))] [.d (.lst 1 ((wordsF s).map Fc.sD))] := by
  generalize hR : wordsF s = R
  refine AFn.vc [] Tryz.func144 rfl Tryz.mixed (by kernel_rfl) Tryz.ntmps144 Tryz.results144 (by simp) ?_
  push_cast
  refine CallL.q (c192 s (by omega)) ?_
  push_cast
  have hX := foldF_len s
  unfold wordsF at hR
  generalize foldF s = X at *
  refine LoopV.nilrow 3 9 1 ?_
  push_cast
  refine LoopV.of Tryz.mixed [0] (S := List Str × Str × Nat) (fun q => [(3, .c (.own 0 q.1.length)), (4, .c (.d (.str q.2.1))), (5, .c (.d (.int .i64 q.2.2)))]) (fun q => [.row 9 1 (q.1.map Fc.sD) q.1.length]) (fun q => q.2.2 ≤ X.length ∧ q.1.length + q.2.1.length ≤ q.2.2 ∧ wEnd ((chF (X.drop q.2.2)).foldl wStep (q.1, q.2.1)) = R) (fun q => X.length - q.2.2) ([], [], 0) (by simp [hR]) (by push_cast) ?_
  rintro ⟨o, w, k⟩ ⟨hk, hl, hinv⟩
  simp only at hk hl hinv
  push_cast
  refine ⟨fun h => ?_, fun h => ?_⟩
  · have hk' : k < X.length := by omega
    refine CallL.q (c72 X k hk' (by omega)) ?_
    push_cast
    refine CallL.q (c194 X k hk' (by omega)) ?_
    push_cast
    refine CallL.q (c203 (decF (X.drop k)).1) ?_
    push_cast
    have hle := dec_at hk'
    rw [chF_at hk', List.foldl_cons] at hinv
    have hn1 : 1 ≤ max (decF (X.drop k)).2 1 := by omega
    have hn2 : k + max (decF (X.drop k)).2 1 ≤ X.length := by omega
    generalize hn : max (decF (X.drop k)).2 1 = n at *
    generalize hcc : (decF (X.drop k)).1 = c at *
    have hzn : ((k : Int) + (n : Int)).toNat - k = n := by omega
    have ht : ((X.drop k).take n).length = n := by rw [List.length_take, List.length_drop]; omega
    have c1 : (-9223372036854775808 ≤ (k : Int) + n ∧ (k : Int) + n ≤ 9223372036854775807) := ⟨by omega, by omega⟩
    have c2 : k ≤ ((k : Int) + n).toNat ∧ ((k : Int) + n).toNat ≤ X.length := ⟨by omega, by omega⟩
    have fin : ∀ (o' : List Str) (w' : Str), wStep (o, w) (c, (X.drop k).take n) = (o', w') → o'.length + w'.length ≤ k + n → ∃ s' : List Str × Str × Nat, ((s'.2.2 ≤ X.length ∧ s'.1.length + s'.2.1.length ≤ s'.2.2 ∧ wEnd ((chF (X.drop s'.2.2)).foldl wStep (s'.1, s'.2.1)) = R) ∧ X.length - s'.2.2 < X.length - k) ∧ (s'.1.length = o'.length ∧ s'.2.1 = w' ∧ (s'.2.2 : Int) = (k : Int) + n) ∧ o'.map Fc.sD = s'.1.map Fc.sD ∧ o'.length = s'.1.length := fun o' w' e hb =>
      ⟨(o', w', k + n), ⟨⟨hn2, hb, by show wEnd ((chF (X.drop (k + n))).foldl wStep (o', w')) = R; rw [← e]; exact hinv⟩, by show X.length - (k + n) < _; omega⟩, ⟨rfl, rfl, by show ((k + n : Nat) : Int) = _; omega⟩, rfl, rfl⟩
    rw [hzn]
    refine ⟨fun e => ⟨c1, by omega, c2, by omega, c1, fin o _ (by unfold wStep; rw [if_pos e]) (by rw [List.length_append, ht]; omega)⟩, fun e => ⟨fun f => ⟨⟨by omega, by omega⟩, c1, ?_⟩, fun f => ⟨c1, fin o w (by unfold wStep; rw [if_neg (by simp [e]), if_pos f]) (by omega)⟩⟩⟩
    have hw := List.length_pos_iff.2 f
    have := fin (o ++ [w]) [] (by unfold wStep; rw [if_neg (by simp [e]), if_neg f]) (by simp; omega)
    simpa [Fc.sD] using this
  · rw [List.drop_eq_nil_of_le (by omega), chF_nil] at hinv
    have hinv : wEnd (o, w) = R := hinv
    unfold wEnd at hinv
    refine ⟨fun f => ⟨⟨by omega, by omega⟩, ?_⟩, fun f => ?_⟩
    · rw [if_neg f] at hinv
      rw [← hinv]; simp [Fc.sD]
    · rw [if_pos f] at hinv
      rw [← hinv]
theorem c143 (l : List Str) (sep : Str) (hl : l.length ≤ 9000000) (hlen : (Lib.join l sep).length ≤ 1000000000000000) : AFn Tryz.prog Γ 143 [.c (.bor 1 (l.map Fc.sD)), .c (.d (.str sep))] [.d (.str (Lib.join l sep))] := by
  refine AFn.vc [] Tryz.func143 rfl Tryz.mixed (by kernel_rfl) Tryz.ntmps143 Tryz.results143 (by simp) ?_
  push_cast
  refine LoopV.cnt Tryz.mixed [0, 1] l.length (fun k => [(5, .c (.d (.str (Lib.join (l.take k) sep)))), (6, .c (.d (.int .i64 k)))]) (fun k => True) trivial ?_ (by push_cast; rfl)
  intro k hk _
  push_cast
  refine ⟨fun h => ?_, fun h => by rw [List.take_of_length_le (by omega)]⟩
  have hlt : k < l.length := by omega
  have hn := join_next sep hlt
  have h1 := join_len_take l sep (k + 1)
  rw [hn] at h1
  refine ⟨fun h0 => ?_, fun h0 => ?_⟩
  · rw [if_neg (by omega)] at hn h1
    simp only [List.length_append] at h1
    exact ⟨by omega, hlt, by omega, by omega, hlt, hn⟩
  · obtain rfl : k = 0 := by omega
    rw [if_pos rfl] at hn h1
    simp only [List.take_zero, Lib.join_nil, List.length_nil, List.nil_append]
    exact ⟨hlt, by omega, by omega, hlt, hn⟩
theorem filt_next {f : Str → Str} {l : List Str} {k : Nat} (h : k < l.length) : ((l.take (k + 1)).map f).filter neS = if f l[k] = [] then ((l.take k).map f).filter neS else ((l.take k).map f).filter neS ++ [f l[k]] := by
  rw [Fc.take_next h, List.map_append, List.filter_append]
  by_cases e : f l[k] = []
  · rw [if_pos e]; simp [e, neS]
  · rw [if_neg e]; simp [e, neS]
theorem filt_len (f : Str → Str) (l : List Str) (k : Nat) : (((l.take k).map f).filter neS).length ≤ k := by
  refine Nat.le_trans (List.length_filter_le _ _) ?_
  rw [List.length_map, List.length_take]; omega
theorem c136 (s : Str) (hs : s.length ≤ 2000000) : AFn Tryz.prog Γ 136 [.c (.d (.str s))] [.d (.lst 1 ((partsF s).map Fc.sD))] := by
  generalize hR : partsF s = R
  refine AFn.vc [] Tryz.func136 rfl Tryz.mixed (by kernel_rfl) Tryz.ntmps136 Tryz.results136 (by simp) ?_
  push_cast
  refine CallL.q (c196 s [45, 45] (by omega) (by decide) (by decide)) ?_
  push_cast
  obtain ⟨h1, h2⟩ := splF_len (l := s) (sep := [45, 45]) (by decide)
  unfold partsF at hR
  generalize splF s [45, 45] = L at *
  refine LoopV.cntH Tryz.mixed [3] L.length (fun k => [(4, .c (.own 0 (((L.take k).map cleanF).filter neS).length)), (5, .c (.d (.int .i64 k)))]) (fun k => [.row 9 1 ((((L.take k).map cleanF).filter neS).map Fc.sD) (((L.take k).map cleanF).filter neS).length]) (fun _ => True) trivial ?_ (by push_cast; exact ⟨rfl, rfl, rfl⟩)
  intro k hk _
  push_cast
  refine ⟨fun h => ?_, fun h => ?_⟩
  · have hlt : k < L.length := by omega
    refine ⟨hlt, ?_⟩
    refine CallL.q (c134 L[k] (by have := h2 _ (List.getElem_mem hlt); omega)) ?_
    push_cast
    have hn := filt_next (f := cleanF) hlt
    have hb := filt_len cleanF L k
    refine ⟨fun e => ?_, fun e => ?_⟩
    · rw [if_neg e] at hn
      exact ⟨⟨by omega, by omega⟩, by omega, hlt, by rw [hn]; simp, by rw [hn]; simp [Fc.sD], by rw [hn]; simp⟩
    · rw [if_pos e] at hn
      exact ⟨by omega, hlt, by rw [hn], by rw [hn], by rw [hn]⟩
  · rw [List.take_of_length_le (by omega), hR]
theorem join_words (p : Str) : (wordJ p).length ≤ 4 * p.length := by
  obtain ⟨h1, h2, _⟩ := wordsF_len p
  have h3 := join_sum [32] (wordsF p)
  have h4 := foldF_len p
  unfold wordJ
  simp only [List.length_cons, List.length_nil, Nat.mul_one] at h3
  omega
theorem normF_len {s : Str} (hs : s.length ≤ 2000000) : (normF s).length ≤ 1000000000000000 := by
  obtain ⟨h1, h2⟩ := partsF_len s
  have h3 := join_bd2 (K := 8000000) [45, 45] (((partsF s).map wordJ).filter neS) (fun v hv => by
    obtain ⟨p, hp, rfl⟩ := List.mem_map.1 (List.mem_filter.1 hv).1
    have := h2 p hp
    have := join_words p
    omega)
  have h4 := List.length_filter_le neS ((partsF s).map wordJ)
  rw [List.length_map] at h4
  have h5 : (((partsF s).map wordJ).filter neS).length * (8000000 + ([45, 45] : Str).length) ≤ 2000001 * 8000002 := Nat.mul_le_mul (by omega) (by decide)
  unfold normF
  omega
theorem c81 (s : Str) (hs : s.length ≤ 2000000) : AFn Tryz.prog Γ 81 [.c (.d (.str s))] [.d (.str (normF s))] := by
  have hl := normF_len hs
  generalize hR : normF s = R at *
  refine AFn.vc [] Tryz.func81 rfl Tryz.mixed (by kernel_rfl) Tryz.ntmps81 Tryz.results81 (by simp) ?_
  push_cast
  refine CallL.q (c136 s (by omega)) ?_
  push_cast
  obtain ⟨h1, h2⟩ := partsF_len s
  unfold normF at hR
  generalize partsF s = L at *
  refine LoopV.cntH Tryz.mixed [3] L.length (fun k => [(4, .c (.own 0 (((L.take k).map wordJ).filter neS).length)), (5, .c (.d (.int .i64 k)))]) (fun k => [.row 9 1 ((((L.take k).map wordJ).filter neS).map Fc.sD) (((L.take k).map wordJ).filter neS).length]) (fun _ => True) trivial ?_ (by push_cast; exact ⟨rfl, rfl, rfl⟩)
  intro k hk _
  push_cast
  refine ⟨fun h => ?_, fun h => ?_⟩
  · have hlt : k < L.length := by omega
    have hL := h2 _ (List.getElem_mem hlt)
    refine ⟨hlt, ?_⟩
    refine CallL.q (c144 L[k] (by omega)) ?_
    push_cast
    obtain ⟨_, w2, _⟩ := wordsF_len L[k]
    have w3 := foldF_len L[k]
    have w4 : (Lib.join (wordsF L[k]) [32]).length ≤ _ := join_words L[k]
    refine CallL.q (c143 (wordsF L[k]) [32] (by omega) (by omega)) ?_
    push_cast
    have hn := filt_next (f := wordJ) hlt
    rw [show wordJ L[k] = Lib.join (wordsF L[k]) [32] from rfl] at hn
    have hb := filt_len wordJ L k
    refine ⟨fun e => ?_, fun e => ?_⟩
    · rw [if_neg e] at hn
      exact ⟨⟨by omega, by omega⟩, by omega, hlt, by rw [hn]; simp, by rw [hn]; simp [Fc.sD], by rw [hn]; simp⟩
    · rw [if_pos e] at hn
      exact ⟨by omega, hlt, by rw [hn], by rw [hn], by rw [hn]⟩
  · rw [List.take_of_length_le (by omega)]
    have hb := filt_len wordJ L L.length
    rw [List.take_of_length_le (Nat.le_refl _)] at hb
    refine CallL.q (c143 ((L.map wordJ).filter neS) [45, 45] (by omega) (by rw [hR]; exact hl)) ?_
    push_cast
    rw [hR]
end Go.Proofs

/- Authorities by the reference. No condition. -/
namespace Go.Proofs
open Go Go.Ax Go.Tx Go.Lib Go.RowKit Go.Fc
set_option maxRecDepth 100000
set_option maxHeartbeats 0
variable {Γ : List (Nat × List D)}
theorem c135b (l : List Str) (sep : Str) (hl : l.length ≤ 9000000) (hlen : (Lib.join l sep).length ≤ 1000000000000000) : AFn Tryz.prog Γ 135 [.c (.d (.lst 1 (l.map Fc.sD))), .c (.d (.str sep))] [.d (.str (Lib.join l sep))] := by
  refine AFn.vc [] Tryz.func135 rfl Tryz.mixed (by kernel_rfl) Tryz.ntmps135 Tryz.results135 (by simp) ?_
  push_cast
  refine LoopV.cnt Tryz.mixed [0, 1] l.length (fun k => [(5, .c (.d (.str (Lib.join (l.take k) sep)))), (6, .c (.d (.int .i64 k)))]) (fun k => True) trivial ?_ (by push_cast; rfl)
  intro k hk _
  push_cast
  refine ⟨fun h => ?_, fun h => by rw [List.take_of_length_le (by omega)]⟩
  have hlt : k < l.length := by omega
  have hn := join_next sep hlt
  have h1 := join_len_take l sep (k + 1)
  rw [hn] at h1
  refine ⟨fun h0 => ?_, fun h0 => ?_⟩
  · rw [if_neg (by omega)] at hn h1
    simp only [List.length_append] at h1
    exact ⟨by omega, hlt, by omega, by omega, hlt, hn⟩
  · obtain rfl : k = 0 := by omega
    rw [if_pos rfl] at hn h1
    simp only [List.take_zero, Lib.join_nil, List.length_nil, List.nil_append]
    exact ⟨hlt, by omega, by omega, hlt, hn⟩
theorem heads_take {a : Au} {k : Nat} (h : k < a.see.length) : (headsA a).take (k + 2) = (headsA a).take (k + 1) ++ [a.see[k]] := by
  unfold headsA
  rw [List.take_succ_cons, List.take_succ_cons, Fc.take_next h]; rfl
theorem c73 (a : Au) (hl : a.see.length ≤ 2000000) : AFn Tryz.prog Γ 73 [.agg (a.ds.map C.d)] [.d (.lst 1 ((headsA a).map Fc.sD))] := by
  refine AFn.vc [7] Tryz.func73 rfl Tryz.mixed (by kernel_rfl) Tryz.ntmps73 Tryz.results73 (by simp) ?_
  push_cast
  refine LoopV.cntH Tryz.mixed [1] a.see.length (fun k => [(3, .c (.own 1 k)), (4, .c (.d (.int .i64 k)))]) (fun k => [.box 45 (a.ds.map C.d), .row 9 1 (((headsA a).take (k + 1)).map Fc.sD) k]) (fun _ => True) trivial ?_ (by push_cast; rfl)
  intro k hk _
  push_cast
  refine ⟨fun h => ?_, fun h => ?_⟩
  · have hlt : k < a.see.length := by omega
    have hn := heads_take hlt
    have hm : min (k + 1) (headsA a).length = k + 1 := by rw [show (headsA a).length = a.see.length + 1 from rfl]; omega
    rw [hm]
    exact ⟨hlt, ⟨by omega, by omega⟩, by omega, hlt, by rw [hn]; simp [Fc.sD]⟩
  · rw [List.take_of_length_le (by simp [headsA]; omega)]
theorem c76 (l : List Int) (n : Int) (hl : l.length ≤ 1000000000) : AFn Tryz.prog Γ 76 [.c (.d (.lst 1 (l.map iD))), .c (.d (.int .i64 n))] [.d (.bool (decide (n ∈ l)))] := by
  refine AFn.vc [] Tryz.func76 rfl Tryz.mixed (by kernel_rfl) Tryz.ntmps76 Tryz.results76 (by simp) ?_
  push_cast
  refine LoopV.cnt Tryz.mixed [0, 1] l.length (fun k => [(5, .c (.d (.int .i64 k)))]) (fun k => n ∈ l ↔ n ∈ l.drop k) (by simp) ?_
  intro k hk hinv
  push_cast
  refine ⟨fun h => ?_, fun h => ?_⟩
  · have hlt : k < l.length := by omega
    rw [mem_step hlt] at hinv
    refine ⟨hlt, fun e => (decide_eq_true (hinv.2 (.inl e))).symm, fun e => ⟨by omega, hlt, ?_⟩⟩
    rw [hinv]; exact ⟨fun h => h.resolve_left e, .inr⟩
  · exact (decide_eq_false fun hm => mem_end (by omega) (hinv.1 hm)).symm
theorem c137 (l : List Int) (n : Int) (hl : l.length ≤ 1000000000) : AFn Tryz.prog Γ 137 [.c (.d (.lst 1 (l.map iD))), .c (.d (.int .i64 n))] [.d (.lst 1 ((putI l n).map iD))] := by
  refine AFn.vc [] Tryz.func137 rfl Tryz.mixed (by kernel_rfl) Tryz.ntmps137 Tryz.results137 (by simp) ?_
  push_cast
  refine CallL.q (c76 l n hl) ?_
  push_cast
  refine ⟨fun e => by unfold putI; rw [if_pos e], fun e => ?_⟩
  have hR : putI l n = Or.put ltI l n false := by unfold putI; rw [if_neg e]
  rw [hR]
  have hne : ∀ k (h : k < l.length), l[k] ≠ n := fun k h q => e (q ▸ List.getElem_mem h)
  generalize hRR : Or.put ltI l n false = R at *
  clear hR
  refine LoopV.nilrow 5 3 1 ?_
  push_cast
  refine LoopV.of Tryz.mixed [0, 1] (S := Nat × List Int × Bool) (fun s => [(5, .c (.own 0 s.2.1.length)), (6, .c (.d (.bool s.2.2))), (7, .c (.d (.int .i64 s.1)))]) (fun s => [.row 3 1 (s.2.1.map iD) s.2.1.length]) (fun s => s.1 ≤ l.length ∧ s.2.1.length ≤ 2 * s.1 ∧ R = s.2.1 ++ Or.put ltI (l.drop s.1) n s.2.2) (fun s => l.length - s.1) (0, [], false) (by simp [hRR]) (by push_cast) ?_
  rintro ⟨k, o, d⟩ ⟨hk, ho, hinv⟩
  simp only at hk ho hinv
  push_cast
  have lt1 : ∀ (h : k < l.length), (d = false ∧ n < l[k]) → R = (o ++ [n, l[k]]) ++ Or.put ltI (l.drop (k + 1)) n true := fun h c => by
    rw [hinv, Fc.drop_cons h]
    show o ++ (if _ then _ else _) = _
    rw [if_pos ⟨c.1, hne k h, decide_eq_true c.2⟩]; simp
  have lt2 : ∀ (h : k < l.length), ¬ (d = false ∧ n < l[k]) → R = (o ++ [l[k]]) ++ Or.put ltI (l.drop (k + 1)) n d := fun h c => by
    rw [hinv, Fc.drop_cons h]
    show o ++ (if _ then _ else _) = _
    rw [if_neg (fun q => c ⟨q.1, of_decide_eq_true q.2.2⟩), decide_eq_false (hne k h)]; simp
  have more : ∀ (h : k < l.length) (o' : List Int) (d' : Bool), o'.length ≤ o.length + 2 → R = o' ++ Or.put ltI (l.drop (k + 1)) n d' → ∃ s' : Nat × List Int × Bool, ((s'.1 ≤ l.length ∧ s'.2.1.length ≤ 2 * s'.1 ∧ R = s'.2.1 ++ Or.put ltI (l.drop s'.1) n s'.2.2) ∧ l.length - s'.1 < l.length - k) ∧ (s'.2.1.length = o'.length ∧ s'.2.2 = d' ∧ (s'.1 : Int) = (k : Int) + 1) ∧ o'.map iD = s'.2.1.map iD ∧ o'.length = s'.2.1.length := fun h o' d' hb e =>
    ⟨(k + 1, o', d'), ⟨⟨by show k + 1 ≤ _; omega, by show o'.length ≤ 2 * (k + 1); omega, e⟩, by show l.length - (k + 1) < _; omega⟩, ⟨rfl, rfl, by show ((k + 1 : Nat) : Int) = _; omega⟩, rfl, rfl⟩
  refine ⟨fun h => ?_, fun h => ?_⟩
  · have hlt : k < l.length := by omega
    have one : ¬ (d = false ∧ n < l[k]) → _ := fun c => more hlt (o ++ [l[k]]) d (by simp) (lt2 hlt c)
    have two : (d = false ∧ n < l[k]) → _ := fun c => more hlt (o ++ [n, l[k]]) true (by simp) (lt1 hlt c)
    refine ⟨fun f => ⟨hlt, fun g => ⟨by omega, hlt, by omega, by omega, ?_⟩, fun g => ⟨hlt, by omega, by omega, ?_⟩⟩, fun f => ⟨hlt, by omega, by omega, ?_⟩⟩
    · have := two ⟨f, g⟩
      simpa [iD] using this
    · have := one (by omega)
      simpa [iD] using this
    · have := one (by simp [f])
      simpa [iD] using this
  · rw [List.drop_eq_nil_of_le (by omega)] at hinv
    refine ⟨fun f => ⟨by omega, ?_⟩, fun f => ?_⟩
    · rw [hinv, f]; simp [iD, Or.put]
    · rw [hinv, f]; simp [Or.put]
theorem c29 (l : List Au) (id : Int) (hl : l.length ≤ 2000000) : AFn Tryz.prog Γ 29 [.c (.d (.lst 5 (l.map Au.ds))), .c (.d (.int .i64 id))] [.agg ((getA l id).getD default).ds, .d (.bool (getA l id).isSome)] := by
  refine AFn.vc [] Tryz.func29 rfl Tryz.mixed (by kernel_rfl) Tryz.ntmps29 Tryz.results29 (by simp) ?_
  push_cast
  refine LoopV.cnt Tryz.mixed [0, 1, 4] l.length (fun k => [(6, .c (.d (.int .i64 k)))]) (fun k => getA l id = getA (l.drop k) id) (by simp) ?_
  intro k hk hinv
  push_cast
  refine ⟨fun h => ?_, fun h => ?_⟩
  · have hlt : k < l.length := by omega
    rw [getA_step hlt] at hinv
    refine ⟨hlt, fun e => ?_, fun e => ?_⟩
    · rw [if_pos e] at hinv
      rw [hinv]; exact ⟨hlt, ⟨rfl, rfl, rfl, rfl, rfl⟩, rfl⟩
    · rw [if_neg e] at hinv
      exact ⟨by omega, hlt, hinv⟩
  · rw [hinv, getA_end (by omega)]
    exact ⟨⟨rfl, rfl, rfl, rfl, rfl⟩, rfl⟩
theorem c74 (a : Au) (hl : a.see.length ≤ 2000000) (hh : ∀ s ∈ headsA a, s.length ≤ 2000000) : AFn Tryz.prog Γ 74 [.agg (a.ds.map C.d)] [.d (.int .i64 (shapeA a))] := by
  generalize hR : shapeA a = R
  unfold shapeA at hR
  have k1 : (a.kind < 1 ∨ 4 < a.kind) → R = 1 := fun h => by rw [← hR, if_pos h]
  have k2 : ¬ (a.kind < 1 ∨ 4 < a.kind) → (if firstE (shape1 a.kind) (headsA a) = 0 then (if 8 < a.see.length then 13 else 0) else firstE (shape1 a.kind) (headsA a)) = R := fun h => by rw [← hR, if_neg h]
  clear hR
  refine AFn.vc [] Tryz.func74 rfl Tryz.mixed (by kernel_rfl) Tryz.ntmps74 Tryz.results74 (by simp) ?_
  push_cast
  refine ⟨fun a1 => ⟨fun a2 => (k1 (by omega)).symm, fun a2 => ?_⟩, fun a1 => (k1 (by omega)).symm⟩
  have k2 := k2 (by omega)
  clear k1
  refine CallL.q (c73 a hl) ?_
  push_cast
  have hlen : (headsA a).length = a.see.length + 1 := rfl
  refine LoopV.cnt Tryz.mixed [1, 3] (headsA a).length (fun k => [(4, .c (.d (.int .i64 k)))]) (fun k => firstE (shape1 a.kind) (headsA a) = firstE (shape1 a.kind) ((headsA a).drop k)) (by simp) ?_
  generalize headsA a = H at *
  intro k hk hinv
  push_cast
  refine ⟨fun h => ?_, fun h => ?_⟩
  · have hlt : k < H.length := by omega
    rw [firstE_step hlt] at hinv
    have hb := hh _ (List.getElem_mem hlt)
    refine ⟨hlt, ?_⟩
    have hpl := (partsF_len H[k]).1
    have hpj : (Lib.join (partsF H[k]) [45, 45]).length ≤ 1000000000000000 := by
      have h3 := join_bd2 (K := 2000000) [45, 45] (partsF H[k]) (fun v hv => Nat.le_trans ((partsF_len H[k]).2 v hv) hb)
      have h5 : (partsF H[k]).length * (2000000 + ([45, 45] : Str).length) ≤ 2000001 * 2000002 := Nat.mul_le_mul (by omega) (by decide)
      omega
    have r3 : ∀ e : Int, e ≠ 0 → shape1 a.kind H[k] = e → e = R := fun e h0 h1 => by rw [h1, if_neg h0] at hinv; rw [hinv, if_neg h0] at k2; exact k2
    have e1 : (validF H[k] = false ∨ ¬ cleanF H[k] = H[k] ∨ normF H[k] = [] ∨ (a.kind = 3 ∧ ¬ Lib.join (partsF H[k]) [45, 45] = H[k])) → 3 = R := fun h => r3 3 (by decide) (if_pos h)
    have e2 : ¬ (validF H[k] = false ∨ ¬ cleanF H[k] = H[k] ∨ normF H[k] = [] ∨ (a.kind = 3 ∧ ¬ Lib.join (partsF H[k]) [45, 45] = H[k])) → (200 < H[k].length ∨ 4 < (partsF H[k]).length) → 4 = R := fun h h' => r3 4 (by decide) (by unfold shape1; rw [if_neg h, if_pos h'])
    have e3 : ¬ (validF H[k] = false ∨ ¬ cleanF H[k] = H[k] ∨ normF H[k] = [] ∨ (a.kind = 3 ∧ ¬ Lib.join (partsF H[k]) [45, 45] = H[k])) → ¬ (200 < H[k].length ∨ 4 < (partsF H[k]).length) → firstE (shape1 a.kind) H = firstE (shape1 a.kind) (H.drop (k + 1)) := fun h h' => by
      have : shape1 a.kind H[k] = 0 := by unfold shape1; rw [if_neg h, if_neg h']
      rw [hinv, if_pos this]
    refine CallX.q (c25 H[k] (by omega)) ?_
    push_cast
    refine ⟨fun v => ⟨hlt, ?_⟩, fun v => e1 (.inl v)⟩
    refine CallX.q (c134 H[k] (by omega)) ?_
    push_cast
    refine ⟨hlt, fun v2 => ⟨hlt, ?_⟩, fun v2 => e1 (.inr (.inl v2))⟩
    refine CallX.q (c81 H[k] (by omega)) ?_
    push_cast
    have last : normF H[k] ≠ [] → ¬ (a.kind = 3 ∧ ¬ Lib.join (partsF H[k]) [45, 45] = H[k]) → ¬ (validF H[k] = false ∨ ¬ cleanF H[k] = H[k] ∨ normF H[k] = [] ∨ (a.kind = 3 ∧ ¬ Lib.join (partsF H[k]) [45, 45] = H[k])) := fun q1 q2 q => by
      rcases q with q | q | q | q
      · rw [v] at q; cases q
      · exact q v2
      · exact q1 q
      · exact q2 q
    refine ⟨fun v3 => ⟨fun v4 => ⟨hlt, ?_⟩, fun v4 => ?_⟩, fun v3 => e1 (.inr (.inr (.inl v3)))⟩
    · refine CallX.q (c136 H[k] (by omega)) ?_
      push_cast
      refine CallX.q (c135b (partsF H[k]) [45, 45] (by omega) (by omega)) ?_
      push_cast
      refine ⟨hlt, fun v5 => e1 (.inr (.inr (.inr ⟨v4, v5⟩))), fun v5 => ⟨hlt, fun v6 => ⟨hlt, ?_⟩, fun v6 => e2 (last v3 (fun q => q.2 v5)) (.inl (by omega))⟩⟩
      refine CallL.q (c136 H[k] (by omega)) ?_
      push_cast
      exact ⟨fun v7 => e2 (last v3 (fun q => q.2 v5)) (.inr (by omega)), fun v7 => ⟨by omega, hlt, e3 (last v3 (fun q => q.2 v5)) (by omega)⟩⟩
    · refine ⟨hlt, fun v6 => ⟨hlt, ?_⟩, fun v6 => e2 (last v3 (fun q => v4 q.1)) (.inl (by omega))⟩
      refine CallL.q (c136 H[k] (by omega)) ?_
      push_cast
      exact ⟨fun v7 => e2 (last v3 (fun q => v4 q.1)) (.inr (by omega)), fun v7 => ⟨by omega, hlt, e3 (last v3 (fun q => v4 q.1)) (by omega)⟩⟩
  · rw [firstE_end (by omega)] at hinv
    rw [hinv, if_pos rfl] at k2
    exact ⟨fun h => by rw [← k2, if_pos (by omega)], fun h => by rw [← k2, if_neg (by omega)]⟩
end Go.Proofs
