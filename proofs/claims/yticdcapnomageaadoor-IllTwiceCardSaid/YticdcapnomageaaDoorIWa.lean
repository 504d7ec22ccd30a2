/- Part of a proof about this program; no condition of its own. -/
import Derived.Test.YticdcapnomageaaDoorTXd
import Derived.Test.YticdcapnomageaaDoorIT
import Derived.Test.YticdcapnomageaaDoorIDa
set_option linter.all false
/- Walks of the chapters on loans between libraries, first part: texts. -/
namespace Go.Proofs
open Go Go.Ax Go.Tx Go.Lib Go.Il Go.RowKit
set_option maxRecDepth 100000
def Γ0 : List (Nat × List D) := [(1, firstD), (2, acceptD), (0, (kinds.map Kd.ds).flatten)]
theorem c120 (s : List UInt8) (hs : s.length ≤ 1000000) : AFn Tryd.prog Γ0 120 [.c (.d (.str s))] [.d (.bool (validD s))] :=
  AFn.validString Tryd.lays196 (by simp [Γ0, Tryd.lays196_ren]) (by simp [Γ0, Tryd.lays196_ren]) s (by omega)
theorem c113 (s : List UInt8) (hs : s.length ≤ 1000000) : AFn Tryd.prog Γ0 113 [.c (.d (.str s))] [.d (.bool (validF s))] := by
  refine AFn.ofFlat ⟨⟨_, Tryd.func113, by kernel_rfl, by kernel_rfl⟩⟩ fun V w vals hv ha => ?_
  cases ha with | cons a1 a2 =>
  cases a2
  have hT : Utf8Tabs (Tryd.lays196_ren.g 3) (Tryd.lays196_ren.g 4) w :=
    ⟨fun c hc => glob_cell hv (ds := firstD) (by simp [Γ0, Tryd.lays196_ren]) (by simp [firstD, hc]), fun i hi => ⟨glob_cell hv (ds := acceptD) (by simp [Γ0, Tryd.lays196_ren]) (acceptD_at i hi).1, glob_cell hv (ds := acceptD) (by simp [Γ0, Tryd.lays196_ren]) (acceptD_at i hi).2⟩⟩
  rw [ar_str a1]
  have hsz : (⟨s.toArray⟩ : ByteArray).size = s.length := rfl
  refine (textValid_calls ⟨s.toArray⟩ w (by rw [hsz]; omega) hT).mono fun e w' ⟨he, hb⟩ => ⟨_, he, ?_, hb⟩
  rw [show (⟨s.toArray⟩ : ByteArray).data.toList = s by simp, valid_same s.length s (Nat.le_refl _)]
  exact .bool _
theorem gives123 (W : World) (x : Nat) (hx : x ≤ 1114111) : FnGives Tryd.prog 123 #[] #[encR x] (.bool (blankR x)) W := by
  show Calls Tryd.prog 123 #[.int .i32 (x : Int)] W _
  go_enter Tryd.func123, Tryd.ntmps123
  go_wp2
  all_goals go_ret
  · next h =>
    have : x = 32 := by omega
    subst this
    exact ⟨rfl, 0, rfl⟩
  · next h =>
    refine ⟨?_, 0, rfl⟩
    have h1 : ((x : Int) == 32) = decide (x = 32) := by rw [Bool.eq_iff_iff]; simp; omega
    have h2 : ((x : Int) == 160) = decide (x = 160) := by rw [Bool.eq_iff_iff]; simp; omega
    show Ending.returned (.bool ((x : Int) == 32 || (x : Int) == 160)) = _
    rw [h1, h2]; rfl
theorem ArgOk.clo0 {pm : Pm} {h : List LB} {f : FuncId} : ArgOk pm h (.c (.clo f [])) (.c (.clo f [])) := fun cx G w v _ _ hv => by
  obtain ⟨bs, rfl, hbs⟩ := hv
  cases hbs
  exact ⟨[], rfl, .nil⟩
theorem c122 (s : List UInt8) (hs : s.length ≤ 1000000) : AFn Tryd.prog Γ0 122 [.c (.d (.str s)), .c (.clo 123 [])] [.fresh 9 1 (((goFieldsP blankR ⟨s.toArray⟩).map (·.data.toList)).map fun x => [.str x])] :=
  AFn.fieldsFunc Tryd.lays229 123 blankR (fun args w => run_callFunc ⟨⟨_, Tryd.func123, by kernel_rfl, by kernel_rfl⟩⟩ args w) gives123 (by kernel_rfl) (by kernel_rfl) s (by omega)
theorem bextra : Builder.Extra Tryd.prog Tryd.lays156_ren := {
  sizeBuilder := by kernel_rfl
  liesBuilder := by kernel_rfl
  t5 := Tryd.underlying5
  a5 := Tryd.isAgg5
  z5 := Tryd.sizeOf5
  v5 := Tryd.zeroValue5
  infoByte := by kernel_rfl
  cellsByte := by kernel_rfl
  sizeByte := by kernel_rfl
  neB5 := by decide }
theorem c121 (xs : List (List UInt8)) (sep : List UInt8) (hN : xs.length ≤ 140737488355328) (hlen : (join xs sep).length ≤ 140737488355328) :
    AFn Tryd.prog Γ0 121 [.c (.bor 1 (xs.map fun x => [.str x])), .c (.d (.str sep))] [.d (.str (join xs sep))] := AFn.join Tryd.lays156 bextra xs sep hN hlen
theorem spans_len (p : Nat → Bool) (s : ByteArray) : ∀ (f pos : Nat) (st : Option Nat) (acc : List (Nat × Nat)), (spansFromP p s f pos st acc).1.length ≤ acc.length + f
  | 0, _, _, acc => by simp [spansFromP]
  | f + 1, pos, st, acc => by
    unfold spansFromP
    split
    · split
      · cases st with
        | none => have := spans_len p s f (pos + (Utf8.decode s pos).2) none acc; simp only; omega
        | some a => have := spans_len p s f (pos + (Utf8.decode s pos).2) none (acc ++ [(a, pos)]); rw [List.length_append] at this; simp only at this ⊢; simp only [List.length_cons, List.length_nil] at this; omega
      · cases st with
        | none => have := spans_len p s f (pos + (Utf8.decode s pos).2) (some pos) acc; simp only; omega
        | some a => have := spans_len p s f (pos + (Utf8.decode s pos).2) (some a) acc; simp only; omega
    · simp
theorem fields_len (p : Nat → Bool) (s : List UInt8) : (goFieldsP p ⟨s.toArray⟩).length ≤ s.length + 1 := by
  unfold goFieldsP spansOfP closeSpans
  rw [List.length_map]
  have := spans_len p ⟨s.toArray⟩ s.length 0 none []
  have hsz : (⟨s.toArray⟩ : ByteArray).size = s.length := rfl
  rw [hsz]
  simp only [List.length_nil] at this
  split
  · rw [List.length_append]; simp only [List.length_cons, List.length_nil]; omega
  · omega
theorem cleanG_len : ∀ (f : Nat) (l : List UInt8) (st : List UInt8 × Bool), (cleanG f l st).length ≤ st.1.length + 2 * l.length
  | 0, _, st => by simp [cleanG]
  | f + 1, l, st => by
    unfold cleanG
    split
    · omega
    · next hne =>
      have hl : 1 ≤ l.length := List.length_pos_iff.2 hne
      have h1 := cleanG_len f (l.drop (max (decF l).2 1)) (cleanStep st (decF l).1 (l.take (max (decF l).2 1)))
      have h2 : (cleanStep st (decF l).1 (l.take (max (decF l).2 1))).1.length ≤ st.1.length + 1 + min (max (decF l).2 1) l.length := by
        unfold cleanStep
        split
        · simp only; omega
        · simp only [List.length_append, List.length_take]; split <;> simp <;> omega
      rw [List.length_drop] at h1
      omega
theorem c114 (s : List UInt8) (hs : s.length ≤ 1000000) (hv : validF s = true) : AFn Tryd.prog Γ0 114 [.c (.d (.str s))] [.d (.str (cleanP s))] := by
  refine AFn.vc [] Tryd.func114 rfl Tryd.mixed (by kernel_rfl) Tryd.ntmps114 Tryd.results114 (by simp) ?_
  push_cast
  refine CallL.own (c122 s hs) ?_ (.cons ArgOk.d (.cons ArgOk.clo0 .nil))
  push_cast
  have h1 := fields_len blankR s
  have h2 := cleanG_len s.length s ([], false)
  refine CallL.q (c121 ((goFieldsP blankR ⟨s.toArray⟩).map (·.data.toList)) [32] (by rw [List.length_map]; omega) ?_) ?_
  · show (cleanP s).length ≤ _
    rw [clean_same s hv]
    unfold cleanF
    simp only [List.length_nil] at h2
    omega
  push_cast
  rfl
end Go.Proofs
