/- The reader's rules at calls. No condition. -/
import Derived.Test.YtimehiamdikinaaAxVd
set_option linter.all false
namespace Go.Ax
open Go Go.RowKit
section
/-- A cell that reads so here reads so for a callee. -/
def CArg (pm : Pm) (h : List LB) (c c' : C) : Prop :=
  ∀ (cx : Cx) (G : Gh) (w : World) (v : Value), cx.pm = pm → SatH cx G h w → Cr G c v → Cr ⟨⟨fun b => w.heap[b]?, G.V.I⟩, []⟩ c' v
theorem CArg.d {pm : Pm} {h : List LB} {x : D} : CArg pm h (.d x) (.d x) := fun _ _ _ _ _ s hv => Dr.mono s.le hv
theorem CArg.bor {pm : Pm} {h : List LB} {c : C} {sz : Nat} {els : List (List D)} (hα : elsOf h (.c c) = some (sz, els)) : CArg pm h c (.bor sz els) := fun cx G w v hp s hv => ArgOk.bor (pm := pm) hα cx G w v hp s hv
theorem ArgOk.own {pm : Pm} {h : List LB} {te : TypeId} {sz i ver : Nat} {els : List (List D)} (hi : h[i]? = some (.row te sz els ver)) : ArgOk pm h (.c (.own i ver)) (.c (.bor sz els)) := ArgOk.bor (by simp [elsOf, hi])
theorem CArg.own {pm : Pm} {h : List LB} {te : TypeId} {sz i ver : Nat} {els : List (List D)} (hi : h[i]? = some (.row te sz els ver)) : CArg pm h (.own i ver) (.bor sz els) := CArg.bor (by simp [elsOf, hi])
theorem CArg.nb {pm : Pm} {h : List LB} {sz : Nat} : CArg pm h (.d (.raw (.slice none 0 0))) (.bor sz []) := fun cx G w v hp s hv => ArgOk.nil_bor (pm := pm) (h := h) cx G w v hp s hv
theorem CArg.nl {pm : Pm} {h : List LB} {sz : Nat} : CArg pm h (.d (.raw (.slice none 0 0))) (.d (.lst sz [])) := fun cx G w v hp s hv => ArgOk.nil_lst (pm := pm) (h := h) cx G w v hp s hv
theorem ArgOk.aggc {pm : Pm} {h : List LB} {cs cs' : List C} (hc : All2 (CArg pm h) cs cs') : ArgOk pm h (.agg cs) (.agg cs') := fun cx G w v hp s hv => by
  obtain ⟨vs, rfl, hvs⟩ := hv
  refine ⟨vs, rfl, ?_⟩
  induction hc generalizing vs with
  | nil => cases hvs; exact .nil
  | cons h1 _ ih => cases hvs with | cons h2 h3 => exact .cons (h1 cx G w _ hp s h2) (ih _ h3)
end
section
variable {P : Program} {pm : Pm} {st : St} {o : Oper} {as args' : List AV} {rs : List RV} {f : FuncId} {α : AV}
theorem CallL.q {k : St → Prop} {t : Tok k} (hc : AFn P pm.Γ f args' rs) (hk : k (st.put o.dst (rsAV rs)))
    (ha : All2 (ArgOk pm st.heap) as args' := by repeat (first | exact All2.nil | refine All2.cons (by first | exact ArgOk.d | exact ArgOk.bor rfl | exact ArgOk.own rfl | exact ArgOk.agg rfl | exact ArgOk.agg (toDs_map _) | exact ArgOk.nil_bor | exact ArgOk.nil_lst | exact ArgOk.fn | exact ArgOk.ptr rfl rfl | exact ArgOk.aggn rfl (by repeat first | exact .nil | refine .cons (.refl _) ?_ | refine .cons (.nil _) ?_) | exact ArgOk.aggc (by repeat (first | exact All2.nil | refine All2.cons (by first | exact CArg.d | exact CArg.bor rfl | exact CArg.own rfl | exact CArg.nb | exact CArg.nl) ?_))) ?_)) :
    CallL P pm o st (.c (.clo f [])) as k t := .inl (.inl ⟨args', rs, hc, ha, hk⟩)
theorem CallL.own {k : St → Prop} {t : Tok k} {te : TypeId} {sz : Nat} {els : List (List D)} (hc : AFn P pm.Γ f args' [.fresh te sz els]) (hk : k (pushR st o.dst te sz els))
    (ha : All2 (ArgOk pm st.heap) as args' := by repeat (first | exact All2.nil | refine All2.cons (by first | exact ArgOk.d | exact ArgOk.bor rfl | exact ArgOk.own rfl | exact ArgOk.agg rfl | exact ArgOk.agg (toDs_map _) | exact ArgOk.nil_bor | exact ArgOk.nil_lst | exact ArgOk.fn | exact ArgOk.ptr rfl rfl | exact ArgOk.aggn rfl (by repeat first | exact .nil | refine .cons (.refl _) ?_ | refine .cons (.nil _) ?_) | exact ArgOk.aggc (by repeat (first | exact All2.nil | refine All2.cons (by first | exact CArg.d | exact CArg.bor rfl | exact CArg.own rfl | exact CArg.nb | exact CArg.nl) ?_))) ?_)) :
    CallL P pm o st (.c (.clo f [])) as k t := .inr (.inl ⟨args', te, sz, els, hc, ha, hk⟩)
theorem CallL.fn {k : St → Prop} {t : Tok k} {F : List AV → List RV → Prop} (args' : List AV) (rs : List RV) (hF : F args' rs) (hk : k (st.put o.dst (rsAV rs)))
    (ha : All2 (ArgOk pm st.heap) as args' := by repeat (first | exact All2.nil | refine All2.cons (by first | exact ArgOk.d | exact ArgOk.bor rfl | exact ArgOk.own rfl | exact ArgOk.agg rfl | exact ArgOk.agg (toDs_map _) | exact ArgOk.nil_bor | exact ArgOk.nil_lst | exact ArgOk.fn | exact ArgOk.ptr rfl rfl | exact ArgOk.aggn rfl (by repeat first | exact .nil | refine .cons (.refl _) ?_ | refine .cons (.nil _) ?_) | exact ArgOk.aggc (by repeat (first | exact All2.nil | refine All2.cons (by first | exact CArg.d | exact CArg.bor rfl | exact CArg.own rfl | exact CArg.nb | exact CArg.nl) ?_))) ?_)) :
    CallL P pm o st (.c (.fn (FnSpec P pm.Γ F))) as k t := .inl (.inl ⟨F, args', rs, rfl, hF, ha, hk⟩)
theorem CallL.e {k : St → Prop} {t : Tok k} {r : AV} (hq : Qt P pm st.heap o (ev pm.Γ st.env) r) (hk : k (st.put o.dst r)) : CallL P pm o st α as k t := .inl (.inr ⟨r, hq, hk⟩)
theorem CallX.q {h : List LB} {ρ : Operand → AV} {k : AV → Prop} {t : Tok k} (hc : AFn P pm.Γ f args' rs) (hk : k (rsAV rs))
    (ha : All2 (ArgOk pm h) as args' := by repeat (first | exact All2.nil | refine All2.cons (by first | exact ArgOk.d | exact ArgOk.bor rfl | exact ArgOk.own rfl | exact ArgOk.agg rfl | exact ArgOk.agg (toDs_map _) | exact ArgOk.nil_bor | exact ArgOk.nil_lst | exact ArgOk.fn | exact ArgOk.ptr rfl rfl | exact ArgOk.aggn rfl (by repeat first | exact .nil | refine .cons (.refl _) ?_ | refine .cons (.nil _) ?_) | exact ArgOk.aggc (by repeat (first | exact All2.nil | refine All2.cons (by first | exact CArg.d | exact CArg.bor rfl | exact CArg.own rfl | exact CArg.nb | exact CArg.nl) ?_))) ?_)) :
    CallX P pm h o ρ (.c (.clo f [])) as k t := .inl ⟨args', rs, hc, ha, hk⟩
theorem CallX.fn {h : List LB} {ρ : Operand → AV} {k : AV → Prop} {t : Tok k} {F : List AV → List RV → Prop} (args' : List AV) (rs : List RV) (hF : F args' rs) (hk : k (rsAV rs))
    (ha : All2 (ArgOk pm h) as args' := by repeat (first | exact All2.nil | refine All2.cons (by first | exact ArgOk.d | exact ArgOk.bor rfl | exact ArgOk.own rfl | exact ArgOk.agg rfl | exact ArgOk.agg (toDs_map _) | exact ArgOk.nil_bor | exact ArgOk.nil_lst | exact ArgOk.fn | exact ArgOk.ptr rfl rfl | exact ArgOk.aggn rfl (by repeat first | exact .nil | refine .cons (.refl _) ?_ | refine .cons (.nil _) ?_) | exact ArgOk.aggc (by repeat (first | exact All2.nil | refine All2.cons (by first | exact CArg.d | exact CArg.bor rfl | exact CArg.own rfl | exact CArg.nb | exact CArg.nl) ?_))) ?_)) :
    CallX P pm h o ρ (.c (.fn (FnSpec P pm.Γ F))) as k t := .inl ⟨F, args', rs, rfl, hF, ha, hk⟩
theorem CallX.e {h : List LB} {ρ : Operand → AV} {k : AV → Prop} {t : Tok k} {r : AV} (hq : Qt P pm h o ρ r) (hk : k r) : CallX P pm h o ρ α as k t := .inr ⟨r, hq, hk⟩
end
end Go.Ax
