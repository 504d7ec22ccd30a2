/-
  Small steps for walks that a program prints: exits, regions with what follows out of sight, ends. No condition.
-/
import Derived.Test.YtimehiamdikinaaAxP
set_option linter.all false
namespace Go.Ax
open Go Go.RowKit

variable {P : Program} {pm : Pm} {st : St} {K : St → Prop} {Q : Exit → St → Prop}

theorem Ethen.n (h : K st) : Ethen K Q .normal st := h
theorem Ethen.e {id : Nat} (h : Q (.exit id) st) : Ethen K Q (.exit id) st := h
theorem Ethen.r (h : Q .ret st) : Ethen K Q .ret st := h
theorem EinBlock.n {id : Nat} (h : Q .normal st) : EinBlock id Q .normal st := h
theorem EinBlock.r {id : Nat} (h : Q .ret st) : EinBlock id Q .ret st := h
theorem EinBlock.hit {id : Nat} (h : Q .normal st) : EinBlock id Q (.exit id) st := by simp only [EinBlock, if_true]; exact h
theorem EinBlock.miss {id id' : Nat} (hne : id' ≠ id) (h : Q (.exit id') st) : EinBlock id Q (.exit id') st := by simp only [EinBlock, if_neg hne]; exact h

theorem AXc.region' {id : Nat} {l : List Oper} (h : ∀ K : St → Prop, (∀ st', Q .normal st' → K st') → AXl P pm l.toArray l st K) : AXc P pm (.region id l.toArray false) st Q :=
  AXc.region (h _ fun _ h => h)
theorem AXc.draw' {id : Nat} {l : List Oper} (hm : P.follows .mixedOrders = true) (m : Nat) (hok : drawOk l m pm.N = true)
    (hh : ∀ K : St → Prop, (∀ st', Q .normal st' → K st') → AXd P pm st.heap l.toArray (l.take m) st.env fun ρ' => AXl P pm l.toArray (l.drop m) ⟨ρ', st.heap⟩ K) : AXc P pm (.region id l.toArray true) st Q :=
  AXc.draw hm m hok (hh _ fun _ h => h)

theorem AXc.cond_t {c : Operand} {x y : Code} (hc : ev pm.Γ st.env c = .c (.d (.bool true))) (h : AXc P pm x st Q) : AXc P pm (.cond c x y) st Q :=
  AXc.cond hc (fun _ => h) (fun e => by cases e)
theorem AXc.cond_f {c : Operand} {x y : Code} (hc : ev pm.Γ st.env c = .c (.d (.bool false))) (h : AXc P pm y st Q) : AXc P pm (.cond c x y) st Q :=
  AXc.cond hc (fun e => by cases e) (fun _ => h)

theorem Fin.ret {res : List ResultVar} {fr : Option Nat} {rs rs' : List RV} {αs : List AV} (h1 : resAVs P st res = some αs) (h2 : rvsOf fr st.heap αs = some rs') (he : rs' = rs) : Fin P res fr rs .ret st :=
  ⟨.inl rfl, αs, h1, by rw [h2, he]⟩
theorem Fin.norm {res : List ResultVar} {fr : Option Nat} {rs rs' : List RV} {αs : List AV} (h1 : resAVs P st res = some αs) (h2 : rvsOf fr st.heap αs = some rs') (he : rs' = rs) : Fin P res fr rs .normal st :=
  ⟨.inr rfl, αs, h1, by rw [h2, he]⟩

/-- A function that hands over no row. -/
theorem AFn.of_body0 {Γ : List (Nat × List D)} {f : FuncId} {fn : Func} {c : Code} {args : List AV} {rs : List RV} {n : Nat} {res : List ResultVar} (hf : P.funcs[f]? = some fn) (hname : (fn.name == "runtime.NumGoroutine") = false) (hb : fn.body = some c) (hn : fn.ntmps = n) (hres : fn.results.toList = res) (hN : args.length ≤ n)
    (h : AXc P ⟨0, n, Γ⟩ c ⟨envOf args 0, []⟩ (Fin P res none rs)) : AFn P Γ f args rs :=
  AFn.of_body hf hname hb (by rw [hn]; exact hN) none (by intro i st αs h; cases h) (by rw [hn, hres]; exact h)

/-- A function whose one result is a row that it hands over. -/
theorem AFn.of_body1 {Γ : List (Nat × List D)} {f : FuncId} {fn : Func} {c : Code} {args : List AV} {te : TypeId} {sz : Nat} {els : List (List D)} {n : Nat} {r : ResultVar} (i : Nat) (hf : P.funcs[f]? = some fn) (hname : (fn.name == "runtime.NumGoroutine") = false) (hb : fn.body = some c) (hn : fn.ntmps = n) (hres : fn.results.toList = [r]) (hN : args.length ≤ n)
    (h : AXc P ⟨0, n, Γ⟩ c ⟨envOf args 0, []⟩ (Fin P [r] (some i) [.fresh te sz els])) : AFn P Γ f args [.fresh te sz els] := by
  refine AFn.of_body hf hname hb (by rw [hn]; exact hN) (some i) (fun i' st αs hi hr => ?_) (by rw [hn, hres]; exact h)
  cases hi
  match αs, hr with
  | [], hr => cases hr
  | α :: αs, hr =>
    simp only [rvsOf] at hr
    split at hr
    · next x l h1 h2 =>
      cases hr
      unfold rvOf at h1
      split at h1
      · next c =>
        split at h1
        · cases h1
        · split at h1
          · next j ver _ =>
            split at h1
            · next t sz' els' v hj =>
              split at h1
              · next hcond =>
                have : j = i := by have := hcond.2; injection this with this; exact this.symm
                subst this
                exact ⟨_, hj, trivial⟩
              · cases h1
            · cases h1
          · cases h1
      · next cs =>
        cases hcs : cellDs (some i) st.heap cs with
        | none => simp [hcs] at h1
        | some ds => simp [hcs] at h1
      · cases h1
    · cases hr

variable {ops : Array Oper} {rest : List Oper} {dst : Option Tmp} {ty : TypeId} {p : String} {af : Array Edge} {gd : Option (Nat × Bool)} {h : List LB} {ρ : Operand → AV}

theorem s_struct' (op : BinOp) (t t' : TypeId) (x y : Operand) {tags : List Nat} {cs ds : List C} {xs ys : List D} {b b' : Bool} (hT : EqT P t tags) (hx : ρ x = .agg cs) (hy : ρ y = .agg ds) (hcs : toDs cs = some xs) (hds : toDs ds = some ys) (ht : xs.map tagD = tags) (hb : eqDs xs ys = some b) (hb' : beqs op b = some b') :
    Still P h ⟨dst, .binOp op t x y t', ty, p, af, gd⟩ ρ (.c (.d (.bool b'))) :=
  s_struct op t t' x y hT (by rw [hx, toDs_ok _ _ hcs]) (by rw [hy, toDs_ok _ _ hds]) ht hb hb'

/-- append to a nil slice: a new row of the call's own. -/
theorem AXl.append_nil {t : TypeId} {k : Nat} {y : Operand} {te : TypeId} {sz by_ : Nat} {news : List (List D)} (ht : apT P t = some (te, sz, by_)) (hx : lk k st.env = .c (.d (.raw (.slice none 0 0)))) (hky : y ≠ .tmp k)
    (hy : elsOfN sz st.heap (ev pm.Γ st.env y) = some (sz, news)) (hb : news.length * by_ ≤ 140737488355328) (hm : news.length ≤ 4294967296) (hd : dstOk pm.N dst)
    (hk : AXl P pm ops rest (St.put ⟨pute k (.c (.own st.heap.length 0)) st.env, st.heap ++ [.row te sz news 1]⟩ dst (.c (.own st.heap.length 1))) K) :
    AXl P pm ops (⟨dst, .call { callee := .builtin .append, args := #[.tmp k, y], argTypes := #[t, t] }, ty, p, af, none⟩ :: rest) st K := by
  refine AXl.nilrow k te sz hx ?_
  have hev : ev pm.Γ (pute k (AV.c (.own st.heap.length 0)) st.env) y = ev pm.Γ st.env y := by
    cases y with
    | tmp t =>
      simp only [ev]
      rw [lk_put, if_neg (fun e => hky (by rw [e]))]
    | _ => rfl
  have hels0 : ∀ α, elsOf st.heap α = some (sz, news) → elsOf (st.heap ++ [.row te sz [] 0]) α = some (sz, news) := by
    intro α hα
    unfold elsOf at hα ⊢
    have hpre : ∀ (i : Nat) (b : LB), st.heap[i]? = some b → (st.heap ++ [LB.row te sz [] 0])[i]? = some b := fun i b hi => by
      rw [List.getElem?_append_left (getElem?_lt hi)]; exact hi
    split at hα
    · exact hα
    · exact hα
    · split at hα
      · next hi => simp only [hpre _ _ hi]; exact hα
      · cases hα
    · split at hα
      · next hi => simp only [hpre _ _ hi]; exact hα
      · cases hα
    · cases hα
  have hels : ∀ α, elsOfN sz st.heap α = some (sz, news) → elsOfN sz (st.heap ++ [.row te sz [] 0]) α = some (sz, news) := by
    intro α hα
    unfold elsOfN at hα ⊢
    split at hα
    · exact hα
    · exact hels0 _ hα
  refine AXl.append (i := st.heap.length) (ver := 0) (els := []) ht (by simp [ev, lk_put]) (by simp) (by rw [hev]; exact hels _ hy) (by simpa using hb) (by simpa using hm) hd ?_
  have e : (st.heap ++ [LB.row te sz [] 0]).set st.heap.length (.row te sz ([] ++ news) (0 + 1)) = st.heap ++ [.row te sz news 1] := by simp
  simp only [e]
  exact hk
end Go.Ax
