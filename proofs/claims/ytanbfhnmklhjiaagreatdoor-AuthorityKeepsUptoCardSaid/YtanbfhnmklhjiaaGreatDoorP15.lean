/- Part of a proof about this program; no condition of its own. -/
import Derived.Test.YtanbfhnmklhjiaaGreatDoorP14
set_option linter.all false
/-
  What is to be shown of code, reckoned: operations in their order, regions that draw, code. No condition.
-/
namespace Go.Ax
open Go Go.RowKit
/-! ### operations that make or write memory -/
section
variable (P : Program) (pm : Pm) (E : List Nat)
def mem? (E : List Nat) (dst : Option Nat) : Bool := match dst with | some d => E.contains d | none => false
def pushB (st : St) (dst : Option Nat) (t : TypeId) (cs : List C) : St := St.put ⟨st.env, st.heap ++ [.box t cs]⟩ dst (.c (.loc st.heap.length 0))
def pushR (st : St) (dst : Option Nat) (t : TypeId) (sz : Nat) (els : List (List D)) : St := St.put ⟨st.env, st.heap ++ [.row t sz els 0]⟩ dst (.c (.own st.heap.length 0))
def valloc (t : TypeId) (dst : Option Nat) (st : St) (k : St → Prop) : Prop :=
  match zeroC P t with
  | some zc => k (pushB st dst t zc)
  | none => False
def vbox (t : TypeId) (α : AV) (dst : Option Nat) (st : St) (k : St → Prop) : Prop :=
  match avCells α with
  | some cs => k (pushB st dst t cs)
  | none => False
def vstore (t : TypeId) (α β : AV) (st : St) (k : St → Prop) : Prop :=
  match α, avCells β with
  | .c (.loc i off), some xs => match st.heap[i]? with
    | some (.box tb cs) => (szT P t = some xs.length ∧ off + xs.length ≤ cs.length) ∧ k ⟨st.env, st.heap.set i (.box tb (splice cs off xs))⟩
    | _ => False
  | .c (.rowp i ver sz kk off), some xs => match st.heap[i]?, toDs xs with
    | some (.row te sz' els v), some ds => (v = ver ∧ sz' = sz ∧ szT P t = some ds.length) ∧ vel els kk fun e => off + ds.length ≤ e.length ∧ k ⟨st.env, st.heap.set i (.row te sz (els.set kk (splice e off ds)) ver)⟩
    | some (.opn te sz' els kk' cs v), _ => ((v = ver ∧ sz' = sz ∧ kk = kk') ∧ szT P t = some xs.length ∧ off + xs.length ≤ cs.length) ∧ k ⟨st.env, st.heap.set i (.opn te sz els kk (splice cs off xs) ver)⟩
    | _, _ => False
  | _, _ => False
def vmake (t : TypeId) (α β : AV) (dst : Option Nat) (st : St) (k : St → Prop) : Prop :=
  match apT P t, α, β with
  | some (te, sz, by_), .c (.d (.int _ n)), .c (.d (.int _ n')) => match zeroC P te with
    | some zc => match toDs zc with
      | some zd => (n = n' ∧ 0 ≤ n ∧ n * by_ ≤ 140737488355328 ∧ n ≤ 4294967296) ∧ k (pushR st dst te sz (List.replicate n.toNat zd))
      | none => False
    | none => False
  | _, _, _ => False
def vlitO (t : TypeId) (n : Nat) (parts : List (Nat × AV)) (dst : Option Nat) (st : St) (k : St → Prop) : Prop :=
  match apT P t with
  | some (te, sz, _) => match partsE sz parts 0 with
    | some els => (parts.length = n ∧ n * sz ≤ 16777216) ∧ k (pushR st dst te sz els)
    | none => False
  | none => False
def vapp (t t' : TypeId) (x y : Operand) (α β : AV) (dst : Option Nat) (st : St) (k : St → Prop) : Prop :=
  match apT P t with
  | some (te, sz, by_) => match α with
    | .c (.own i ver) => match st.heap[i]? with
      | some (.row te' sz' els v) => match elsOfN sz st.heap β with
        | some (sz'', news) => ((t' = t ∧ te' = te ∧ sz' = sz ∧ v = ver ∧ sz'' = sz) ∧ ((els.length + news.length) * by_ ≤ 140737488355328 ∧ els.length + news.length ≤ 4294967296)) ∧ k (St.put ⟨st.env, st.heap.set i (.row te sz (els ++ news) (ver + 1))⟩ dst (.c (.own i (ver + 1))))
        | none => False
      | _ => False
    | .c (.d (.raw (.slice none 0 0))) => match x with
      | .tmp kk => match elsOfN sz st.heap β with
        | some (sz'', news) => ((t' = t ∧ sz'' = sz ∧ y ≠ .tmp kk) ∧ (news.length * by_ ≤ 140737488355328 ∧ news.length ≤ 4294967296)) ∧ k (St.put ⟨pute kk (.c (.own st.heap.length 0)) st.env, st.heap ++ [.row te sz news 1]⟩ dst (.c (.own st.heap.length 1)))
        | none => False
      | _ => False
    | _ => False
  | none => False
def CallO (dst : Option Nat) (st : St) (α : AV) (as : List AV) (k : St → Prop) : Prop :=
  match α with
  | .c (.clo f []) => ∃ args' te sz els, AFn P pm.Γ f args' [.fresh te sz els] ∧ All2 (ArgOk pm st.heap) as args' ∧ k (pushR st dst te sz els)
  | _ => False
def Lf (o : Oper) (st : St) (k : St → Prop) : Prop := ∀ ops rest K, (∀ st', k st' → AXl P pm ops rest st' K) → AXl P pm ops ({ o with guard := none } :: rest) st K
def CallL (o : Oper) (st : St) (α : AV) (as : List AV) (k : St → Prop) (_ : Tok k) : Prop :=
  CallX P pm st.heap o (ev pm.Γ st.env) α as (fun r => k (st.put o.dst r)) ⟨⟩ ∨ CallO P pm o.dst st α as k ∨ Lf P pm o st k
def isOwn (n : Nat) (dst : Option Nat) : Bool := (n == 0) != mem? E dst
def vlitX (b : Bool) (t : TypeId) (n : Nat) (parts : List (Nat × AV)) (dst : Option Nat) (st : St) (k : St → Prop) : Prop :=
  match b with
  | true => vlitO P t n parts dst st k
  | false => vlit P t n parts fun r => k (st.put dst r)
def nilb (op : BinOp) (b : Bool) : Bool := if op = .eql then b else !b
def vnilR (t : TypeId) (op : BinOp) (α : AV) (dst : Option Nat) (st : St) (k : St → Prop) : Prop :=
  match slT P t, elsOfN 0 st.heap α with
  | some _, some (_, els) => (op = .eql ∨ op = .neq) ∧ (match α with
    | .c (.d (.raw (.slice none 0 0))) => k (st.put dst (oB (nilb op true)))
    | _ => (els ≠ [] → k (st.put dst (oB (nilb op false)))) ∧ (els = [] → ∀ b, k (st.put dst (oB b))))
  | _, _ => False
def vbinR (t : TypeId) (op : BinOp) (α β : AV) (nl : Bool) (dst : Option Nat) (st : St) (k : St → Prop) : Prop :=
  match nl with
  | true => vnilR P t op α dst st k
  | false => vbin P t op α β false fun r => k (st.put dst r)
/-! ### maps -/
def vmkmap (t : TypeId) (dst : Option Nat) (st : St) (k : St → Prop) : Prop :=
  match mapSh P t with
  | some sh => k (St.put ⟨st.env, st.heap ++ [.mp sh []]⟩ dst (.c (.own st.heap.length 0)))
  | none => False
def vment (t : TypeId) (α β : AV) (dst : Option Nat) (st : St) (k : St → Prop) : Prop :=
  match α, keyC β with
  | .c (.own i 0), some ks => match st.heap[i]? with
    | some (.mp sh m) => (MapT P t sh ∧ Kfits sh ks) ∧ k (St.put ⟨st.env, st.heap.set i (.mp sh (mpre m ks))⟩ dst (.tup [oI .i64 (mget m ks), oI .i64 (midx m ks)]))
    | _ => False
  | _, _ => False
def vest (α β γ : AV) (st : St) (k : St → Prop) : Prop :=
  match α, β, γ with
  | .c (.own i 0), .c (.d (.int _ n)), .c (.d (.int .i64 v)) => match st.heap[i]? with
    | some (.mp sh m) => (0 ≤ n ∧ n < m.length) ∧ k ⟨st.env, st.heap.set i (.mp sh (mset m n.toNat v))⟩
    | _ => False
  | _, _, _ => False
def vmup (t : TypeId) (α β γ : AV) (st : St) (k : St → Prop) : Prop :=
  match α, keyC β, γ with
  | .c (.own i 0), some ks, .c (.d (.int .i64 v)) => match st.heap[i]? with
    | some (.mp sh m) => (MapT P t sh ∧ Kfits sh ks) ∧ k ⟨st.env, st.heap.set i (.mp sh (mput m ks v))⟩
    | _ => False
  | _, _, _ => False
def vrange (t : TypeId) (α : AV) (dst : Option Nat) (st : St) (k : St → Prop) : Prop :=
  match α with
  | .c (.d (.mp sh m)) => MapT P t sh ∧ k (St.put ⟨st.env, st.heap ++ [.it m none]⟩ dst (.c (.loc st.heap.length 0)))
  | .c (.own i 0) => match st.heap[i]? with
    | some (.mp sh m) => MapT P t sh ∧ k (St.put ⟨st.env, st.heap.set i .dead ++ [.it m none]⟩ dst (.c (.loc st.heap.length 0)))
    | _ => False
  | .c (.d (.str s)) => isS P t ∧ k (St.put ⟨st.env, st.heap ++ [.sit s 0]⟩ dst (.c (.loc st.heap.length 0)))
  | _ => False
def vnextS (α : AV) (dst : Option Nat) (st : St) (k : St → Prop) : Prop :=
  match α with
  | .c (.loc j 0) => match st.heap[j]? with
    | some (.sit s pos) => (s.length ≤ pos → k (st.put dst (.tup [oB false]))) ∧ (pos < s.length → k (St.put ⟨st.env, st.heap.set j (.sit s (pos + (Lib.decodeL (s.drop pos)).2))⟩ dst (.tup [oB true, oI .i64 pos, oI .i32 (Lib.decodeL (s.drop pos)).1])))
    | _ => False
  | _ => False
def vnext (α : AV) (dst : Option Nat) (st : St) (k : St → Prop) : Prop :=
  match α with
  | .c (.loc j 0) => match st.heap[j]? with
    | some (.it todo _) => (todo = [] → k (st.put dst (.tup [oB false]))) ∧ ∀ (i : Nat) (hi : i < todo.length), k (St.put ⟨st.env, st.heap.set j (.it (todo.eraseIdx i) (some todo[i]))⟩ dst (.tup [oB true, keyAV todo[i].1, oI .i64 todo[i].2]))
    | _ => False
  | _ => False
def vrun (o : Oper) (st : St) (k : St → Prop) : Prop :=
  match o.op with
  | .binOp op t x y _ => vbinR P t op (ev pm.Γ st.env x) (ev pm.Γ st.env y) (isNil y) o.dst st k
  | .alloc t => valloc P t o.dst st k
  | .box t x => vbox t (ev pm.Γ st.env x) o.dst st k
  | .store t x y => o.dst = none ∧ vstore P t (ev pm.Γ st.env x) (ev pm.Γ st.env y) st k
  | .makeSlice t x y => vmake P t (ev pm.Γ st.env x) (ev pm.Γ st.env y) o.dst st k
  | .makeMap t none => vmkmap P t o.dst st k
  | .mapEntry t x y => vment P t (ev pm.Γ st.env x) (ev pm.Γ st.env y) o.dst st k
  | .entryStore _ x y z => o.dst = none ∧ vest (ev pm.Γ st.env x) (ev pm.Γ st.env y) (ev pm.Γ st.env z) st k
  | .mapUpdate t x y z => o.dst = none ∧ vmup P t (ev pm.Γ st.env x) (ev pm.Γ st.env y) (ev pm.Γ st.env z) st k
  | .range t x => vrange P t (ev pm.Γ st.env x) o.dst st k
  | .next x false => vnext (ev pm.Γ st.env x) o.dst st k
  | .next x true => vnextS (ev pm.Γ st.env x) o.dst st k
  | .buildSlice t n ps => vlitX P (isOwn E n o.dst) t n (ps.toList.map fun x => (x.1, ev pm.Γ st.env x.2)) o.dst st k
  | .call { callee := .builtin b, args := as, argTypes := ts } => match b, as.toList, ts.toList with
    | .append, [x, y], [t, t'] => vapp P t t' x y (ev pm.Γ st.env x) (ev pm.Γ st.env y) o.dst st k
    | b, as, ts => vbi P st.heap b (as.map (ev pm.Γ st.env)) ts fun r => k (st.put o.dst r)
  | .call { callee := .value x, args := as, argTypes := _ } => CallL P pm o st (ev pm.Γ st.env x) (as.toList.map (ev pm.Γ st.env)) k ⟨⟩
  | _ => vq P st.heap pm o (ev pm.Γ st.env) fun r => k (st.put o.dst r)
end
section
variable {P : Program} {pm : Pm} {E : List Nat}
theorem Lf.of_q {o : Oper} {st : St} {k : St → Prop} (hd : dstOk pm.N o.dst) (h : CallE P pm st.heap o (ev pm.Γ st.env) fun r => k (st.put o.dst r)) : Lf P pm o st k := by
  intro ops rest K hK
  obtain ⟨r, hq, hk⟩ := h
  refine AXl.qt (o := { o with guard := none }) (r := r) rfl hd ?_ (hK _ hk)
  exact hq
theorem valloc_ok {dst : Option Tmp} {ty : TypeId} {p : String} {af : Array Edge} {gd : Option (Nat × Bool)} {t : TypeId} {st : St} {k : St → Prop} (hd : dstOk pm.N dst) (hh : valloc P t dst st k) : Lf P pm ⟨dst, .alloc t, ty, p, af, gd⟩ st k := by
  unfold valloc at hh
  split at hh
  · next zc hz => exact fun ops rest K hK => AXl.alloc hz hd (hK _ hh)
  · exact hh.elim
theorem vbox_ok {dst : Option Tmp} {ty : TypeId} {p : String} {af : Array Edge} {gd : Option (Nat × Bool)} {t : TypeId} {x : Operand} {st : St} {k : St → Prop} (hd : dstOk pm.N dst) (hh : vbox t (ev pm.Γ st.env x) dst st k) : Lf P pm ⟨dst, .box t x, ty, p, af, gd⟩ st k := by
  unfold vbox at hh
  split at hh
  · next zc hz => exact fun ops rest K hK => AXl.box hz hd (hK _ hh)
  · exact hh.elim
theorem vstore_ok {dst : Option Tmp} {ty : TypeId} {p : String} {af : Array Edge} {gd : Option (Nat × Bool)} {t : TypeId} {x y : Operand} {st : St} {k : St → Prop} (hd : dst = none) (hh : vstore P t (ev pm.Γ st.env x) (ev pm.Γ st.env y) st k) : Lf P pm ⟨dst, .store t x y, ty, p, af, gd⟩ st k := by
  unfold vstore at hh
  split at hh
  · next i off xs hx hy =>
    split at hh
    · next tb cs hi => exact fun ops rest K hK => AXl.store hx hi hy hh.1.1 hh.1.2 hd (hK _ hh.2)
    · exact hh.elim
  · next i ver sz kk off xs hx hy =>
    split at hh
    · next te sz' els v ds hi hds =>
      obtain ⟨⟨rfl, rfl, hs⟩, hlt, hle, hk⟩ := hh
      exact fun ops rest K hK => AXl.store_row hx hi (List.getElem?_eq_getElem hlt) (by rw [hy, toDs_ok _ _ hds]) hs hle hd (hK _ hk)
    · next te sz' els kk' cs v _ hi =>
      obtain ⟨⟨⟨rfl, rfl, rfl⟩, hs, hle⟩, hk⟩ := hh
      exact fun ops rest K hK => AXl.store_opn hx hi hy hs hle hd (hK _ hk)
    · exact hh.elim
  · exact hh.elim
theorem vmake_ok {dst : Option Tmp} {ty : TypeId} {p : String} {af : Array Edge} {gd : Option (Nat × Bool)} {t : TypeId} {x y : Operand} {st : St} {k : St → Prop} (hd : dstOk pm.N dst) (hh : vmake P t (ev pm.Γ st.env x) (ev pm.Γ st.env y) dst st k) : Lf P pm ⟨dst, .makeSlice t x y, ty, p, af, gd⟩ st k := by
  unfold vmake at hh
  split at hh
  · next te sz by_ kd n kd' n' h1 h2 h3 =>
    split at hh
    · next zc hz =>
      split at hh
      · next zd hzd =>
        obtain ⟨⟨rfl, h0, hb, hm⟩, hk⟩ := hh
        have e : n = (n.toNat : Int) := (Int.toNat_of_nonneg h0).symm
        have hb' : n.toNat * by_ ≤ 140737488355328 := by
          have h5 : ((n.toNat * by_ : Nat) : Int) ≤ 140737488355328 := by rw [Int.natCast_mul, ← e]; exact hb
          omega
        exact fun ops rest K hK => AXl.make h1 hz hzd (by rw [h2, ← e]) (by rw [h3, ← e]) hb' (by omega) hd (hK _ hk)
      · exact hh.elim
    · exact hh.elim
  · exact hh.elim
theorem vlitO_ok {dst : Option Tmp} {ty : TypeId} {p : String} {af : Array Edge} {gd : Option (Nat × Bool)} {t : TypeId} {n : Nat} {ps : List (Nat × Operand)} {st : St} {k : St → Prop} (hd : dstOk pm.N dst) (hh : vlitO P t n (ps.map fun x => (x.1, ev pm.Γ st.env x.2)) dst st k) : Lf P pm ⟨dst, .buildSlice t n ps.toArray, ty, p, af, gd⟩ st k := by
  unfold vlitO at hh
  split at hh
  · next te sz by_ h1 =>
    split at hh
    · next els h2 =>
      rw [List.length_map] at hh
      exact fun ops rest K hK => AXl.buildSlice h1 h2 hh.1.1 hh.1.2 hd (hK _ hh.2)
    · exact hh.elim
  · exact hh.elim
theorem vapp_ok {dst : Option Tmp} {ty : TypeId} {p : String} {af : Array Edge} {gd : Option (Nat × Bool)} {t t' : TypeId} {x y : Operand} {st : St} {k : St → Prop} (hd : dstOk pm.N dst) (hh : vapp P t t' x y (ev pm.Γ st.env x) (ev pm.Γ st.env y) dst st k) :
    Lf P pm ⟨dst, .call { callee := .builtin .append, args := #[x, y], argTypes := #[t, t'] }, ty, p, af, gd⟩ st k := by
  unfold vapp at hh
  split at hh
  · next te sz by_ h1 =>
    split at hh
    · next i ver hx =>
      split at hh
      · next te' sz' els v hi =>
        split at hh
        · next sz'' news hy =>
          obtain ⟨⟨⟨rfl, rfl, rfl, rfl, rfl⟩, hb, hm⟩, hk⟩ := hh
          exact fun ops rest K hK => AXl.append h1 hx hi hy hb hm hd (hK _ hk)
        · exact hh.elim
      · exact hh.elim
    · next hx =>
      split at hh
      · next kk =>
        split at hh
        · next sz'' news hy =>
          obtain ⟨⟨⟨rfl, rfl, hne⟩, hb, hm⟩, hk⟩ := hh
          exact fun ops rest K hK => AXl.append_nil h1 hx hne hy hb hm hd (hK _ hk)
        · exact hh.elim
      · exact hh.elim
    · exact hh.elim
  · exact hh.elim
theorem CallO_ok {dst : Option Tmp} {ty : TypeId} {p : String} {af : Array Edge} {gd : Option (Nat × Bool)} {x : Operand} {as : List Operand} {ts : Array TypeId} {st : St} {k : St → Prop} (hd : dstOk pm.N dst) (hh : CallO P pm dst st (ev pm.Γ st.env x) (as.map (ev pm.Γ st.env)) k) :
    Lf P pm ⟨dst, .call { callee := .value x, args := as.toArray, argTypes := ts }, ty, p, af, gd⟩ st k := by
  unfold CallO at hh
  split at hh
  · next f hx =>
    obtain ⟨args', te, sz, els, h1, h2, h3⟩ := hh
    exact fun ops rest K hK => AXl.call_own hx h1 h2 hd (hK _ h3)
  · exact hh.elim
theorem CallL_ok {dst : Option Tmp} {ty : TypeId} {p : String} {af : Array Edge} {gd : Option (Nat × Bool)} {x : Operand} {as : List Operand} {ts : Array TypeId} {st : St} {k : St → Prop} (hd : dstOk pm.N dst)
    (hh : CallL P pm ⟨dst, .call { callee := .value x, args := as.toArray, argTypes := ts }, ty, p, af, gd⟩ st (ev pm.Γ st.env x) (as.map (ev pm.Γ st.env)) k ⟨⟩) :
    Lf P pm ⟨dst, .call { callee := .value x, args := as.toArray, argTypes := ts }, ty, p, af, gd⟩ st k := by
  rcases hh with hh | hh | hh
  · exact Lf.of_q hd (CallX_ok hh)
  · exact CallO_ok hd hh
  · exact hh
theorem run_nileqA {t e : TypeId} (hu : P.underlying t = some (.slice e)) (n c d : Nat) (w : World) : (Op.equalIn (d + 1) t (.slice none n c) (.slice none 0 0)).run P w = .ok true w := by
  simp [Op.equalIn, run_underlying hu]
theorem vnilR_ok {dst : Option Tmp} {ty : TypeId} {p : String} {af : Array Edge} {gd : Option (Nat × Bool)} {op : BinOp} {t t' : TypeId} {x : Operand} {st : St} {k : St → Prop} (hd : dstOk pm.N dst) (hh : vnilR P t op (ev pm.Γ st.env x) dst st k) :
    Lf P pm ⟨dst, .binOp op t x (.const (.slice none 0 0)) t', ty, p, af, gd⟩ st k := by
  unfold vnilR at hh
  split at hh
  · next q sz els hs he =>
    obtain ⟨hop, hh⟩ := hh
    obtain ⟨hu, _⟩ := slT_some (P := P) (t := t) (e := q.1) (n := q.2) hs
    intro ops rest K hK cx G a w Q hp s hQ
    subst hp
    refine wpList_plain rfl fun K' hK' => ?_
    have hv := s.ev x
    have hsl := slAt_ofN s.h he hv
    obtain ⟨A, cap, u, e1, _, _, _, ha, _⟩ := hsl.form
    have e2 : a.eval (.const (.slice none 0 0)) = .slice none 0 0 := rfl
    have hrun : (execOp a.eval ⟨dst, .binOp op t x (.const (.slice none 0 0)) t', ty, p, af, none⟩).run P w = .ok (.value (.bool (nilb op A.isNone))) w := by
      have h1 : (Op.equal t (.slice A els.length cap) (.slice none 0 0)).run P w = .ok A.isNone w := by
        cases A with
        | none => exact run_nileqA hu _ _ 9999 w
        | some ad => exact run_nilne' hu ad _ _ w
      rcases hop with rfl | rfl <;> simp [execOp, e1, e2, eqGuard, binOp, h1, nilb]
    have hfin : ∀ b, nilb op A.isNone = b → k (st.put dst (oB b)) → K' (a.put dst (.bool b)) w := fun b _ hk => by
      refine hK' _ _ (hK _ hk cx G _ w Q rfl (s.put (α := oB b) (Dr.bool b) hd) hQ)
    unfold Oper.wp
    rw [hrun]
    show K' (a.put dst (.bool (nilb op A.isNone))) w
    split at hh
    · next hx =>
      rw [hx] at hv
      have := ar_raw hv
      rw [this] at e1
      injection e1 with e1 _ _
      refine hfin _ rfl ?_
      rw [← e1]; exact hh
    · by_cases hn : els = []
      · exact hfin _ rfl (hh.2 hn _)
      · obtain ⟨ad, rfl, _⟩ := ha hn
        exact hfin _ rfl (hh.1 hn)
  · exact hh.elim
theorem vbinR_ok {dst : Option Tmp} {ty : TypeId} {p : String} {af : Array Edge} {gd : Option (Nat × Bool)} {op : BinOp} {t t' : TypeId} {x y : Operand} {st : St} {k : St → Prop} (hd : dstOk pm.N dst) (hh : vbinR P t op (ev pm.Γ st.env x) (ev pm.Γ st.env y) (isNil y) dst st k) :
    Lf P pm ⟨dst, .binOp op t x y t', ty, p, af, gd⟩ st k := by
  unfold vbinR at hh
  split at hh
  · next hn =>
    obtain rfl : y = .const (.slice none 0 0) := by
      unfold isNil at hn
      split at hn
      · rfl
      · cases hn
    exact vnilR_ok hd hh
  · next hn => rw [← hn] at hh; exact Lf.of_q hd (vbin_ok hh)
section
variable {dst : Option Tmp} {ty : TypeId} {p : String} {af : Array Edge} {gd : Option (Nat × Bool)} {st : St} {k : St → Prop}
theorem vmkmap_ok {t : TypeId} (hd : dstOk pm.N dst) (hh : vmkmap P t dst st k) : Lf P pm ⟨dst, .makeMap t none, ty, p, af, gd⟩ st k := by
  unfold vmkmap at hh
  split at hh
  · exact fun ops rest K hK => AXl.makeMap _ hd (hK _ hh)
  · exact hh.elim
theorem vment_ok {t : TypeId} {x y : Operand} (hd : dstOk pm.N dst) (hh : vment P t (ev pm.Γ st.env x) (ev pm.Γ st.env y) dst st k) : Lf P pm ⟨dst, .mapEntry t x y, ty, p, af, gd⟩ st k := by
  unfold vment at hh
  split at hh
  · next i ks h1 h2 =>
    split at hh
    · next sh m h3 => exact fun ops rest K hK => AXl.mapEntry hh.1.1 h1 h3 h2 hh.1.2 hd (hK _ hh.2)
    · exact hh.elim
  · exact hh.elim
theorem vest_ok {t : TypeId} {x y z : Operand} (hd : dst = none) (hh : vest (ev pm.Γ st.env x) (ev pm.Γ st.env y) (ev pm.Γ st.env z) st k) : Lf P pm ⟨dst, .entryStore t x y z, ty, p, af, gd⟩ st k := by
  unfold vest at hh
  split at hh
  · next i kd n v h1 h2 h4 =>
    split at hh
    · next sh m h3 => exact fun ops rest K hK => AXl.entryStore h1 h3 h2 hh.1.1 hh.1.2 h4 hd (hK _ hh.2)
    · exact hh.elim
  · exact hh.elim
theorem vmup_ok {t : TypeId} {x y z : Operand} (hd : dst = none) (hh : vmup P t (ev pm.Γ st.env x) (ev pm.Γ st.env y) (ev pm.Γ st.env z) st k) : Lf P pm ⟨dst, .mapUpdate t x y z, ty, p, af, gd⟩ st k := by
  unfold vmup at hh
  split at hh
  · next i ks v h1 h2 h4 =>
    split at hh
    · next sh m h3 => exact fun ops rest K hK => AXl.mapUpdate hh.1.1 h1 h3 h2 hh.1.2 h4 hd (hK _ hh.2)
    · exact hh.elim
  · exact hh.elim
theorem vrange_ok {t : TypeId} {x : Operand} (hd : dstOk pm.N dst) (hh : vrange P t (ev pm.Γ st.env x) dst st k) : Lf P pm ⟨dst, .range t x, ty, p, af, gd⟩ st k := by
  unfold vrange at hh
  split at hh
  · next sh m h1 => exact fun ops rest K hK => AXl.range hh.1 h1 hd (hK _ hh.2)
  · next i h1 =>
    split at hh
    · next sh m h2 => exact fun ops rest K hK => AXl.range_own hh.1 h1 h2 hd (hK _ hh.2)
    · exact hh.elim
  · next s h1 => exact fun ops rest K hK => AXl.rangeS hh.1 h1 hd (hK _ hh.2)
  · exact hh.elim
theorem vnextS_ok {x : Operand} (hd : dstOk pm.N dst) (hh : vnextS (ev pm.Γ st.env x) dst st k) : Lf P pm ⟨dst, .next x true, ty, p, af, gd⟩ st k := by
  unfold vnextS at hh
  split at hh
  · next j h1 =>
    split at hh
    · next s pos h2 => exact fun ops rest K hK => AXl.nextS h1 h2 hd (fun e => hK _ (hh.1 e)) fun e => hK _ (hh.2 e)
    · exact hh.elim
  · exact hh.elim
theorem vnext_ok {x : Operand} (hd : dstOk pm.N dst) (hh : vnext (ev pm.Γ st.env x) dst st k) : Lf P pm ⟨dst, .next x false, ty, p, af, gd⟩ st k := by
  unfold vnext at hh
  split at hh
  · next j h1 =>
    split at hh
    · next todo last h2 => exact fun ops rest K hK => AXl.next h1 h2 hd (fun e => hK _ (hh.1 e)) fun i hi => hK _ (hh.2 i hi)
    · exact hh.elim
  · exact hh.elim
end
theorem vrun_ok {o : Oper} {st : St} {k : St → Prop} (hd : dstOk pm.N o.dst) (hh : vrun P pm E o st k) : Lf P pm o st k := by
  obtain ⟨dst, op, ty, p, af, gd⟩ := o
  unfold vrun at hh
  simp only at hh
  split at hh
  · exact vbinR_ok hd hh
  · exact valloc_ok hd hh
  · exact vbox_ok hd hh
  · exact vstore_ok hh.1 hh.2
  · exact vmake_ok hd hh
  · exact vmkmap_ok hd hh
  · exact vment_ok hd hh
  · exact vest_ok hh.1 hh.2
  · exact vmup_ok hh.1 hh.2
  · exact vrange_ok hd hh
  · exact vnext_ok hd hh
  · exact vnextS_ok hd hh
  · next t n ps =>
    unfold vlitX at hh
    split at hh
    · have := vlitO_ok (P := P) (pm := pm) (ty := ty) (p := p) (af := af) (gd := gd) (ps := ps.toList) hd hh; simpa using this
    · have := vlit_ok (P := P) (pm := pm) (h := st.heap) (dst := dst) (ty := ty) (p := p) (af := af) (gd := gd) (ps := ps.toList) (ρ := ev pm.Γ st.env) hh
      rw [show ps.toList.toArray = ps by simp] at this
      exact Lf.of_q hd this
  · next b as ts =>
    split at hh
    · next x y t t' h1 h2 =>
      have e1 : as = #[x, y] := by rw [← h1]
      have e2 : ts = #[t, t'] := by rw [← h2]
      rw [e1, e2]
      exact vapp_ok hd hh
    · have := vbi_ok (P := P) (pm := pm) (h := st.heap) (dst := dst) (ty := ty) (p := p) (af := af) (gd := gd) (ρ := ev pm.Γ st.env) hh
      simp only [Array.toArray_toList] at this
      exact Lf.of_q hd this
  · next x as ts =>
    have := CallL_ok (P := P) (pm := pm) (ty := ty) (p := p) (af := af) (gd := gd) (x := x) (as := as.toList) (ts := ts) (st := st) (k := k) hd
    simp only [Array.toArray_toList] at this
    exact this hh
  · exact Lf.of_q hd (vq_ok hh)
end
/-! ### guards -/
def gslot : List Oper → Nat → Option Nat
  | [], _ => none
  | o :: _, 0 => o.dst
  | _ :: r, n + 1 => gslot r n
theorem gslot_eq : ∀ (l : List Oper) (j : Nat), gslot l j = (l[j]?).bind (·.dst)
  | [], j => by simp [gslot]
  | o :: r, 0 => by simp [gslot]
  | o :: r, n + 1 => by simp [gslot, gslot_eq r n]
def vgb (b want : Bool) (d : Nat) (st : St) (yes no : St → Prop) : Prop :=
  (b = want → yes ⟨pute d (oB want) st.env, st.heap⟩) ∧ (b = !want → no ⟨pute d (oB !want) st.env, st.heap⟩)
def vgs (d : Nat) (α : AV) (want : Bool) (st : St) (yes no : St → Prop) : Prop :=
  match α with
  | .c (.d (.bool b)) => vgb b want d st yes no
  | .tup [] => no st
  | _ => False
def vgj (d : Option Nat) (want : Bool) (st : St) (yes no : St → Prop) : Prop :=
  match d with
  | some d => vgs d (lk d st.env) want st yes no
  | none => False
def vgd (l : List Oper) (g : Option (Nat × Bool)) (st : St) (yes no : St → Prop) : Prop :=
  match g with
  | none => yes st
  | some (j, want) => vgj (gslot l j) want st yes no
section
variable {P : Program} {pm : Pm} {E : List Nat}
theorem AXl.unguard {ops : Array Oper} {o : Oper} {rest : List Oper} {st : St} {K : St → Prop} (hw : wantedA ops o st.env = some true) (hg : gdOk ops pm.N o = true) (h : AXl P pm ops ({ o with guard := none } :: rest) st K) : AXl P pm ops (o :: rest) st K := by
  intro cx G a w Q hp s hQ
  have h1 := h cx G a w Q hp s hQ
  simp only [wpList] at h1 ⊢
  rw [if_pos (s.guard hw (hp ▸ gdOk_spec hg))]
  have : Region.wanted { o with guard := none } (yielded ops a.tmps) = true := rfl
  rw [if_pos this] at h1
  exact h1
theorem vgd_ok {l : List Oper} {o : Oper} {rest : List Oper} {st : St} {K : St → Prop} {yes no : St → Prop} (hd : dstOk pm.N o.dst) (hg : gdOk l.toArray pm.N o = true)
    (hy : ∀ st, yes st → Lf P pm o st fun st' => AXl P pm l.toArray rest st' K) (hn : ∀ st, no st → AXl P pm l.toArray rest (st.put o.dst U) K) (h : vgd l o.guard st yes no) : AXl P pm l.toArray (o :: rest) st K := by
  unfold vgd at h
  split at h
  · next hgd =>
    have := hy st h l.toArray rest K (fun _ h => h)
    have e : ({ o with guard := none } : Oper) = o := by rw [← hgd]
    rwa [e] at this
  · next j want hgd =>
    unfold vgj at h
    split at h
    · next d hgs =>
      rw [gslot_eq] at hgs
      have hgs' : (l.toArray[j]?).bind (·.dst) = some d := by simpa using hgs
      have hwant : ∀ (b : Bool) (ρ : Env), lk d ρ = oB b → wantedA l.toArray o ρ = some (b == want) := fun b ρ hl => by
        unfold wantedA
        rw [hgd]
        simp only [hgs', hl]
      have hput : ∀ b : Bool, lk d (pute d (oB b) st.env) = oB b := fun b => by simp [lk_put]
      unfold vgs at h
      split at h
      · next b hb =>
        obtain ⟨h1, h2⟩ := h
        have ht : ∀ c : Bool, b = c → AXl P pm l.toArray (o :: rest) ⟨pute d (oB c) st.env, st.heap⟩ K := by
          intro c hc
          by_cases hcw : c = want
          · subst hcw
            refine AXl.unguard (by rw [hwant c _ (hput c)]; simp) hg (hy _ (h1 hc) _ _ _ (fun _ h => h))
          · have hcn : c = !want := by revert hcw; cases c <;> cases want <;> simp
            refine AXl.skip_guard hd (by rw [hwant c _ (hput c)]; simp [hcw]) hg ?_
            have := hn _ (h2 (hc.trans hcn))
            rwa [← hcn] at this
        exact AXl.split d b hb (ht true) (ht false)
      · next hb =>
        refine AXl.skip_guard hd ?_ hg (hn _ h)
        unfold wantedA
        rw [hgd]
        simp only [hgs', hb]
      · exact h.elim
    · exact h.elim
end
end Go.Ax
