/- Part of a proof about this program; no condition of its own. -/
import Derived.Test.YtanbfhnmklhjiaaGreatDoorP16
set_option linter.all false
/- The equations by which what is to be shown of code is reckoned. No condition. -/
namespace Go.Ax
open Go Go.RowKit
section
variable {P : Program} {pm : Pm} {E : List Nat} {l : List Oper} {K : St → Prop} {Q : Exit → St → Prop} {k : AV → Prop} {ks : St → Prop} {h : List LB} {ρ : Operand → AV}
variable {dst : Option Tmp} {ty : TypeId} {p : String} {af : Array Edge} {gd : Option (Nat × Bool)}
attribute [push_cast] eq_self true_and and_true false_and and_false and_self not_true_eq_false not_false_eq_true false_or or_false true_or or_true forall_const imp_self implies_true false_implies exists_prop ne_eq exists_true_left if_true if_false
  decide_eq_true_eq decide_eq_false_iff_not Bool.not_eq_true' Bool.not_eq_false' Int.not_lt Int.not_le Decidable.not_not bne_iff_ne beq_iff_eq Bool.and_eq_true Bool.or_eq_true Bool.and_eq_false_iff Bool.or_eq_false_iff Bool.not_not Bool.not_true Bool.not_false decide_true decide_false Bool.true_and Bool.and_true Bool.false_and Bool.and_false Bool.or_false Bool.or_true Bool.true_or Bool.false_or cond_true cond_false not_false_iff
  List.length_cons List.length_nil List.length_map List.length_take List.length_drop List.length_append List.length_set List.length_replicate List.length_range List.map_cons List.map_nil List.cons_append List.nil_append List.append_nil List.set_cons_zero List.set_cons_succ List.take_succ_cons List.take_zero List.take_nil List.drop_succ_cons List.drop_zero List.drop_nil List.getElem_map List.getElem?_cons_zero List.getElem?_cons_succ List.getElem?_nil Nat.zero_add Nat.add_zero Nat.sub_zero Int.toNat_natCast Int.toNat_zero Int.natCast_nonneg List.getElem_cons_zero List.getElem_cons_succ
  AV.c.injEq AV.agg.injEq AV.tup.injEq C.d.injEq C.loc.injEq C.own.injEq C.sub.injEq C.rowp.injEq C.ptr.injEq C.bor.injEq C.clo.injEq D.int.injEq D.bool.injEq D.str.injEq D.raw.injEq D.lst.injEq D.mp.injEq LB.mp.injEq LB.it.injEq LB.sit.injEq KD.int.injEq KD.str.injEq RV.d.injEq RV.agg.injEq RV.fresh.injEq List.cons.injEq Option.some.injEq Prod.mk.injEq LB.box.injEq LB.row.injEq LB.opn.injEq
  Ax.u8eq
theorem take_drop_rest {α : Type} (l : List α) (n : Nat) : List.take (l.length - n) (l.drop n) = l.drop n := List.take_of_length_le (by rw [List.length_drop]; exact Nat.le_refl _)
attribute [push_cast] take_drop_rest
open Classical in
noncomputable def vif (c : Prop) (X Y : Prop) : Prop := if c then X else Y
@[push_cast] theorem vc_skip (st : St) : ap (vc P pm E .skip st) (Q) ⟨⟩ = Q .normal st := (rfl)
@[push_cast] theorem vc_label (st : St) (i : Nat) : ap (vc P pm E (.label i) st) (Q) ⟨⟩ = Q .normal st := (rfl)
@[push_cast] theorem vc_ret (st : St) : ap (vc P pm E .ret st) (Q) ⟨⟩ = Q .ret st := (rfl)
@[push_cast] theorem vc_exit (st : St) (i : Nat) : ap (vc P pm E (.exit i) st) (Q) ⟨⟩ = Q (.exit i) st := (rfl)
@[push_cast] theorem vc_seq (st : St) (x y : Code) : ap (vc P pm E (.seq x y) st) (Q) ⟨⟩ = ap (vc P pm E x st) (EthenT (fun st' => ap (vc P pm E y st') Q ⟨⟩) Q ⟨⟩ ⟨⟩) ⟨⟩ := (rfl)
@[push_cast] theorem vc_cond (st : St) (c : Operand) (x y : Code) : ap (vc P pm E (.cond c x y) st) (Q) ⟨⟩ = ap2 (vcnd (ev pm.Γ st.env c)) ((ap (vc P pm E x st) (Q) ⟨⟩)) ((ap (vc P pm E y st) (Q) ⟨⟩)) ⟨⟩ ⟨⟩ := (rfl)
@[push_cast] theorem vc_block (st : St) (i : Nat) (c : Code) : ap (vc P pm E (.block i c) st) (Q) ⟨⟩ = ap (vc P pm E c st) (EinBlockT i Q ⟨⟩) ⟨⟩ := (rfl)
@[push_cast] theorem vc_region (st : St) (i : Nat) (ops : List Oper) : ap (vc P pm E (.region i ops.toArray false) st) (Q) ⟨⟩ = ap (vcl P pm E ops ops st) (Q .normal) ⟨⟩ := (rfl)
def vdb (b : Bool) (X Y : Prop) : Prop := bif b then X else Y
@[push_cast] theorem vc_draw (st : St) (i : Nat) (ops : List Oper) : ap (vc P pm E (.region i ops.toArray true) st) (Q) ⟨⟩ = ap2 (vdb (mem? E (some (1000000 + i)))) ((RegV P pm i ops st Q ⟨⟩)) ((ap (vcd P pm E ops st.heap ops st.env) (Q .normal) ⟨⟩)) ⟨⟩ ⟨⟩ := (rfl)
@[push_cast] theorem vc_loop (st : St) (b : Code) : ap (vc P pm E (.loop b) st) (Q) ⟨⟩ = LoopV P pm E b st Q ⟨⟩ := (rfl)
@[push_cast] theorem Ethen_n (st : St) (a : Tok K) (b : Tok Q) : EthenT K Q a b .normal st = K st := (rfl)
@[push_cast] theorem Ethen_r (st : St) (a : Tok K) (b : Tok Q) : EthenT K Q a b .ret st = Q .ret st := (rfl)
@[push_cast] theorem Ethen_e (st : St) (i : Nat) (a : Tok K) (b : Tok Q) : EthenT K Q a b (.exit i) st = Q (.exit i) st := (rfl)
@[push_cast] theorem vc_scope (st : St) (c : Code) : ap (vc P pm E (.scope c) st) (Q) ⟨⟩ = ap (vc P pm E c st) (ScopeT Q ⟨⟩) ⟨⟩ := (rfl)
@[push_cast] theorem ScopeT_n (st : St) (a : Tok Q) : ScopeT Q a .normal st = Q .normal st := (rfl)
@[push_cast] theorem ScopeT_r (st : St) (a : Tok Q) : ScopeT Q a .ret st = Q .ret st := (rfl)
@[push_cast] theorem ScopeT_e (st : St) (i : Nat) (a : Tok Q) : ScopeT Q a (.exit i) st = Q (.exit i) st := (rfl)
@[push_cast] theorem EinBlock_n (st : St) (i : Nat) (a : Tok Q) : EinBlockT i Q a .normal st = Q .normal st := (rfl)
@[push_cast] theorem EinBlock_r (st : St) (i : Nat) (a : Tok Q) : EinBlockT i Q a .ret st = Q .ret st := (rfl)
@[push_cast] theorem EinBlock_e (st : St) (i j : Nat) (a : Tok Q) : EinBlockT i Q a (.exit j) st = ap2 (vif (j = i)) (Q .normal st) (Q (.exit j) st) ⟨⟩ ⟨⟩ := by (simp only [EinBlockT, EinBlock, ap2, vif]; congr)
@[push_cast] theorem vif_t (X Y : Prop) : ap2 (vif True) X Y ⟨⟩ ⟨⟩ = X := by (simp [ap2, vif])
@[push_cast] theorem vif_f (X Y : Prop) : ap2 (vif False) X Y ⟨⟩ ⟨⟩ = Y := by (simp [ap2, vif])
@[push_cast] theorem FinV_r (res : List ResultVar) (fr : Option Nat) (rs : List RV) (st : St) : FinV P res fr rs .ret st = finV P res fr rs st := (rfl)
@[push_cast] theorem FinV_n (res : List ResultVar) (fr : Option Nat) (rs : List RV) (st : St) : FinV P res fr rs .normal st = finV P res fr rs st := (rfl)
attribute [push_cast] finV resAVs resAV rvsOf rvOf cellD cellDs Option.map_some Option.map_none Option.bind_some Option.bind_none
def vcn2 (b : Bool) (X Y : Prop) : Prop := (b = true → X) ∧ (b = false → Y)
@[push_cast] theorem vcnd_b (X Y : Prop) (b : Bool) : ap2 (vcnd (.c (.d (.bool b)))) (X) (Y) ⟨⟩ ⟨⟩ = ap2 (vcn2 b) (X) (Y) ⟨⟩ ⟨⟩ := (rfl)
@[push_cast 500] theorem vcn2_t (X Y : Prop) : ap2 (vcn2 true) (X) (Y) ⟨⟩ ⟨⟩ = X := by simp [vcn2, ap2]
@[push_cast 500] theorem vcn2_f (X Y : Prop) : ap2 (vcn2 false) (X) (Y) ⟨⟩ ⟨⟩ = Y := by simp [vcn2, ap2]
@[push_cast] theorem vcn2_b (X Y : Prop) (b : Bool) : ap2 (vcn2 b) (X) (Y) ⟨⟩ ⟨⟩ = ((b = true → X) ∧ (b = false → Y)) := (rfl)
@[push_cast] theorem vcl_nil (st : St) : ap (vcl P pm E l [] st) (K) ⟨⟩ = K st := (rfl)
@[push_cast] theorem vcl_cons (st : St) (o : Oper) (r : List Oper) : ap (vcl P pm E l (o :: r) st) (K) ⟨⟩ = ap2 (vgd l o.guard st) ((fun st => ap (vrun P pm E o st) (fun st' => ap (vcl P pm E l r st') (K) ⟨⟩) ⟨⟩)) ((fun st => ap (vcl P pm E l r (st.put o.dst U)) (K) ⟨⟩)) ⟨⟩ ⟨⟩ := (rfl)
@[push_cast] theorem vcd_nil (env : Env) : ap (vcd P pm E l h [] env) (K) ⟨⟩ = K ⟨env, h⟩ := (rfl)
@[push_cast] theorem vcd_cons (env : Env) (o : Oper) (r : List Oper) : ap (vcd P pm E l h (o :: r) env) (K) ⟨⟩ = ap2 (vdb (pureO E o)) ((ap2 (vgd l o.guard ⟨env, h⟩) ((fun st => ap (vq P h pm o (ev pm.Γ st.env)) (fun a => ap (vcd P pm E l h r (putE o.dst a st.env)) (K) ⟨⟩) ⟨⟩)) ((fun st => ap (vcd P pm E l h r (putE o.dst U st.env)) (K) ⟨⟩)) ⟨⟩ ⟨⟩)) ((ap (vcl P pm E l (o :: r) ⟨env, h⟩) (K) ⟨⟩)) ⟨⟩ ⟨⟩ := by (simp only [vcd, vdb, ap, ap2])
@[push_cast] theorem vdb_t (X Y : Prop) : ap2 (vdb true) (X) (Y) ⟨⟩ ⟨⟩ = X := (rfl)
@[push_cast] theorem vdb_f (X Y : Prop) : ap2 (vdb false) (X) (Y) ⟨⟩ ⟨⟩ = Y := (rfl)
@[push_cast] theorem pureO_alloc (t : TypeId) : pureO E ⟨dst, .alloc t, ty, p, af, gd⟩ = false := (rfl)
@[push_cast] theorem pureO_box (t : TypeId) (x : Operand) : pureO E ⟨dst, .box t x, ty, p, af, gd⟩ = false := (rfl)
@[push_cast] theorem pureO_store (t : TypeId) (x y : Operand) : pureO E ⟨dst, .store t x y, ty, p, af, gd⟩ = false := (rfl)
@[push_cast] theorem pureO_make (t : TypeId) (x y : Operand) : pureO E ⟨dst, .makeSlice t x y, ty, p, af, gd⟩ = false := (rfl)
@[push_cast] theorem pureO_mkmap (t : TypeId) (r : Option Operand) : pureO E ⟨dst, .makeMap t r, ty, p, af, gd⟩ = false := (rfl)
@[push_cast] theorem pureO_ment (t : TypeId) (x y : Operand) : pureO E ⟨dst, .mapEntry t x y, ty, p, af, gd⟩ = false := (rfl)
@[push_cast] theorem pureO_est (t : TypeId) (x y z : Operand) : pureO E ⟨dst, .entryStore t x y z, ty, p, af, gd⟩ = false := (rfl)
@[push_cast] theorem pureO_mup (t : TypeId) (x y z : Operand) : pureO E ⟨dst, .mapUpdate t x y z, ty, p, af, gd⟩ = false := (rfl)
@[push_cast] theorem pureO_range (t : TypeId) (x : Operand) : pureO E ⟨dst, .range t x, ty, p, af, gd⟩ = false := (rfl)
@[push_cast] theorem pureO_next (x : Operand) (b : Bool) : pureO E ⟨dst, .next x b, ty, p, af, gd⟩ = false := (rfl)
@[push_cast] theorem pureO_lit (t : TypeId) (n : Nat) (ps : Array (Nat × Operand)) : pureO E ⟨dst, .buildSlice t n ps, ty, p, af, gd⟩ = !isOwn E n dst := (rfl)
@[push_cast] theorem pureO_bi_len (as : Array Operand) (ts : Array TypeId) : pureO E ⟨dst, .call { callee := .builtin .len, args := as, argTypes := ts }, ty, p, af, gd⟩ = true := (rfl)
@[push_cast] theorem pureO_bi_min (as : Array Operand) (ts : Array TypeId) : pureO E ⟨dst, .call { callee := .builtin .min, args := as, argTypes := ts }, ty, p, af, gd⟩ = true := (rfl)
@[push_cast] theorem pureO_bi_max (as : Array Operand) (ts : Array TypeId) : pureO E ⟨dst, .call { callee := .builtin .max, args := as, argTypes := ts }, ty, p, af, gd⟩ = true := (rfl)
@[push_cast] theorem pureO_bi_append (as : Array Operand) (ts : Array TypeId) : pureO E ⟨dst, .call { callee := .builtin .append, args := as, argTypes := ts }, ty, p, af, gd⟩ = false := (rfl)
@[push_cast] theorem pureO_bi_copy (as : Array Operand) (ts : Array TypeId) : pureO E ⟨dst, .call { callee := .builtin .copy, args := as, argTypes := ts }, ty, p, af, gd⟩ = false := (rfl)
@[push_cast] theorem pureO_bi_delete (as : Array Operand) (ts : Array TypeId) : pureO E ⟨dst, .call { callee := .builtin .delete, args := as, argTypes := ts }, ty, p, af, gd⟩ = false := (rfl)
@[push_cast] theorem pureO_bi_clear (as : Array Operand) (ts : Array TypeId) : pureO E ⟨dst, .call { callee := .builtin .clear, args := as, argTypes := ts }, ty, p, af, gd⟩ = false := (rfl)
@[push_cast] theorem pureO_bi_cap (as : Array Operand) (ts : Array TypeId) : pureO E ⟨dst, .call { callee := .builtin .cap, args := as, argTypes := ts }, ty, p, af, gd⟩ = false := (rfl)
@[push_cast] theorem pureO_call (x : Operand) (as : Array Operand) (ts : Array TypeId) : pureO E ⟨dst, .call { callee := .value x, args := as, argTypes := ts }, ty, p, af, gd⟩ = !mem? E dst := (rfl)
@[push_cast] theorem pureO_move (x : Operand) : pureO E ⟨dst, .move x, ty, p, af, gd⟩ = true := (rfl)
@[push_cast] theorem pureO_assign (x : Operand) : pureO E ⟨dst, .assign x, ty, p, af, gd⟩ = true := (rfl)
@[push_cast] theorem pureO_pick (c x y : Operand) : pureO E ⟨dst, .pick c x y, ty, p, af, gd⟩ = true := (rfl)
@[push_cast] theorem pureO_binOp (op : BinOp) (t t' : TypeId) (x y : Operand) : pureO E ⟨dst, .binOp op t x y t', ty, p, af, gd⟩ = true := (rfl)
@[push_cast] theorem pureO_unOp (op : UnOp) (t : TypeId) (x : Operand) : pureO E ⟨dst, .unOp op t x, ty, p, af, gd⟩ = true := (rfl)
@[push_cast] theorem pureO_convert (s d : TypeId) (x : Operand) : pureO E ⟨dst, .convert s d x, ty, p, af, gd⟩ = true := (rfl)
@[push_cast] theorem pureO_load (t : TypeId) (x : Operand) : pureO E ⟨dst, .load t x, ty, p, af, gd⟩ = true := (rfl)
@[push_cast] theorem pureO_fieldAddr (t : TypeId) (x : Operand) (i : Nat) : pureO E ⟨dst, .fieldAddr t x i, ty, p, af, gd⟩ = true := (rfl)
@[push_cast] theorem pureO_indexAddr (t : TypeId) (x y : Operand) : pureO E ⟨dst, .indexAddr t x y, ty, p, af, gd⟩ = true := (rfl)
@[push_cast] theorem pureO_index (t : TypeId) (x y : Operand) : pureO E ⟨dst, .index t x y, ty, p, af, gd⟩ = true := (rfl)
@[push_cast] theorem pureO_slice (t : TypeId) (x : Operand) (lo hi : Option Operand) : pureO E ⟨dst, .slice t x lo hi none, ty, p, af, gd⟩ = true := (rfl)
@[push_cast] theorem pureO_extract (x : Operand) (i : Nat) : pureO E ⟨dst, .extract x i, ty, p, af, gd⟩ = true := (rfl)
@[push_cast] theorem pureO_build (t : TypeId) (ps : Array (Nat × Operand)) : pureO E ⟨dst, .build t ps, ty, p, af, gd⟩ = true := (rfl)
@[push_cast] theorem pureO_makeFunc (f : FuncId) (fi caps : Array Operand) : pureO E ⟨dst, .makeFunc (.func f) fi caps, ty, p, af, gd⟩ = true := (rfl)
@[push_cast] theorem pureO_nilCheck (x : Operand) : pureO E ⟨dst, .nilCheck x, ty, p, af, gd⟩ = true := (rfl)
@[push_cast] theorem pureO_lookup (t : TypeId) (x y : Operand) (ok : Bool) : pureO E ⟨dst, .lookup t x y ok, ty, p, af, gd⟩ = true := (rfl)
@[push_cast] theorem pureO_entry (x : Operand) : pureO E ⟨dst, .entry x, ty, p, af, gd⟩ = true := (rfl)
attribute [push_cast] isOwn mem? List.contains_cons List.contains_nil
theorem bne_tf : (true != false) = true := rfl
theorem bne_tt : (true != true) = false := rfl
theorem bne_ff : (false != false) = false := rfl
theorem bne_ft : (false != true) = true := rfl
attribute [push_cast] bne_tf bne_tt bne_ff bne_ft
theorem boq_zero : ((0 : Nat) == 0) = true := rfl
attribute [push_cast] boq_zero
@[push_cast] theorem vgd_n (st : St) (yes no : St → Prop) : ap2 (vgd l none st) (yes) (no) ⟨⟩ ⟨⟩ = yes st := (rfl)
@[push_cast] theorem vgd_s (st : St) (yes no : St → Prop) (j : Nat) (want : Bool) : ap2 (vgd l (some (j, want)) st) (yes) (no) ⟨⟩ ⟨⟩ = ap2 (vgj (gslot l j) want st) (yes) (no) ⟨⟩ ⟨⟩ := (rfl)
@[push_cast] theorem vgj_s (d : Nat) (want : Bool) (st : St) (yes no : St → Prop) : ap2 (vgj (some d) want st) (yes) (no) ⟨⟩ ⟨⟩ = ap2 (vgs d (lk d st.env) want st) (yes) (no) ⟨⟩ ⟨⟩ := (rfl)
@[push_cast] theorem gslot_z (o : Oper) (r : List Oper) : gslot (o :: r) 0 = o.dst := (rfl)
@[push_cast] theorem gslot_su (o : Oper) (r : List Oper) (n : Nat) : gslot (o :: r) (n + 1) = gslot r n := (rfl)
@[push_cast] theorem vgs_b (d : Nat) (b want : Bool) (st : St) (yes no : St → Prop) : ap2 (vgs d (.c (.d (.bool b))) want st) (yes) (no) ⟨⟩ ⟨⟩ = ap2 (vgb b want d st) (yes) (no) ⟨⟩ ⟨⟩ := (rfl)
@[push_cast] theorem vgs_u (d : Nat) (want : Bool) (st : St) (yes no : St → Prop) : ap2 (vgs d (.tup []) want st) (yes) (no) ⟨⟩ ⟨⟩ = no st := (rfl)
@[push_cast 500] theorem vgb_true_true (d : Nat) (st : St) (yes no : St → Prop) : ap2 (vgb true true d st) (yes) (no) ⟨⟩ ⟨⟩ = yes ⟨pute d (.c (.d (.bool true))) st.env, st.heap⟩ := by simp [vgb, ap2]
@[push_cast 500] theorem vgb_true_false (d : Nat) (st : St) (yes no : St → Prop) : ap2 (vgb true false d st) (yes) (no) ⟨⟩ ⟨⟩ = no ⟨pute d (.c (.d (.bool true))) st.env, st.heap⟩ := by simp [vgb, ap2]
@[push_cast 500] theorem vgb_false_true (d : Nat) (st : St) (yes no : St → Prop) : ap2 (vgb false true d st) (yes) (no) ⟨⟩ ⟨⟩ = no ⟨pute d (.c (.d (.bool false))) st.env, st.heap⟩ := by simp [vgb, ap2]
@[push_cast 500] theorem vgb_false_false (d : Nat) (st : St) (yes no : St → Prop) : ap2 (vgb false false d st) (yes) (no) ⟨⟩ ⟨⟩ = yes ⟨pute d (.c (.d (.bool false))) st.env, st.heap⟩ := by simp [vgb, ap2]
@[push_cast] theorem vgb_ht (b : Bool) (d : Nat) (st : St) (yes no : St → Prop) : ap2 (vgb b true d st) (yes) (no) ⟨⟩ ⟨⟩ = ((b = true → yes ⟨pute d (.c (.d (.bool true))) st.env, st.heap⟩) ∧ (b = false → no ⟨pute d (.c (.d (.bool false))) st.env, st.heap⟩)) := (rfl)
@[push_cast] theorem vgb_hf (b : Bool) (d : Nat) (st : St) (yes no : St → Prop) : ap2 (vgb b false d st) (yes) (no) ⟨⟩ ⟨⟩ = ((b = false → yes ⟨pute d (.c (.d (.bool false))) st.env, st.heap⟩) ∧ (b = true → no ⟨pute d (.c (.d (.bool true))) st.env, st.heap⟩)) := (rfl)
@[push_cast] theorem vq_move (x : Operand) : ap (vq P h pm ⟨dst, .move x, ty, p, af, gd⟩ ρ) (k) ⟨⟩ = k (ρ x) := (rfl)
@[push_cast] theorem vrun_move (x : Operand) (st : St) : ap (vrun P pm E ⟨dst, .move x, ty, p, af, gd⟩ st) (ks) ⟨⟩ = ks (st.put dst (ev pm.Γ st.env x)) := (rfl)
@[push_cast] theorem vq_assign (x : Operand) : ap (vq P h pm ⟨dst, .assign x, ty, p, af, gd⟩ ρ) (k) ⟨⟩ = k (ρ x) := (rfl)
@[push_cast] theorem vrun_assign (x : Operand) (st : St) : ap (vrun P pm E ⟨dst, .assign x, ty, p, af, gd⟩ st) (ks) ⟨⟩ = ks (st.put dst (ev pm.Γ st.env x)) := (rfl)
@[push_cast] theorem vq_pick (c x y : Operand) : ap (vq P h pm ⟨dst, .pick c x y, ty, p, af, gd⟩ ρ) (k) ⟨⟩ = ap (vpick (ρ c) (ρ x) (ρ y)) (k) ⟨⟩ := (rfl)
@[push_cast] theorem vrun_pick (c x y : Operand) (st : St) : ap (vrun P pm E ⟨dst, .pick c x y, ty, p, af, gd⟩ st) (ks) ⟨⟩ = ap (vpick (ev pm.Γ st.env c) (ev pm.Γ st.env x) (ev pm.Γ st.env y)) (fun r => ks (st.put dst r)) ⟨⟩ := (rfl)
@[push_cast] theorem vq_binOp (op : BinOp) (t t' : TypeId) (x y : Operand) : ap (vq P h pm ⟨dst, .binOp op t x y t', ty, p, af, gd⟩ ρ) (k) ⟨⟩ = ap (vbin P t op (ρ x) (ρ y) (isNil y)) (k) ⟨⟩ := (rfl)
@[push_cast] theorem vrun_binOp (op : BinOp) (t t' : TypeId) (x y : Operand) (st : St) : ap (vrun P pm E ⟨dst, .binOp op t x y t', ty, p, af, gd⟩ st) (ks) ⟨⟩ = ap (vbinR P t op (ev pm.Γ st.env x) (ev pm.Γ st.env y) (isNil y) dst st) (ks) ⟨⟩ := (rfl)
@[push_cast] theorem vq_unOp (op : UnOp) (t : TypeId) (x : Operand) : ap (vq P h pm ⟨dst, .unOp op t x, ty, p, af, gd⟩ ρ) (k) ⟨⟩ = ap (vun op (ρ x)) (k) ⟨⟩ := (rfl)
@[push_cast] theorem vrun_unOp (op : UnOp) (t : TypeId) (x : Operand) (st : St) : ap (vrun P pm E ⟨dst, .unOp op t x, ty, p, af, gd⟩ st) (ks) ⟨⟩ = ap (vun op (ev pm.Γ st.env x)) (fun r => ks (st.put dst r)) ⟨⟩ := (rfl)
@[push_cast] theorem vq_convert (s d : TypeId) (x : Operand) : ap (vq P h pm ⟨dst, .convert s d x, ty, p, af, gd⟩ ρ) (k) ⟨⟩ = ap (vconv P s d (ρ x)) (k) ⟨⟩ := (rfl)
@[push_cast] theorem vrun_convert (s d : TypeId) (x : Operand) (st : St) : ap (vrun P pm E ⟨dst, .convert s d x, ty, p, af, gd⟩ st) (ks) ⟨⟩ = ap (vconv P s d (ev pm.Γ st.env x)) (fun r => ks (st.put dst r)) ⟨⟩ := (rfl)
@[push_cast] theorem vq_load (t : TypeId) (x : Operand) : ap (vq P h pm ⟨dst, .load t x, ty, p, af, gd⟩ ρ) (k) ⟨⟩ = ap (vload P h t (ρ x)) (k) ⟨⟩ := (rfl)
@[push_cast] theorem vrun_load (t : TypeId) (x : Operand) (st : St) : ap (vrun P pm E ⟨dst, .load t x, ty, p, af, gd⟩ st) (ks) ⟨⟩ = ap (vload P st.heap t (ev pm.Γ st.env x)) (fun r => ks (st.put dst r)) ⟨⟩ := (rfl)
@[push_cast] theorem vq_fieldAddr (t : TypeId) (x : Operand) (i : Nat) : ap (vq P h pm ⟨dst, .fieldAddr t x i, ty, p, af, gd⟩ ρ) (k) ⟨⟩ = ap (vfield P h t i (ρ x)) (k) ⟨⟩ := (rfl)
@[push_cast] theorem vrun_fieldAddr (t : TypeId) (x : Operand) (i : Nat) (st : St) : ap (vrun P pm E ⟨dst, .fieldAddr t x i, ty, p, af, gd⟩ st) (ks) ⟨⟩ = ap (vfield P st.heap t i (ev pm.Γ st.env x)) (fun r => ks (st.put dst r)) ⟨⟩ := (rfl)
@[push_cast] theorem vq_indexAddr (t : TypeId) (x y : Operand) : ap (vq P h pm ⟨dst, .indexAddr t x y, ty, p, af, gd⟩ ρ) (k) ⟨⟩ = ap (vindex P h t (ρ x) (ρ y)) (k) ⟨⟩ := (rfl)
@[push_cast] theorem vrun_indexAddr (t : TypeId) (x y : Operand) (st : St) : ap (vrun P pm E ⟨dst, .indexAddr t x y, ty, p, af, gd⟩ st) (ks) ⟨⟩ = ap (vindex P st.heap t (ev pm.Γ st.env x) (ev pm.Γ st.env y)) (fun r => ks (st.put dst r)) ⟨⟩ := (rfl)
@[push_cast] theorem vq_index (t : TypeId) (x y : Operand) : ap (vq P h pm ⟨dst, .index t x y, ty, p, af, gd⟩ ρ) (k) ⟨⟩ = ap (vstr P t (ρ x) (ρ y)) (k) ⟨⟩ := (rfl)
@[push_cast] theorem vrun_index (t : TypeId) (x y : Operand) (st : St) : ap (vrun P pm E ⟨dst, .index t x y, ty, p, af, gd⟩ st) (ks) ⟨⟩ = ap (vstr P t (ev pm.Γ st.env x) (ev pm.Γ st.env y)) (fun r => ks (st.put dst r)) ⟨⟩ := (rfl)
@[push_cast] theorem vq_slice (t : TypeId) (x : Operand) (lo hi : Option Operand) : ap (vq P h pm ⟨dst, .slice t x lo hi none, ty, p, af, gd⟩ ρ) (k) ⟨⟩ = ap (vslice P h t (ρ x) (lo.map ρ) (hi.map ρ)) (k) ⟨⟩ := (rfl)
@[push_cast] theorem vrun_slice (t : TypeId) (x : Operand) (lo hi : Option Operand) (st : St) : ap (vrun P pm E ⟨dst, .slice t x lo hi none, ty, p, af, gd⟩ st) (ks) ⟨⟩ = ap (vslice P st.heap t (ev pm.Γ st.env x) (lo.map (ev pm.Γ st.env)) (hi.map (ev pm.Γ st.env))) (fun r => ks (st.put dst r)) ⟨⟩ := (rfl)
@[push_cast] theorem vq_extract (x : Operand) (i : Nat) : ap (vq P h pm ⟨dst, .extract x i, ty, p, af, gd⟩ ρ) (k) ⟨⟩ = ap (vext i (ρ x)) (k) ⟨⟩ := (rfl)
@[push_cast] theorem vrun_extract (x : Operand) (i : Nat) (st : St) : ap (vrun P pm E ⟨dst, .extract x i, ty, p, af, gd⟩ st) (ks) ⟨⟩ = ap (vext i (ev pm.Γ st.env x)) (fun r => ks (st.put dst r)) ⟨⟩ := (rfl)
@[push_cast] theorem vq_build (t : TypeId) (ps : List (Nat × Operand)) : ap (vq P h pm ⟨dst, .build t ps.toArray, ty, p, af, gd⟩ ρ) (k) ⟨⟩ = ap (vbuild P t (ps.map fun x => (x.1, ρ x.2))) (k) ⟨⟩ := (rfl)
@[push_cast] theorem vrun_build (t : TypeId) (ps : List (Nat × Operand)) (st : St) : ap (vrun P pm E ⟨dst, .build t ps.toArray, ty, p, af, gd⟩ st) (ks) ⟨⟩ = ap (vbuild P t (ps.map fun x => (x.1, ev pm.Γ st.env x.2))) (fun r => ks (st.put dst r)) ⟨⟩ := (rfl)
@[push_cast] theorem vq_makeFunc (f : FuncId) (caps : List Operand) : ap (vq P h pm ⟨dst, .makeFunc (.func f) #[] caps.toArray, ty, p, af, gd⟩ ρ) (k) ⟨⟩ = ap (vclo f (caps.map ρ)) (k) ⟨⟩ := by (simp only [vq, true_and, ap])
@[push_cast] theorem vrun_makeFunc (f : FuncId) (caps : List Operand) (st : St) : ap (vrun P pm E ⟨dst, .makeFunc (.func f) #[] caps.toArray, ty, p, af, gd⟩ st) (ks) ⟨⟩ = ap (vclo f (caps.map (ev pm.Γ st.env))) (fun r => ks (st.put dst r)) ⟨⟩ := by (simp only [vrun, vq, true_and, ap])
@[push_cast] theorem vq_nilCheck (x : Operand) : ap (vq P h pm ⟨dst, .nilCheck x, ty, p, af, gd⟩ ρ) (k) ⟨⟩ = ap (vnilc h (ρ x)) (k) ⟨⟩ := (rfl)
@[push_cast] theorem vrun_nilCheck (x : Operand) (st : St) : ap (vrun P pm E ⟨dst, .nilCheck x, ty, p, af, gd⟩ st) (ks) ⟨⟩ = ap (vnilc st.heap (ev pm.Γ st.env x)) (fun r => ks (st.put dst r)) ⟨⟩ := (rfl)
@[push_cast] theorem vq_lookup (t : TypeId) (x y : Operand) (ok : Bool) : ap (vq P h pm ⟨dst, .lookup t x y ok, ty, p, af, gd⟩ ρ) (k) ⟨⟩ = ap (vlook P h t (ρ x) (ρ y) ok) (k) ⟨⟩ := (rfl)
@[push_cast] theorem vrun_lookup (t : TypeId) (x y : Operand) (ok : Bool) (st : St) : ap (vrun P pm E ⟨dst, .lookup t x y ok, ty, p, af, gd⟩ st) (ks) ⟨⟩ = ap (vlook P st.heap t (ev pm.Γ st.env x) (ev pm.Γ st.env y) ok) (fun r => ks (st.put dst r)) ⟨⟩ := (rfl)
@[push_cast] theorem vq_entry (x : Operand) : ap (vq P h pm ⟨dst, .entry x, ty, p, af, gd⟩ ρ) (k) ⟨⟩ = ap (ventry h (ρ x)) (k) ⟨⟩ := (rfl)
@[push_cast] theorem vrun_entry (x : Operand) (st : St) : ap (vrun P pm E ⟨dst, .entry x, ty, p, af, gd⟩ st) (ks) ⟨⟩ = ap (ventry st.heap (ev pm.Γ st.env x)) (fun r => ks (st.put dst r)) ⟨⟩ := (rfl)
@[push_cast] theorem vq_lit (t : TypeId) (n : Nat) (ps : List (Nat × Operand)) : ap (vq P h pm ⟨dst, .buildSlice t n ps.toArray, ty, p, af, gd⟩ ρ) (k) ⟨⟩ = ap (vlit P t n (ps.map fun x => (x.1, ρ x.2))) (k) ⟨⟩ := (rfl)
@[push_cast] theorem vq_bi (b : Builtin) (as : List Operand) (ts : List TypeId) : ap (vq P h pm ⟨dst, .call { callee := .builtin b, args := as.toArray, argTypes := ts.toArray }, ty, p, af, gd⟩ ρ) (k) ⟨⟩ = ap (vbi P h b (as.map ρ) ts) (k) ⟨⟩ := (rfl)
@[push_cast] theorem vq_call (x : Operand) (as : List Operand) (ts : Array TypeId) : ap (vq P h pm ⟨dst, .call { callee := .value x, args := as.toArray, argTypes := ts }, ty, p, af, gd⟩ ρ) (k) ⟨⟩ = CallX P pm h ⟨dst, .call { callee := .value x, args := as.toArray, argTypes := ts }, ty, p, af, gd⟩ ρ (ρ x) (as.map ρ) k ⟨⟩ := (rfl)
@[push_cast] theorem vrun_mkmap (t : TypeId) (st : St) : ap (vrun P pm E ⟨dst, .makeMap t none, ty, p, af, gd⟩ st) (ks) ⟨⟩ = ap (vmkmap P t dst st) (ks) ⟨⟩ := (rfl)
@[push_cast] theorem vrun_ment (t : TypeId) (x y : Operand) (st : St) : ap (vrun P pm E ⟨dst, .mapEntry t x y, ty, p, af, gd⟩ st) (ks) ⟨⟩ = ap (vment P t (ev pm.Γ st.env x) (ev pm.Γ st.env y) dst st) (ks) ⟨⟩ := (rfl)
@[push_cast] theorem vrun_est (t : TypeId) (x y z : Operand) (st : St) : ap (vrun P pm E ⟨none, .entryStore t x y z, ty, p, af, gd⟩ st) (ks) ⟨⟩ = ap (vest (ev pm.Γ st.env x) (ev pm.Γ st.env y) (ev pm.Γ st.env z) st) (ks) ⟨⟩ := by (simp only [vrun, true_and, ap])
@[push_cast] theorem vrun_mup (t : TypeId) (x y z : Operand) (st : St) : ap (vrun P pm E ⟨none, .mapUpdate t x y z, ty, p, af, gd⟩ st) (ks) ⟨⟩ = ap (vmup P t (ev pm.Γ st.env x) (ev pm.Γ st.env y) (ev pm.Γ st.env z) st) (ks) ⟨⟩ := by (simp only [vrun, true_and, ap])
@[push_cast] theorem vrun_range (t : TypeId) (x : Operand) (st : St) : ap (vrun P pm E ⟨dst, .range t x, ty, p, af, gd⟩ st) (ks) ⟨⟩ = ap (vrange P t (ev pm.Γ st.env x) dst st) (ks) ⟨⟩ := (rfl)
@[push_cast] theorem vrun_nextS (x : Operand) (st : St) : ap (vrun P pm E ⟨dst, .next x true, ty, p, af, gd⟩ st) (ks) ⟨⟩ = ap (vnextS (ev pm.Γ st.env x) dst st) (ks) ⟨⟩ := (rfl)
@[push_cast] theorem vrun_next (x : Operand) (st : St) : ap (vrun P pm E ⟨dst, .next x false, ty, p, af, gd⟩ st) (ks) ⟨⟩ = ap (vnext (ev pm.Γ st.env x) dst st) (ks) ⟨⟩ := (rfl)
@[push_cast] theorem vrun_alloc (t : TypeId) (st : St) : ap (vrun P pm E ⟨dst, .alloc t, ty, p, af, gd⟩ st) (ks) ⟨⟩ = ap (valloc P t dst st) (ks) ⟨⟩ := (rfl)
@[push_cast] theorem vrun_box (t : TypeId) (x : Operand) (st : St) : ap (vrun P pm E ⟨dst, .box t x, ty, p, af, gd⟩ st) (ks) ⟨⟩ = ap (vbox t (ev pm.Γ st.env x) dst st) (ks) ⟨⟩ := (rfl)
@[push_cast] theorem vrun_store (t : TypeId) (x y : Operand) (st : St) : ap (vrun P pm E ⟨none, .store t x y, ty, p, af, gd⟩ st) (ks) ⟨⟩ = ap (vstore P t (ev pm.Γ st.env x) (ev pm.Γ st.env y) st) (ks) ⟨⟩ := by (simp only [vrun, true_and, ap])
@[push_cast] theorem vrun_make (t : TypeId) (x y : Operand) (st : St) : ap (vrun P pm E ⟨dst, .makeSlice t x y, ty, p, af, gd⟩ st) (ks) ⟨⟩ = ap (vmake P t (ev pm.Γ st.env x) (ev pm.Γ st.env y) dst st) (ks) ⟨⟩ := (rfl)
@[push_cast] theorem vrun_lit (t : TypeId) (n : Nat) (ps : List (Nat × Operand)) (st : St) : ap (vrun P pm E ⟨dst, .buildSlice t n ps.toArray, ty, p, af, gd⟩ st) (ks) ⟨⟩ = ap (vlitX P (isOwn E n dst) t n (ps.map fun x => (x.1, ev pm.Γ st.env x.2)) dst st) (ks) ⟨⟩ := (rfl)
@[push_cast] theorem vrun_bi_len (as : List Operand) (ts : List TypeId) (st : St) : ap (vrun P pm E ⟨dst, .call { callee := .builtin .len, args := as.toArray, argTypes := ts.toArray }, ty, p, af, gd⟩ st) (ks) ⟨⟩ = ap (vbi P st.heap .len (as.map (ev pm.Γ st.env)) ts) (fun r => ks (st.put dst r)) ⟨⟩ := (rfl)
@[push_cast] theorem vrun_bi_min (as : List Operand) (ts : List TypeId) (st : St) : ap (vrun P pm E ⟨dst, .call { callee := .builtin .min, args := as.toArray, argTypes := ts.toArray }, ty, p, af, gd⟩ st) (ks) ⟨⟩ = ap (vbi P st.heap .min (as.map (ev pm.Γ st.env)) ts) (fun r => ks (st.put dst r)) ⟨⟩ := (rfl)
@[push_cast] theorem vrun_bi_max (as : List Operand) (ts : List TypeId) (st : St) : ap (vrun P pm E ⟨dst, .call { callee := .builtin .max, args := as.toArray, argTypes := ts.toArray }, ty, p, af, gd⟩ st) (ks) ⟨⟩ = ap (vbi P st.heap .max (as.map (ev pm.Γ st.env)) ts) (fun r => ks (st.put dst r)) ⟨⟩ := (rfl)
@[push_cast] theorem vrun_append (x y : Operand) (t t' : TypeId) (st : St) : ap (vrun P pm E ⟨dst, .call { callee := .builtin .append, args := #[x, y], argTypes := #[t, t'] }, ty, p, af, gd⟩ st) (ks) ⟨⟩ = ap (vapp P t t' x y (ev pm.Γ st.env x) (ev pm.Γ st.env y) dst st) (ks) ⟨⟩ := (rfl)
@[push_cast] theorem vrun_call (x : Operand) (as : List Operand) (ts : Array TypeId) (st : St) : ap (vrun P pm E ⟨dst, .call { callee := .value x, args := as.toArray, argTypes := ts }, ty, p, af, gd⟩ st) (ks) ⟨⟩ = CallL P pm ⟨dst, .call { callee := .value x, args := as.toArray, argTypes := ts }, ty, p, af, gd⟩ st (ev pm.Γ st.env x) (as.map (ev pm.Γ st.env)) ks ⟨⟩ := (rfl)
def vnilR2 (q : Option (TypeId × Nat)) (e : Option (Nat × List (List D))) (op : BinOp) (α : AV) (dst : Option Nat) (st : St) (k : St → Prop) : Prop :=
  match q, e with
  | some _, some (_, els) => (op = .eql ∨ op = .neq) ∧ (match α with
    | .c (.d (.raw (.slice none 0 0))) => k (st.put dst (oB (nilb op true)))
    | _ => (els ≠ [] → k (st.put dst (oB (nilb op false)))) ∧ (els = [] → ∀ b, k (st.put dst (oB b))))
  | _, _ => False
@[push_cast] theorem vbin_i (t : TypeId) (op : BinOp) (kd : IntKind) (m n : Int) : ap (vbin P t op (.c (.d (.int kd m))) (.c (.d (.int kd n))) false) (k) ⟨⟩ = ap (vbinI op kd m n) (k) ⟨⟩ := by (simp only [vbin, true_and, ap])
@[push_cast] theorem vbin_s (t : TypeId) (op : BinOp) (m n : List UInt8) : ap (vbin P t op (.c (.d (.str m))) (.c (.d (.str n))) false) (k) ⟨⟩ = ap (vbinS op m n) (k) ⟨⟩ := (rfl)
@[push_cast] theorem vbin_b (t : TypeId) (op : BinOp) (m n : Bool) : ap (vbin P t op (.c (.d (.bool m))) (.c (.d (.bool n))) false) (k) ⟨⟩ = (isB P t ∧ ap (vbinB op m n) (k) ⟨⟩) := (rfl)
@[push_cast] theorem vbin_a (t : TypeId) (op : BinOp) (cs ds : List C) : ap (vbin P t op (.agg cs) (.agg ds) false) (k) ⟨⟩ = ap (vbinA P t op cs ds) (k) ⟨⟩ := (rfl)
@[push_cast] theorem vbinR_f (t : TypeId) (op : BinOp) (α β : AV) (dst : Option Nat) (st : St) : ap (vbinR P t op α β false dst st) (ks) ⟨⟩ = ap (vbin P t op α β false) (fun r => ks (st.put dst r)) ⟨⟩ := (rfl)
@[push_cast] theorem vbinR_t (t : TypeId) (op : BinOp) (α β : AV) (dst : Option Nat) (st : St) : ap (vbinR P t op α β true dst st) (ks) ⟨⟩ = ap (vnilR2 (slT P t) (elsOfN 0 st.heap α) op α dst st) (ks) ⟨⟩ := by (simp only [ap, vbinR, vnilR, vnilR2]; rfl)
@[push_cast] theorem vnilR2_r (q : TypeId × Nat) (e : Nat × List (List D)) (op : BinOp) (dst : Option Nat) (st : St) : ap (vnilR2 (some q) (some e) op (.c (.d (.raw (.slice none 0 0)))) dst st) (ks) ⟨⟩ = ((op = .eql ∨ op = .neq) ∧ ks (st.put dst (.c (.d (.bool (nilb op true)))))) := (rfl)
@[push_cast] theorem vnilR2_l (q : TypeId × Nat) (sz' : Nat) (es : List (List D)) (op : BinOp) (dst : Option Nat) (st : St) (s : Nat) (els : List (List D)) : ap (vnilR2 (some q) (some (sz', es)) op (.c (.d (.lst s els))) dst st) (ks) ⟨⟩ = ((op = .eql ∨ op = .neq) ∧ ((es ≠ [] → ks (st.put dst (.c (.d (.bool (nilb op false)))))) ∧ (es = [] → ∀ b, ks (st.put dst (.c (.d (.bool b))))))) := (rfl)
@[push_cast] theorem vnilR2_b (q : TypeId × Nat) (sz' : Nat) (es : List (List D)) (op : BinOp) (dst : Option Nat) (st : St) (s : Nat) (els : List (List D)) : ap (vnilR2 (some q) (some (sz', es)) op (.c (.bor s els)) dst st) (ks) ⟨⟩ = ((op = .eql ∨ op = .neq) ∧ ((es ≠ [] → ks (st.put dst (.c (.d (.bool (nilb op false)))))) ∧ (es = [] → ∀ b, ks (st.put dst (.c (.d (.bool b))))))) := (rfl)
@[push_cast] theorem vnilR2_o (q : TypeId × Nat) (sz' : Nat) (es : List (List D)) (op : BinOp) (dst : Option Nat) (st : St) (j ver : Nat) : ap (vnilR2 (some q) (some (sz', es)) op (.c (.own j ver)) dst st) (ks) ⟨⟩ = ((op = .eql ∨ op = .neq) ∧ ((es ≠ [] → ks (st.put dst (.c (.d (.bool (nilb op false)))))) ∧ (es = [] → ∀ b, ks (st.put dst (.c (.d (.bool b))))))) := (rfl)
@[push_cast] theorem vnilR2_u (q : TypeId × Nat) (sz' : Nat) (es : List (List D)) (op : BinOp) (dst : Option Nat) (st : St) (j ver s lo n : Nat) : ap (vnilR2 (some q) (some (sz', es)) op (.c (.sub j ver s lo n)) dst st) (ks) ⟨⟩ = ((op = .eql ∨ op = .neq) ∧ ((es ≠ [] → ks (st.put dst (.c (.d (.bool (nilb op false)))))) ∧ (es = [] → ∀ b, ks (st.put dst (.c (.d (.bool b))))))) := (rfl)
@[push_cast] theorem vbin_n (t : TypeId) (op : BinOp) (α β : AV) : ap (vbin P t op α β true) (k) ⟨⟩ = ap (vnil P t op α) (k) ⟨⟩ := (rfl)
@[push_cast] theorem vbinI_eql (kd : IntKind) (m n : Int) : ap (vbinI .eql kd m n) (k) ⟨⟩ = k (.c (.d (.bool (decide (m = n))))) := (rfl)
@[push_cast] theorem vbinI_neq (kd : IntKind) (m n : Int) : ap (vbinI .neq kd m n) (k) ⟨⟩ = k (.c (.d (.bool (decide (m ≠ n))))) := (rfl)
@[push_cast] theorem vbinI_lss (kd : IntKind) (m n : Int) : ap (vbinI .lss kd m n) (k) ⟨⟩ = k (.c (.d (.bool (decide (m < n))))) := (rfl)
@[push_cast] theorem vbinI_leq (kd : IntKind) (m n : Int) : ap (vbinI .leq kd m n) (k) ⟨⟩ = k (.c (.d (.bool (decide (m ≤ n))))) := (rfl)
@[push_cast] theorem vbinI_gtr (kd : IntKind) (m n : Int) : ap (vbinI .gtr kd m n) (k) ⟨⟩ = k (.c (.d (.bool (decide (n < m))))) := (rfl)
@[push_cast] theorem vbinI_geq (kd : IntKind) (m n : Int) : ap (vbinI .geq kd m n) (k) ⟨⟩ = k (.c (.d (.bool (decide (n ≤ m))))) := (rfl)
@[push_cast] theorem vbinI_add (kd : IntKind) (m n : Int) : ap (vbinI .add kd m n) (k) ⟨⟩ = (inK kd (m + n) ∧ k (.c (.d (.int kd (m + n))))) := (rfl)
@[push_cast] theorem vbinI_sub (kd : IntKind) (m n : Int) : ap (vbinI .sub kd m n) (k) ⟨⟩ = (inK kd (m - n) ∧ k (.c (.d (.int kd (m - n))))) := (rfl)
@[push_cast] theorem vbinI_mul (kd : IntKind) (m n : Int) : ap (vbinI .mul kd m n) (k) ⟨⟩ = (inK kd (m * n) ∧ k (.c (.d (.int kd (m * n))))) := (rfl)
@[push_cast] theorem vbinI_quo (m n : Int) : ap (vbinI .quo .i64 m n) (k) ⟨⟩ = ((0 ≤ m ∧ m ≤ 9223372036854775807 ∧ 0 < n) ∧ k (.c (.d (.int .i64 (m / n))))) := by (simp only [vbinI, true_and, ap])
@[push_cast] theorem vbinI_rem (kd : IntKind) (m n : Int) : ap (vbinI .rem kd m n) (k) ⟨⟩ = ((0 ≤ m ∧ 0 < n) ∧ k (.c (.d (.int kd (m % n))))) := (rfl)
@[push_cast] theorem vbinI_shr (kd : IntKind) (m n : Int) : ap (vbinI .shr kd m n) (k) ⟨⟩ = ((0 ≤ n ∧ n ≤ 8) ∧ k (.c (.d (.int kd (m / 2 ^ n.toNat))))) := (rfl)
@[push_cast] theorem vbinS_eql (m n : List UInt8) : ap (vbinS .eql m n) (k) ⟨⟩ = k (.c (.d (.bool (decide (m = n))))) := (rfl)
@[push_cast] theorem vbinS_neq (m n : List UInt8) : ap (vbinS .neq m n) (k) ⟨⟩ = k (.c (.d (.bool (decide (m ≠ n))))) := (rfl)
@[push_cast] theorem vbinS_lss (m n : List UInt8) : ap (vbinS .lss m n) (k) ⟨⟩ = k (.c (.d (.bool (Op.bytesLess m n)))) := (rfl)
@[push_cast] theorem vbinS_leq (m n : List UInt8) : ap (vbinS .leq m n) (k) ⟨⟩ = k (.c (.d (.bool ((Op.bytesLess m n || decide (m = n)))))) := (rfl)
@[push_cast] theorem vbinS_gtr (m n : List UInt8) : ap (vbinS .gtr m n) (k) ⟨⟩ = k (.c (.d (.bool ((!(Op.bytesLess m n || decide (m = n))))))) := (rfl)
@[push_cast] theorem vbinS_geq (m n : List UInt8) : ap (vbinS .geq m n) (k) ⟨⟩ = k (.c (.d (.bool ((!Op.bytesLess m n))))) := (rfl)
@[push_cast] theorem vbinS_add (m n : List UInt8) : ap (vbinS .add m n) (k) ⟨⟩ = ((m.length + n.length ≤ 9223372036854775807) ∧ k (.c (.d (.str (m ++ n))))) := (rfl)
@[push_cast] theorem vbinB_eql (m n : Bool) : ap (vbinB .eql m n) (k) ⟨⟩ = k (.c (.d (.bool (m == n)))) := (rfl)
@[push_cast] theorem vbinB_neq (m n : Bool) : ap (vbinB .neq m n) (k) ⟨⟩ = k (.c (.d (.bool (m != n)))) := (rfl)
attribute [push_cast] nilb List.map_eq_nil_iff nilq toDs eqD eqDs tagD beqs isNil
def vbinA2 (q : Option (List Nat)) (xs ys : Option (List D)) (op : BinOp) (k : AV → Prop) : Prop :=
  match q, xs, ys with
  | some tags, some xs, some ys => match eqDs xs ys, beqs op true with
    | some b, some _ => xs.map tagD = tags ∧ k (oB (if op = .eql then b else !b))
    | _, _ => False
  | _, _, _ => False
@[push_cast] theorem vbinA_2 (t : TypeId) (op : BinOp) (cs ds : List C) : ap (vbinA P t op cs ds) (k) ⟨⟩ = ap (vbinA2 (eqT P t) (toDs cs) (toDs ds) op) (k) ⟨⟩ := (rfl)
def vbinA3 (b : Option Bool) (c : Prop) (op : BinOp) (k : AV → Prop) : Prop :=
  match b, beqs op true with
  | some b, some _ => c ∧ k (oB (if op = .eql then b else !b))
  | _, _ => False
@[push_cast] theorem vbinA2_s (tags : List Nat) (xs ys : List D) (op : BinOp) : ap (vbinA2 (some tags) (some xs) (some ys) op) (k) ⟨⟩ = ap (vbinA3 (eqDs xs ys) (xs.map tagD = tags) op) (k) ⟨⟩ := (rfl)
@[push_cast] theorem vbinA3_e (b : Bool) (c : Prop) : ap (vbinA3 (some b) c .eql) (k) ⟨⟩ = (c ∧ k (.c (.d (.bool b)))) := by (simp [vbinA3, beqs, ap])
@[push_cast] theorem vbinA3_n (b : Bool) (c : Prop) : ap (vbinA3 (some b) c .neq) (k) ⟨⟩ = (c ∧ k (.c (.d (.bool (!b))))) := by (simp [vbinA3, beqs, ap])
@[push_cast] theorem vun_neg (kd : IntKind) (m : Int) : ap (vun .neg (.c (.d (.int kd m)))) (k) ⟨⟩ = (inK kd (-m) ∧ k (.c (.d (.int kd (-m))))) := (rfl)
@[push_cast] theorem vun_not (b : Bool) : ap (vun .not (.c (.d (.bool b)))) (k) ⟨⟩ = k (.c (.d (.bool (!b)))) := (rfl)
@[push_cast] theorem vpick_t (a b : AV) : ap (vpick (.c (.d (.bool true))) a b) (k) ⟨⟩ = k a := (rfl)
@[push_cast] theorem vpick_f (a b : AV) : ap (vpick (.c (.d (.bool false))) a b) (k) ⟨⟩ = k b := (rfl)
def vconv2 (P : Program) (s d : TypeId) (a b : Option IntKind) (α : AV) (k : AV → Prop) : Prop :=
  match a, b, α with
  | some _, some k', .c (.d (.int _ m)) => inK k' m ∧ k (oI k' m)
  | none, none, .c (.d (.str l)) => strB P s = true ∧ bysT P d = true ∧ l.length ≤ 16777216 ∧ k (.c (.d (.lst 1 (l.map byD))))
  | some _, none, .c (.d (.int _ m)) => strB P d = true ∧ k (.c (.d (.str (Lib.encodeRune m))))
  | _, _, _ => False
@[push_cast] theorem vconv_2 (s d : TypeId) (α : AV) : ap (vconv P s d α) (k) ⟨⟩ = ap (vconv2 P s d (intT P s) (intT P d) α) (k) ⟨⟩ := (rfl)
@[push_cast] theorem vconv2_b (s d : TypeId) (l : List UInt8) : ap (vconv2 P s d none none (.c (.d (.str l)))) (k) ⟨⟩ = (strB P s = true ∧ bysT P d = true ∧ l.length ≤ 16777216 ∧ k (.c (.d (.lst 1 (l.map byD))))) := (rfl)
@[push_cast] theorem vconv2_s (s d : TypeId) (a b kd : IntKind) (m : Int) : ap (vconv2 P s d (some a) (some b) (.c (.d (.int kd m)))) (k) ⟨⟩ = (inK b m ∧ k (.c (.d (.int b m)))) := (rfl)
@[push_cast] theorem vconv2_r (s d : TypeId) (a kd : IntKind) (m : Int) : ap (vconv2 P s d (some a) none (.c (.d (.int kd m)))) (k) ⟨⟩ = (strB P d = true ∧ k (.c (.d (.str (Lib.encodeRune m))))) := (rfl)
def vat2 (cs : List C) (off : Nat) (k : AV → Prop) : Prop := vat cs off k
@[push_cast 500] theorem vat_mz (d : D) (cs : List D) : ap (vat (List.map C.d (d :: cs)) 0) (k) ⟨⟩ = k (.c (.d d)) := by (simp [vat, ap])
@[push_cast 500] theorem vat_ms (d : D) (cs : List D) (n : Nat) : ap (vat (List.map C.d (d :: cs)) (n + 1)) (k) ⟨⟩ = ap (vat (List.map C.d cs) n) (k) ⟨⟩ := by (simp [vat, ap])
@[push_cast 500] theorem vat_z (c : C) (cs : List C) : ap (vat (c :: cs) 0) (k) ⟨⟩ = k (.c c) := by (simp [vat, ap])
@[push_cast 500] theorem vat_s (c : C) (cs : List C) (n : Nat) : ap (vat (c :: cs) (n + 1)) (k) ⟨⟩ = ap (vat cs n) (k) ⟨⟩ := by (simp [vat, ap])
@[push_cast] theorem vat_2 (cs : List C) (off : Nat) : ap (vat cs off) (k) ⟨⟩ = ap (vat2 cs off) (k) ⟨⟩ := (rfl)
@[push_cast 500] theorem vat2_z (c : C) (cs : List C) : ap (vat2 (c :: cs) 0) (k) ⟨⟩ = k (.c c) := by (simp [vat2, vat, ap])
@[push_cast 500] theorem vat2_s (c : C) (cs : List C) (n : Nat) : ap (vat2 (c :: cs) (n + 1)) (k) ⟨⟩ = ap (vat2 cs n) (k) ⟨⟩ := by (simp [vat2, vat, ap])
@[push_cast] theorem vat2_g (cs : List C) (off : Nat) : ap (vat2 cs off) (k) ⟨⟩ = (∃ hh : off < cs.length, k (.c cs[off])) := (rfl)
@[push_cast] theorem vatN_g (cs : List C) (off n : Nat) : ap (vatN cs off n) (k) ⟨⟩ = (off + n ≤ cs.length ∧ k (.agg ((cs.drop off).take n))) := (rfl)
def vel2 (els : List (List D)) (i : Nat) (k : List D → Prop) : Prop := vel els i k
@[push_cast] theorem vel_2 (els : List (List D)) (i : Nat) (kl : List D → Prop) : ap (vel els i) (kl) ⟨⟩ = ap (vel2 els i) (kl) ⟨⟩ := (rfl)
@[push_cast 500] theorem vel_z (e : List D) (els : List (List D)) (kl : List D → Prop) : ap (vel2 (e :: els) 0) (kl) ⟨⟩ = kl e := by (simp [vel2, vel, ap])
@[push_cast 500] theorem vel_s (e : List D) (els : List (List D)) (n : Nat) (kl : List D → Prop) : ap (vel2 (e :: els) (n + 1)) (kl) ⟨⟩ = ap (vel2 els n) (kl) ⟨⟩ := by (simp [vel2, vel, ap])
@[push_cast] theorem vel_g (els : List (List D)) (i : Nat) (kl : List D → Prop) : ap (vel2 els i) (kl) ⟨⟩ = (∃ hh : i < els.length, kl els[i]) := (rfl)
@[push_cast] theorem vcells_p (cs : List D) (kc : List C → Nat → Prop) : ap (vcells h (.c (.ptr cs))) (kc) ⟨⟩ = kc (cs.map C.d) 0 := (rfl)
def vcellB (b : Option LB) (off : Nat) (kc : List C → Nat → Prop) : Prop := match b with | some (.box _ cs) => kc cs off | _ => False
def vcellR (b : Option LB) (ver sz kk off : Nat) (kc : List C → Nat → Prop) : Prop := match b with | some (.row _ sz' els v) => (v = ver ∧ sz' = sz) ∧ vel els kk fun e => kc (e.map C.d) off | some (.opn _ sz' _ kk' cs v) => (v = ver ∧ sz' = sz ∧ kk = kk') ∧ kc cs off | _ => False
@[push_cast] theorem vcells_l (i off : Nat) (kc : List C → Nat → Prop) : ap (vcells h (.c (.loc i off))) (kc) ⟨⟩ = ap (vcellB h[i]? off) (kc) ⟨⟩ := (rfl)
@[push_cast] theorem vcells_r (i ver sz kk off : Nat) (kc : List C → Nat → Prop) : ap (vcells h (.c (.rowp i ver sz kk off))) (kc) ⟨⟩ = ap (vcellR h[i]? ver sz kk off) (kc) ⟨⟩ := (rfl)
@[push_cast] theorem vcellB_s (t : TypeId) (cs : List C) (off : Nat) (kc : List C → Nat → Prop) : ap (vcellB (some (.box t cs)) off) (kc) ⟨⟩ = kc cs off := (rfl)
@[push_cast] theorem vcellR_s (t : TypeId) (sz' : Nat) (els : List (List D)) (v ver sz kk off : Nat) (kc : List C → Nat → Prop) : ap (vcellR (some (.row t sz' els v)) ver sz kk off) (kc) ⟨⟩ = ((v = ver ∧ sz' = sz) ∧ ap (vel els kk) (fun e => kc (e.map C.d) off) ⟨⟩) := (rfl)
@[push_cast] theorem vcellR_o (t : TypeId) (sz' : Nat) (els : List (List D)) (kk' : Nat) (cs : List C) (v ver sz kk off : Nat) (kc : List C → Nat → Prop) : ap (vcellR (some (.opn t sz' els kk' cs v)) ver sz kk off) (kc) ⟨⟩ = ((v = ver ∧ sz' = sz ∧ kk = kk') ∧ kc cs off) := (rfl)
def vload2 (q : Option (Option Nat)) (h : List LB) (α : AV) (k : AV → Prop) : Prop :=
  match q with
  | some none => vcells h α fun cs off => vat cs off k
  | some (some n) => vcells h α fun cs off => vatN cs off n k
  | none => False
@[push_cast] theorem vload_2 (t : TypeId) (α : AV) : ap (vload P h t α) (k) ⟨⟩ = ap (vload2 (ldT P t) h α) (k) ⟨⟩ := (rfl)
@[push_cast] theorem vload2_1 (α : AV) : ap (vload2 (some none) h α) (k) ⟨⟩ = ap (vcells h α) (fun cs off => ap (vat cs off) (k) ⟨⟩) ⟨⟩ := (rfl)
@[push_cast] theorem vload2_n (n : Nat) (α : AV) : ap (vload2 (some (some n)) h α) (k) ⟨⟩ = ap (vcells h α) (fun cs off => ap (vatN cs off n) (k) ⟨⟩) ⟨⟩ := (rfl)
def vfield2 (q : Option Nat) (h : List LB) (α : AV) (k : AV → Prop) : Prop :=
  match q with
  | some o => match α with
    | .c (.ptr cs) => k (.c (.ptr (cs.drop o)))
    | .c (.loc j off) => k (.c (.loc j (off + o)))
    | .c (.rowp j ver sz kk off) => match h[j]? with
      | some (.row _ sz' _ v) => (v = ver ∧ sz' = sz) ∧ k (.c (.rowp j ver sz kk (off + o)))
      | some (.opn _ sz' _ _ _ v) => (v = ver ∧ sz' = sz) ∧ k (.c (.rowp j ver sz kk (off + o)))
      | _ => False
    | _ => False
  | none => False
def vrowq (b : Option LB) (ver sz : Nat) : Prop := match b with | some (.row _ sz' _ v) => v = ver ∧ sz' = sz | some (.opn _ sz' _ _ _ v) => v = ver ∧ sz' = sz | _ => False
@[push_cast] theorem vrowq_s (t : TypeId) (sz' : Nat) (els : List (List D)) (v ver sz : Nat) : vrowq (some (.row t sz' els v)) ver sz = (v = ver ∧ sz' = sz) := rfl
@[push_cast] theorem vrowq_o (t : TypeId) (sz' : Nat) (els : List (List D)) (kk : Nat) (cs : List C) (v ver sz : Nat) : vrowq (some (.opn t sz' els kk cs v)) ver sz = (v = ver ∧ sz' = sz) := rfl
@[push_cast] theorem vfield_2 (t : TypeId) (i : Nat) (α : AV) : ap (vfield P h t i α) (k) ⟨⟩ = ap (vfield2 (fdT P t i) h α) (k) ⟨⟩ := (rfl)
@[push_cast] theorem vfield2_p (o : Nat) (cs : List D) : ap (vfield2 (some o) h (.c (.ptr cs))) (k) ⟨⟩ = k (.c (.ptr (cs.drop o))) := (rfl)
@[push_cast] theorem vfield2_l (o j off : Nat) : ap (vfield2 (some o) h (.c (.loc j off))) (k) ⟨⟩ = k (.c (.loc j (off + o))) := (rfl)
@[push_cast] theorem vfield2_r (o j ver sz kk off : Nat) : ap (vfield2 (some o) h (.c (.rowp j ver sz kk off))) (k) ⟨⟩ = (vrowq h[j]? ver sz ∧ k (.c (.rowp j ver sz kk (off + o)))) := by (simp only [vfield2, vrowq, ap]; generalize h[j]? = q; rcases q with _ | b <;> first | (simp; done) | (cases b <;> simp))
def vindex2 (q : Option (TypeId × Nat)) (r : Option (Nat × TypeId × Nat)) (h : List LB) (α : AV) (i : Int) (k : AV → Prop) : Prop :=
  match q with
    | some (_, sz) => match α with
      | .c (.d (.lst sz' els)) => (sz' = sz ∧ 0 ≤ i) ∧ vel els i.toNat fun e => k (.c (.ptr e))
      | .c (.bor sz' els) => (sz' = sz ∧ 0 ≤ i) ∧ vel els i.toNat fun e => k (.c (.ptr e))
      | .c (.own j ver) => match h[j]? with
        | some (.row _ sz' els v) => (v = ver ∧ sz' = sz ∧ 0 ≤ i ∧ i < els.length) ∧ k (.c (.rowp j ver sz i.toNat 0))
        | _ => False
      | .c (.sub j ver sz'' lo n) => match h[j]? with
        | some (.row _ sz' els v) => (v = ver ∧ sz' = sz ∧ sz'' = sz ∧ lo + n ≤ els.length ∧ 0 ≤ i ∧ i < n) ∧ k (.c (.rowp j ver sz (lo + i.toNat) 0))
        | _ => False
      | _ => False
    | none => match r with
      | some (m, _, sz) => match α with
        | .c (.loc j off) => (0 ≤ i ∧ i < m) ∧ k (.c (.loc j (off + i.toNat * sz)))
        | .c (.ptr cs) => (0 ≤ i ∧ i < m) ∧ k (.c (.ptr (cs.drop (i.toNat * sz))))
        | _ => False
      | none => False
def vrows (b : Option LB) (ver sz sz'' lo n : Nat) (i : Int) : Prop := match b with | some (.row _ sz' els v) => v = ver ∧ sz' = sz ∧ sz'' = sz ∧ lo + n ≤ els.length ∧ 0 ≤ i ∧ i < n | _ => False
@[push_cast] theorem vrows_s (t : TypeId) (sz' : Nat) (els : List (List D)) (v ver sz sz'' lo n : Nat) (i : Int) : vrows (some (.row t sz' els v)) ver sz sz'' lo n i = (v = ver ∧ sz' = sz ∧ sz'' = sz ∧ lo + n ≤ els.length ∧ 0 ≤ i ∧ i < n) := rfl
def vrowi (b : Option LB) (ver sz : Nat) (i : Int) : Prop := match b with | some (.row _ sz' els v) => v = ver ∧ sz' = sz ∧ 0 ≤ i ∧ i < els.length | _ => False
@[push_cast] theorem vrowi_s (t : TypeId) (sz' : Nat) (els : List (List D)) (v ver sz : Nat) (i : Int) : vrowi (some (.row t sz' els v)) ver sz i = (v = ver ∧ sz' = sz ∧ 0 ≤ i ∧ i < els.length) := rfl
def vindexA (r : Option (Nat × TypeId × Nat)) (α : AV) (i : Int) (k : AV → Prop) : Prop :=
  match r with
  | some (m, _, sz) => match α with
    | .c (.loc j off) => (0 ≤ i ∧ i < m) ∧ k (.c (.loc j (off + i.toNat * sz)))
    | .c (.ptr cs) => (0 ≤ i ∧ i < m) ∧ k (.c (.ptr (cs.drop (i.toNat * sz))))
    | _ => False
  | none => False
@[push_cast] theorem vindex_2 (t : TypeId) (α : AV) (kd : IntKind) (i : Int) : ap (vindex P h t α (.c (.d (.int kd i)))) (k) ⟨⟩ = ap (vindex2 (slT P t) (arT P t) h α i) (k) ⟨⟩ := (rfl)
@[push_cast] theorem vindex2_l (e : TypeId) (sz sz' : Nat) (r : Option (Nat × TypeId × Nat)) (els : List (List D)) (i : Int) : ap (vindex2 (some (e, sz)) r h (.c (.d (.lst sz' els))) i) (k) ⟨⟩ = ((sz' = sz ∧ 0 ≤ i) ∧ ap (vel els i.toNat) (fun e => k (.c (.ptr e))) ⟨⟩) := (rfl)
@[push_cast] theorem vindex2_b (e : TypeId) (sz sz' : Nat) (r : Option (Nat × TypeId × Nat)) (els : List (List D)) (i : Int) : ap (vindex2 (some (e, sz)) r h (.c (.bor sz' els)) i) (k) ⟨⟩ = ((sz' = sz ∧ 0 ≤ i) ∧ ap (vel els i.toNat) (fun e => k (.c (.ptr e))) ⟨⟩) := (rfl)
@[push_cast] theorem vindex2_o (e : TypeId) (sz j ver : Nat) (r : Option (Nat × TypeId × Nat)) (i : Int) : ap (vindex2 (some (e, sz)) r h (.c (.own j ver)) i) (k) ⟨⟩ = (vrowi h[j]? ver sz i ∧ k (.c (.rowp j ver sz i.toNat 0))) := by (simp only [vindex2, vrowi, ap]; split <;> simp)
@[push_cast] theorem vindex2_u (e : TypeId) (sz j ver sz'' lo n : Nat) (r : Option (Nat × TypeId × Nat)) (i : Int) : ap (vindex2 (some (e, sz)) r h (.c (.sub j ver sz'' lo n)) i) (k) ⟨⟩ = (vrows h[j]? ver sz sz'' lo n i ∧ k (.c (.rowp j ver sz (lo + i.toNat) 0))) := by (simp only [vindex2, vrows, ap]; split <;> simp)
@[push_cast] theorem vindex2_a (r : Option (Nat × TypeId × Nat)) (α : AV) (i : Int) : ap (vindex2 none r h α i) (k) ⟨⟩ = ap (vindexA r α i) (k) ⟨⟩ := (rfl)
@[push_cast] theorem vindexA_l (m sz j off : Nat) (e : TypeId) (i : Int) : ap (vindexA (some (m, e, sz)) (.c (.loc j off)) i) (k) ⟨⟩ = ((0 ≤ i ∧ i < m) ∧ k (.c (.loc j (off + i.toNat * sz)))) := (rfl)
@[push_cast] theorem vindexA_p (m sz : Nat) (e : TypeId) (cs : List D) (i : Int) : ap (vindexA (some (m, e, sz)) (.c (.ptr cs)) i) (k) ⟨⟩ = ((0 ≤ i ∧ i < m) ∧ k (.c (.ptr (cs.drop (i.toNat * sz))))) := (rfl)
def vstr2 (q : Option Nat) (cs : List C) (i : Int) (k : AV → Prop) : Prop := match q with | some n => (0 ≤ i ∧ i < n) ∧ vat cs i.toNat k | none => False
@[push_cast] theorem vstr_a (t : TypeId) (cs : List C) (kd : IntKind) (i : Int) : ap (vstr P t (.agg cs) (.c (.d (.int kd i)))) (k) ⟨⟩ = ap (vstr2 (ixT P t) cs i) (k) ⟨⟩ := (rfl)
@[push_cast] theorem vstr2_s (n : Nat) (cs : List C) (i : Int) : ap (vstr2 (some n) cs i) (k) ⟨⟩ = ((0 ≤ i ∧ i < n) ∧ ap (vat cs i.toNat) (k) ⟨⟩) := (rfl)
@[push_cast] theorem vstr_s (t : TypeId) (s : List UInt8) (kd : IntKind) (i : Int) : ap (vstr P t (.c (.d (.str s))) (.c (.d (.int kd i)))) (k) ⟨⟩ = (isS P t ∧ 0 ≤ i ∧ ∃ hh : i.toNat < s.length, k (.c (.d (.int .u8 s[i.toNat].toNat)))) := (rfl)
@[push_cast] theorem vbd_n (d : Nat) (kn : Nat → Prop) : ap (vbd none d) (kn) ⟨⟩ = kn d := (rfl)
@[push_cast] theorem vbd_s (d : Nat) (kd : IntKind) (i : Int) (kn : Nat → Prop) : ap (vbd (some (.c (.d (.int kd i)))) d) (kn) ⟨⟩ = (0 ≤ i ∧ kn i.toNat) := (rfl)
@[push_cast] theorem vslice_s (t : TypeId) (s : List UInt8) (lo hi : Option AV) : ap (vslice P h t (.c (.d (.str s))) lo hi) (k) ⟨⟩ = (isS P t ∧ ap (vbd lo 0) (fun a => ap (vbd hi s.length) (fun b => (a ≤ b ∧ b ≤ s.length) ∧ k (.c (.d (.str ((s.drop a).take (b - a)))))) ⟨⟩) ⟨⟩) := (rfl)
def vslice2 (q : Option (TypeId × Nat)) (o : Option LB) (α : AV) (lo hi : Option AV) (k : AV → Prop) : Prop :=
  match q, α with
  | some (_, sz), .c (.d (.lst sz' els)) => sz' = sz ∧ vbd lo 0 fun l => vbd hi els.length fun r => (l ≤ r ∧ r ≤ els.length) ∧ k (.c (.d (.lst sz ((els.drop l).take (r - l)))))
  | some (_, sz), .c (.bor sz' els) => sz' = sz ∧ vbd lo 0 fun l => vbd hi els.length fun r => (l ≤ r ∧ r ≤ els.length) ∧ k (.c (.bor sz ((els.drop l).take (r - l))))
  | some (_, sz), .c (.own j ver) => match o with
    | some (.row _ sz' els v) => (v = ver ∧ sz' = sz) ∧ vbd lo 0 fun l => vbd hi els.length fun r => (l ≤ r ∧ r ≤ els.length) ∧ k (.c (.sub j ver sz l (r - l)))
    | _ => False
  | _, _ => False
@[push_cast] theorem vslice_l (t : TypeId) (sz : Nat) (els : List (List D)) (lo hi : Option AV) : ap (vslice P h t (.c (.d (.lst sz els))) lo hi) (k) ⟨⟩ = ap (vslice2 (slT P t) none (.c (.d (.lst sz els))) lo hi) (k) ⟨⟩ := by (simp only [vslice, vslice2, ap]; cases slT P t <;> rfl)
@[push_cast] theorem vslice_b (t : TypeId) (sz : Nat) (els : List (List D)) (lo hi : Option AV) : ap (vslice P h t (.c (.bor sz els)) lo hi) (k) ⟨⟩ = ap (vslice2 (slT P t) none (.c (.bor sz els)) lo hi) (k) ⟨⟩ := by (simp only [vslice, vslice2, ap]; cases slT P t <;> rfl)
@[push_cast] theorem vslice_o (t : TypeId) (j ver : Nat) (lo hi : Option AV) : ap (vslice P h t (.c (.own j ver)) lo hi) (k) ⟨⟩ = ap (vslice2 (slT P t) h[j]? (.c (.own j ver)) lo hi) (k) ⟨⟩ := by (simp only [vslice, vslice2, ap]; cases slT P t with | none => rfl | some q => cases h[j]? with | none => rfl | some b => cases b <;> rfl)
@[push_cast] theorem vslice2_l (e : TypeId) (sz sz' : Nat) (els : List (List D)) (o : Option LB) (lo hi : Option AV) : ap (vslice2 (some (e, sz)) o (.c (.d (.lst sz' els))) lo hi) (k) ⟨⟩ = (sz' = sz ∧ ap (vbd lo 0) (fun a => ap (vbd hi els.length) (fun b => (a ≤ b ∧ b ≤ els.length) ∧ k (.c (.d (.lst sz ((els.drop a).take (b - a)))))) ⟨⟩) ⟨⟩) := (rfl)
@[push_cast] theorem vslice2_b (e : TypeId) (sz sz' : Nat) (els : List (List D)) (o : Option LB) (lo hi : Option AV) : ap (vslice2 (some (e, sz)) o (.c (.bor sz' els)) lo hi) (k) ⟨⟩ = (sz' = sz ∧ ap (vbd lo 0) (fun a => ap (vbd hi els.length) (fun b => (a ≤ b ∧ b ≤ els.length) ∧ k (.c (.bor sz ((els.drop a).take (b - a))))) ⟨⟩) ⟨⟩) := (rfl)
@[push_cast] theorem vslice2_o (e t : TypeId) (sz sz' j ver v : Nat) (els : List (List D)) (lo hi : Option AV) : ap (vslice2 (some (e, sz)) (some (.row t sz' els v)) (.c (.own j ver)) lo hi) (k) ⟨⟩ = ((v = ver ∧ sz' = sz) ∧ ap (vbd lo 0) (fun a => ap (vbd hi els.length) (fun b => (a ≤ b ∧ b ≤ els.length) ∧ k (.c (.sub j ver sz a (b - a)))) ⟨⟩) ⟨⟩) := (rfl)
@[push_cast] theorem vext_z (a : AV) (r : List AV) : ap (vext 0 (.tup (a :: r))) (k) ⟨⟩ = (a.flat = true ∧ k a) := (rfl)
@[push_cast] theorem vext_s (i : Nat) (a : AV) (r : List AV) : ap (vext (i + 1) (.tup (a :: r))) (k) ⟨⟩ = ap (vext i (.tup r)) (k) ⟨⟩ := (rfl)
attribute [push_cast] AV.flat
def vbuild2 (q : Option (List (Nat × Nat))) (z : Option (List C)) (ps : List (Nat × AV)) (k : AV → Prop) : Prop :=
  match q, z with
  | some pl, some zc => match fillC (pl[·]?) zc ps with
    | some cs => k (.agg cs)
    | none => False
  | _, _ => False
def vfill (pl : List (Nat × Nat)) (cells : List C) (ps : List (Nat × AV)) (k : AV → Prop) : Prop := match fillC (pl[·]?) cells ps with | some cs => k (.agg cs) | none => False
def vfill1 (q : Option (Nat × Nat)) (xs : Option (List C)) (pl : List (Nat × Nat)) (cells : List C) (ps : List (Nat × AV)) (k : AV → Prop) : Prop :=
  match q, xs with
  | some (off, size), some xs => (xs.length = size ∧ off + size ≤ cells.length) ∧ vfill pl (splice cells off xs) ps k
  | _, _ => False
@[push_cast] theorem vbuild_2 (t : TypeId) (ps : List (Nat × AV)) : ap (vbuild P t ps) (k) ⟨⟩ = ap (vbuild2 (plT P t) (zeroC P t) ps) (k) ⟨⟩ := (rfl)
@[push_cast] theorem vbuild2_s (pl : List (Nat × Nat)) (zc : List C) (ps : List (Nat × AV)) : ap (vbuild2 (some pl) (some zc) ps) (k) ⟨⟩ = ap (vfill pl zc ps) (k) ⟨⟩ := (rfl)
@[push_cast] theorem vfill_n (pl : List (Nat × Nat)) (zc : List C) : ap (vfill pl zc []) (k) ⟨⟩ = k (.agg zc) := (rfl)
@[push_cast] theorem vfill_c (pl : List (Nat × Nat)) (zc : List C) (i : Nat) (α : AV) (ps : List (Nat × AV)) : ap (vfill pl zc ((i, α) :: ps)) (k) ⟨⟩ = ap (vfill1 pl[i]? (avCells α) pl zc ps) (k) ⟨⟩ := by (
  simp only [vfill, vfill1, fillC, ap]
  cases pl[i]? with
  | none => simp
  | some q => cases avCells α with
    | none => simp
    | some xs => by_cases hc : xs.length = q.2 ∧ q.1 + q.2 ≤ zc.length
                 · simp [hc]
                 · simp [hc])
@[push_cast] theorem vfill1_s (off size : Nat) (xs : List C) (pl : List (Nat × Nat)) (zc : List C) (ps : List (Nat × AV)) : ap (vfill1 (some (off, size)) (some xs) pl zc ps) (k) ⟨⟩ = ((xs.length = size ∧ off + size ≤ zc.length) ∧ ap (vfill pl (splice zc off xs) ps) (k) ⟨⟩) := (rfl)
@[push_cast] theorem avCells_c (c : C) : avCells (.c c) = some [c] := (rfl)
@[push_cast] theorem avCells_a (cs : List C) : avCells (.agg cs) = some cs := (rfl)
attribute [push_cast] splice
def vlit2 (q : Option (TypeId × Nat × Nat)) (n : Nat) (ps : List (Nat × AV)) (k : AV → Prop) : Prop :=
  match q with
  | some (_, sz, _) => match partsE sz ps 0 with
    | some els => (ps.length = n ∧ n * sz ≤ 16777216) ∧ k (.c (.d (.lst sz els)))
    | none => False
  | none => False
def vlit3 (els : Option (List (List D))) (sz : Nat) (c : Prop) (k : AV → Prop) : Prop := match els with | some els => c ∧ k (.c (.d (.lst sz els))) | none => False
@[push_cast] theorem vlit_2 (t : TypeId) (n : Nat) (ps : List (Nat × AV)) : ap (vlit P t n ps) (k) ⟨⟩ = ap (vlit2 (apT P t) n ps) (k) ⟨⟩ := (rfl)
@[push_cast] theorem vlit2_s (e : TypeId) (sz b n : Nat) (ps : List (Nat × AV)) : ap (vlit2 (some (e, sz, b)) n ps) (k) ⟨⟩ = ap (vlit3 (partsE sz ps 0) sz (ps.length = n ∧ n * sz ≤ 16777216)) (k) ⟨⟩ := (rfl)
@[push_cast] theorem vlit3_s (els : List (List D)) (sz : Nat) (c : Prop) : ap (vlit3 (some els) sz c) (k) ⟨⟩ = (c ∧ k (.c (.d (.lst sz els)))) := (rfl)
attribute [push_cast] partsE locsOf
def vclo2 (q : Option (List Nat)) (f : FuncId) (k : AV → Prop) : Prop := match q with | some is => k (.c (.clo f is)) | none => False
@[push_cast] theorem vclo_2 (f : FuncId) (ps : List AV) : ap (vclo f ps) (k) ⟨⟩ = ap (vclo2 (locsOf ps) f) (k) ⟨⟩ := (rfl)
@[push_cast] theorem vclo2_s (is : List Nat) (f : FuncId) : ap (vclo2 (some is) f) (k) ⟨⟩ = k (.c (.clo f is)) := (rfl)
@[push_cast] theorem vnilc_p (cs : List D) : ap (vnilc h (.c (.ptr cs))) (k) ⟨⟩ = k (.c (.ptr cs)) := (rfl)
@[push_cast] theorem vnilc_l (i o : Nat) : ap (vnilc h (.c (.loc i o))) (k) ⟨⟩ = k (.c (.loc i o)) := (rfl)
@[push_cast] theorem vnilc_r (j ver sz kk off : Nat) : ap (vnilc h (.c (.rowp j ver sz kk off))) (k) ⟨⟩ = (vrowq h[j]? ver sz ∧ k (.c (.rowp j ver sz kk off))) := by (simp only [vnilc, vrowq, ap]; generalize h[j]? = q; rcases q with _ | b <;> first | (simp; done) | (cases b <;> simp))
@[push_cast] theorem vbi_len (α : AV) (t : TypeId) : ap (vbi P h .len [α] [t]) (k) ⟨⟩ = ap (vlen P h t α) (k) ⟨⟩ := (rfl)
@[push_cast] theorem vbi_min (α β : AV) (ts : List TypeId) : ap (vbi P h .min [α, β] ts) (k) ⟨⟩ = ap (vmm imin α β) (k) ⟨⟩ := (rfl)
@[push_cast] theorem vbi_max (α β : AV) (ts : List TypeId) : ap (vbi P h .max [α, β] ts) (k) ⟨⟩ = ap (vmm imax α β) (k) ⟨⟩ := (rfl)
@[push_cast] theorem vmm_i (f : Int → Int → Int) (kd : IntKind) (m n : Int) : ap (vmm f (.c (.d (.int kd m))) (.c (.d (.int kd n)))) (k) ⟨⟩ = k (.c (.d (.int kd (f m n)))) := by (simp only [vmm, true_and, ap])
def vlen2 (q : Option (TypeId × Nat)) (els : Option (Nat × List (List D))) (k : AV → Prop) : Prop := match q, els with | some _, some (_, els) => k (oI .i64 els.length) | _, _ => False
def vlen3 (q : Option (TypeId × Nat)) (k : AV → Prop) : Prop := match q with | some _ => k (oI .i64 0) | none => False
@[push_cast] theorem vlen_s (t : TypeId) (s : List UInt8) : ap (vlen P h t (.c (.d (.str s)))) (k) ⟨⟩ = (isS P t ∧ k (.c (.d (.int .i64 s.length)))) := (rfl)
@[push_cast] theorem vlen_n (t : TypeId) : ap (vlen P h t (.c (.d (.raw (.slice none 0 0))))) (k) ⟨⟩ = ap (vlen3 (slT P t)) (k) ⟨⟩ := (rfl)
@[push_cast] theorem vlen_l (t : TypeId) (sz : Nat) (els : List (List D)) : ap (vlen P h t (.c (.d (.lst sz els)))) (k) ⟨⟩ = ap (vlen2 (slT P t) (elsOf h (.c (.d (.lst sz els))))) (k) ⟨⟩ := (rfl)
@[push_cast] theorem vlen_b (t : TypeId) (sz : Nat) (els : List (List D)) : ap (vlen P h t (.c (.bor sz els))) (k) ⟨⟩ = ap (vlen2 (slT P t) (elsOf h (.c (.bor sz els)))) (k) ⟨⟩ := (rfl)
@[push_cast] theorem vlen_o (t : TypeId) (j ver : Nat) : ap (vlen P h t (.c (.own j ver))) (k) ⟨⟩ = ap (vlen2 (slT P t) (elsOf h (.c (.own j ver)))) (k) ⟨⟩ := (rfl)
@[push_cast] theorem vlen_u (t : TypeId) (j ver sz lo n : Nat) : ap (vlen P h t (.c (.sub j ver sz lo n))) (k) ⟨⟩ = ap (vlen2 (slT P t) (elsOf h (.c (.sub j ver sz lo n)))) (k) ⟨⟩ := (rfl)
@[push_cast] theorem vlen2_s (q : TypeId × Nat) (sz : Nat) (els : List (List D)) : ap (vlen2 (some q) (some (sz, els))) (k) ⟨⟩ = k (.c (.d (.int .i64 els.length))) := (rfl)
@[push_cast] theorem vlen3_s (q : TypeId × Nat) : ap (vlen3 (some q)) (k) ⟨⟩ = k (.c (.d (.int .i64 0))) := (rfl)
attribute [push_cast] elsOf elsOfN
@[push_cast] theorem pushB_s (st : St) (dst : Option Nat) (t : TypeId) (cs : List C) : pushB st dst t cs = St.put ⟨st.env, st.heap ++ [.box t cs]⟩ dst (.c (.loc st.heap.length 0)) := (rfl)
@[push_cast] theorem pushR_s (st : St) (dst : Option Nat) (t : TypeId) (sz : Nat) (els : List (List D)) : pushR st dst t sz els = St.put ⟨st.env, st.heap ++ [.row t sz els 0]⟩ dst (.c (.own st.heap.length 0)) := (rfl)
@[congr] theorem valloc_cg {t : TypeId} {dst : Option Nat} {st st' : St} (h1 : st = st') : (valloc P t dst st ks) = (valloc P t dst st' ks) := by subst h1; rfl
def vall2 (z : Option (List C)) (t : TypeId) (dst : Option Nat) (st : St) (k : St → Prop) : Prop := match z with | some zc => k (pushB st dst t zc) | none => False
@[push_cast] theorem valloc_2 (t : TypeId) (dst : Option Nat) (st : St) : ap (valloc P t dst st) (ks) ⟨⟩ = ap (vall2 (zeroC P t) t dst st) (ks) ⟨⟩ := (rfl)
@[push_cast] theorem vall2_s (zc : List C) (t : TypeId) (dst : Option Nat) (st : St) : ap (vall2 (some zc) t dst st) (ks) ⟨⟩ = ks (pushB st dst t zc) := (rfl)
@[push_cast] theorem vbox_2 (t : TypeId) (α : AV) (dst : Option Nat) (st : St) : ap (vbox t α dst st) (ks) ⟨⟩ = ap (vall2 (avCells α) t dst st) (ks) ⟨⟩ := (rfl)
@[congr] theorem vstore_cg {t : TypeId} {α α' β β' : AV} {st : St} (h1 : α = α') (h2 : β = β') : (vstore P t α β st ks) = (vstore P t α' β' st ks) := by subst h1 h2; rfl
def vstB (b : Option LB) (xs : Option (List C)) (s : Option Nat) (i off : Nat) (st : St) (k : St → Prop) : Prop :=
  match b, xs with
  | some (.box tb cs), some xs => (s = some xs.length ∧ off + xs.length ≤ cs.length) ∧ k ⟨st.env, st.heap.set i (.box tb (splice cs off xs))⟩
  | _, _ => False
def vstR (b : Option LB) (xs : Option (List C)) (s : Option Nat) (i ver sz kk off : Nat) (st : St) (k : St → Prop) : Prop :=
  match xs with
  | some xs => match b, toDs xs with
    | some (.row te sz' els v), some ds => (v = ver ∧ sz' = sz ∧ s = some ds.length) ∧ vel els kk fun e => off + ds.length ≤ e.length ∧ k ⟨st.env, st.heap.set i (.row te sz (els.set kk (splice e off ds)) ver)⟩
    | some (.opn te sz' els kk' cs v), _ => ((v = ver ∧ sz' = sz ∧ kk = kk') ∧ s = some xs.length ∧ off + xs.length ≤ cs.length) ∧ k ⟨st.env, st.heap.set i (.opn te sz els kk (splice cs off xs) ver)⟩
    | _, _ => False
  | none => False
def vstR2 (b : Option LB) (xs : List C) (s : Option Nat) (i ver sz kk off : Nat) (st : St) (k : St → Prop) : Prop := vstR b (some xs) s i ver sz kk off st k
def vstR3 (te : TypeId) (sz' : Nat) (els : List (List D)) (v : Nat) (ds : Option (List D)) (s : Option Nat) (i ver sz kk off : Nat) (st : St) (k : St → Prop) : Prop :=
  match ds with
  | some ds => (v = ver ∧ sz' = sz ∧ s = some ds.length) ∧ vel els kk fun e => off + ds.length ≤ e.length ∧ k ⟨st.env, st.heap.set i (.row te sz (els.set kk (splice e off ds)) ver)⟩
  | none => False
@[push_cast] theorem vstore_l (t : TypeId) (i off : Nat) (β : AV) (st : St) : ap (vstore P t (.c (.loc i off)) β st) (ks) ⟨⟩ = ap (vstB st.heap[i]? (avCells β) (szT P t) i off st) (ks) ⟨⟩ := by (simp only [ap]; unfold vstore vstB; generalize avCells β = a; generalize hq : st.heap[i]? = q; rcases a with _ | xs <;> rcases q with _ | b <;> first | rfl | (rcases b with _ | _ | _ <;> first | rfl | simp only [hq]) | simp only [hq])
@[push_cast] theorem vstore_r (t : TypeId) (i ver sz kk off : Nat) (β : AV) (st : St) : ap (vstore P t (.c (.rowp i ver sz kk off)) β st) (ks) ⟨⟩ = ap (vstR st.heap[i]? (avCells β) (szT P t) i ver sz kk off st) (ks) ⟨⟩ := by (simp only [ap]; unfold vstore vstR; generalize avCells β = a; rcases a with _ | xs <;> rfl)
@[push_cast] theorem vstB_s (tb : TypeId) (cs xs : List C) (s : Option Nat) (i off : Nat) (st : St) : ap (vstB (some (.box tb cs)) (some xs) s i off st) (ks) ⟨⟩ = ((s = some xs.length ∧ off + xs.length ≤ cs.length) ∧ ks ⟨st.env, st.heap.set i (.box tb (splice cs off xs))⟩) := (rfl)
@[push_cast] theorem vstR_x (b : Option LB) (xs : List C) (s : Option Nat) (i ver sz kk off : Nat) (st : St) : ap (vstR b (some xs) s i ver sz kk off st) (ks) ⟨⟩ = ap (vstR2 b xs s i ver sz kk off st) (ks) ⟨⟩ := (rfl)
@[push_cast] theorem vstR2_r (te : TypeId) (sz' v : Nat) (els : List (List D)) (xs : List C) (s : Option Nat) (i ver sz kk off : Nat) (st : St) : ap (vstR2 (some (.row te sz' els v)) xs s i ver sz kk off st) (ks) ⟨⟩ = ap (vstR3 te sz' els v (toDs xs) s i ver sz kk off st) (ks) ⟨⟩ := by (simp only [ap, vstR2, vstR, vstR3]; cases toDs xs <;> rfl)
@[push_cast] theorem vstR2_o (te : TypeId) (sz' v : Nat) (els : List (List D)) (kk' : Nat) (cs xs : List C) (s : Option Nat) (i ver sz kk off : Nat) (st : St) : ap (vstR2 (some (.opn te sz' els kk' cs v)) xs s i ver sz kk off st) (ks) ⟨⟩ = (((v = ver ∧ sz' = sz ∧ kk = kk') ∧ s = some xs.length ∧ off + xs.length ≤ cs.length) ∧ ks ⟨st.env, st.heap.set i (.opn te sz els kk (splice cs off xs) ver)⟩) := by (simp only [ap, vstR2, vstR])
@[push_cast] theorem vstR3_s (te : TypeId) (sz' v : Nat) (els : List (List D)) (ds : List D) (s : Option Nat) (i ver sz kk off : Nat) (st : St) : ap (vstR3 te sz' els v (some ds) s i ver sz kk off st) (ks) ⟨⟩ = ((v = ver ∧ sz' = sz ∧ s = some ds.length) ∧ ap (vel els kk) (fun e => off + ds.length ≤ e.length ∧ ks ⟨st.env, st.heap.set i (.row te sz (els.set kk (splice e off ds)) ver)⟩) ⟨⟩) := (rfl)
@[congr] theorem vmake_cg {t : TypeId} {α α' β β' : AV} {dst : Option Nat} {st : St} (h1 : α = α') (h2 : β = β') : (vmake P t α β dst st ks) = (vmake P t α' β' dst st ks) := by subst h1 h2; rfl
def vmk2 (P : Program) (q : Option (TypeId × Nat × Nat)) (n n' : Int) (dst : Option Nat) (st : St) (k : St → Prop) : Prop :=
  match q with
  | some (te, sz, by_) => match zeroC P te with
    | some zc => match toDs zc with
      | some zd => (n = n' ∧ 0 ≤ n ∧ n * by_ ≤ 140737488355328 ∧ n ≤ 4294967296) ∧ k (pushR st dst te sz (List.replicate n.toNat zd))
      | none => False
    | none => False
  | none => False
def vmk3 (zd : Option (List D)) (te : TypeId) (sz by_ : Nat) (n n' : Int) (dst : Option Nat) (st : St) (k : St → Prop) : Prop :=
  match zd with
  | some zd => (n = n' ∧ 0 ≤ n ∧ n * by_ ≤ 140737488355328 ∧ n ≤ 4294967296) ∧ k (pushR st dst te sz (List.replicate n.toNat zd))
  | none => False
@[push_cast] theorem vmake_2 (t : TypeId) (kd kd' : IntKind) (n n' : Int) (dst : Option Nat) (st : St) : ap (vmake P t (.c (.d (.int kd n))) (.c (.d (.int kd' n'))) dst st) (ks) ⟨⟩ = ap (vmk2 P (apT P t) n n' dst st) (ks) ⟨⟩ := by (simp only [vmake, vmk2, ap]; cases apT P t <;> rfl)
@[push_cast] theorem vmk2_s (te : TypeId) (sz b : Nat) (n n' : Int) (dst : Option Nat) (st : St) : ap (vmk2 P (some (te, sz, b)) n n' dst st) (ks) ⟨⟩ = ap (vmk3 ((zeroC P te).bind toDs) te sz b n n' dst st) (ks) ⟨⟩ := by (simp only [vmk2, vmk3, ap]; generalize zeroC P te = z; exact (match z with | none => rfl | some zc => (match toDs zc with | none => rfl | some zd => rfl)))
@[push_cast] theorem vmk3_s (zd : List D) (te : TypeId) (sz b : Nat) (n n' : Int) (dst : Option Nat) (st : St) : ap (vmk3 (some zd) te sz b n n' dst st) (ks) ⟨⟩ = ((n = n' ∧ 0 ≤ n ∧ n * b ≤ 140737488355328 ∧ n ≤ 4294967296) ∧ ks (pushR st dst te sz (List.replicate n.toNat zd))) := (rfl)
@[congr] theorem vlitX_cg {b b' : Bool} {t : TypeId} {n : Nat} {ps ps' : List (Nat × AV)} {dst : Option Nat} {st : St} (h1 : b = b') (h2 : ps = ps') : (vlitX P b t n ps dst st ks) = (vlitX P b' t n ps' dst st ks) := by subst h1 h2; rfl
def vlo2 (q : Option (TypeId × Nat × Nat)) (n : Nat) (ps : List (Nat × AV)) (dst : Option Nat) (st : St) (k : St → Prop) : Prop :=
  match q with
  | some (te, sz, _) => match partsE sz ps 0 with
    | some els => (ps.length = n ∧ n * sz ≤ 16777216) ∧ k (pushR st dst te sz els)
    | none => False
  | none => False
def vlo3 (els : Option (List (List D))) (te : TypeId) (sz : Nat) (c : Prop) (dst : Option Nat) (st : St) (k : St → Prop) : Prop := match els with | some els => c ∧ k (pushR st dst te sz els) | none => False
@[push_cast] theorem vlitX_t (t : TypeId) (n : Nat) (ps : List (Nat × AV)) (dst : Option Nat) (st : St) : ap (vlitX P true t n ps dst st) (ks) ⟨⟩ = ap (vlo2 (apT P t) n ps dst st) (ks) ⟨⟩ := (rfl)
@[push_cast] theorem vlitX_f (t : TypeId) (n : Nat) (ps : List (Nat × AV)) (dst : Option Nat) (st : St) : ap (vlitX P false t n ps dst st) (ks) ⟨⟩ = ap (vlit P t n ps) (fun r => ks (st.put dst r)) ⟨⟩ := (rfl)
@[push_cast] theorem vlo2_s (te : TypeId) (sz b n : Nat) (ps : List (Nat × AV)) (dst : Option Nat) (st : St) : ap (vlo2 (some (te, sz, b)) n ps dst st) (ks) ⟨⟩ = ap (vlo3 (partsE sz ps 0) te sz (ps.length = n ∧ n * sz ≤ 16777216) dst st) (ks) ⟨⟩ := (rfl)
@[push_cast] theorem vlo3_s (els : List (List D)) (te : TypeId) (sz : Nat) (c : Prop) (dst : Option Nat) (st : St) : ap (vlo3 (some els) te sz c dst st) (ks) ⟨⟩ = (c ∧ ks (pushR st dst te sz els)) := (rfl)
@[congr] theorem vapp_cg {t t' : TypeId} {x y : Operand} {α α' β β' : AV} {dst : Option Nat} {st : St} (h1 : α = α') (h2 : β = β') : (vapp P t t' x y α β dst st ks) = (vapp P t t' x y α' β' dst st ks) := by subst h1 h2; rfl
def vap2 (q : Option (TypeId × Nat × Nat)) (t t' : TypeId) (b : Option LB) (st0 : List LB) (β : AV) (i ver : Nat) (dst : Option Nat) (st : St) (k : St → Prop) : Prop :=
  match q with
  | some (te, sz, by_) => match b with
    | some (.row te' sz' els v) => match elsOfN sz st0 β with
      | some (sz'', news) => ((t' = t ∧ te' = te ∧ sz' = sz ∧ v = ver ∧ sz'' = sz) ∧ ((els.length + news.length) * by_ ≤ 140737488355328 ∧ els.length + news.length ≤ 4294967296)) ∧ k (St.put ⟨st.env, st.heap.set i (.row te sz (els ++ news) (ver + 1))⟩ dst (.c (.own i (ver + 1))))
      | none => False
    | _ => False
  | none => False
def vap3 (e : Option (Nat × List (List D))) (te sz by_ : Nat) (els : List (List D)) (c : Prop) (i ver : Nat) (dst : Option Nat) (st : St) (k : St → Prop) : Prop :=
  match e with
  | some (sz'', news) => ((c ∧ sz'' = sz) ∧ ((els.length + news.length) * by_ ≤ 140737488355328 ∧ els.length + news.length ≤ 4294967296)) ∧ k (St.put ⟨st.env, st.heap.set i (.row te sz (els ++ news) (ver + 1))⟩ dst (.c (.own i (ver + 1))))
  | none => False
def van2 (q : Option (TypeId × Nat × Nat)) (t t' : TypeId) (kk : Nat) (y : Operand) (β : AV) (dst : Option Nat) (st : St) (k : St → Prop) : Prop :=
  match q with
  | some (te, sz, by_) => match elsOfN sz st.heap β with
        | some (sz'', news) => ((t' = t ∧ sz'' = sz ∧ y ≠ .tmp kk) ∧ (news.length * by_ ≤ 140737488355328 ∧ news.length ≤ 4294967296)) ∧ k (St.put ⟨pute kk (.c (.own st.heap.length 0)) st.env, st.heap ++ [.row te sz news 1]⟩ dst (.c (.own st.heap.length 1)))
        | none => False
  | none => False
def van3 (e : Option (Nat × List (List D))) (te sz by_ kk : Nat) (c : Prop) (dst : Option Nat) (st : St) (k : St → Prop) : Prop :=
  match e with
  | some (sz'', news) => ((c ∧ sz'' = sz) ∧ (news.length * by_ ≤ 140737488355328 ∧ news.length ≤ 4294967296)) ∧ k (St.put ⟨pute kk (.c (.own st.heap.length 0)) st.env, st.heap ++ [.row te sz news 1]⟩ dst (.c (.own st.heap.length 1)))
  | none => False
attribute [push_cast] Operand.tmp.injEq
@[push_cast] theorem vapp_o (t t' : TypeId) (x y : Operand) (i ver : Nat) (β : AV) (dst : Option Nat) (st : St) : ap (vapp P t t' x y (.c (.own i ver)) β dst st) (ks) ⟨⟩ = ap (vap2 (apT P t) t t' st.heap[i]? st.heap β i ver dst st) (ks) ⟨⟩ := (rfl)
@[push_cast] theorem vap2_s (te te' : TypeId) (sz b : Nat) (t t' : TypeId) (sz' v : Nat) (els : List (List D)) (st0 : List LB) (β : AV) (i ver : Nat) (dst : Option Nat) (st : St) : ap (vap2 (some (te, sz, b)) t t' (some (.row te' sz' els v)) st0 β i ver dst st) (ks) ⟨⟩ = ap (vap3 (elsOfN sz st0 β) te sz b els (t' = t ∧ te' = te ∧ sz' = sz ∧ v = ver) i ver dst st) (ks) ⟨⟩ := by (simp only [vap2, vap3, ap]; cases elsOfN sz st0 β with | none => rfl | some q => simp only [and_assoc])
@[push_cast] theorem vap3_s (sz'' : Nat) (news : List (List D)) (te : TypeId) (sz b : Nat) (els : List (List D)) (c : Prop) (i ver : Nat) (dst : Option Nat) (st : St) : ap (vap3 (some (sz'', news)) te sz b els c i ver dst st) (ks) ⟨⟩ = (((c ∧ sz'' = sz) ∧ ((els.length + news.length) * b ≤ 140737488355328 ∧ els.length + news.length ≤ 4294967296)) ∧ ks (St.put ⟨st.env, st.heap.set i (.row te sz (els ++ news) (ver + 1))⟩ dst (.c (.own i (ver + 1))))) := (rfl)
@[push_cast] theorem vapp_n (t t' : TypeId) (kk : Nat) (y : Operand) (β : AV) (dst : Option Nat) (st : St) : ap (vapp P t t' (.tmp kk) y (.c (.d (.raw (.slice none 0 0)))) β dst st) (ks) ⟨⟩ = ap (van2 (apT P t) t t' kk y β dst st) (ks) ⟨⟩ := (rfl)
@[push_cast] theorem van2_s (te : TypeId) (sz b : Nat) (t t' : TypeId) (kk : Nat) (y : Operand) (β : AV) (dst : Option Nat) (st : St) : ap (van2 (some (te, sz, b)) t t' kk y β dst st) (ks) ⟨⟩ = ap (van3 (elsOfN sz st.heap β) te sz b kk (t' = t ∧ y ≠ .tmp kk) dst st) (ks) ⟨⟩ := by (simp only [van2, van3, ap]; cases elsOfN sz st.heap β with | none => rfl | some q => (congr 2; apply propext; constructor <;> (rintro ⟨⟨_, _, _⟩, _⟩ <;> simp_all)))
@[push_cast] theorem van3_s (sz'' : Nat) (news : List (List D)) (te : TypeId) (sz b kk : Nat) (c : Prop) (dst : Option Nat) (st : St) : ap (van3 (some (sz'', news)) te sz b kk c dst st) (ks) ⟨⟩ = (((c ∧ sz'' = sz) ∧ (news.length * b ≤ 140737488355328 ∧ news.length ≤ 4294967296)) ∧ ks (St.put ⟨pute kk (.c (.own st.heap.length 0)) st.env, st.heap ++ [.row te sz news 1]⟩ dst (.c (.own st.heap.length 1)))) := (rfl)
theorem Kfit_int (k : IntKind) (n : Int) : Kfit (.int k) (.int k n) = inK k n := by
  simp [Kfit, Lit.wf, inK]
theorem Kfit_str (l : List UInt8) : Kfit .str (.str l) = (l.length ≤ 9223372036854775807) := rfl
theorem keyC_agg (c c' : C) (r : List C) : keyC (.agg (c :: c' :: r)) = keyCs (c :: c' :: r) := (rfl)
theorem keyCs_i (k : IntKind) (n : Int) (r : List C) : keyCs (.d (.int k n) :: r) = (keyCs r).map (.int k n :: ·) := by
  simp only [keyCs, keyC1]; cases keyCs r <;> rfl
theorem keyCs_s (l : List UInt8) (r : List C) : keyCs (.d (.str l) :: r) = (keyCs r).map (.str l :: ·) := by
  simp only [keyCs, keyC1]; cases keyCs r <;> rfl
theorem erase_map {α β : Type} (f : α → β) (l : List α) (i : Nat) : (l.map f).eraseIdx i = (l.eraseIdx i).map f := (ChangeMaps.map_eraseIdx f l i).symm
def mapOfB (b : Option LB) : Option (List Kc × Mp) := match b with | some (.mp sh m) => some (sh, m) | _ => none
@[push_cast] theorem mapOfB_s (sh : List Kc) (m : Mp) : mapOfB (some (.mp sh m)) = some (sh, m) := (rfl)
@[push_cast] theorem mapOf_d (sh : List Kc) (m : Mp) : mapOf h (.c (.d (.mp sh m))) = some (sh, m) := (rfl)
@[push_cast] theorem mapOf_o (i : Nat) : mapOf h (.c (.own i 0)) = mapOfB h[i]? := (rfl)
@[push_cast] theorem keyC_i (kd : IntKind) (n : Int) : keyC (.c (.d (.int kd n))) = some [.int kd n] := (rfl)
@[push_cast] theorem keyC_s (s : List UInt8) : keyC (.c (.d (.str s))) = some [.str s] := (rfl)
@[push_cast] theorem keyCs_n  : keyCs [] = some [] := (rfl)
@[push_cast] theorem Kfits_n  : Kfits [] [] = True := (rfl)
@[push_cast] theorem Kfits_c (a : Kc) (r : List Kc) (x : KD) (xs : List KD) : Kfits (a :: r) (x :: xs) = (Kfit a x ∧ Kfits r xs) := (rfl)
@[push_cast] theorem keyAV_1 (x : KD) : keyAV [x] = .c (kdC x) := (rfl)
@[push_cast] theorem keyAV_2 (x y : KD) (r : List KD) : keyAV (x :: y :: r) = .agg (kdC x :: kdC y :: r.map kdC) := (rfl)
@[push_cast] theorem kdC_i (kd : IntKind) (n : Int) : kdC (.int kd n) = .d (.int kd n) := (rfl)
@[push_cast] theorem kdC_s (s : List UInt8) : kdC (.str s) = .d (.str s) := (rfl)
attribute [push_cast] Kfit_int Kfit_str keyC_agg keyCs_i keyCs_s erase_map
def vlook2 (P : Program) (t : TypeId) (q : Option (List Kc × Mp)) (r : Option (List KD)) (ok : Bool) (k : AV → Prop) : Prop :=
  match q, r with
  | some (sh, m), some ks => (MapT P t sh ∧ Kfits sh ks) ∧ k (if ok then .tup [oI .i64 (mget m ks), oB (mhas m ks)] else oI .i64 (mget m ks))
  | _, _ => False
def ventry2 (q : Option LB) (k : AV → Prop) : Prop := match q with | some (.it _ (some kv)) => k (.tup [keyAV kv.1, oI .i64 kv.2]) | _ => False
def vmkmap2 (q : Option (List Kc)) (dst : Option Nat) (st : St) (k : St → Prop) : Prop := match q with | some sh => k (St.put ⟨st.env, st.heap ++ [.mp sh []]⟩ dst (.c (.own st.heap.length 0))) | none => False
def vment2 (P : Program) (t : TypeId) (q : Option LB) (r : Option (List KD)) (i : Nat) (dst : Option Nat) (st : St) (k : St → Prop) : Prop :=
  match q, r with
  | some (.mp sh m), some ks => (MapT P t sh ∧ Kfits sh ks) ∧ k (St.put ⟨st.env, st.heap.set i (.mp sh (mpre m ks))⟩ dst (.tup [oI .i64 (mget m ks), oI .i64 (midx m ks)]))
  | _, _ => False
def vest2 (q : Option LB) (i : Nat) (n v : Int) (st : St) (k : St → Prop) : Prop := match q with | some (.mp sh m) => (0 ≤ n ∧ n < m.length) ∧ k ⟨st.env, st.heap.set i (.mp sh (mset m n.toNat v))⟩ | _ => False
def vmup2 (P : Program) (t : TypeId) (q : Option LB) (r : Option (List KD)) (i : Nat) (v : Int) (st : St) (k : St → Prop) : Prop :=
  match q, r with
  | some (.mp sh m), some ks => (MapT P t sh ∧ Kfits sh ks) ∧ k ⟨st.env, st.heap.set i (.mp sh (mput m ks v))⟩
  | _, _ => False
def vrangeO (P : Program) (t : TypeId) (q : Option LB) (i : Nat) (dst : Option Nat) (st : St) (k : St → Prop) : Prop := match q with | some (.mp sh m) => MapT P t sh ∧ k (St.put ⟨st.env, st.heap.set i .dead ++ [.it m none]⟩ dst (.c (.loc st.heap.length 0))) | _ => False
def vnextS2 (q : Option LB) (j : Nat) (dst : Option Nat) (st : St) (k : St → Prop) : Prop :=
  match q with
  | some (.sit s pos) => (s.length ≤ pos → k (st.put dst (.tup [oB false]))) ∧ (pos < s.length → k (St.put ⟨st.env, st.heap.set j (.sit s (pos + (Lib.decodeL (s.drop pos)).2))⟩ dst (.tup [oB true, oI .i64 pos, oI .i32 (Lib.decodeL (s.drop pos)).1])))
  | _ => False
def vnext2 (q : Option LB) (j : Nat) (dst : Option Nat) (st : St) (k : St → Prop) : Prop :=
  match q with
  | some (.it todo _) => (todo = [] → k (st.put dst (.tup [oB false]))) ∧ ∀ (i : Nat) (hi : i < todo.length), k (St.put ⟨st.env, st.heap.set j (.it (todo.eraseIdx i) (some todo[i]))⟩ dst (.tup [oB true, keyAV todo[i].1, oI .i64 todo[i].2]))
  | _ => False
@[push_cast] theorem vlook_2 (t : TypeId) (α β : AV) (ok : Bool) : ap (vlook P h t α β ok) (k) ⟨⟩ = ap (vlook2 P t (mapOf h α) (keyC β) ok) (k) ⟨⟩ := (rfl)
@[push_cast] theorem vlook2_f (t : TypeId) (sh : List Kc) (m : Mp) (ks : List KD) : ap (vlook2 P t (some (sh, m)) (some ks) false) (k) ⟨⟩ = ((MapT P t sh ∧ Kfits sh ks) ∧ k (.c (.d (.int .i64 (mget m ks))))) := (rfl)
@[push_cast] theorem vlook2_t (t : TypeId) (sh : List Kc) (m : Mp) (ks : List KD) : ap (vlook2 P t (some (sh, m)) (some ks) true) (k) ⟨⟩ = ((MapT P t sh ∧ Kfits sh ks) ∧ k (.tup [.c (.d (.int .i64 (mget m ks))), .c (.d (.bool (mhas m ks)))])) := (rfl)
@[push_cast] theorem ventry_2 (j : Nat) : ap (ventry h (.c (.loc j 0))) (k) ⟨⟩ = ap (ventry2 h[j]?) (k) ⟨⟩ := (rfl)
@[push_cast] theorem ventry2_s (todo : Mp) (kv : List KD × Int) : ap (ventry2 (some (.it todo (some kv)))) (k) ⟨⟩ = k (.tup [keyAV kv.1, .c (.d (.int .i64 kv.2))]) := (rfl)
@[push_cast] theorem vmkmap_2 (t : TypeId) (dst : Option Nat) (st : St) : ap (vmkmap P t dst st) (ks) ⟨⟩ = ap (vmkmap2 (mapSh P t) dst st) (ks) ⟨⟩ := (rfl)
@[push_cast] theorem vmkmap2_s (sh : List Kc) (dst : Option Nat) (st : St) : ap (vmkmap2 (some sh) dst st) (ks) ⟨⟩ = ks (St.put ⟨st.env, st.heap ++ [.mp sh []]⟩ dst (.c (.own st.heap.length 0))) := (rfl)
@[push_cast] theorem vment_2 (t : TypeId) (i : Nat) (β : AV) (dst : Option Nat) (st : St) : ap (vment P t (.c (.own i 0)) β dst st) (ks) ⟨⟩ = ap (vment2 P t st.heap[i]? (keyC β) i dst st) (ks) ⟨⟩ := by (unfold ap vment vment2; generalize keyC β = r; cases r with | none => (simp only []; cases st.heap[i]? with | none => rfl | some b => (cases b <;> rfl)) | some xs => (simp only []; generalize st.heap[i]? = q; cases q with | none => rfl | some b => (cases b <;> rfl)))
@[push_cast] theorem vment2_s (t : TypeId) (sh : List Kc) (m : Mp) (xs : List KD) (i : Nat) (dst : Option Nat) (st : St) : ap (vment2 P t (some (.mp sh m)) (some xs) i dst st) (ks) ⟨⟩ = ((MapT P t sh ∧ Kfits sh xs) ∧ ks (St.put ⟨st.env, st.heap.set i (.mp sh (mpre m xs))⟩ dst (.tup [.c (.d (.int .i64 (mget m xs))), .c (.d (.int .i64 (midx m xs)))]))) := (rfl)
@[push_cast] theorem vest_2 (i : Nat) (kd : IntKind) (n v : Int) (st : St) : ap (vest (.c (.own i 0)) (.c (.d (.int kd n))) (.c (.d (.int .i64 v))) st) (ks) ⟨⟩ = ap (vest2 st.heap[i]? i n v st) (ks) ⟨⟩ := (rfl)
@[push_cast] theorem vest2_s (sh : List Kc) (m : Mp) (i : Nat) (n v : Int) (st : St) : ap (vest2 (some (.mp sh m)) i n v st) (ks) ⟨⟩ = ((0 ≤ n ∧ n < m.length) ∧ ks ⟨st.env, st.heap.set i (.mp sh (mset m n.toNat v))⟩) := (rfl)
@[push_cast] theorem vmup_2 (t : TypeId) (i : Nat) (β : AV) (v : Int) (st : St) : ap (vmup P t (.c (.own i 0)) β (.c (.d (.int .i64 v))) st) (ks) ⟨⟩ = ap (vmup2 P t st.heap[i]? (keyC β) i v st) (ks) ⟨⟩ := by (unfold ap vmup vmup2; generalize keyC β = r; cases r with | none => (simp only []; cases st.heap[i]? with | none => rfl | some b => (cases b <;> rfl)) | some xs => (simp only []; generalize st.heap[i]? = q; cases q with | none => rfl | some b => (cases b <;> rfl)))
@[push_cast] theorem vmup2_s (t : TypeId) (sh : List Kc) (m : Mp) (xs : List KD) (i : Nat) (v : Int) (st : St) : ap (vmup2 P t (some (.mp sh m)) (some xs) i v st) (ks) ⟨⟩ = ((MapT P t sh ∧ Kfits sh xs) ∧ ks ⟨st.env, st.heap.set i (.mp sh (mput m xs v))⟩) := (rfl)
@[push_cast] theorem vrange_d (t : TypeId) (sh : List Kc) (m : Mp) (dst : Option Nat) (st : St) : ap (vrange P t (.c (.d (.mp sh m))) dst st) (ks) ⟨⟩ = (MapT P t sh ∧ ks (St.put ⟨st.env, st.heap ++ [.it m none]⟩ dst (.c (.loc st.heap.length 0)))) := (rfl)
@[push_cast] theorem vrange_o (t : TypeId) (i : Nat) (dst : Option Nat) (st : St) : ap (vrange P t (.c (.own i 0)) dst st) (ks) ⟨⟩ = ap (vrangeO P t st.heap[i]? i dst st) (ks) ⟨⟩ := (rfl)
@[push_cast] theorem vrangeO_s (t : TypeId) (sh : List Kc) (m : Mp) (i : Nat) (dst : Option Nat) (st : St) : ap (vrangeO P t (some (.mp sh m)) i dst st) (ks) ⟨⟩ = (MapT P t sh ∧ ks (St.put ⟨st.env, st.heap.set i .dead ++ [.it m none]⟩ dst (.c (.loc st.heap.length 0)))) := (rfl)
@[push_cast] theorem vrange_s (t : TypeId) (s : List UInt8) (dst : Option Nat) (st : St) : ap (vrange P t (.c (.d (.str s))) dst st) (ks) ⟨⟩ = (isS P t ∧ ks (St.put ⟨st.env, st.heap ++ [.sit s 0]⟩ dst (.c (.loc st.heap.length 0)))) := (rfl)
@[push_cast] theorem vnextS_2 (j : Nat) (dst : Option Nat) (st : St) : ap (vnextS (.c (.loc j 0)) dst st) (ks) ⟨⟩ = ap (vnextS2 st.heap[j]? j dst st) (ks) ⟨⟩ := (rfl)
@[push_cast] theorem vnextS2_s (s : List UInt8) (pos j : Nat) (dst : Option Nat) (st : St) : ap (vnextS2 (some (.sit s pos)) j dst st) (ks) ⟨⟩ = ((s.length ≤ pos → ks (St.put st dst (.tup [.c (.d (.bool false))]))) ∧ (pos < s.length → ks (St.put ⟨st.env, st.heap.set j (.sit s (pos + (Lib.decodeL (s.drop pos)).2))⟩ dst (.tup [.c (.d (.bool true)), .c (.d (.int .i64 pos)), .c (.d (.int .i32 (Lib.decodeL (s.drop pos)).1))])))) := (rfl)
@[push_cast] theorem vnext_2 (j : Nat) (dst : Option Nat) (st : St) : ap (vnext (.c (.loc j 0)) dst st) (ks) ⟨⟩ = ap (vnext2 st.heap[j]? j dst st) (ks) ⟨⟩ := (rfl)
@[push_cast] theorem vnext2_s (todo : Mp) (last : Option (List KD × Int)) (j : Nat) (dst : Option Nat) (st : St) : ap (vnext2 (some (.it todo last)) j dst st) (ks) ⟨⟩ = ((todo = [] → ks (St.put st dst (.tup [.c (.d (.bool false))]))) ∧ (∀ (i : Nat) (hi : i < todo.length), ks (St.put ⟨st.env, st.heap.set j (.it (todo.eraseIdx i) (some todo[i]))⟩ dst (.tup [.c (.d (.bool true)), keyAV todo[i].1, .c (.d (.int .i64 todo[i].2))])))) := (rfl)
@[push_cast] theorem put_n (st : St) (α : AV) : St.put st none α = st := (rfl)
@[push_cast] theorem put_s (env : Env) (h : List LB) (t : Nat) (α : AV) : St.put ⟨env, h⟩ (some t) α = ⟨pute t (α) env, h⟩ := (rfl)
@[push_cast] theorem putE_n (env : Env) (α : AV) : putE none α env = env := (rfl)
@[push_cast] theorem putE_s (env : Env) (t : Nat) (α : AV) : putE (some t) α env = pute t (α) env := (rfl)
@[push_cast] theorem lk_e (t : Nat) (env : Env) : lk t env = g1 (g2 env (t / 8)) (t % 8) := (rfl)
@[push_cast] theorem pute_e (t : Nat) (α : AV) (env : Env) : pute t α env = s2 env (t / 8) (s1 (g2 env (t / 8)) (t % 8) α) := (rfl)
attribute [push_cast] g1 g2 s1 s2
@[push_cast] theorem ev_t (Γ : List (Nat × List D)) (env : Env) (t : Nat) : ev Γ env (.tmp t) = lk t env := (rfl)
@[push_cast] theorem ev_g (Γ : List (Nat × List D)) (env : Env) (g : Nat) : ev Γ env (.global g) = lkG g Γ := (rfl)
@[push_cast] theorem ev_f (Γ : List (Nat × List D)) (env : Env) (f : Nat) : ev Γ env (.func f) = .c (.clo f []) := (rfl)
@[push_cast] theorem ev_ci (Γ : List (Nat × List D)) (env : Env) (kd : IntKind) (n : Int) : ev Γ env (.const (.int kd n)) = .c (.d (.int kd n)) := (rfl)
@[push_cast] theorem ev_cb (Γ : List (Nat × List D)) (env : Env) (b : Bool) : ev Γ env (.const (.bool b)) = .c (.d (.bool b)) := (rfl)
@[push_cast] theorem ev_cm (Γ : List (Nat × List D)) (env : Env) : ev Γ env (.const (.map none)) = .c (.d (.raw (.map none))) := (rfl)
@[push_cast] theorem ev_cs (Γ : List (Nat × List D)) (env : Env) (l : List UInt8) : ev Γ env (.const (.string ⟨l.toArray⟩)) = .c (.d (.str l)) := (rfl)
@[push_cast] theorem ev_cn (Γ : List (Nat × List D)) (env : Env) : ev Γ env (.const (.slice none 0 0)) = .c (.d (.raw (.slice none 0 0))) := (rfl)
attribute [push_cast] lkG envOf rsAV rvAV List.forall_mem_cons List.not_mem_nil List.mem_cons
@[push_cast] theorem fitsV_e (st st' : St) : fitsV pm st st' = (subV st.heap st'.heap.length st'.env st.env ∧ preH st.heap st'.heap ∧ pm.n0 ≤ st'.heap.length ∧ lowEs st'.heap.length st'.env ∧ lowHs st'.heap.length st'.heap) := (rfl)
def slR (h : List LB) (n : Nat) (a b : AV) : Prop := a = .any ∨ a = b ∨ frz h n a b
@[push_cast] theorem frame_n (env : Env) : frame [] env [] = [] := by (simp [frame])
@[push_cast] theorem frame_k (t : Nat) (r : List Nat) (env : Env) : frame (t :: r) env [] = pute t (lk t env) (frame r env []) := by (rw [frame])
@[push_cast] theorem frame_v (t : Nat) (α : AV) (keep : List Nat) (env : Env) (vs : List (Nat × AV)) : frame keep env ((t, α) :: vs) = pute t α (frame keep env vs) := by (rw [frame])
@[push_cast] theorem subL_n (n : Nat) (m : List AV) : subL h n [] m = True := by (cases m <;> rfl)
@[push_cast] theorem subL_c (n : Nat) (a : AV) (r : List AV) : subL h n (a :: r) [] = (a = .any ∧ subL h n r []) := (rfl)
@[push_cast] theorem subL_cc (n : Nat) (a b : AV) (r s : List AV) : subL h n (a :: r) (b :: s) = (slR h n a b ∧ subL h n r s) := (rfl)
@[push_cast] theorem subV_n (n : Nat) (m : Env) : subV h n [] m = True := by (cases m <;> rfl)
@[push_cast] theorem subV_c (n : Nat) (c : List AV) (r : Env) : subV h n (c :: r) [] = (subL h n c [] ∧ subV h n r []) := (rfl)
@[push_cast] theorem subV_cc (n : Nat) (c d : List AV) (r s : Env) : subV h n (c :: r) (d :: s) = (subL h n c d ∧ subV h n r s) := (rfl)
@[push_cast] theorem slR_any (n : Nat) (b : AV) : slR h n .any b = True := by (simp [slR])
@[push_cast] theorem slR_agg (n : Nat) (cs : List C) (b : AV) : slR h n (.agg cs) b = (AV.agg cs = b) := by (simp [slR, frz])
@[push_cast] theorem slR_tup (n : Nat) (cs : List AV) (b : AV) : slR h n (.tup cs) b = (AV.tup cs = b) := by (simp [slR, frz])
@[push_cast] theorem slR_di (n : Nat) (k : IntKind) (n0 : Int) (b : AV) : slR h n (.c (.d (.int k n0))) b = (AV.c (.d (.int k n0)) = b) := by (simp [slR, frz])
@[push_cast] theorem slR_db (n : Nat) (b0 : Bool) (b : AV) : slR h n (.c (.d (.bool b0))) b = (AV.c (.d (.bool b0)) = b) := by (simp [slR, frz])
@[push_cast] theorem slR_ds (n : Nat) (s0 : List UInt8) (b : AV) : slR h n (.c (.d (.str s0))) b = (AV.c (.d (.str s0)) = b) := by (simp [slR, frz])
@[push_cast] theorem slR_dr (n : Nat) (v0 : Value) (b : AV) : slR h n (.c (.d (.raw v0))) b = (AV.c (.d (.raw v0)) = b) := by (simp [slR, frz])
@[push_cast] theorem slR_j (n : Nat)  (z : AV) : slR h n (.c (.junk)) z = (AV.c (.junk) = z) := by (simp [slR, frz])
@[push_cast] theorem slR_loc (n : Nat) (i o : Nat) (z : AV) : slR h n (.c (.loc i o)) z = (AV.c (.loc i o) = z) := by (simp [slR, frz])
@[push_cast] theorem slR_own (n : Nat) (i o : Nat) (z : AV) : slR h n (.c (.own i o)) z = (AV.c (.own i o) = z) := by (simp [slR, frz])
@[push_cast] theorem slR_sub (n : Nat) (i a b c d : Nat) (z : AV) : slR h n (.c (.sub i a b c d)) z = (AV.c (.sub i a b c d) = z) := by (simp [slR, frz])
@[push_cast] theorem slR_row (n : Nat) (i a b c d : Nat) (z : AV) : slR h n (.c (.rowp i a b c d)) z = (AV.c (.rowp i a b c d) = z) := by (simp [slR, frz])
@[push_cast] theorem slR_ptr (n : Nat) (cs : List D) (z : AV) : slR h n (.c (.ptr cs)) z = (AV.c (.ptr cs) = z) := by (simp [slR, frz])
@[push_cast] theorem slR_bor (n : Nat) (a : Nat) (els : List (List D)) (z : AV) : slR h n (.c (.bor a els)) z = (AV.c (.bor a els) = z) := by (simp [slR, frz])
@[push_cast] theorem slR_fn (n : Nat) (R : Vw → Value → Prop) (z : AV) : slR h n (.c (.fn R)) z = (AV.c (.fn R) = z) := by (simp [slR, frz])
@[push_cast] theorem slR_clo (n : Nat) (f : FuncId) (is : List Nat) (z : AV) : slR h n (.c (.clo f is)) z = (AV.c (.clo f is) = z) := by (simp [slR, frz])
def frO (q : Option LB) (ver sz : Nat) (els : List (List D)) : Prop := match q with | some (.row _ sz' els' v) => (v = ver ∧ sz' = sz) ∧ els' = els | _ => False
@[push_cast] theorem frO_s (t : TypeId) (sz' v ver sz : Nat) (els els' : List (List D)) : frO (some (.row t sz' els' v)) ver sz els = ((v = ver ∧ sz' = sz) ∧ els' = els) := (rfl)
@[push_cast] theorem slR_ll (n sz sz' : Nat) (els els' : List (List D)) : slR h n (.c (.d (.lst sz els))) (.c (.d (.lst sz' els'))) = (sz = sz' ∧ els = els') := by (simp [slR, frz])
@[push_cast] theorem slR_lo (n sz i ver : Nat) (els : List (List D)) : slR h n (.c (.d (.lst sz els))) (.c (.own i ver)) = (n ≤ i ∧ frO h[i]? ver sz els) := by (simp only [slR, frz, frO]; simp only [reduceCtorEq, AV.c.injEq, false_or]; rfl)
@[push_cast] theorem slR_ln (n sz : Nat) (els : List (List D)) : slR h n (.c (.d (.lst sz els))) (.c (.d (.raw (.slice none 0 0)))) = (els = []) := by (simp [slR, frz])
@[push_cast] theorem lowL_n (n : Nat) : lowL n [] = True := (rfl)
@[push_cast] theorem lowL_c (n : Nat) (α : AV) (r : List AV) : lowL n (α :: r) = (α.low n ∧ lowL n r) := (rfl)
@[push_cast] theorem preH_n  : preH h [] = True := by (cases h <;> rfl)
@[push_cast] theorem preH_c (b b' : LB) (r r' : List LB) : preH (b :: r) (b' :: r') = (b = b' ∧ preH r r') := (rfl)
@[push_cast] theorem lowEs_n (n : Nat) : lowEs n [] = True := (rfl)
@[push_cast] theorem lowEs_c (n : Nat) (c : List AV) (r : Env) : lowEs n (c :: r) = (lowL n c ∧ lowEs n r) := (rfl)
@[push_cast] theorem lowCs_n (n : Nat) : lowCs n [] = True := (rfl)
@[push_cast] theorem lowCs_c (n : Nat) (c : C) (r : List C) : lowCs n (c :: r) = (c.low n ∧ lowCs n r) := (rfl)
@[push_cast] theorem lowCs_m (n : Nat) (l : List D) : lowCs n (List.map C.d l) = True := by (induction l with | nil => rfl | cons d l ih => exact eq_true ⟨trivial, of_eq_true ih⟩)
@[push_cast] theorem lowHs_n (n : Nat) : lowHs n [] = True := (rfl)
@[push_cast] theorem lowHs_b (n : Nat) (t : TypeId) (cs : List C) (r : List LB) : lowHs n (.box t cs :: r) = (lowCs n cs ∧ lowHs n r) := (rfl)
@[push_cast] theorem lowHs_r (n : Nat) (t : TypeId) (sz v : Nat) (els : List (List D)) (r : List LB) : lowHs n (.row t sz els v :: r) = lowHs n r := (rfl)
@[push_cast] theorem lowHs_o (n : Nat) (t : TypeId) (sz : Nat) (els : List (List D)) (kk : Nat) (cs : List C) (v : Nat) (r : List LB) : lowHs n (.opn t sz els kk cs v :: r) = (lowCs n cs ∧ lowHs n r) := (rfl)
@[push_cast] theorem lowHs_d (n : Nat) (r : List LB) : lowHs n (.dead :: r) = lowHs n r := (rfl)
@[push_cast] theorem AVl_any (n : Nat) : AV.low n .any = True := (rfl)
@[push_cast] theorem AVl_agg (n : Nat) (cs : List C) : AV.low n (.agg cs) = lowCs n cs := by (apply propext; exact ⟨fun h => (by induction cs with | nil => trivial | cons c r ih => exact ⟨h c (by simp), ih fun c hc => h c (by simp [hc])⟩), lowCs_ok cs⟩)
@[push_cast] theorem Cl_d (n : Nat) (x : D) : C.low n (.d x) = True := (rfl)
@[push_cast] theorem AVl_d (n : Nat) (x : D) : AV.low n (.c (.d x)) = True := (rfl)
@[push_cast] theorem Cl_j (n : Nat)  : C.low n (.junk) = True := (rfl)
@[push_cast] theorem AVl_j (n : Nat)  : AV.low n (.c (.junk)) = True := (rfl)
@[push_cast] theorem Cl_loc (n : Nat) (i o : Nat) : C.low n (.loc i o) = (i < n) := (rfl)
@[push_cast] theorem AVl_loc (n : Nat) (i o : Nat) : AV.low n (.c (.loc i o)) = (i < n) := (rfl)
@[push_cast] theorem Cl_own (n : Nat) (i o : Nat) : C.low n (.own i o) = (i < n) := (rfl)
@[push_cast] theorem AVl_own (n : Nat) (i o : Nat) : AV.low n (.c (.own i o)) = (i < n) := (rfl)
@[push_cast] theorem Cl_sub (n : Nat) (i a b c d : Nat) : C.low n (.sub i a b c d) = (i < n) := (rfl)
@[push_cast] theorem AVl_sub (n : Nat) (i a b c d : Nat) : AV.low n (.c (.sub i a b c d)) = (i < n) := (rfl)
@[push_cast] theorem Cl_row (n : Nat) (i a b c d : Nat) : C.low n (.rowp i a b c d) = (i < n) := (rfl)
@[push_cast] theorem AVl_row (n : Nat) (i a b c d : Nat) : AV.low n (.c (.rowp i a b c d)) = (i < n) := (rfl)
@[push_cast] theorem Cl_ptr (n : Nat) (cs : List D) : C.low n (.ptr cs) = True := (rfl)
@[push_cast] theorem AVl_ptr (n : Nat) (cs : List D) : AV.low n (.c (.ptr cs)) = True := (rfl)
@[push_cast] theorem Cl_bor (n : Nat) (a : Nat) (els : List (List D)) : C.low n (.bor a els) = True := (rfl)
@[push_cast] theorem AVl_bor (n : Nat) (a : Nat) (els : List (List D)) : AV.low n (.c (.bor a els)) = True := (rfl)
@[push_cast] theorem Cl_fn (n : Nat) (R : Vw → Value → Prop) : C.low n (.fn R) = True := (rfl)
@[push_cast] theorem AVl_fn (n : Nat) (R : Vw → Value → Prop) : AV.low n (.c (.fn R)) = True := (rfl)
@[push_cast] theorem Cl_clo (n : Nat) (f : FuncId) (is : List Nat) : C.low n (.clo f is) = (∀ i ∈ is, i < n) := (rfl)
@[push_cast] theorem AVl_clo (n : Nat) (f : FuncId) (is : List Nat) : AV.low n (.c (.clo f is)) = (∀ i ∈ is, i < n) := (rfl)
@[push_cast] theorem slR_dm (n : Nat) (sh : List Kc) (m : Mp) (b : AV) : slR h n (.c (.d (.mp sh m))) b = (AV.c (.d (.mp sh m)) = b) := by (simp [slR, frz])
@[push_cast] theorem lowHs_m (n : Nat) (sh : List Kc) (m : Mp) (r : List LB) : lowHs n (.mp sh m :: r) = lowHs n r := (rfl)
@[push_cast] theorem lowHs_si (n : Nat) (s : List UInt8) (p : Nat) (r : List LB) : lowHs n (.sit s p :: r) = lowHs n r := (rfl)
@[push_cast] theorem lowHs_i (n : Nat) (m : Mp) (q : Option (List KD × Int)) (r : List LB) : lowHs n (.it m q :: r) = lowHs n r := (rfl)
end
end Go.Ax
