/- Part of a proof about this program; no condition of its own. -/
import Derived.Test.YtanbfhnmklhjiaaGreatDoorP01
set_option linter.all false
/-
  The operations that leave memory alone: moves, numbers, strings, tests, lengths, indices, fields, loads. No condition.
-/
namespace Go.Ax
open Go Go.RowKit
variable {P : Program} {h : List LB} {ρ : Operand → AV} {dst : Option Tmp} {ty : TypeId} {p : String} {af : Array Edge} {gd : Option (Nat × Bool)}
theorem s_move (x : Operand) : Still P h ⟨dst, .move x, ty, p, af, gd⟩ ρ (ρ x) :=
  fun _ _ _ a _ ho => ⟨a.eval x, rfl, ho x (by simp [Op.operands])⟩
theorem s_assign (x : Operand) : Still P h ⟨dst, .assign x, ty, p, af, gd⟩ ρ (ρ x) :=
  fun _ _ _ a _ ho => ⟨a.eval x, rfl, ho x (by simp [Op.operands])⟩
theorem s_pick_t (c x y : Operand) (hc : ρ c = .c (.d (.bool true))) : Still P h ⟨dst, .pick c x y, ty, p, af, gd⟩ ρ (ρ x) := by
  intro cx G w a s ho
  have h1 := ar_bool (hc ▸ ho c (by simp [Op.operands]))
  exact ⟨a.eval x, by simp only [execOp, h1, asBool]; rfl, ho x (by simp [Op.operands])⟩
theorem s_pick_f (c x y : Operand) (hc : ρ c = .c (.d (.bool false))) : Still P h ⟨dst, .pick c x y, ty, p, af, gd⟩ ρ (ρ y) := by
  intro cx G w a s ho
  have h1 := ar_bool (hc ▸ ho c (by simp [Op.operands]))
  exact ⟨a.eval y, by simp only [execOp, h1, asBool]; rfl, ho y (by simp [Op.operands])⟩
/-! ### numbers -/
def icmp : BinOp → Int → Int → Option Bool
  | .eql, m, n => some (decide (m = n))
  | .neq, m, n => some (decide (m ≠ n))
  | .lss, m, n => some (decide (m < n))
  | .leq, m, n => some (decide (m ≤ n))
  | .gtr, m, n => some (decide (n < m))
  | .geq, m, n => some (decide (n ≤ m))
  | _, _, _ => none
theorem s_icmp (op : BinOp) (t t' : TypeId) (x y : Operand) {k : IntKind} {m n : Int} {b : Bool} (hx : ρ x = .c (.d (.int k m))) (hy : ρ y = .c (.d (.int k n))) (hb : icmp op m n = some b) :
    Still P h ⟨dst, .binOp op t x y t', ty, p, af, gd⟩ ρ (.c (.d (.bool b))) := by
  intro cx G w a s ho
  have h1 := ar_int (hx ▸ ho x (by simp [Op.operands]))
  have h2 := ar_int (hy ▸ ho y (by simp [Op.operands]))
  refine ⟨.bool b, ?_, Dr.bool _⟩
  have e : (m == n) = decide (m = n) := by rw [Bool.eq_iff_iff]; simp
  cases op <;> simp only [icmp, Option.some.injEq, reduceCtorEq] at hb <;> subst hb <;>
    simp [execOp, h1, h2, eqGuard, binOp, Op.intCmp, bne, e]
def iar : BinOp → Int → Int → Option Int
  | .add, m, n => some (m + n)
  | .sub, m, n => some (m - n)
  | .mul, m, n => some (m * n)
  | _, _, _ => none
theorem s_iar (op : BinOp) (t t' : TypeId) (x y : Operand) {k : IntKind} {m n z : Int} (hx : ρ x = .c (.d (.int k m))) (hy : ρ y = .c (.d (.int k n))) (hb : iar op m n = some z) (hw : k.wrap z = z) :
    Still P h ⟨dst, .binOp op t x y t', ty, p, af, gd⟩ ρ (.c (.d (.int k z))) := by
  intro cx G w a s ho
  have h1 := ar_int (hx ▸ ho x (by simp [Op.operands]))
  have h2 := ar_int (hy ▸ ho y (by simp [Op.operands]))
  refine ⟨.int k z, ?_, Dr.int _ _⟩
  cases op <;> simp only [iar, Option.some.injEq, reduceCtorEq] at hb <;> subst hb <;>
    simp [execOp, h1, h2, eqGuard, binOp, Op.intArith, hw]
theorem s_quo (t t' : TypeId) (x y : Operand) {m n : Int} (hx : ρ x = .c (.d (.int .i64 m))) (hy : ρ y = .c (.d (.int .i64 n))) (h0 : 0 ≤ m) (h1 : m ≤ 9223372036854775807) (h2 : 0 < n) :
    Still P h ⟨dst, .binOp .quo t x y t', ty, p, af, gd⟩ ρ (.c (.d (.int .i64 (m / n)))) := by
  intro cx G w a s ho
  have e1 := ar_int (hx ▸ ho x (by simp [Op.operands]))
  have e2 := ar_int (hy ▸ ho y (by simp [Op.operands]))
  refine ⟨.int .i64 (m / n), ?_, Dr.int _ _⟩
  have hq := IntWalk.i64_quo m n ⟨h0, h1, h2⟩
  have hn : n ≠ 0 := by omega
  simp [execOp, e1, e2, eqGuard, binOp, Op.intDiv, hn, hq]
theorem s_rem (t t' : TypeId) (x y : Operand) {k : IntKind} {m n : Int} (hx : ρ x = .c (.d (.int k m))) (hy : ρ y = .c (.d (.int k n))) (h0 : 0 ≤ m) (h2 : 0 < n) :
    Still P h ⟨dst, .binOp .rem t x y t', ty, p, af, gd⟩ ρ (.c (.d (.int k (m % n)))) := by
  intro cx G w a s ho
  have e1 := ar_int (hx ▸ ho x (by simp [Op.operands]))
  have e2 := ar_int (hy ▸ ho y (by simp [Op.operands]))
  refine ⟨.int k (m % n), ?_, Dr.int _ _⟩
  have hq := IntWalk.rem_in m n h0
  have hn : n ≠ 0 := by omega
  simp [execOp, e1, e2, eqGuard, binOp, Op.intDiv, hn, hq]
theorem s_neg (t : TypeId) (x : Operand) {k : IntKind} {m : Int} (hx : ρ x = .c (.d (.int k m))) (hw : k.wrap (0 - m) = -m) : Still P h ⟨dst, .unOp .neg t x, ty, p, af, gd⟩ ρ (.c (.d (.int k (-m)))) := by
  intro cx G w a s ho
  have h1 := ar_int (hx ▸ ho x (by simp [Op.operands]))
  refine ⟨.int k (-m), ?_, Dr.int _ _⟩
  simp only [execOp, h1, Op.unary, Op.intArith, hw]; rfl
theorem s_not (t : TypeId) (x : Operand) {b : Bool} (hx : ρ x = .c (.d (.bool b))) : Still P h ⟨dst, .unOp .not t x, ty, p, af, gd⟩ ρ (.c (.d (.bool (!b)))) := by
  intro cx G w a s ho
  have h1 := ar_bool (hx ▸ ho x (by simp [Op.operands]))
  exact ⟨.bool (!b), by simp only [execOp, h1, Op.unary]; rfl, Dr.bool _⟩
theorem s_conv (src d' : TypeId) (x : Operand) {k k' : IntKind} {m z : Int} (hx : ρ x = .c (.d (.int k m))) (hs : ∃ q, P.underlying src = some q) (hd : P.underlying d' = some (.int k')) (hw : k'.wrap m = z) :
    Still P h ⟨dst, .convert src d' x, ty, p, af, gd⟩ ρ (.c (.d (.int k' z))) := by
  intro cx G w a s ho
  have h1 := ar_int (hx ▸ ho x (by simp [Op.operands]))
  obtain ⟨q, hq⟩ := hs
  refine ⟨.int k' z, ?_, Dr.int _ _⟩
  simp [execOp, h1, convert, run_underlying hq, run_underlying hd, Conv.intToInt, hw]
def imin (m n : Int) : Int := if n < m then n else m
def imax (m n : Int) : Int := if m < n then n else m
theorem s_min (x y : Operand) (ts : Array TypeId) {k : IntKind} {m n : Int} (hx : ρ x = .c (.d (.int k m))) (hy : ρ y = .c (.d (.int k n))) :
    Still P h ⟨dst, .call { callee := .builtin .min, args := #[x, y], argTypes := ts }, ty, p, af, gd⟩ ρ (.c (.d (.int k (imin m n)))) := by
  intro cx G w a s ho
  have h1 := ar_int (hx ▸ ho x (by simp [Op.operands, Call.operands]))
  have h2 := ar_int (hy ▸ ho y (by simp [Op.operands, Call.operands]))
  refine ⟨.int k (imin m n), ?_, Dr.int _ _⟩
  simp [execOp, resolve, invoke, builtin, Builtin.min_, Builtin.min2, h1, h2, imin]
theorem s_max (x y : Operand) (ts : Array TypeId) {k : IntKind} {m n : Int} (hx : ρ x = .c (.d (.int k m))) (hy : ρ y = .c (.d (.int k n))) :
    Still P h ⟨dst, .call { callee := .builtin .max, args := #[x, y], argTypes := ts }, ty, p, af, gd⟩ ρ (.c (.d (.int k (imax m n)))) := by
  intro cx G w a s ho
  have h1 := ar_int (hx ▸ ho x (by simp [Op.operands, Call.operands]))
  have h2 := ar_int (hy ▸ ho y (by simp [Op.operands, Call.operands]))
  refine ⟨.int k (imax m n), ?_, Dr.int _ _⟩
  simp [execOp, resolve, invoke, builtin, Builtin.max_, Builtin.max2, h1, h2, imax]
/-! ### strings and bools -/
def scmp : BinOp → List UInt8 → List UInt8 → Option Bool
  | .eql, m, n => some (decide (m = n))
  | .neq, m, n => some (decide (m ≠ n))
  | .lss, m, n => some (Op.bytesLess m n)
  | .leq, m, n => some (Op.bytesLess m n || decide (m = n))
  | .gtr, m, n => some (!(Op.bytesLess m n || decide (m = n)))
  | .geq, m, n => some (!Op.bytesLess m n)
  | _, _, _ => none
theorem s_scmp (op : BinOp) (t t' : TypeId) (x y : Operand) {m n : List UInt8} {b : Bool} (hx : ρ x = .c (.d (.str m))) (hy : ρ y = .c (.d (.str n))) (hb : scmp op m n = some b) :
    Still P h ⟨dst, .binOp op t x y t', ty, p, af, gd⟩ ρ (.c (.d (.bool b))) := by
  intro cx G w a s ho
  have h1 := ar_str (hx ▸ ho x (by simp [Op.operands]))
  have h2 := ar_str (hy ▸ ho y (by simp [Op.operands]))
  refine ⟨.bool b, ?_, Dr.bool _⟩
  have e : (m == n) = decide (m = n) := by rw [Bool.eq_iff_iff]; simp
  cases op <;> simp only [scmp, Option.some.injEq, reduceCtorEq] at hb <;> subst hb <;>
    simp [execOp, h1, h2, eqGuard, binOp, Op.stringOp, ByteArray.toList_mk, e]
theorem s_sadd (t t' : TypeId) (x y : Operand) {m n : List UInt8} (hx : ρ x = .c (.d (.str m))) (hy : ρ y = .c (.d (.str n))) (hl : m.length + n.length ≤ 9223372036854775807) :
    Still P h ⟨dst, .binOp .add t x y t', ty, p, af, gd⟩ ρ (.c (.d (.str (m ++ n)))) := by
  intro cx G w a s ho
  have h1 := ar_str (hx ▸ ho x (by simp [Op.operands]))
  have h2 := ar_str (hy ▸ ho y (by simp [Op.operands]))
  refine ⟨.string ⟨(m ++ n).toArray⟩, ?_, Dr.str _⟩
  have hs : ∀ l : List UInt8, (⟨l.toArray⟩ : ByteArray).size = l.length := fun l => by simp [ByteArray.size]
  have hm : IntKind.i64.max = 9223372036854775807 := by decide
  have happ : (⟨m.toArray⟩ : ByteArray) ++ ⟨n.toArray⟩ = ⟨(m ++ n).toArray⟩ := by
    apply ByteArray.ext
    simp [ByteArray.data_append]
  have hc : ¬ (((m.length + n.length : Nat) : Int) > 9223372036854775807) := by omega
  simp only [execOp, h1, h2, eqGuard, binOp, Op.stringOp, hs, hm, happ, if_neg hc]
  rfl
def beqb : BinOp → Bool → Bool → Option Bool
  | .eql, m, n => some (m == n)
  | .neq, m, n => some (m != n)
  | _, _, _ => none
theorem s_bcmp (op : BinOp) (t t' : TypeId) (x y : Operand) {m n b : Bool} (ht : P.underlying t = some .bool) (hx : ρ x = .c (.d (.bool m))) (hy : ρ y = .c (.d (.bool n))) (hb : beqb op m n = some b) :
    Still P h ⟨dst, .binOp op t x y t', ty, p, af, gd⟩ ρ (.c (.d (.bool b))) := by
  intro cx G w a s ho
  have h1 := ar_bool (hx ▸ ho x (by simp [Op.operands]))
  have h2 := ar_bool (hy ▸ ho y (by simp [Op.operands]))
  refine ⟨.bool b, ?_, Dr.bool _⟩
  have he : (Op.equalIn 10000 t (.bool m) (.bool n)).run P w = .ok (m == n) w := run_equalIn_bool' w 9999 t m n ht
  cases op <;> simp only [beqb, Option.some.injEq, reduceCtorEq] at hb <;> subst hb <;>
    simp [execOp, h1, h2, eqGuard, binOp, Op.equal, Op.maxDepth, he, bne]
/-! ### structs of one-cell fields, compared -/
def eqD : D → D → Option Bool
  | .int k a, .int k' b => if k = k' then some (decide (a = b)) else none
  | .bool a, .bool b => some (a == b)
  | .str a, .str b => some (decide (a = b))
  | _, _ => none
def eqDs : List D → List D → Option Bool
  | [], [] => some true
  | x :: xs, y :: ys => match eqD x y, eqDs xs ys with
    | some a, some b => some (a && b)
    | _, _ => none
  | _, _ => none
def tagT (P : Program) (t : TypeId) : Nat :=
  match P.underlying t with
  | some (.int _) => 0
  | some .bool => 1
  | some .string => 2
  | _ => 3
def tagD : D → Nat
  | .int _ _ => 0
  | .bool _ => 1
  | .str _ => 2
  | _ => 4
def flatFields (P : Program) : List Field → Nat → List Nat → Bool
  | [], _, [] => true
  | f :: r, i, g :: gs => f.offset == i && f.name != "_" && tagT P f.type == g && flatFields P r (i + 1) gs
  | _, _, _ => false
structure EqT (P : Program) (t : TypeId) (tags : List Nat) : Prop where
  ht : P.underlying t = some (.struct (P.fieldsOf t))
  hp : P.stoodInHeld t = false
  hg : P.eqGuardType P.depth t = false
  hf : flatFields P (P.fieldsOf t).toList 0 tags = true
def aggQ : TypeDesc → Bool
  | .struct _ | .array _ _ => true
  | _ => false
theorem run_part1 {t : TypeId} {q : TypeDesc} (ht : P.underlying t = some q) (hq : aggQ q = false) (cs : Array Value) (off : Nat) (v : Value) (hv : cs[off]? = some v) (w : World) : (part t cs off).run P w = .ok v w := by
  cases q <;> simp_all [part, isAgg, run_underlying ht, aggQ]
theorem tagT_form {t : TypeId} {g : Nat} (h : tagT P t = g) (hg : g < 3) : ∃ q, P.underlying t = some q ∧ aggQ q = false ∧
    ((g = 0 ∧ ∃ k, q = .int k) ∨ (g = 1 ∧ q = .bool) ∨ (g = 2 ∧ q = .string)) := by
  unfold tagT at h
  split at h
  · next k e => exact ⟨_, e, rfl, .inl ⟨h.symm, k, rfl⟩⟩
  · next e => exact ⟨_, e, rfl, .inr (.inl ⟨h.symm, rfl⟩)⟩
  · next e => exact ⟨_, e, rfl, .inr (.inr ⟨h.symm, rfl⟩)⟩
  · omega
theorem run_equalCell {V : Vw} {t : TypeId} {x y : D} {b : Bool} {u v : Value} (hx : Dr V x u) (hy : Dr V y v) (hb : eqD x y = some b) (ht : tagT P t = tagD x) (d : Nat) (w : World) : (Op.equalIn (d + 1) t u v).run P w = .ok b w := by
  cases hx <;> cases hy <;> simp only [eqD, reduceCtorEq] at hb
  · next k a k' a' =>
    split at hb
    · next hkk =>
      subst hkk
      cases hb
      obtain ⟨q, e, _, ⟨_, k', rfl⟩ | ⟨h, _⟩ | ⟨h, _⟩⟩ := tagT_form ht (by simp [tagD])
      · rw [run_equalIn_int w d t _ _ a a' e]; congr 1
      · simp [tagD] at h
      · simp [tagD] at h
    · cases hb
  · next a a' =>
    cases hb
    obtain ⟨q, e, _, ⟨h, _⟩ | ⟨_, rfl⟩ | ⟨h, _⟩⟩ := tagT_form ht (by simp [tagD])
    · simp [tagD] at h
    · rw [run_equalIn_bool' w d t a a' e]
    · simp [tagD] at h
  · next a a' =>
    cases hb
    obtain ⟨q, e, _, ⟨h, _⟩ | ⟨h, _⟩ | ⟨_, rfl⟩⟩ := tagT_form ht (by simp [tagD])
    · simp [tagD] at h
    · simp [tagD] at h
    · rw [run_equalIn_string w d t _ _ e]; simp only [ByteArray.toList_mk]; congr 1; rw [Bool.eq_iff_iff]; simp
theorem run_eqFields {V : Vw} {d : Nat} : ∀ (fs : List Field) (tags : List Nat) (xs ys : List D) (us vs : List Value) (i : Nat) (U W : Array Value) (b : Bool) (w : World),
    flatFields P fs i tags = true → xs.map tagD = tags → All2 (Dr V) xs us → All2 (Dr V) ys vs → eqDs xs ys = some b →
    (∀ j u, us[j]? = some u → U[i + j]? = some u) → (∀ j u, vs[j]? = some u → W[i + j]? = some u) →
    (Op.eqFields (d + 1) U W fs).run P w = .ok b w
  | [], tags, xs, ys, us, vs, i, U, W, b, w, hf, ht, hx, hy, hb, hU, hW => by
    cases tags with
    | nil =>
      cases hx with
      | nil => cases hy with
        | nil => simp only [eqDs, Option.some.injEq] at hb; subst hb; rfl
        | cons h t => simp [eqDs] at hb
      | cons h t => simp at ht
    | cons g gs => simp [flatFields] at hf
  | f :: fs, tags, xs, ys, us, vs, i, U, W, b, w, hf, ht, hx, hy, hb, hU, hW => by
    cases tags with
    | nil => simp [flatFields] at hf
    | cons g gs =>
      cases hx with
      | nil => simp at ht
      | @cons x u xs us hxu hxs =>
        cases hy with
        | nil => simp [eqDs] at hb
        | @cons y v ys vs hyv hys =>
          simp only [List.map_cons, List.cons.injEq] at ht
          obtain ⟨hg, hgs⟩ := ht
          simp only [flatFields, Bool.and_eq_true, beq_iff_eq, bne_iff_ne] at hf
          obtain ⟨⟨⟨ho, hn⟩, htt⟩, hrest⟩ := hf
          simp only [eqDs] at hb
          split at hb
          · next b1 b2 e1 e2 =>
            cases hb
            have htg : tagT P f.type = tagD x := by rw [htt, hg]
            have hlt : g < 3 := by
              subst hg
              cases x <;> cases y <;> simp [eqD] at e1 <;> simp [tagD]
            obtain ⟨q, hq, hqa, _⟩ := tagT_form htt hlt
            have p1 := run_part1 (P := P) hq hqa U f.offset u (by rw [ho]; exact hU 0 u rfl) w
            have p2 := run_part1 (P := P) hq hqa W f.offset v (by rw [ho]; exact hW 0 v rfl) w
            have p3 := run_equalCell (P := P) hxu hyv e1 htg d w
            have ih := run_eqFields (d := d) fs gs xs ys us vs (i + 1) U W b2 w hrest hgs hxs hys e2 (fun j u hu => by have := hU (j + 1) u (by simpa using hu); rwa [show i + 1 + j = i + (j + 1) from by omega])
              (fun j u hu => by have := hW (j + 1) u (by simpa using hu); rwa [show i + 1 + j = i + (j + 1) from by omega])
            simp only [Op.eqFields, hn, ne_eq, not_false_eq_true, if_true, Sem.run_bind, p1, p2, p3, Result.andThen_ok]
            cases b1
            · simp
            · simp [ih]
          · cases hb
theorem all2_dr {G : Gh} {xs : List D} {vs : List Value} (hh : All2 (Cr G) (xs.map C.d) vs) : All2 (Dr G.V) xs vs := (All2.of_map_left hh).imp fun _ _ h => h
def beqs : BinOp → Bool → Option Bool
  | .eql, b => some b
  | .neq, b => some (!b)
  | _, _ => none
theorem s_struct (op : BinOp) (t t' : TypeId) (x y : Operand) {tags : List Nat} {xs ys : List D} {b b' : Bool} (hT : EqT P t tags) (hx : ρ x = .agg (xs.map C.d)) (hy : ρ y = .agg (ys.map C.d)) (ht : xs.map tagD = tags) (hb : eqDs xs ys = some b) (hb' : beqs op b = some b') :
    Still P h ⟨dst, .binOp op t x y t', ty, p, af, gd⟩ ρ (.c (.d (.bool b'))) := by
  intro cx G w a s ho
  obtain ⟨us, e1, h1⟩ := (hx ▸ ho x (by simp [Op.operands]) : Ar G (.agg (xs.map C.d)) (a.eval x))
  obtain ⟨vs, e2, h2⟩ := (hy ▸ ho y (by simp [Op.operands]) : Ar G (.agg (ys.map C.d)) (a.eval y))
  refine ⟨.bool b', ?_, Dr.bool _⟩
  have he := run_eqFields (P := P) (d := 9998) _ tags xs ys us vs 0 us.toArray vs.toArray b w hT.hf ht (all2_dr h1) (all2_dr h2) hb (fun j u hu => by simpa using hu) (fun j u hu => by simpa using hu)
  have he' := run_equalIn_struct (P := P) w 9999 t us.toArray vs.toArray hT.ht hT.hp
  cases op <;> simp only [beqs, Option.some.injEq, reduceCtorEq] at hb' <;> subst hb' <;>
    simp [execOp, e1, e2, run_eqGuard_agg w _ t x y us.toArray vs.toArray hT.hg, run_eql_struct w t us.toArray vs.toArray, run_neq_struct w t us.toArray vs.toArray, he', he]
end Go.Ax
