/- Part of a proof about this program; no condition of its own. -/
import Derived.Test.YtanbfhnmklhjiaaDoorGxM
import Derived.Scope
set_option linter.all false
/-
  A rule that reckons what is to be shown of an operation that leaves memory alone. No condition.
-/
namespace Go.Ax
open Go Go.RowKit

/-! ### bounds of the kinds -/
def inK (k : IntKind) (z : Int) : Prop := k.min ≤ z ∧ z ≤ k.max
@[push_cast] theorem inK_i8 (z : Int) : inK .i8 z = (-128 ≤ z ∧ z ≤ 127) := rfl
@[push_cast] theorem inK_i16 (z : Int) : inK .i16 z = (-32768 ≤ z ∧ z ≤ 32767) := rfl
@[push_cast] theorem inK_i32 (z : Int) : inK .i32 z = (-2147483648 ≤ z ∧ z ≤ 2147483647) := rfl
@[push_cast] theorem inK_i64 (z : Int) : inK .i64 z = (-9223372036854775808 ≤ z ∧ z ≤ 9223372036854775807) := rfl
@[push_cast] theorem inK_u8 (z : Int) : inK .u8 z = (0 ≤ z ∧ z ≤ 255) := rfl
@[push_cast] theorem inK_u16 (z : Int) : inK .u16 z = (0 ≤ z ∧ z ≤ 65535) := rfl
@[push_cast] theorem inK_u32 (z : Int) : inK .u32 z = (0 ≤ z ∧ z ≤ 4294967295) := rfl
@[push_cast] theorem inK_u64 (z : Int) : inK .u64 z = (0 ≤ z ∧ z ≤ 18446744073709551615) := rfl
theorem inK_wrap {k : IntKind} {z : Int} (h : inK k z) : k.wrap z = z := by
  cases k
  · exact IntWalk.i8_in z h
  · exact IntWalk.i16_in z h
  · exact IntWalk.i32_in z h
  · exact IntWalk.i64_in z h
  · exact IntWalk.u8_in z h
  · exact IntWalk.u16_in z h
  · exact IntWalk.u32_in z h
  · exact IntWalk.u64_in z h

/-! ### types -/
def szT (P : Program) (t : TypeId) : Option Nat := (P.info? t).map (·.size)
def isB (P : Program) (t : TypeId) : Prop := P.underlying t = some .bool
def isS (P : Program) (t : TypeId) : Prop := P.underlying t = some .string
def intT (P : Program) (t : TypeId) : Option IntKind := match P.underlying t with | some (.int k) => some k | _ => none
theorem intT_some {P : Program} {t : TypeId} {k : IntKind} (h : intT P t = some k) : P.underlying t = some (.int k) := by
  unfold intT at h
  split at h
  · cases h; assumption
  · cases h
def eqT (P : Program) (t : TypeId) : Option (List Nat) :=
  match P.underlying t with
  | some (.struct fs) => let tags := fs.toList.map fun f => tagT P f.type
    if P.stoodInHeld t = false ∧ P.eqGuardType P.depth t = false ∧ flatFields P fs.toList 0 tags = true then some tags else none
  | some (.array n e) => if P.eqGuardType P.depth t = false ∧ P.cellsOf e = 1 ∧ (P.info? e).isSome = true then some (List.replicate n (tagT P e)) else none
  | _ => none
theorem run_eqItems_flat {P : Program} {V : Vw} {d : Nat} {e : TypeId} (hc : P.cellsOf e = 1) : ∀ (xs ys : List D) (us vs : List Value) (i : Nat) (U W : Array Value) (b : Bool) (w : World),
    (∀ x ∈ xs, tagD x = tagT P e) → All2 (Dr V) xs us → All2 (Dr V) ys vs → eqDs xs ys = some b → (∀ j u, us[j]? = some u → U[i + j]? = some u) → (∀ j u, vs[j]? = some u → W[i + j]? = some u) →
    (Op.eqItems (d + 1) e (P.cellsOf e) U W (List.range' i xs.length)).run P w = .ok b w
  | [], ys, us, vs, i, U, W, b, w, ht, hx, hy, hb, hU, hW => by
    cases hx
    cases hy with
    | nil => simp only [eqDs, Option.some.injEq] at hb; subst hb; rfl
    | cons h t => simp [eqDs] at hb
  | x :: xs, ys, us, vs, i, U, W, b, w, ht, hx, hy, hb, hU, hW => by
    cases hx with
    | @cons _ u _ us hxu hxs =>
      cases hy with
      | nil => simp [eqDs] at hb
      | @cons y v ys vs hyv hys =>
        simp only [eqDs] at hb
        split at hb
        · next b1 b2 e1 e2 =>
          cases hb
          have htg : tagT P e = tagD x := (ht x (by simp)).symm
          have hlt : tagT P e < 3 := by
            rw [htg]
            cases x <;> cases y <;> simp [eqD] at e1 <;> simp [tagD]
          obtain ⟨q, hq, hqa, _⟩ := tagT_form rfl hlt
          have p1 := run_part1 (P := P) hq hqa U (i * P.cellsOf e) u (by rw [hc, Nat.mul_one]; exact hU 0 u rfl) w
          have p2 := run_part1 (P := P) hq hqa W (i * P.cellsOf e) v (by rw [hc, Nat.mul_one]; exact hW 0 v rfl) w
          have p3 := run_equalCell (P := P) hxu hyv e1 htg d w
          have ih := run_eqItems_flat (P := P) (d := d) hc xs ys us vs (i + 1) U W b2 w (fun x hx => ht x (by simp [hx])) hxs hys e2 (fun j u hu => by have := hU (j + 1) u (by simpa using hu); rwa [show i + 1 + j = i + (j + 1) from by omega])
            (fun j u hu => by have := hW (j + 1) u (by simpa using hu); rwa [show i + 1 + j = i + (j + 1) from by omega])
          simp only [List.length_cons, List.range'_succ, Op.eqItems, Sem.run_bind, p1, p2, p3, Result.andThen_ok]
          cases b1
          · simp
          · simpa using ih
        · cases hb
theorem s_eqT {P : Program} {h : List LB} {ρ : Operand → AV} {dst : Option Tmp} {ty : TypeId} {p : String} {af : Array Edge} {gd : Option (Nat × Bool)} (op : BinOp) (t t' : TypeId) (x y : Operand) {tags : List Nat} {cs ds : List C} {xs ys : List D} {b b' : Bool} (hT : eqT P t = some tags)
    (hx : ρ x = .agg cs) (hy : ρ y = .agg ds) (hcs : toDs cs = some xs) (hds : toDs ds = some ys) (ht : xs.map tagD = tags) (hb : eqDs xs ys = some b) (hb' : beqs op b = some b') : Still P h ⟨dst, .binOp op t x y t', ty, p, af, gd⟩ ρ (.c (.d (.bool b'))) := by
  unfold eqT at hT
  split at hT
  · next fs hu =>
    simp only at hT
    split at hT
    · next hc =>
      cases hT
      have e : P.fieldsOf t = fs := by simp [Program.fieldsOf, hu]
      exact s_struct' op t t' x y ⟨by rw [e]; exact hu, hc.1, hc.2.1, by rw [e]; exact hc.2.2⟩ hx hy hcs hds ht hb hb'
    · cases hT
  · next n e hu =>
    split at hT
    · next hc =>
      cases hT
      obtain ⟨hg, hc1, hi⟩ := hc
      obtain ⟨i, hi⟩ := Option.isSome_iff_exists.1 hi
      have hlen : xs.length = n := by have := congrArg List.length ht; simpa using this
      have htag : ∀ x ∈ xs, tagD x = tagT P e := fun x hx => by
        have : tagD x ∈ xs.map tagD := List.mem_map.2 ⟨x, hx, rfl⟩
        rw [ht] at this
        exact List.eq_of_mem_replicate this
      intro cx G w a s ho
      obtain ⟨us, e1, h1⟩ := (hx ▸ ho x (by simp [Op.operands]) : Ar G (.agg cs) (a.eval x))
      obtain ⟨vs, e2, h2⟩ := (hy ▸ ho y (by simp [Op.operands]) : Ar G (.agg ds) (a.eval y))
      rw [toDs_ok _ _ hcs] at h1
      rw [toDs_ok _ _ hds] at h2
      refine ⟨.bool b', ?_, Dr.bool _⟩
      have he := run_eqItems_flat (P := P) (d := 9998) hc1 xs ys us vs 0 us.toArray vs.toArray b w htag (all2_dr h1) (all2_dr h2) hb (fun j u hu => by simpa using hu) (fun j u hu => by simpa using hu)
      rw [hlen, ← List.range_eq_range'] at he
      have he' := run_equalIn_array (P := P) (w := w) 9999 us.toArray vs.toArray hu hi
      rw [he] at he'
      cases op <;> simp only [beqs, Option.some.injEq, reduceCtorEq] at hb' <;> subst hb' <;>
        simp [execOp, e1, e2, run_eqGuard_agg w _ t x y us.toArray vs.toArray hg, run_eql_struct w t us.toArray vs.toArray, run_neq_struct w t us.toArray vs.toArray, he']
    · cases hT
  · cases hT

/-! ### operations -/
section
variable (P : Program) (h : List LB)
abbrev oI (k : IntKind) (z : Int) : AV := .c (.d (.int k z))
abbrev oB (b : Bool) : AV := .c (.d (.bool b))
abbrev oS (l : List UInt8) : AV := .c (.d (.str l))

def vbinI (op : BinOp) (kd : IntKind) (m n : Int) (k : AV → Prop) : Prop :=
  match op with
  | .eql => k (oB (decide (m = n)))
  | .neq => k (oB (decide (m ≠ n)))
  | .lss => k (oB (decide (m < n)))
  | .leq => k (oB (decide (m ≤ n)))
  | .gtr => k (oB (decide (n < m)))
  | .geq => k (oB (decide (n ≤ m)))
  | .add => inK kd (m + n) ∧ k (oI kd (m + n))
  | .sub => inK kd (m - n) ∧ k (oI kd (m - n))
  | .mul => inK kd (m * n) ∧ k (oI kd (m * n))
  | .quo => (kd = .i64 ∧ 0 ≤ m ∧ m ≤ 9223372036854775807 ∧ 0 < n) ∧ k (oI kd (m / n))
  | .rem => (0 ≤ m ∧ 0 < n) ∧ k (oI kd (m % n))
  | .shr => (0 ≤ n ∧ n ≤ 8) ∧ k (oI kd (m / 2 ^ n.toNat))
  | _ => False
def vbinS (op : BinOp) (m n : List UInt8) (k : AV → Prop) : Prop :=
  match op with
  | .eql => k (oB (decide (m = n)))
  | .neq => k (oB (decide (m ≠ n)))
  | .lss => k (oB (Op.bytesLess m n))
  | .leq => k (oB (Op.bytesLess m n || decide (m = n)))
  | .gtr => k (oB (!(Op.bytesLess m n || decide (m = n))))
  | .geq => k (oB (!Op.bytesLess m n))
  | .add => (m.length + n.length ≤ 9223372036854775807) ∧ k (oS (m ++ n))
  | _ => False
def vbinB (op : BinOp) (m n : Bool) (k : AV → Prop) : Prop :=
  match op with
  | .eql => k (oB (m == n))
  | .neq => k (oB (m != n))
  | _ => False
def vbinA (t : TypeId) (op : BinOp) (cs ds : List C) (k : AV → Prop) : Prop :=
  match eqT P t, toDs cs, toDs ds with
  | some tags, some xs, some ys => match eqDs xs ys, beqs op true with
    | some b, some _ => xs.map tagD = tags ∧ k (oB (if op = .eql then b else !b))
    | _, _ => False
  | _, _, _ => False
def vnil (t : TypeId) (op : BinOp) (α : AV) (k : AV → Prop) : Prop :=
  match slT P t, α with
  | some _, .c (.d (.raw (.slice none 0 0))) => match nilq op true with | some b => k (oB b) | none => False
  | some _, .c (.d (.lst _ els)) => match nilq op false with | some b => els ≠ [] ∧ k (oB b) | none => False
  | some _, .c (.bor _ els) => match nilq op false with | some b => els ≠ [] ∧ k (oB b) | none => False
  | _, _ => False
def isNil : Operand → Bool
  | .const (.slice none 0 0) => true
  | _ => false
def vbin (t : TypeId) (op : BinOp) (α β : AV) (nl : Bool) (k : AV → Prop) : Prop :=
  match nl with
  | true => vnil P t op α k
  | false => match α, β with
    | .c (.d (.int kd m)), .c (.d (.int kd' n)) => kd = kd' ∧ vbinI op kd m n k
    | .c (.d (.str m)), .c (.d (.str n)) => vbinS op m n k
    | .c (.d (.bool m)), .c (.d (.bool n)) => isB P t ∧ vbinB op m n k
    | .agg cs, .agg ds => vbinA P t op cs ds k
    | _, _ => False
def vun (op : UnOp) (α : AV) (k : AV → Prop) : Prop :=
  match op, α with
  | .neg, .c (.d (.int kd m)) => inK kd (-m) ∧ k (oI kd (-m))
  | .not, .c (.d (.bool b)) => k (oB (!b))
  | _, _ => False
def vpk (c : Bool) (a b : AV) (k : AV → Prop) : Prop :=
  match c with
  | true => k a
  | false => k b
def vpick (c a b : AV) (k : AV → Prop) : Prop :=
  match c with
  | .c (.d (.bool c)) => vpk c a b k
  | _ => False
def vconv (s d : TypeId) (α : AV) (k : AV → Prop) : Prop :=
  match intT P s, intT P d, α with
  | some _, some k', .c (.d (.int _ m)) => inK k' m ∧ k (oI k' m)
  | none, none, .c (.d (.str l)) => strB P s = true ∧ bysT P d = true ∧ l.length ≤ 16777216 ∧ k (.c (.d (.lst 1 (l.map byD))))
  | some _, none, .c (.d (.int _ m)) => strB P d = true ∧ k (.c (.d (.str (Lib.encodeRune m))))
  | _, _, _ => False
def vat (cs : List C) (off : Nat) (k : AV → Prop) : Prop := ∃ hh : off < cs.length, k (.c cs[off])
def vatN (cs : List C) (off n : Nat) (k : AV → Prop) : Prop := off + n ≤ cs.length ∧ k (.agg ((cs.drop off).take n))
/-- The element of a row at a place. -/
def vel (els : List (List D)) (i : Nat) (k : List D → Prop) : Prop := ∃ hh : i < els.length, k els[i]
def vcells (α : AV) (k : List C → Nat → Prop) : Prop :=
  match α with
  | .c (.ptr cs) => k (cs.map C.d) 0
  | .c (.loc i off) => match h[i]? with
    | some (.box _ cs) => k cs off
    | _ => False
  | .c (.rowp i ver sz kk off) => match h[i]? with
    | some (.row _ sz' els v) => (v = ver ∧ sz' = sz) ∧ vel els kk fun e => k (e.map C.d) off
    | _ => False
  | _ => False
def flT (P : Program) (t : TypeId) (i : Nat) : Option Nat :=
  match P.underlying t with
  | some (.struct fs) => match fs[i]? with
    | some f => if ldT P f.type = some none then some f.offset else none
    | none => none
  | _ => none
def vload (t : TypeId) (α : AV) (k : AV → Prop) : Prop :=
  match ldT P t with
  | some none => vcells h α fun cs off => vat cs off k
  | some (some n) => vcells h α fun cs off => vatN cs off n k
  | none => False
def vfield (t : TypeId) (i : Nat) (α : AV) (k : AV → Prop) : Prop :=
  match fdT P t i with
  | some o => match α with
    | .c (.ptr cs) => k (.c (.ptr (cs.drop o)))
    | .c (.loc j off) => k (.c (.loc j (off + o)))
    | .c (.rowp j ver sz kk off) => match h[j]? with
      | some (.row _ sz' _ v) => (v = ver ∧ sz' = sz) ∧ k (.c (.rowp j ver sz kk (off + o)))
      | _ => False
    | _ => False
  | none => False
/-- A field of one cell of a value. -/
def vfv2 (r : Option Nat) (α : AV) (k : AV → Prop) : Prop :=
  match r, α with
  | some o, .agg cs => vat cs o k
  | _, _ => False
def vindex (t : TypeId) (α β : AV) (k : AV → Prop) : Prop :=
  match β with
  | .c (.d (.int _ i)) => match slT P t with
    | some (_, sz) => match α with
      | .c (.d (.lst sz' els)) => (sz' = sz ∧ 0 ≤ i) ∧ vel els i.toNat fun e => k (.c (.ptr e))
      | .c (.bor sz' els) => (sz' = sz ∧ 0 ≤ i) ∧ vel els i.toNat fun e => k (.c (.ptr e))
      | .c (.own j ver) => match h[j]? with
        | some (.row _ sz' els v) => (v = ver ∧ sz' = sz ∧ 0 ≤ i ∧ i < els.length) ∧ k (.c (.rowp j ver sz i.toNat 0))
        | _ => False
      | .c (.sub j ver sz'' lo n) => match h[j]? with
        | some (.row _ sz' els v) => (v = ver ∧ sz' = sz ∧ sz'' = sz ∧ lo + n ≤ els.length ∧ 0 ≤ i ∧ i < n) ∧ k (.c (.rowp j ver sz (lo + i.toNat) 0))
        | _ => False
      | _ => False
    | none => match arT P t with
      | some (m, _, sz) => match α with
        | .c (.loc j off) => (0 ≤ i ∧ i < m) ∧ k (.c (.loc j (off + i.toNat * sz)))
        | .c (.ptr cs) => (0 ≤ i ∧ i < m) ∧ k (.c (.ptr (cs.drop (i.toNat * sz))))
        | _ => False
      | none => False
  | _ => False
/-- An array of one-cell elements, as a value: how many. -/
def ixT (P : Program) (t : TypeId) : Option Nat :=
  match P.underlying t with
  | some (.array n e) => if (P.info? e).map (·.size) = some 1 ∧ ldT P e = some none then some n else none
  | _ => none
def vstr (t : TypeId) (α β : AV) (k : AV → Prop) : Prop :=
  match α, β with
  | .agg cs, .c (.d (.int _ i)) => match ixT P t with
    | some n => (0 ≤ i ∧ i < n) ∧ vat cs i.toNat k
    | none => False
  | .c (.d (.str l)), .c (.d (.int _ i)) => isS P t ∧ 0 ≤ i ∧ ∃ hh : i.toNat < l.length, k (oI .u8 l[i.toNat].toNat)
  | _, _ => False
/-- A bound of a slice. -/
def vbd (x : Option AV) (d : Nat) (k : Nat → Prop) : Prop :=
  match x with
  | none => k d
  | some (.c (.d (.int _ i))) => 0 ≤ i ∧ k i.toNat
  | _ => False
def vslice (t : TypeId) (α : AV) (lo hi : Option AV) (k : AV → Prop) : Prop :=
  match α with
  | .c (.d (.str s)) => isS P t ∧ vbd lo 0 fun l => vbd hi s.length fun r => (l ≤ r ∧ r ≤ s.length) ∧ k (oS ((s.drop l).take (r - l)))
  | .c (.d (.lst sz' els)) => match slT P t with
    | some (_, sz) => sz' = sz ∧ vbd lo 0 fun l => vbd hi els.length fun r => (l ≤ r ∧ r ≤ els.length) ∧ k (.c (.d (.lst sz ((els.drop l).take (r - l)))))
    | none => False
  | .c (.bor sz' els) => match slT P t with
    | some (_, sz) => sz' = sz ∧ vbd lo 0 fun l => vbd hi els.length fun r => (l ≤ r ∧ r ≤ els.length) ∧ k (.c (.bor sz ((els.drop l).take (r - l))))
    | none => False
  | .c (.own j ver) => match slT P t, h[j]? with
    | some (_, sz), some (.row _ sz' els v) => (v = ver ∧ sz' = sz) ∧ vbd lo 0 fun l => vbd hi els.length fun r => (l ≤ r ∧ r ≤ els.length) ∧ k (.c (.sub j ver sz l (r - l)))
    | _, _ => False
  | _ => False
def vext (i : Nat) (α : AV) (k : AV → Prop) : Prop :=
  match α with
  | .tup vs => match vs[i]? with
    | some α => α.flat = true ∧ k α
    | none => False
  | _ => False
def vbuild (t : TypeId) (parts : List (Nat × AV)) (k : AV → Prop) : Prop :=
  match plT P t, zeroC P t with
  | some pl, some zc => match fillC (pl[·]?) zc parts with
    | some cs => k (.agg cs)
    | none => False
  | _, _ => False
def vlit (t : TypeId) (n : Nat) (parts : List (Nat × AV)) (k : AV → Prop) : Prop :=
  match apT P t with
  | some (_, sz, _) => match partsE sz parts 0 with
    | some els => (parts.length = n ∧ n * sz ≤ 16777216) ∧ k (.c (.d (.lst sz els)))
    | none => False
  | none => False
def vclo (f : FuncId) (parts : List AV) (k : AV → Prop) : Prop :=
  match locsOf parts with
  | some is => k (.c (.clo f is))
  | none => False
def vnilc (α : AV) (k : AV → Prop) : Prop :=
  match α with
  | .c (.ptr cs) => k (.c (.ptr cs))
  | .c (.loc i o) => k (.c (.loc i o))
  | _ => False
def vlen (t : TypeId) (α : AV) (k : AV → Prop) : Prop :=
  match α with
  | .c (.d (.str l)) => isS P t ∧ k (oI .i64 l.length)
  | .c (.d (.raw (.slice none 0 0))) => match slT P t with
    | some _ => k (oI .i64 0)
    | none => False
  | α => match slT P t, elsOf h α with
    | some _, some (_, els) => k (oI .i64 els.length)
    | _, _ => False
def vmm (f : Int → Int → Int) (α β : AV) (k : AV → Prop) : Prop :=
  match α, β with
  | .c (.d (.int kd m)), .c (.d (.int kd' n)) => kd = kd' ∧ k (oI kd (f m n))
  | _, _ => False
def vbi (b : Builtin) (as : List AV) (ts : List TypeId) (k : AV → Prop) : Prop :=
  match b, as, ts with
  | .len, [α], [t] => vlen P h t α k
  | .min, [α, β], _ => vmm imin α β k
  | .max, [α, β], _ => vmm imax α β k
  | _, _, _ => False

/-! ### maps -/
def vlook (t : TypeId) (α β : AV) (ok : Bool) (k : AV → Prop) : Prop :=
  match mapOf h α, keyC β with
  | some (sh, m), some ks => (MapT P t sh ∧ Kfits sh ks) ∧ k (if ok then .tup [oI .i64 (mget m ks), oB (mhas m ks)] else oI .i64 (mget m ks))
  | _, _ => False
def ventry (α : AV) (k : AV → Prop) : Prop :=
  match α with
  | .c (.loc j 0) => match h[j]? with
    | some (.it _ (some kv)) => k (.tup [keyAV kv.1, oI .i64 kv.2])
    | _ => False
  | _ => False

/-- A call by its contract. -/
def CallV (P : Program) (pm : Pm) (h : List LB) (f : FuncId) (as : List AV) (k : AV → Prop) : Prop :=
  ∃ args' rs, AFn P pm.Γ f args' rs ∧ All2 (ArgOk pm h) as args' ∧ k (rsAV rs)
/-- A call through a function value. -/
def CallF (P : Program) (pm : Pm) (h : List LB) (R : Vw → Value → Prop) (as : List AV) (k : AV → Prop) : Prop :=
  ∃ F args' rs, R = FnSpec P pm.Γ F ∧ F args' rs ∧ All2 (ArgOk pm h) as args' ∧ k (rsAV rs)
/-- A call of what has no body: the rule is the user's. -/
def CallE (P : Program) (pm : Pm) (h : List LB) (o : Oper) (ρ : Operand → AV) (k : AV → Prop) : Prop :=
  ∃ r, Qt P pm h o ρ r ∧ k r
def vcallee (P : Program) (pm : Pm) (h : List LB) (α : AV) (as : List AV) (k : AV → Prop) : Prop :=
  match α with
  | .c (.clo f []) => CallV P pm h f as k
  | .c (.fn R) => CallF P pm h R as k
  | _ => False

/-- Keeps what follows out of the reckoning's sight. -/
structure Tok {α : Sort _} (x : α) : Type where
  mk ::
def ap {κ : Sort _} (f : κ → Prop) (k : κ) (_ : Tok k) : Prop := f k
def ap2 {κ κ' : Sort _} (f : κ → κ' → Prop) (k : κ) (k' : κ') (_ : Tok k) (_ : Tok k') : Prop := f k k'
/-- A call, by whichever of the two. -/
def CallX (P : Program) (pm : Pm) (h : List LB) (o : Oper) (ρ : Operand → AV) (α : AV) (as : List AV) (k : AV → Prop) (_ : Tok k) : Prop := vcallee P pm h α as k ∨ CallE P pm h o ρ k

def vq (pm : Pm) (o : Oper) (ρ : Operand → AV) (k : AV → Prop) : Prop :=
  match o.op with
  | .move x => k (ρ x)
  | .assign x => k (ρ x)
  | .pick c x y => vpick (ρ c) (ρ x) (ρ y) k
  | .binOp op t x y _ => vbin P t op (ρ x) (ρ y) (isNil y) k
  | .unOp op _ x => vun op (ρ x) k
  | .convert s d x => vconv P s d (ρ x) k
  | .load t x => vload P h t (ρ x) k
  | .fieldAddr t x i => vfield P h t i (ρ x) k
  | .field t x i => vfv2 (flT P t i) (ρ x) k
  | .indexAddr t x y => vindex P h t (ρ x) (ρ y) k
  | .index t x y => vstr P t (ρ x) (ρ y) k
  | .slice t x lo hi none => vslice P h t (ρ x) (lo.map ρ) (hi.map ρ) k
  | .extract x i => vext i (ρ x) k
  | .build t ps => vbuild P t (ps.toList.map fun x => (x.1, ρ x.2)) k
  | .buildSlice t n ps => vlit P t n (ps.toList.map fun x => (x.1, ρ x.2)) k
  | .makeFunc (.func f) fi caps => fi = #[] ∧ vclo f (caps.toList.map ρ) k
  | .nilCheck x => vnilc (ρ x) k
  | .lookup t x y ok => vlook P h t (ρ x) (ρ y) ok k
  | .entry x => ventry h (ρ x) k
  | .call { callee := .builtin b, args := as, argTypes := ts } => vbi P h b (as.toList.map ρ) ts.toList k
  | .call { callee := .value x, args := as, argTypes := _ } => CallX P pm h o ρ (ρ x) (as.toList.map ρ) k ⟨⟩
  | _ => False
end

/-! ### soundness -/
section
variable {P : Program} {pm : Pm} {h : List LB} {o : Oper} {ρ : Operand → AV} {k : AV → Prop}
theorem CallE.mk {r : AV} (hq : Qt P pm h o ρ r) (hk : k r) : CallE P pm h o ρ k := ⟨r, hq, hk⟩
theorem s_shr {dst : Option Tmp} {ty : TypeId} {p : String} {af : Array Edge} {gd : Option (Nat × Bool)} (t t' : TypeId) (x y : Operand) {k : IntKind} {m n : Int} (hx : ρ x = .c (.d (.int k m))) (hy : ρ y = .c (.d (.int k n))) (h0 : 0 ≤ n) (h2 : n ≤ 8) :
    Still P h ⟨dst, .binOp .shr t x y t', ty, p, af, gd⟩ ρ (.c (.d (.int k (m / 2 ^ n.toNat)))) := by
  intro cx G w a s ho
  have e1 := ar_int (hx ▸ ho x (by simp [Op.operands]))
  have e2 := ar_int (hy ▸ ho y (by simp [Op.operands]))
  refine ⟨.int k (m / 2 ^ n.toNat), ?_, Dr.int _ _⟩
  have hn : ¬ n < 0 := by omega
  have hb : min n.toNat k.bits = n.toNat := by
    have : 8 ≤ k.bits := by cases k <;> decide
    omega
  have hf : m.fdiv (2 ^ n.toNat) = m / 2 ^ n.toNat := Int.fdiv_eq_ediv_of_nonneg _ (Int.le_of_lt (Int.pow_pos (by decide)))
  simp [execOp, e1, e2, eqGuard, binOp, Op.shift, hn, hb, hf]
theorem vbin_ok {dst : Option Tmp} {ty : TypeId} {p : String} {af : Array Edge} {gd : Option (Nat × Bool)} {op : BinOp} {t t' : TypeId} {x y : Operand} (hh : vbin P t op (ρ x) (ρ y) (isNil y) k) :
    CallE P pm h ⟨dst, .binOp op t x y t', ty, p, af, gd⟩ ρ k := by
  unfold vbin at hh
  split at hh
  · next hn =>
    obtain rfl : y = .const (.slice none 0 0) := by
      unfold isNil at hn
      split at hn
      · rfl
      · cases hn
    unfold vnil at hh
    split at hh
    · next q hs hx =>
      split at hh
      · next b hb => exact .mk (Still.qt (s_slnil _ _ _ _ hs hx hb)) hh
      · exact hh.elim
    · next q sz els hs hx =>
      split at hh
      · next b hb => exact .mk (Still.qt (s_slnil_ne _ _ _ _ hs (.inl hx) hh.1 hb)) hh.2
      · exact hh.elim
    · next q sz els hs hx =>
      split at hh
      · next b hb => exact .mk (Still.qt (s_slnil_ne _ _ _ _ hs (.inr hx) hh.1 hb)) hh.2
      · exact hh.elim
    · exact hh.elim
  · split at hh
    · next kd m kd' n h1 h2 =>
      obtain ⟨rfl, hh⟩ := hh
      unfold vbinI at hh
      split at hh
      · exact .mk (Still.qt (s_icmp _ _ _ _ _ h1 h2 rfl)) hh
      · exact .mk (Still.qt (s_icmp _ _ _ _ _ h1 h2 rfl)) hh
      · exact .mk (Still.qt (s_icmp _ _ _ _ _ h1 h2 rfl)) hh
      · exact .mk (Still.qt (s_icmp _ _ _ _ _ h1 h2 rfl)) hh
      · exact .mk (Still.qt (s_icmp _ _ _ _ _ h1 h2 rfl)) hh
      · exact .mk (Still.qt (s_icmp _ _ _ _ _ h1 h2 rfl)) hh
      · exact .mk (Still.qt (s_iar _ _ _ _ _ h1 h2 rfl (inK_wrap hh.1))) hh.2
      · exact .mk (Still.qt (s_iar _ _ _ _ _ h1 h2 rfl (inK_wrap hh.1))) hh.2
      · exact .mk (Still.qt (s_iar _ _ _ _ _ h1 h2 rfl (inK_wrap hh.1))) hh.2
      · obtain ⟨⟨rfl, a, b, c⟩, hh⟩ := hh
        exact .mk (Still.qt (s_quo _ _ _ _ h1 h2 a b c)) hh
      · exact .mk (Still.qt (s_rem _ _ _ _ h1 h2 hh.1.1 hh.1.2)) hh.2
      · exact .mk (Still.qt (s_shr _ _ _ _ h1 h2 hh.1.1 hh.1.2)) hh.2
      · exact hh.elim
    · next m n h1 h2 =>
      unfold vbinS at hh
      split at hh
      · exact .mk (Still.qt (s_scmp _ _ _ _ _ h1 h2 rfl)) hh
      · exact .mk (Still.qt (s_scmp _ _ _ _ _ h1 h2 rfl)) hh
      · exact .mk (Still.qt (s_scmp _ _ _ _ _ h1 h2 rfl)) hh
      · exact .mk (Still.qt (s_scmp _ _ _ _ _ h1 h2 rfl)) hh
      · exact .mk (Still.qt (s_scmp _ _ _ _ _ h1 h2 rfl)) hh
      · exact .mk (Still.qt (s_scmp _ _ _ _ _ h1 h2 rfl)) hh
      · exact .mk (Still.qt (s_sadd _ _ _ _ h1 h2 hh.1)) hh.2
      · exact hh.elim
    · next m n h1 h2 =>
      obtain ⟨hb, hh⟩ := hh
      unfold vbinB at hh
      split at hh
      · exact .mk (Still.qt (s_bcmp _ _ _ _ _ hb h1 h2 rfl)) hh
      · exact .mk (Still.qt (s_bcmp _ _ _ _ _ hb h1 h2 rfl)) hh
      · exact hh.elim
    · next cs ds h1 h2 =>
      unfold vbinA at hh
      split at hh
      · next tags xs ys e1 e2 e3 =>
        split at hh
        · next b q e4 e5 =>
          refine .mk (Still.qt (s_eqT _ _ _ _ _ e1 h1 h2 e2 e3 hh.1 e4 ?_)) hh.2
          cases op <;> simp only [beqs, reduceCtorEq, Option.some.injEq, Bool.not_true] at e5 ⊢ <;> first | rfl | simp
        · exact hh.elim
      · exact hh.elim
    · exact hh.elim
end
end Go.Ax

/-
  The rule that reckons is sound, operation by operation. No condition.
-/
namespace Go.Ax
open Go Go.RowKit
section
variable {P : Program} {pm : Pm} {h : List LB} {o : Oper} {ρ : Operand → AV} {k : AV → Prop}
variable {dst : Option Tmp} {ty : TypeId} {p : String} {af : Array Edge} {gd : Option (Nat × Bool)}
theorem wrap_neg (kd : IntKind) (m : Int) (h : inK kd (-m)) : kd.wrap (0 - m) = -m := by
  rw [Int.zero_sub]; exact inK_wrap h
theorem vun_ok {op : UnOp} {t : TypeId} {x : Operand} (hh : vun op (ρ x) k) : CallE P pm h ⟨dst, .unOp op t x, ty, p, af, gd⟩ ρ k := by
  unfold vun at hh
  split at hh
  · next kd m h1 => exact .mk (Still.qt (s_neg _ _ h1 (wrap_neg _ _ hh.1))) hh.2
  · next b h1 => exact .mk (Still.qt (s_not _ _ h1)) hh
  · exact hh.elim
theorem vpick_ok {c x y : Operand} (hh : vpick (ρ c) (ρ x) (ρ y) k) : CallE P pm h ⟨dst, .pick c x y, ty, p, af, gd⟩ ρ k := by
  unfold vpick at hh
  split at hh
  · next b h1 =>
    cases b with
    | true => exact .mk (Still.qt (s_pick_t _ _ _ h1)) hh
    | false => exact .mk (Still.qt (s_pick_f _ _ _ h1)) hh
  · exact hh.elim
theorem vconv_ok {s d : TypeId} {x : Operand} (hh : vconv P s d (ρ x) k) : CallE P pm h ⟨dst, .convert s d x, ty, p, af, gd⟩ ρ k := by
  unfold vconv at hh
  split at hh
  · next a b c m e1 e2 e3 => exact .mk (Still.qt (s_conv _ _ _ e3 ⟨_, intT_some e1⟩ (intT_some e2) (inK_wrap hh.1))) hh.2
  · next l e1 e2 e3 => exact .mk (q_bytes e3 hh.1 hh.2.1 hh.2.2.1) hh.2.2.2
  · next a b m e1 e2 e3 => exact .mk (Still.qt (q_rune e3 (by rw [intT_some e1]; rfl) hh.1)) hh.2
  · exact hh.elim

theorem vcells_at {cx : Cx} {G : Gh} {w : World} (s : SatH cx G h w) {α : AV} {v : Value} (hα : Ar G α v) {K : List C → Nat → Prop} (hh : vcells h α K) : ∃ cs off, K cs off ∧ PtAt G w (cs.drop off) v := by
  unfold vcells at hh
  split at hh
  · next cs => exact ⟨_, _, hh, by rw [List.drop_zero]; exact ptAt_of s rfl hα⟩
  · next i off =>
    split at hh
    · next t cs hi => exact ⟨_, _, hh, ptAt_of s (by simp only [cellsAt, hi]) hα⟩
    · exact hh.elim
  · next i ver sz kk off =>
    split at hh
    · next t sz els v' hi =>
      obtain ⟨⟨rfl, rfl⟩, hlt, hk⟩ := hh
      have := rowp_at s hi (List.getElem?_eq_getElem hlt) hα
      rw [List.map_drop] at this
      exact ⟨_, _, hk, this⟩
    · exact hh.elim
  · exact hh.elim
/-- Is the reading known to be right of some world: the choice does not hang on the world. -/
theorem vload_ok {t : TypeId} {x : Operand} (hh : vload P h t (ρ x) k) : CallE P pm h ⟨dst, .load t x, ty, p, af, gd⟩ ρ k := by
  unfold vload at hh
  split at hh
  · next hl =>
    unfold vcells at hh
    split at hh
    · next cs hx =>
      obtain ⟨h0, hk⟩ := hh
      have hd : cs.map C.d = (cs.map C.d)[0] :: (cs.map C.d).drop 1 := by
        have := List.drop_eq_getElem_cons h0
        rwa [List.drop_zero] at this
      exact .mk (Still.qt (s_load1 _ _ hl (by rw [hx]; simp only [cellsAt]; rw [← hd]))) hk
    · next i off hx =>
      split at hh
      · next tb cs hi =>
        obtain ⟨h0, hk⟩ := hh
        exact .mk (Still.qt (s_load1 _ _ hl (by rw [hx]; simp only [cellsAt, hi]; rw [List.drop_eq_getElem_cons h0]))) hk
      · exact hh.elim
    · next i ver sz kk off hx =>
      split at hh
      · next te sz' els v hi =>
        obtain ⟨⟨rfl, rfl⟩, hlt, h0, hk⟩ := hh
        have h0' : off < els[kk].length := by simpa using h0
        have e : (els[kk].map C.d)[off] = C.d els[kk][off] := by simp
        rw [e] at hk
        exact .mk (Still.qt (s_load1_row _ _ hl hx hi (List.getElem?_eq_getElem hlt) (List.drop_eq_getElem_cons h0'))) hk
      · exact hh.elim
    · exact hh.elim
  · next n hl =>
    unfold vcells at hh
    split at hh
    · next cs hx =>
      obtain ⟨h0, hk⟩ := hh
      exact .mk (Still.qt (s_loadN _ _ hl (by rw [hx]; rfl) (by omega))) (by rw [List.drop_zero] at hk; exact hk)
    · next i off hx =>
      split at hh
      · next tb cs hi =>
        obtain ⟨h0, hk⟩ := hh
        exact .mk (Still.qt (s_loadN _ _ hl (by rw [hx]; simp only [cellsAt, hi]) (by rw [List.length_drop]; omega))) hk
      · exact hh.elim
    · next i ver sz kk off hx =>
      split at hh
      · next te sz' els v hi =>
        obtain ⟨⟨rfl, rfl⟩, hlt, h0, hk⟩ := hh
        rw [List.length_map] at h0
        refine .mk (Still.qt (s_loadN_row _ _ hl hx hi (List.getElem?_eq_getElem hlt) h0)) ?_
        rw [List.map_take, List.map_drop]; exact hk
      · exact hh.elim
    · exact hh.elim
  · exact hh.elim
theorem vfield_ok {t : TypeId} {i : Nat} {x : Operand} (hh : vfield P h t i (ρ x) k) : CallE P pm h ⟨dst, .fieldAddr t x i, ty, p, af, gd⟩ ρ k := by
  unfold vfield at hh
  split at hh
  · next o ho =>
    split at hh
    · next hx => exact .mk (Still.qt (s_field_ptr _ _ _ ho hx)) hh
    · next hx => exact .mk (Still.qt (s_field_loc _ _ _ ho hx)) hh
    · next hx =>
      split at hh
      · next hi =>
        obtain ⟨⟨rfl, rfl⟩, hh⟩ := hh
        exact .mk (Still.qt (s_field_row _ _ _ ho hx hi)) hh
      · exact hh.elim
    · exact hh.elim
  · exact hh.elim
theorem s_index_sub (t : TypeId) (x y : Operand) {te e : TypeId} {sz sz' j ver lo n : Nat} {kd : IntKind} {i : Int} {els : List (List D)} (hs : slT P t = some (e, sz)) (hx : ρ x = .c (.sub j ver sz lo n)) (hj : h[j]? = some (.row te sz' els ver)) (hy : ρ y = .c (.d (.int kd i))) (hsz : sz' = sz) (hle : lo + n ≤ els.length) (h0 : 0 ≤ i) (h1 : i < n) :
    Still P h ⟨dst, .indexAddr t x y, ty, p, af, gd⟩ ρ (.c (.rowp j ver sz (lo + i.toNat) 0)) := by
  subst hsz
  intro cx G w a s ho
  have e2 := ar_int (hy ▸ ho y (by simp [Op.operands]))
  obtain ⟨v0, xs, hg, how, _, _, _⟩ := row_at s hj
  have hr := ho x (by simp [Op.operands])
  rw [hx] at hr
  obtain ⟨_, v0', n', hg', _, hxx⟩ := hr
  rw [hg] at hg'
  cases hg'
  obtain ⟨A, cap, e1, hc, hm, hA⟩ := hxx rfl
  obtain ⟨b, len0, cap0, rfl, rfl⟩ := hA (by omega)
  refine ⟨.pointer (some ⟨b, (lo + i.toNat) * sz', none⟩), ?_, rfl, _, _, hg, Nat.le_refl _, fun _ => ⟨b, len0, cap0, rfl, by simp⟩⟩
  have := run_indexAt (k := kd) (n := n) (cap := cap) (ad := ⟨b, lo * sz', none⟩) hs h0 h1 w
  rw [add_plain, ← Nat.add_mul] at this
  simp only [execOp, e1, e2, Sem.run_bind, this, Result.andThen_ok, Sem.run_pure]
theorem vindex_ok {t : TypeId} {x y : Operand} (hh : vindex P h t (ρ x) (ρ y) k) : CallE P pm h ⟨dst, .indexAddr t x y, ty, p, af, gd⟩ ρ k := by
  unfold vindex at hh
  split at hh
  · next kd i hy =>
    split at hh
    · next e sz hs =>
      split at hh
      · next hx =>
        obtain ⟨⟨rfl, h0⟩, hlt, hk⟩ := hh
        exact .mk (Still.qt (s_index _ _ _ hs (.inl hx) hy rfl h0 (List.getElem?_eq_getElem hlt))) hk
      · next hx =>
        obtain ⟨⟨rfl, h0⟩, hlt, hk⟩ := hh
        exact .mk (Still.qt (s_index _ _ _ hs (.inr hx) hy rfl h0 (List.getElem?_eq_getElem hlt))) hk
      · next hx =>
        split at hh
        · next hj =>
          obtain ⟨⟨rfl, rfl, h0, h1⟩, hk⟩ := hh
          exact .mk (Still.qt (s_index_own _ _ _ hs hx hj hy rfl h0 h1)) hk
        · exact hh.elim
      · next hx =>
        split at hh
        · next hj =>
          obtain ⟨⟨rfl, rfl, rfl, hle, h0, h1⟩, hk⟩ := hh
          exact .mk (Still.qt (s_index_sub _ _ _ hs hx hj hy rfl hle h0 h1)) hk
        · exact hh.elim
      · exact hh.elim
    · split at hh
      · next m e sz ha =>
        split at hh
        · next hx => exact .mk (Still.qt (s_index_box _ _ _ ha hx hy hh.1.1 hh.1.2)) hh.2
        · next hx => exact .mk (Still.qt (s_index_arr _ _ _ ha hx hy hh.1.1 hh.1.2)) hh.2
        · exact hh.elim
      · exact hh.elim
  · exact hh.elim
theorem run_partG {t : TypeId} (hl : ldT P t = some none) {cs : Array Value} {off : Nat} {v : Value} (hv : cs[off]? = some v) (w : World) : (part t cs off).run P w = .ok v w := by
  have : (isAgg t).run P w = .ok false w := by
    unfold ldT at hl
    split at hl
    · cases hi : P.info? t <;> simp [hi] at hl
    · cases hi : P.info? t <;> simp [hi] at hl
    · next q h1 h2 hq =>
      cases q <;> simp_all [isAgg, run_underlying hq]
    · cases hl
  simp [part, this, hv]
theorem vstr_ok {t : TypeId} {x y : Operand} (hh : vstr P t (ρ x) (ρ y) k) : CallE P pm h ⟨dst, .index t x y, ty, p, af, gd⟩ ρ k := by
  unfold vstr at hh
  split at hh
  · next cs kd i hx hy =>
    split at hh
    · next n hn =>
      obtain ⟨⟨h0, h1⟩, hlt, hk⟩ := hh
      refine .mk (r := .c cs[i.toNat]) (Still.qt ?_) hk
      unfold ixT at hn
      split at hn
      · next m e hu =>
        split at hn
        · next hc =>
          cases hn
          intro cx G w a s hop
          obtain ⟨vs, e1, hvs⟩ := (hx ▸ hop x (by simp [Op.operands]) : Ar G (.agg cs) (a.eval x))
          have e2 := ar_int (hy ▸ hop y (by simp [Op.operands]))
          obtain ⟨u, hu1, hr⟩ := hvs.get i.toNat cs[i.toNat] (List.getElem?_eq_getElem hlt)
          refine ⟨u, ?_, hr⟩
          have hsz := run_sizeOf' (P := P) hc.1 w
          have hp := run_partG (P := P) hc.2 (cs := vs.toArray) (off := i.toNat * 1) (v := u) (by simpa using hu1) w
          simp only [execOp, Instr.index, asIntOf, e1, e2, Sem.run_bind, Sem.run_pure, Result.andThen_ok, run_underlying hu, if_pos (And.intro h0 h1), hsz, hp]
        · cases hn
      · cases hn
    · exact hh.elim
  · next l kd i hx hy =>
    obtain ⟨hs, h0, hlt, hk⟩ := hh
    exact .mk (Still.qt (s_index_str _ _ _ hs hx hy h0 (List.getElem?_eq_getElem hlt))) hk
  · exact hh.elim
theorem vbd_ok {x : Option Operand} {d : Nat} {K : Nat → Prop} (hh : vbd (x.map ρ) d K) : ∃ n, optI ρ x d n ∧ K n := by
  cases x with
  | none => exact ⟨d, rfl, hh⟩
  | some x =>
    simp only [Option.map_some] at hh
    unfold vbd at hh
    split at hh
    · next e => cases e
    · next kd i e =>
      injection e with e
      exact ⟨_, ⟨_, _, e, hh.1, rfl⟩, hh.2⟩
    · exact hh.elim
theorem vslice_ok {t : TypeId} {x : Operand} {lo hi : Option Operand} (hh : vslice P h t (ρ x) (lo.map ρ) (hi.map ρ) k) : CallE P pm h ⟨dst, .slice t x lo hi none, ty, p, af, gd⟩ ρ k := by
  unfold vslice at hh
  split at hh
  · next s hx =>
    obtain ⟨hs, hh⟩ := hh
    obtain ⟨l, hl, hh⟩ := vbd_ok hh
    obtain ⟨r, hr, ⟨h1, h2⟩, hh⟩ := vbd_ok hh
    exact .mk (Still.qt (s_slice_str _ _ _ _ hs hx hl hr h1 h2)) hh
  · next sz els hx =>
    split at hh
    · next e sz' hs =>
      obtain ⟨rfl, hh⟩ := hh
      obtain ⟨l, hl, hh⟩ := vbd_ok hh
      obtain ⟨r, hr, ⟨h1, h2⟩, hh⟩ := vbd_ok hh
      exact .mk (Still.qt (s_slice_lst _ _ _ _ hs hx rfl hl hr h1 h2)) hh
    · exact hh.elim
  · next sz els hx =>
    split at hh
    · next e sz' hs =>
      obtain ⟨rfl, hh⟩ := hh
      obtain ⟨l, hl, hh⟩ := vbd_ok hh
      obtain ⟨r, hr, ⟨h1, h2⟩, hh⟩ := vbd_ok hh
      exact .mk (Still.qt (s_slice_bor _ _ _ _ hs hx rfl hl hr h1 h2)) hh
    · exact hh.elim
  · next j ver hx =>
    split at hh
    · next e sz te sz' els v hs hj =>
      obtain ⟨⟨rfl, rfl⟩, hh⟩ := hh
      obtain ⟨l, hl, hh⟩ := vbd_ok hh
      obtain ⟨r, hr, ⟨h1, h2⟩, hh⟩ := vbd_ok hh
      exact .mk (Still.qt (s_slice_own _ _ _ _ hs hx hj rfl hl hr h1 h2)) hh
    · exact hh.elim
  · exact hh.elim
theorem vext_ok {x : Operand} {i : Nat} (hh : vext i (ρ x) k) : CallE P pm h ⟨dst, .extract x i, ty, p, af, gd⟩ ρ k := by
  unfold vext at hh
  split at hh
  · next vs hx =>
    split at hh
    · next α hα =>
      exact .mk (Still.qt (s_extract _ _ hx hα (by intro us e; rw [e] at hh; exact absurd hh.1 (by simp [AV.flat])))) hh.2
    · exact hh.elim
  · exact hh.elim
theorem vbuild_ok {t : TypeId} {ps : List (Nat × Operand)} (hh : vbuild P t (ps.map fun x => (x.1, ρ x.2)) k) : CallE P pm h ⟨dst, .build t ps.toArray, ty, p, af, gd⟩ ρ k := by
  unfold vbuild at hh
  split at hh
  · next pl zc h1 h2 =>
    split at hh
    · next cs h3 => exact .mk (Still.qt (s_build _ _ h1 h2 h3)) hh
    · exact hh.elim
  · exact hh.elim
theorem vlit_ok {t : TypeId} {n : Nat} {ps : List (Nat × Operand)} (hh : vlit P t n (ps.map fun x => (x.1, ρ x.2)) k) : CallE P pm h ⟨dst, .buildSlice t n ps.toArray, ty, p, af, gd⟩ ρ k := by
  unfold vlit at hh
  split at hh
  · next te sz by_ h1 =>
    split at hh
    · next els h2 =>
      rw [List.length_map] at hh
      exact .mk (q_buildSlice _ _ _ h1 h2 hh.1.1 hh.1.2) hh.2
    · exact hh.elim
  · exact hh.elim
theorem vclo_ok {f : FuncId} {caps : Array Operand} (hh : vclo f (caps.toList.map ρ) k) : CallE P pm h ⟨dst, .makeFunc (.func f) #[] caps, ty, p, af, gd⟩ ρ k := by
  unfold vclo at hh
  split at hh
  · next is h1 => exact .mk (Still.qt (s_makeFunc' _ _ h1)) hh
  · exact hh.elim
theorem vnilc_ok {x : Operand} (hh : vnilc (ρ x) k) : CallE P pm h ⟨dst, .nilCheck x, ty, p, af, gd⟩ ρ k := by
  unfold vnilc at hh
  split at hh
  · next cs hx => exact .mk (Still.qt (s_nilCheck _ (.inl ⟨_, hx⟩))) (by rw [hx]; exact hh)
  · next hx => exact .mk (Still.qt (s_nilCheck _ (.inr ⟨_, _, hx⟩))) (by rw [hx]; exact hh)
  · exact hh.elim
theorem vbi_ok {b : Builtin} {as : List Operand} {ts : List TypeId} (hh : vbi P h b (as.map ρ) ts k) : CallE P pm h ⟨dst, .call { callee := .builtin b, args := as.toArray, argTypes := ts.toArray }, ty, p, af, gd⟩ ρ k := by
  unfold vbi at hh
  split at hh
  · next α t e =>
    match as, e with
    | [x], e =>
      injection e with e _
      subst e
      unfold vlen at hh
      split at hh
      · next l hx => exact .mk (Still.qt (s_len_str _ _ hh.1 hx)) hh.2
      · next hx =>
        split at hh
        · next q hs => exact .mk (Still.qt (s_len_nil _ _ (slT_some hs).1 hx)) hh
        · exact hh.elim
      · split at hh
        · next q sz els hs he => exact .mk (Still.qt (s_len _ _ (slT_some hs).1 he)) hh
        · exact hh.elim
  · next α β e =>
    match as, e with
    | [x, y], e =>
      injection e with e1 e2
      injection e2 with e2 _
      unfold vmm at hh
      split at hh
      · obtain ⟨rfl, hk⟩ := hh
        exact .mk (Still.qt (s_min _ _ _ e1 e2)) hk
      · exact hh.elim
  · next α β e =>
    match as, e with
    | [x, y], e =>
      injection e with e1 e2
      injection e2 with e2 _
      unfold vmm at hh
      split at hh
      · obtain ⟨rfl, hk⟩ := hh
        exact .mk (Still.qt (s_max _ _ _ e1 e2)) hk
      · exact hh.elim
  · exact hh.elim
theorem q_call' {f : FuncId} {x : Operand} {as : List Operand} {ts : Array TypeId} {args' : List AV} {rs : List RV} (hx : ρ x = .c (.clo f [])) (hc : AFn P pm.Γ f args' rs) (ha : All2 (ArgOk pm h) (as.map ρ) args') :
    Qt P pm h ⟨dst, .call { callee := .value x, args := as.toArray, argTypes := ts }, ty, p, af, gd⟩ ρ (rsAV rs) := by
  intro cx G w a hp s ho next Q hn
  have hargs := args_ok (a := a) s hp as args' ha fun x hx => ho x (by simp [Op.operands, Call.operands, hx])
  have hv := ho x (by simp [Op.operands, Call.operands])
  rw [hx] at hv
  obtain ⟨bs, e, hbs⟩ := hv
  cases hbs
  have hr : (execOp a.eval ⟨dst, .call { callee := .value x, args := as.toArray, argTypes := ts }, ty, p, af, gd⟩).run P w = .ok (.enter f (as.map a.eval).toArray) w := by
    simp [execOp, resolve, Deferred.ofValue, e, invoke, run_callFunc hc.call]
  unfold Oper.wp
  rw [hr]
  refine (hc.run _ w _ (viewOk_of s (by rw [hp])) hargs).mono fun e w' hafter => ?_
  obtain ⟨G', vs, rfl, hG, s', hrs⟩ := after_all s hafter
  exact hn _ _ G' hG s' (rsAV_ok hrs)
theorem CallX_ok {as : List Operand} {x : Operand} {ts : Array TypeId} (hh : CallX P pm h ⟨dst, .call { callee := .value x, args := as.toArray, argTypes := ts }, ty, p, af, gd⟩ ρ (ρ x) (as.map ρ) k ⟨⟩) :
    CallE P pm h ⟨dst, .call { callee := .value x, args := as.toArray, argTypes := ts }, ty, p, af, gd⟩ ρ k := by
  rcases hh with hh | hh
  · unfold vcallee at hh
    split at hh
    · next f e =>
      obtain ⟨args', rs, h1, h2, h3⟩ := hh
      exact .mk (q_call' e h1 h2) h3
    · next R e =>
      obtain ⟨F, args', rs, rfl, h0, h2, h3⟩ := hh
      exact .mk (q_callfn e h0 h2) h3
    · exact hh.elim
  · exact hh
theorem run_partF {t : TypeId} (hl : ldT P t = some none) {cs : Array Value} {off : Nat} {v : Value} (hv : cs[off]? = some v) (w : World) : (part t cs off).run P w = .ok v w := by
  have : (isAgg t).run P w = .ok false w := by
    unfold ldT at hl
    split at hl
    · cases hi : P.info? t <;> simp [hi] at hl
    · cases hi : P.info? t <;> simp [hi] at hl
    · next q h1 h2 hq =>
      cases q <;> simp_all [isAgg, run_underlying hq]
    · cases hl
  simp [part, this, hv]
theorem vfield1_ok {t : TypeId} {x : Operand} {i : Nat} (hh : vfv2 (flT P t i) (ρ x) k) : CallE P pm h ⟨dst, .field t x i, ty, p, af, gd⟩ ρ k := by
  unfold vfv2 at hh
  split at hh
  · next o cs ho hx =>
    unfold flT at ho
    split at ho
    · next fs hu =>
      split at ho
      · next f hf =>
        split at ho
        · next hl =>
          cases ho
          obtain ⟨hlt, hk⟩ := hh
          refine .mk (r := .c cs[f.offset]) (Still.qt ?_) hk
          intro cx G w a s hop
          obtain ⟨vs, e1, hc⟩ := (hx ▸ hop x (by simp [Op.operands]) : Ar G (.agg cs) (a.eval x))
          obtain ⟨u, hu1, hr⟩ := hc.get f.offset cs[f.offset] (List.getElem?_eq_getElem hlt)
          refine ⟨u, ?_, hr⟩
          have hp := run_partF (P := P) hl (cs := vs.toArray) (off := f.offset) (v := u) (by simpa using hu1) w
          simp [execOp, e1, Instr.field, run_underlying hu, hf, asAgg, hp]
        · cases ho
      · cases ho
    · cases ho
  · exact hh.elim
theorem vlook_ok {t : TypeId} {x y : Operand} {ok : Bool} (hh : vlook P h t (ρ x) (ρ y) ok k) : CallE P pm h ⟨dst, .lookup t x y ok, ty, p, af, gd⟩ ρ k := by
  unfold vlook at hh
  split at hh
  · next sh m ks h1 h2 => exact .mk (Still.qt (s_lookup _ _ _ ok hh.1.1 h1 h2 hh.1.2)) hh.2
  · exact hh.elim
theorem ventry_ok {x : Operand} (hh : ventry h (ρ x) k) : CallE P pm h ⟨dst, .entry x, ty, p, af, gd⟩ ρ k := by
  unfold ventry at hh
  split at hh
  · next j h1 =>
    split at hh
    · next todo kv h2 => exact .mk (Still.qt (s_entry _ h1 h2)) hh
    · exact hh.elim
  · exact hh.elim
theorem vq_ok (hh : vq P h pm o ρ k) : CallE P pm h o ρ k := by
  obtain ⟨dst, op, ty, p, af, gd⟩ := o
  unfold vq at hh
  simp only at hh
  split at hh
  · exact .mk (Still.qt (s_move _)) hh
  · exact .mk (Still.qt (s_assign _)) hh
  · exact vpick_ok hh
  · exact vbin_ok hh
  · exact vun_ok hh
  · exact vconv_ok hh
  · exact vload_ok hh
  · exact vfield_ok hh
  · exact vfield1_ok hh
  · exact vindex_ok hh
  · exact vstr_ok hh
  · exact vslice_ok hh
  · exact vext_ok hh
  · next t ps => have := vbuild_ok (pm := pm) (h := h) (dst := dst) (ty := ty) (p := p) (af := af) (gd := gd) (ps := ps.toList) hh; simpa using this
  · next t n ps => have := vlit_ok (pm := pm) (h := h) (dst := dst) (ty := ty) (p := p) (af := af) (gd := gd) (ps := ps.toList) hh; simpa using this
  · obtain ⟨rfl, hh⟩ := hh
    exact vclo_ok hh
  · exact vnilc_ok hh
  · exact vlook_ok hh
  · exact ventry_ok hh
  · next b as ts => have := vbi_ok (pm := pm) (dst := dst) (ty := ty) (p := p) (af := af) (gd := gd) (as := as.toList) (ts := ts.toList) hh; simpa using this
  · next x as ts =>
    have := CallX_ok (pm := pm) (h := h) (dst := dst) (ty := ty) (p := p) (af := af) (gd := gd) (x := x) (as := as.toList) (ts := ts) (k := k) (P := P) (ρ := ρ)
    simp only [Array.toArray_toList] at this
    exact this hh
  · exact hh.elim
end
end Go.Ax

/-
  What is to be shown of code, reckoned: operations in their order, regions that draw, code. No condition.
-/
namespace Go.Ax
open Go Go.RowKit

/-! ### operations that make or write memory -/
section
variable (P : Program) (pm : Pm) (E : List Nat)
def mem? (E : List Nat) (dst : Option Nat) : Bool := match dst with | some d => E.contains d | none => false
def pushB (st : St) (dst : Option Nat) (t : TypeId) (cs : List C) : St := St.put ⟨st.env, st.heap ++ [.box t cs]⟩ dst (.c (.loc st.heap.length 0))
def pushR (st : St) (dst : Option Nat) (t : TypeId) (sz : Nat) (els : List (List D)) : St := St.put ⟨st.env, st.heap ++ [.row t sz els 0]⟩ dst (.c (.own st.heap.length 0))
def valloc (t : TypeId) (dst : Option Nat) (st : St) (k : St → Prop) : Prop :=
  match zeroC P t with
  | some zc => k (pushB st dst t zc)
  | none => False
def vbox (t : TypeId) (α : AV) (dst : Option Nat) (st : St) (k : St → Prop) : Prop :=
  match avCells α with
  | some cs => k (pushB st dst t cs)
  | none => False
def vstore (t : TypeId) (α β : AV) (st : St) (k : St → Prop) : Prop :=
  match α, avCells β with
  | .c (.loc i off), some xs => match st.heap[i]? with
    | some (.box tb cs) => (szT P t = some xs.length ∧ off + xs.length ≤ cs.length) ∧ k ⟨st.env, st.heap.set i (.box tb (splice cs off xs))⟩
    | _ => False
  | .c (.rowp i ver sz kk off), some xs => match st.heap[i]?, toDs xs with
    | some (.row te sz' els v), some ds => (v = ver ∧ sz' = sz ∧ szT P t = some ds.length) ∧ vel els kk fun e => off + ds.length ≤ e.length ∧ k ⟨st.env, st.heap.set i (.row te sz (els.set kk (splice e off ds)) ver)⟩
    | _, _ => False
  | _, _ => False
def vmake (t : TypeId) (α β : AV) (dst : Option Nat) (st : St) (k : St → Prop) : Prop :=
  match apT P t, α, β with
  | some (te, sz, by_), .c (.d (.int _ n)), .c (.d (.int _ n')) => match zeroC P te with
    | some zc => match toDs zc with
      | some zd => (n = n' ∧ 0 ≤ n ∧ n * by_ ≤ 140737488355328 ∧ n ≤ 4294967296) ∧ k (pushR st dst te sz (List.replicate n.toNat zd))
      | none => False
    | none => False
  | _, _, _ => False
def vlitO (t : TypeId) (n : Nat) (parts : List (Nat × AV)) (dst : Option Nat) (st : St) (k : St → Prop) : Prop :=
  match apT P t with
  | some (te, sz, _) => match partsE sz parts 0 with
    | some els => (parts.length = n ∧ n * sz ≤ 16777216) ∧ k (pushR st dst te sz els)
    | none => False
  | none => False
def vapp (t t' : TypeId) (x y : Operand) (α β : AV) (dst : Option Nat) (st : St) (k : St → Prop) : Prop :=
  match apT P t with
  | some (te, sz, by_) => match α with
    | .c (.own i ver) => match st.heap[i]? with
      | some (.row te' sz' els v) => match elsOfN sz st.heap β with
        | some (sz'', news) => ((t' = t ∧ te' = te ∧ sz' = sz ∧ v = ver ∧ sz'' = sz) ∧ ((els.length + news.length) * by_ ≤ 140737488355328 ∧ els.length + news.length ≤ 4294967296)) ∧ k (St.put ⟨st.env, st.heap.set i (.row te sz (els ++ news) (ver + 1))⟩ dst (.c (.own i (ver + 1))))
        | none => False
      | _ => False
    | .c (.d (.raw (.slice none 0 0))) => match x with
      | .tmp kk => match elsOfN sz st.heap β with
        | some (sz'', news) => ((t' = t ∧ sz'' = sz ∧ y ≠ .tmp kk) ∧ (news.length * by_ ≤ 140737488355328 ∧ news.length ≤ 4294967296)) ∧ k (St.put ⟨pute kk (.c (.own st.heap.length 0)) st.env, st.heap ++ [.row te sz news 1]⟩ dst (.c (.own st.heap.length 1)))
        | none => False
      | _ => False
    | _ => False
  | none => False
/-- A call whose one result is a row that is handed over. -/
def CallO (dst : Option Nat) (st : St) (α : AV) (as : List AV) (k : St → Prop) : Prop :=
  match α with
  | .c (.clo f []) => ∃ args' te sz els, AFn P pm.Γ f args' [.fresh te sz els] ∧ All2 (ArgOk pm st.heap) as args' ∧ k (pushR st dst te sz els)
  | _ => False
/-- An operation by a rule of the user's. -/
def Lf (o : Oper) (st : St) (k : St → Prop) : Prop := ∀ ops rest K, (∀ st', k st' → AXl P pm ops rest st' K) → AXl P pm ops ({ o with guard := none } :: rest) st K
/-- A call in its place. -/
def CallL (o : Oper) (st : St) (α : AV) (as : List AV) (k : St → Prop) (_ : Tok k) : Prop :=
  CallX P pm st.heap o (ev pm.Γ st.env) α as (fun r => k (st.put o.dst r)) ⟨⟩ ∨ CallO P pm o.dst st α as k ∨ Lf P pm o st k

def isOwn (n : Nat) (dst : Option Nat) : Bool := (n == 0) != mem? E dst
def vlitX (b : Bool) (t : TypeId) (n : Nat) (parts : List (Nat × AV)) (dst : Option Nat) (st : St) (k : St → Prop) : Prop :=
  match b with
  | true => vlitO P t n parts dst st k
  | false => vlit P t n parts fun r => k (st.put dst r)
def nilb (op : BinOp) (b : Bool) : Bool := if op = .eql then b else !b
/-- A slice held against nil. -/
def vnilR (t : TypeId) (op : BinOp) (α : AV) (dst : Option Nat) (st : St) (k : St → Prop) : Prop :=
  match slT P t, elsOfN 0 st.heap α with
  | some _, some (_, els) => (op = .eql ∨ op = .neq) ∧ (match α with
    | .c (.d (.raw (.slice none 0 0))) => k (st.put dst (oB (nilb op true)))
    | _ => (els ≠ [] → k (st.put dst (oB (nilb op false)))) ∧ (els = [] → ∀ b, k (st.put dst (oB b))))
  | _, _ => False
def vbinR (t : TypeId) (op : BinOp) (α β : AV) (nl : Bool) (dst : Option Nat) (st : St) (k : St → Prop) : Prop :=
  match nl with
  | true => vnilR P t op α dst st k
  | false => vbin P t op α β false fun r => k (st.put dst r)
/-! ### maps -/
def vmkmap (t : TypeId) (dst : Option Nat) (st : St) (k : St → Prop) : Prop :=
  match mapSh P t with
  | some sh => k (St.put ⟨st.env, st.heap ++ [.mp sh []]⟩ dst (.c (.own st.heap.length 0)))
  | none => False
def vment (t : TypeId) (α β : AV) (dst : Option Nat) (st : St) (k : St → Prop) : Prop :=
  match α, keyC β with
  | .c (.own i 0), some ks => match st.heap[i]? with
    | some (.mp sh m) => (MapT P t sh ∧ Kfits sh ks) ∧ k (St.put ⟨st.env, st.heap.set i (.mp sh (mpre m ks))⟩ dst (.tup [oI .i64 (mget m ks), oI .i64 (midx m ks)]))
    | _ => False
  | _, _ => False
def vest (α β γ : AV) (st : St) (k : St → Prop) : Prop :=
  match α, β, γ with
  | .c (.own i 0), .c (.d (.int _ n)), .c (.d (.int .i64 v)) => match st.heap[i]? with
    | some (.mp sh m) => (0 ≤ n ∧ n < m.length) ∧ k ⟨st.env, st.heap.set i (.mp sh (mset m n.toNat v))⟩
    | _ => False
  | _, _, _ => False
def vmup (t : TypeId) (α β γ : AV) (st : St) (k : St → Prop) : Prop :=
  match α, keyC β, γ with
  | .c (.own i 0), some ks, .c (.d (.int .i64 v)) => match st.heap[i]? with
    | some (.mp sh m) => (MapT P t sh ∧ Kfits sh ks) ∧ k ⟨st.env, st.heap.set i (.mp sh (mput m ks v))⟩
    | _ => False
  | _, _, _ => False
def vrange (t : TypeId) (α : AV) (dst : Option Nat) (st : St) (k : St → Prop) : Prop :=
  match α with
  | .c (.d (.mp sh m)) => MapT P t sh ∧ k (St.put ⟨st.env, st.heap ++ [.it m none]⟩ dst (.c (.loc st.heap.length 0)))
  | .c (.own i 0) => match st.heap[i]? with
    | some (.mp sh m) => MapT P t sh ∧ k (St.put ⟨st.env, st.heap.set i .dead ++ [.it m none]⟩ dst (.c (.loc st.heap.length 0)))
    | _ => False
  | .c (.d (.str s)) => isS P t ∧ k (St.put ⟨st.env, st.heap ++ [.sit s 0]⟩ dst (.c (.loc st.heap.length 0)))
  | _ => False
def vnextS (α : AV) (dst : Option Nat) (st : St) (k : St → Prop) : Prop :=
  match α with
  | .c (.loc j 0) => match st.heap[j]? with
    | some (.sit s pos) => (s.length ≤ pos → k (st.put dst (.tup [oB false]))) ∧ (pos < s.length → k (St.put ⟨st.env, st.heap.set j (.sit s (pos + (Lib.decodeL (s.drop pos)).2))⟩ dst (.tup [oB true, oI .i64 pos, oI .i32 (Lib.decodeL (s.drop pos)).1])))
    | _ => False
  | _ => False
def vnext (α : AV) (dst : Option Nat) (st : St) (k : St → Prop) : Prop :=
  match α with
  | .c (.loc j 0) => match st.heap[j]? with
    | some (.it todo _) => (todo = [] → k (st.put dst (.tup [oB false]))) ∧ ∀ (i : Nat) (hi : i < todo.length), k (St.put ⟨st.env, st.heap.set j (.it (todo.eraseIdx i) (some todo[i]))⟩ dst (.tup [oB true, keyAV todo[i].1, oI .i64 todo[i].2]))
    | _ => False
  | _ => False
def vrun (o : Oper) (st : St) (k : St → Prop) : Prop :=
  match o.op with
  | .binOp op t x y _ => vbinR P t op (ev pm.Γ st.env x) (ev pm.Γ st.env y) (isNil y) o.dst st k
  | .alloc t => valloc P t o.dst st k
  | .box t x => vbox t (ev pm.Γ st.env x) o.dst st k
  | .store t x y => o.dst = none ∧ vstore P t (ev pm.Γ st.env x) (ev pm.Γ st.env y) st k
  | .makeSlice t x y => vmake P t (ev pm.Γ st.env x) (ev pm.Γ st.env y) o.dst st k
  | .makeMap t none => vmkmap P t o.dst st k
  | .mapEntry t x y => vment P t (ev pm.Γ st.env x) (ev pm.Γ st.env y) o.dst st k
  | .entryStore _ x y z => o.dst = none ∧ vest (ev pm.Γ st.env x) (ev pm.Γ st.env y) (ev pm.Γ st.env z) st k
  | .mapUpdate t x y z => o.dst = none ∧ vmup P t (ev pm.Γ st.env x) (ev pm.Γ st.env y) (ev pm.Γ st.env z) st k
  | .range t x => vrange P t (ev pm.Γ st.env x) o.dst st k
  | .next x false => vnext (ev pm.Γ st.env x) o.dst st k
  | .next x true => vnextS (ev pm.Γ st.env x) o.dst st k
  | .buildSlice t n ps => vlitX P (isOwn E n o.dst) t n (ps.toList.map fun x => (x.1, ev pm.Γ st.env x.2)) o.dst st k
  | .call { callee := .builtin b, args := as, argTypes := ts } => match b, as.toList, ts.toList with
    | .append, [x, y], [t, t'] => vapp P t t' x y (ev pm.Γ st.env x) (ev pm.Γ st.env y) o.dst st k
    | b, as, ts => vbi P st.heap b (as.map (ev pm.Γ st.env)) ts fun r => k (st.put o.dst r)
  | .call { callee := .value x, args := as, argTypes := _ } => CallL P pm o st (ev pm.Γ st.env x) (as.toList.map (ev pm.Γ st.env)) k ⟨⟩
  | _ => vq P st.heap pm o (ev pm.Γ st.env) fun r => k (st.put o.dst r)
end

section
variable {P : Program} {pm : Pm} {E : List Nat}

theorem Lf.of_q {o : Oper} {st : St} {k : St → Prop} (hd : dstOk pm.N o.dst) (h : CallE P pm st.heap o (ev pm.Γ st.env) fun r => k (st.put o.dst r)) : Lf P pm o st k := by
  intro ops rest K hK
  obtain ⟨r, hq, hk⟩ := h
  refine AXl.qt (o := { o with guard := none }) (r := r) rfl hd ?_ (hK _ hk)
  exact hq

theorem valloc_ok {dst : Option Tmp} {ty : TypeId} {p : String} {af : Array Edge} {gd : Option (Nat × Bool)} {t : TypeId} {st : St} {k : St → Prop} (hd : dstOk pm.N dst) (hh : valloc P t dst st k) : Lf P pm ⟨dst, .alloc t, ty, p, af, gd⟩ st k := by
  unfold valloc at hh
  split at hh
  · next zc hz => exact fun ops rest K hK => AXl.alloc hz hd (hK _ hh)
  · exact hh.elim
theorem vbox_ok {dst : Option Tmp} {ty : TypeId} {p : String} {af : Array Edge} {gd : Option (Nat × Bool)} {t : TypeId} {x : Operand} {st : St} {k : St → Prop} (hd : dstOk pm.N dst) (hh : vbox t (ev pm.Γ st.env x) dst st k) : Lf P pm ⟨dst, .box t x, ty, p, af, gd⟩ st k := by
  unfold vbox at hh
  split at hh
  · next zc hz => exact fun ops rest K hK => AXl.box hz hd (hK _ hh)
  · exact hh.elim
theorem vstore_ok {dst : Option Tmp} {ty : TypeId} {p : String} {af : Array Edge} {gd : Option (Nat × Bool)} {t : TypeId} {x y : Operand} {st : St} {k : St → Prop} (hd : dst = none) (hh : vstore P t (ev pm.Γ st.env x) (ev pm.Γ st.env y) st k) : Lf P pm ⟨dst, .store t x y, ty, p, af, gd⟩ st k := by
  unfold vstore at hh
  split at hh
  · next i off xs hx hy =>
    split at hh
    · next tb cs hi => exact fun ops rest K hK => AXl.store hx hi hy hh.1.1 hh.1.2 hd (hK _ hh.2)
    · exact hh.elim
  · next i ver sz kk off xs hx hy =>
    split at hh
    · next te sz' els v ds hi hds =>
      obtain ⟨⟨rfl, rfl, hs⟩, hlt, hle, hk⟩ := hh
      exact fun ops rest K hK => AXl.store_row hx hi (List.getElem?_eq_getElem hlt) (by rw [hy, toDs_ok _ _ hds]) hs hle hd (hK _ hk)
    · exact hh.elim
  · exact hh.elim
theorem vmake_ok {dst : Option Tmp} {ty : TypeId} {p : String} {af : Array Edge} {gd : Option (Nat × Bool)} {t : TypeId} {x y : Operand} {st : St} {k : St → Prop} (hd : dstOk pm.N dst) (hh : vmake P t (ev pm.Γ st.env x) (ev pm.Γ st.env y) dst st k) : Lf P pm ⟨dst, .makeSlice t x y, ty, p, af, gd⟩ st k := by
  unfold vmake at hh
  split at hh
  · next te sz by_ kd n kd' n' h1 h2 h3 =>
    split at hh
    · next zc hz =>
      split at hh
      · next zd hzd =>
        obtain ⟨⟨rfl, h0, hb, hm⟩, hk⟩ := hh
        have e : n = (n.toNat : Int) := (Int.toNat_of_nonneg h0).symm
        have hb' : n.toNat * by_ ≤ 140737488355328 := by
          have h5 : ((n.toNat * by_ : Nat) : Int) ≤ 140737488355328 := by rw [Int.natCast_mul, ← e]; exact hb
          omega
        exact fun ops rest K hK => AXl.make h1 hz hzd (by rw [h2, ← e]) (by rw [h3, ← e]) hb' (by omega) hd (hK _ hk)
      · exact hh.elim
    · exact hh.elim
  · exact hh.elim
theorem vlitO_ok {dst : Option Tmp} {ty : TypeId} {p : String} {af : Array Edge} {gd : Option (Nat × Bool)} {t : TypeId} {n : Nat} {ps : List (Nat × Operand)} {st : St} {k : St → Prop} (hd : dstOk pm.N dst) (hh : vlitO P t n (ps.map fun x => (x.1, ev pm.Γ st.env x.2)) dst st k) : Lf P pm ⟨dst, .buildSlice t n ps.toArray, ty, p, af, gd⟩ st k := by
  unfold vlitO at hh
  split at hh
  · next te sz by_ h1 =>
    split at hh
    · next els h2 =>
      rw [List.length_map] at hh
      exact fun ops rest K hK => AXl.buildSlice h1 h2 hh.1.1 hh.1.2 hd (hK _ hh.2)
    · exact hh.elim
  · exact hh.elim
theorem vapp_ok {dst : Option Tmp} {ty : TypeId} {p : String} {af : Array Edge} {gd : Option (Nat × Bool)} {t t' : TypeId} {x y : Operand} {st : St} {k : St → Prop} (hd : dstOk pm.N dst) (hh : vapp P t t' x y (ev pm.Γ st.env x) (ev pm.Γ st.env y) dst st k) :
    Lf P pm ⟨dst, .call { callee := .builtin .append, args := #[x, y], argTypes := #[t, t'] }, ty, p, af, gd⟩ st k := by
  unfold vapp at hh
  split at hh
  · next te sz by_ h1 =>
    split at hh
    · next i ver hx =>
      split at hh
      · next te' sz' els v hi =>
        split at hh
        · next sz'' news hy =>
          obtain ⟨⟨⟨rfl, rfl, rfl, rfl, rfl⟩, hb, hm⟩, hk⟩ := hh
          exact fun ops rest K hK => AXl.append h1 hx hi hy hb hm hd (hK _ hk)
        · exact hh.elim
      · exact hh.elim
    · next hx =>
      split at hh
      · next kk =>
        split at hh
        · next sz'' news hy =>
          obtain ⟨⟨⟨rfl, rfl, hne⟩, hb, hm⟩, hk⟩ := hh
          exact fun ops rest K hK => AXl.append_nil h1 hx hne hy hb hm hd (hK _ hk)
        · exact hh.elim
      · exact hh.elim
    · exact hh.elim
  · exact hh.elim
theorem CallO_ok {dst : Option Tmp} {ty : TypeId} {p : String} {af : Array Edge} {gd : Option (Nat × Bool)} {x : Operand} {as : List Operand} {ts : Array TypeId} {st : St} {k : St → Prop} (hd : dstOk pm.N dst) (hh : CallO P pm dst st (ev pm.Γ st.env x) (as.map (ev pm.Γ st.env)) k) :
    Lf P pm ⟨dst, .call { callee := .value x, args := as.toArray, argTypes := ts }, ty, p, af, gd⟩ st k := by
  unfold CallO at hh
  split at hh
  · next f hx =>
    obtain ⟨args', te, sz, els, h1, h2, h3⟩ := hh
    exact fun ops rest K hK => AXl.call_own hx h1 h2 hd (hK _ h3)
  · exact hh.elim
theorem CallL_ok {dst : Option Tmp} {ty : TypeId} {p : String} {af : Array Edge} {gd : Option (Nat × Bool)} {x : Operand} {as : List Operand} {ts : Array TypeId} {st : St} {k : St → Prop} (hd : dstOk pm.N dst)
    (hh : CallL P pm ⟨dst, .call { callee := .value x, args := as.toArray, argTypes := ts }, ty, p, af, gd⟩ st (ev pm.Γ st.env x) (as.map (ev pm.Γ st.env)) k ⟨⟩) :
    Lf P pm ⟨dst, .call { callee := .value x, args := as.toArray, argTypes := ts }, ty, p, af, gd⟩ st k := by
  rcases hh with hh | hh | hh
  · exact Lf.of_q hd (CallX_ok hh)
  · exact CallO_ok hd hh
  · exact hh
theorem run_nileqA {t e : TypeId} (hu : P.underlying t = some (.slice e)) (n c d : Nat) (w : World) : (Op.equalIn (d + 1) t (.slice none n c) (.slice none 0 0)).run P w = .ok true w := by
  simp [Op.equalIn, run_underlying hu]
theorem vnilR_ok {dst : Option Tmp} {ty : TypeId} {p : String} {af : Array Edge} {gd : Option (Nat × Bool)} {op : BinOp} {t t' : TypeId} {x : Operand} {st : St} {k : St → Prop} (hd : dstOk pm.N dst) (hh : vnilR P t op (ev pm.Γ st.env x) dst st k) :
    Lf P pm ⟨dst, .binOp op t x (.const (.slice none 0 0)) t', ty, p, af, gd⟩ st k := by
  unfold vnilR at hh
  split at hh
  · next q sz els hs he =>
    obtain ⟨hop, hh⟩ := hh
    obtain ⟨hu, _⟩ := slT_some (P := P) (t := t) (e := q.1) (n := q.2) hs
    intro ops rest K hK cx G a w Q hp s hQ
    subst hp
    refine wpList_plain rfl fun K' hK' => ?_
    have hv := s.ev x
    have hsl := slAt_ofN s.h he hv
    obtain ⟨A, cap, u, e1, _, _, _, ha, _⟩ := hsl.form
    have e2 : a.eval (.const (.slice none 0 0)) = .slice none 0 0 := rfl
    have hrun : (execOp a.eval ⟨dst, .binOp op t x (.const (.slice none 0 0)) t', ty, p, af, none⟩).run P w = .ok (.value (.bool (nilb op A.isNone))) w := by
      have h1 : (Op.equal t (.slice A els.length cap) (.slice none 0 0)).run P w = .ok A.isNone w := by
        cases A with
        | none => exact run_nileqA hu _ _ 9999 w
        | some ad => exact run_nilne' hu ad _ _ w
      rcases hop with rfl | rfl <;> simp [execOp, e1, e2, eqGuard, binOp, h1, nilb]
    have hfin : ∀ b, nilb op A.isNone = b → k (st.put dst (oB b)) → K' (a.put dst (.bool b)) w := fun b _ hk => by
      refine hK' _ _ (hK _ hk cx G _ w Q rfl (s.put (α := oB b) (Dr.bool b) hd) hQ)
    unfold Oper.wp
    rw [hrun]
    show K' (a.put dst (.bool (nilb op A.isNone))) w
    split at hh
    · next hx =>
      rw [hx] at hv
      have := ar_raw hv
      rw [this] at e1
      injection e1 with e1 _ _
      refine hfin _ rfl ?_
      rw [← e1]; exact hh
    · by_cases hn : els = []
      · exact hfin _ rfl (hh.2 hn _)
      · obtain ⟨ad, rfl, _⟩ := ha hn
        exact hfin _ rfl (hh.1 hn)
  · exact hh.elim
theorem vbinR_ok {dst : Option Tmp} {ty : TypeId} {p : String} {af : Array Edge} {gd : Option (Nat × Bool)} {op : BinOp} {t t' : TypeId} {x y : Operand} {st : St} {k : St → Prop} (hd : dstOk pm.N dst) (hh : vbinR P t op (ev pm.Γ st.env x) (ev pm.Γ st.env y) (isNil y) dst st k) :
    Lf P pm ⟨dst, .binOp op t x y t', ty, p, af, gd⟩ st k := by
  unfold vbinR at hh
  split at hh
  · next hn =>
    obtain rfl : y = .const (.slice none 0 0) := by
      unfold isNil at hn
      split at hn
      · rfl
      · cases hn
    exact vnilR_ok hd hh
  · next hn => rw [← hn] at hh; exact Lf.of_q hd (vbin_ok hh)
section
variable {dst : Option Tmp} {ty : TypeId} {p : String} {af : Array Edge} {gd : Option (Nat × Bool)} {st : St} {k : St → Prop}
theorem vmkmap_ok {t : TypeId} (hd : dstOk pm.N dst) (hh : vmkmap P t dst st k) : Lf P pm ⟨dst, .makeMap t none, ty, p, af, gd⟩ st k := by
  unfold vmkmap at hh
  split at hh
  · exact fun ops rest K hK => AXl.makeMap _ hd (hK _ hh)
  · exact hh.elim
theorem vment_ok {t : TypeId} {x y : Operand} (hd : dstOk pm.N dst) (hh : vment P t (ev pm.Γ st.env x) (ev pm.Γ st.env y) dst st k) : Lf P pm ⟨dst, .mapEntry t x y, ty, p, af, gd⟩ st k := by
  unfold vment at hh
  split at hh
  · next i ks h1 h2 =>
    split at hh
    · next sh m h3 => exact fun ops rest K hK => AXl.mapEntry hh.1.1 h1 h3 h2 hh.1.2 hd (hK _ hh.2)
    · exact hh.elim
  · exact hh.elim
theorem vest_ok {t : TypeId} {x y z : Operand} (hd : dst = none) (hh : vest (ev pm.Γ st.env x) (ev pm.Γ st.env y) (ev pm.Γ st.env z) st k) : Lf P pm ⟨dst, .entryStore t x y z, ty, p, af, gd⟩ st k := by
  unfold vest at hh
  split at hh
  · next i kd n v h1 h2 h4 =>
    split at hh
    · next sh m h3 => exact fun ops rest K hK => AXl.entryStore h1 h3 h2 hh.1.1 hh.1.2 h4 hd (hK _ hh.2)
    · exact hh.elim
  · exact hh.elim
theorem vmup_ok {t : TypeId} {x y z : Operand} (hd : dst = none) (hh : vmup P t (ev pm.Γ st.env x) (ev pm.Γ st.env y) (ev pm.Γ st.env z) st k) : Lf P pm ⟨dst, .mapUpdate t x y z, ty, p, af, gd⟩ st k := by
  unfold vmup at hh
  split at hh
  · next i ks v h1 h2 h4 =>
    split at hh
    · next sh m h3 => exact fun ops rest K hK => AXl.mapUpdate hh.1.1 h1 h3 h2 hh.1.2 h4 hd (hK _ hh.2)
    · exact hh.elim
  · exact hh.elim
theorem vrange_ok {t : TypeId} {x : Operand} (hd : dstOk pm.N dst) (hh : vrange P t (ev pm.Γ st.env x) dst st k) : Lf P pm ⟨dst, .range t x, ty, p, af, gd⟩ st k := by
  unfold vrange at hh
  split at hh
  · next sh m h1 => exact fun ops rest K hK => AXl.range hh.1 h1 hd (hK _ hh.2)
  · next i h1 =>
    split at hh
    · next sh m h2 => exact fun ops rest K hK => AXl.range_own hh.1 h1 h2 hd (hK _ hh.2)
    · exact hh.elim
  · next s h1 => exact fun ops rest K hK => AXl.rangeS hh.1 h1 hd (hK _ hh.2)
  · exact hh.elim
theorem vnextS_ok {x : Operand} (hd : dstOk pm.N dst) (hh : vnextS (ev pm.Γ st.env x) dst st k) : Lf P pm ⟨dst, .next x true, ty, p, af, gd⟩ st k := by
  unfold vnextS at hh
  split at hh
  · next j h1 =>
    split at hh
    · next s pos h2 => exact fun ops rest K hK => AXl.nextS h1 h2 hd (fun e => hK _ (hh.1 e)) fun e => hK _ (hh.2 e)
    · exact hh.elim
  · exact hh.elim
theorem vnext_ok {x : Operand} (hd : dstOk pm.N dst) (hh : vnext (ev pm.Γ st.env x) dst st k) : Lf P pm ⟨dst, .next x false, ty, p, af, gd⟩ st k := by
  unfold vnext at hh
  split at hh
  · next j h1 =>
    split at hh
    · next todo last h2 => exact fun ops rest K hK => AXl.next h1 h2 hd (fun e => hK _ (hh.1 e)) fun i hi => hK _ (hh.2 i hi)
    · exact hh.elim
  · exact hh.elim
end
theorem vrun_ok {o : Oper} {st : St} {k : St → Prop} (hd : dstOk pm.N o.dst) (hh : vrun P pm E o st k) : Lf P pm o st k := by
  obtain ⟨dst, op, ty, p, af, gd⟩ := o
  unfold vrun at hh
  simp only at hh
  split at hh
  · exact vbinR_ok hd hh
  · exact valloc_ok hd hh
  · exact vbox_ok hd hh
  · exact vstore_ok hh.1 hh.2
  · exact vmake_ok hd hh
  · exact vmkmap_ok hd hh
  · exact vment_ok hd hh
  · exact vest_ok hh.1 hh.2
  · exact vmup_ok hh.1 hh.2
  · exact vrange_ok hd hh
  · exact vnext_ok hd hh
  · exact vnextS_ok hd hh
  · next t n ps =>
    unfold vlitX at hh
    split at hh
    · have := vlitO_ok (P := P) (pm := pm) (ty := ty) (p := p) (af := af) (gd := gd) (ps := ps.toList) hd hh; simpa using this
    · have := vlit_ok (P := P) (pm := pm) (h := st.heap) (dst := dst) (ty := ty) (p := p) (af := af) (gd := gd) (ps := ps.toList) (ρ := ev pm.Γ st.env) hh
      rw [show ps.toList.toArray = ps by simp] at this
      exact Lf.of_q hd this
  · next b as ts =>
    split at hh
    · next x y t t' h1 h2 =>
      have e1 : as = #[x, y] := by rw [← h1]
      have e2 : ts = #[t, t'] := by rw [← h2]
      rw [e1, e2]
      exact vapp_ok hd hh
    · have := vbi_ok (P := P) (pm := pm) (h := st.heap) (dst := dst) (ty := ty) (p := p) (af := af) (gd := gd) (ρ := ev pm.Γ st.env) hh
      simp only [Array.toArray_toList] at this
      exact Lf.of_q hd this
  · next x as ts =>
    have := CallL_ok (P := P) (pm := pm) (ty := ty) (p := p) (af := af) (gd := gd) (x := x) (as := as.toList) (ts := ts) (st := st) (k := k) hd
    simp only [Array.toArray_toList] at this
    exact this hh
  · exact Lf.of_q hd (vq_ok hh)
end

/-! ### guards -/
def gslot : List Oper → Nat → Option Nat
  | [], _ => none
  | o :: _, 0 => o.dst
  | _ :: r, n + 1 => gslot r n
theorem gslot_eq : ∀ (l : List Oper) (j : Nat), gslot l j = (l[j]?).bind (·.dst)
  | [], j => by simp [gslot]
  | o :: r, 0 => by simp [gslot]
  | o :: r, n + 1 => by simp [gslot, gslot_eq r n]
def vgb (b want : Bool) (d : Nat) (st : St) (yes no : St → Prop) : Prop :=
  (b = want → yes ⟨pute d (oB want) st.env, st.heap⟩) ∧ (b = !want → no ⟨pute d (oB !want) st.env, st.heap⟩)
def vgs (d : Nat) (α : AV) (want : Bool) (st : St) (yes no : St → Prop) : Prop :=
  match α with
  | .c (.d (.bool b)) => vgb b want d st yes no
  | .tup [] => no st
  | _ => False
def vgj (d : Option Nat) (want : Bool) (st : St) (yes no : St → Prop) : Prop :=
  match d with
  | some d => vgs d (lk d st.env) want st yes no
  | none => False
def vgd (l : List Oper) (g : Option (Nat × Bool)) (st : St) (yes no : St → Prop) : Prop :=
  match g with
  | none => yes st
  | some (j, want) => vgj (gslot l j) want st yes no

section
variable {P : Program} {pm : Pm} {E : List Nat}
theorem AXl.unguard {ops : Array Oper} {o : Oper} {rest : List Oper} {st : St} {K : St → Prop} (hw : wantedA ops o st.env = some true) (hg : gdOk ops pm.N o = true) (h : AXl P pm ops ({ o with guard := none } :: rest) st K) : AXl P pm ops (o :: rest) st K := by
  intro cx G a w Q hp s hQ
  have h1 := h cx G a w Q hp s hQ
  simp only [wpList] at h1 ⊢
  rw [if_pos (s.guard hw (hp ▸ gdOk_spec hg))]
  have : Region.wanted { o with guard := none } (yielded ops a.tmps) = true := rfl
  rw [if_pos this] at h1
  exact h1
theorem vgd_ok {l : List Oper} {o : Oper} {rest : List Oper} {st : St} {K : St → Prop} {yes no : St → Prop} (hd : dstOk pm.N o.dst) (hg : gdOk l.toArray pm.N o = true)
    (hy : ∀ st, yes st → Lf P pm o st fun st' => AXl P pm l.toArray rest st' K) (hn : ∀ st, no st → AXl P pm l.toArray rest (st.put o.dst U) K) (h : vgd l o.guard st yes no) : AXl P pm l.toArray (o :: rest) st K := by
  unfold vgd at h
  split at h
  · next hgd =>
    have := hy st h l.toArray rest K (fun _ h => h)
    have e : ({ o with guard := none } : Oper) = o := by rw [← hgd]
    rwa [e] at this
  · next j want hgd =>
    unfold vgj at h
    split at h
    · next d hgs =>
      rw [gslot_eq] at hgs
      have hgs' : (l.toArray[j]?).bind (·.dst) = some d := by simpa using hgs
      have hwant : ∀ (b : Bool) (ρ : Env), lk d ρ = oB b → wantedA l.toArray o ρ = some (b == want) := fun b ρ hl => by
        unfold wantedA
        rw [hgd]
        simp only [hgs', hl]
      have hput : ∀ b : Bool, lk d (pute d (oB b) st.env) = oB b := fun b => by simp [lk_put]
      unfold vgs at h
      split at h
      · next b hb =>
        obtain ⟨h1, h2⟩ := h
        have ht : ∀ c : Bool, b = c → AXl P pm l.toArray (o :: rest) ⟨pute d (oB c) st.env, st.heap⟩ K := by
          intro c hc
          by_cases hcw : c = want
          · subst hcw
            refine AXl.unguard (by rw [hwant c _ (hput c)]; simp) hg (hy _ (h1 hc) _ _ _ (fun _ h => h))
          · have hcn : c = !want := by revert hcw; cases c <;> cases want <;> simp
            refine AXl.skip_guard hd (by rw [hwant c _ (hput c)]; simp [hcw]) hg ?_
            have := hn _ (h2 (hc.trans hcn))
            rwa [← hcn] at this
        exact AXl.split d b hb (ht true) (ht false)
      · next hb =>
        refine AXl.skip_guard hd ?_ hg (hn _ h)
        unfold wantedA
        rw [hgd]
        simp only [hgs', hb]
      · exact h.elim
    · exact h.elim
end
end Go.Ax

/-
  What is to be shown of code, reckoned: lists of operations, regions that draw, code; and that it suffices. No condition.
-/
namespace Go.Ax
open Go Go.RowKit

def vcl (P : Program) (pm : Pm) (E : List Nat) (l : List Oper) : List Oper → St → (St → Prop) → Prop
  | [], st, K => K st
  | o :: rest, st, K => vgd l o.guard st (fun st => vrun P pm E o st fun st' => vcl P pm E l rest st' K) (fun st => vcl P pm E l rest (st.put o.dst U) K)

/-- May the operation come up in whatever order? -/
def pureO (E : List Nat) (o : Oper) : Bool :=
  match o.op with
  | .alloc _ => false
  | .box _ _ => false
  | .store _ _ _ => false
  | .makeSlice _ _ _ => false
  | .makeMap _ _ => false
  | .mapEntry _ _ _ => false
  | .entryStore _ _ _ _ => false
  | .mapUpdate _ _ _ _ => false
  | .range _ _ => false
  | .next _ _ => false
  | .buildSlice _ n _ => !isOwn E n o.dst
  | .call { callee := .builtin b, args := _, argTypes := _ } => match b with
    | .len => true
    | .min => true
    | .max => true
    | _ => false
  | .call { callee := .value _, args := _, argTypes := _ } => !mem? E o.dst
  | _ => true
def vcd (P : Program) (pm : Pm) (E : List Nat) (l : List Oper) (h : List LB) : List Oper → Env → (St → Prop) → Prop
  | [], ρ, K => K ⟨ρ, h⟩
  | o :: rest, ρ, K => bif pureO E o then
      vgd l o.guard ⟨ρ, h⟩ (fun st => vq P h pm o (ev pm.Γ st.env) fun r => vcd P pm E l h rest (putE o.dst r st.env) K) (fun st => vcd P pm E l h rest (putE o.dst U st.env) K)
    else vcl P pm E l (o :: rest) ⟨ρ, h⟩ K

def opsOk (l : List Oper) (N : Nat) : Bool := l.all fun o => gdOk l.toArray N o && (match o.dst with | some d => decide (d < N) | none => true)
def drawN (E : List Nat) (l : List Oper) : Nat := (l.takeWhile (pureO E)).length
/-- To be decided of a function's text. -/
def codeOk (E : List Nat) (N : Nat) : Code → Bool
  | .region id ops d => opsOk ops.toList N && (if d then mem? E (some (1000000 + id)) || drawOk ops.toList (drawN E ops.toList) N else true)
  | .seq a b => codeOk E N a && codeOk E N b
  | .cond _ a b => codeOk E N a && codeOk E N b
  | .block _ a => codeOk E N a
  | .loop a => codeOk E N a
  | .scope a => codeOk E N a
  | _ => true

/-- Behind a scope: no jump to a label is under way. -/
def ScopeQ (Q : Exit → St → Prop) : Exit → St → Prop
  | .goto _, _ => False
  | e, st => Q e st
def vcnd (α : AV) (X Y : Prop) : Prop :=
  match α with
  | .c (.d (.bool b)) => (b = true → X) ∧ (b = false → Y)
  | _ => False
/-- A loop, left to the reader. -/
def LoopV (P : Program) (pm : Pm) (E : List Nat) (b : Code) (st : St) (Q : Exit → St → Prop) (_ : Tok Q) : Prop := codeOk E pm.N b = true → AXc P pm (.loop b) st Q
/-- A region that may come up in whatever order, left to the reader. -/
def RegV (P : Program) (pm : Pm) (id : Nat) (ops : List Oper) (st : St) (Q : Exit → St → Prop) (_ : Tok Q) : Prop := opsOk ops pm.N = true → AXc P pm (.region id ops.toArray true) st Q
def vc (P : Program) (pm : Pm) (E : List Nat) : Code → St → (Exit → St → Prop) → Prop
  | .skip, st, Q => Q .normal st
  | .label _, st, Q => Q .normal st
  | .ret, st, Q => Q .ret st
  | .exit id, st, Q => Q (.exit id) st
  | .seq x y, st, Q => vc P pm E x st (Ethen (fun st' => vc P pm E y st' Q) Q)
  | .cond c x y, st, Q => vcnd (ev pm.Γ st.env c) (vc P pm E x st Q) (vc P pm E y st Q)
  | .block id c, st, Q => vc P pm E c st (EinBlock id Q)
  | .region id ops d, st, Q => bif d then (bif mem? E (some (1000000 + id)) then RegV P pm id ops.toList st Q ⟨⟩ else vcd P pm E ops.toList st.heap ops.toList st.env (Q .normal)) else vcl P pm E ops.toList ops.toList st (Q .normal)
  | .loop b, st, Q => LoopV P pm E b st Q ⟨⟩
  | .scope c, st, Q => vc P pm E c st (ScopeQ Q)
  | _, _, _ => False

section
variable {P : Program} {pm : Pm} {E : List Nat}
theorem opsOk_at {l : List Oper} {N : Nat} (h : opsOk l N = true) {o : Oper} (ho : o ∈ l) : gdOk l.toArray N o = true ∧ dstOk N o.dst := by
  unfold opsOk at h
  have := List.all_eq_true.1 h o ho
  simp only [Bool.and_eq_true] at this
  refine ⟨this.1, ?_⟩
  cases hd : o.dst with
  | none => trivial
  | some d => rw [hd] at this; exact (of_decide_eq_true this.2 : d < N)
theorem vcl_ok {l : List Oper} (hok : opsOk l pm.N = true) : ∀ (r : List Oper), (∀ o ∈ r, o ∈ l) → ∀ (st : St) (K : St → Prop), vcl P pm E l r st K → AXl P pm l.toArray r st K
  | [], _, st, K, h => AXl.nil h
  | o :: rest, hm, st, K, h => by
    obtain ⟨h1, h2⟩ := opsOk_at hok (hm o (by simp))
    have ih := vcl_ok hok rest (fun o ho => hm o (by simp [ho]))
    refine vgd_ok h2 h1 (fun st hst => ?_) (fun st hst => ih _ _ hst) h
    intro ops rest' K' hK'
    exact vrun_ok h2 hst ops rest' K' fun st' hst' => hK' st' (ih _ _ hst')

theorem vgd_okd {l : List Oper} {o : Oper} {rest : List Oper} {h : List LB} {ρ : Env} {Kd : Env → Prop} {yes no : St → Prop} (hheap : ∀ ρ, yes ⟨ρ, h⟩ → ∃ r, Qt P pm h o (ev pm.Γ ρ) r ∧ AXd P pm h l.toArray rest (putE o.dst r ρ) Kd)
    (hn : ∀ ρ, no ⟨ρ, h⟩ → AXd P pm h l.toArray rest (putE o.dst U ρ) Kd) (hh : vgd l o.guard ⟨ρ, h⟩ yes no) : AXd P pm h l.toArray (o :: rest) ρ Kd := by
  unfold vgd at hh
  split at hh
  · next hgd =>
    obtain ⟨r, hq, hk⟩ := hheap _ hh
    exact AXd.op (by unfold wantedA; rw [hgd]) hq hk
  · next j want hgd =>
    unfold vgj at hh
    split at hh
    · next d hgs =>
      rw [gslot_eq] at hgs
      have hgs' : (l.toArray[j]?).bind (·.dst) = some d := by simpa using hgs
      have hwant : ∀ (b : Bool) (ρ : Env), lk d ρ = oB b → wantedA l.toArray o ρ = some (b == want) := fun b ρ hl => by
        unfold wantedA
        rw [hgd]
        simp only [hgs', hl]
      have hput : ∀ b : Bool, lk d (pute d (oB b) ρ) = oB b := fun b => by simp [lk_put]
      unfold vgs at hh
      split at hh
      · next b hb =>
        obtain ⟨h1, h2⟩ := hh
        have ht : ∀ c : Bool, b = c → AXd P pm h l.toArray (o :: rest) (pute d (oB c) ρ) Kd := by
          intro c hc
          by_cases hcw : c = want
          · subst hcw
            obtain ⟨r, hq, hk⟩ := hheap _ (h1 hc)
            exact AXd.op (by rw [hwant c _ (hput c)]; simp) hq hk
          · have hcn : c = !want := by revert hcw; cases c <;> cases want <;> simp
            refine AXd.skip (by rw [hwant c _ (hput c)]; simp [hcw]) ?_
            have := hn _ (h2 (hc.trans hcn))
            rwa [← hcn] at this
        exact AXd.split d b hb (ht true) (ht false)
      · next hb =>
        refine AXd.skip ?_ (hn _ hh)
        unfold wantedA
        rw [hgd]
        simp only [hgs', hb]
      · exact hh.elim
    · exact hh.elim

theorem vcd_ok {l : List Oper} {h : List LB} (hok : opsOk l pm.N = true) : ∀ (r : List Oper), (∀ o ∈ r, o ∈ l) → ∀ (ρ : Env) (K : St → Prop), vcd P pm E l h r ρ K →
    AXd P pm h l.toArray (r.takeWhile (pureO E)) ρ fun ρ' => AXl P pm l.toArray (r.dropWhile (pureO E)) ⟨ρ', h⟩ K
  | [], _, ρ, K, hh => AXd.nil (AXl.nil hh)
  | o :: rest, hm, ρ, K, hh => by
    have ih := vcd_ok (h := h) hok rest (fun o ho => hm o (by simp [ho]))
    unfold vcd at hh
    cases hp : pureO E o with
    | true =>
      rw [hp] at hh
      simp only [cond_true] at hh
      rw [List.takeWhile_cons_of_pos hp, List.dropWhile_cons_of_pos hp]
      refine vgd_okd (fun ρ hy => ?_) (fun ρ hn => ih _ _ hn) hh
      obtain ⟨r, hq, hk⟩ := vq_ok hy
      exact ⟨r, hq, ih _ _ hk⟩
    | false =>
      rw [hp] at hh
      simp only [cond_false] at hh
      rw [List.takeWhile_cons_of_neg (by simp [hp]), List.dropWhile_cons_of_neg (by simp [hp])]
      exact AXd.nil (vcl_ok hok _ hm _ _ hh)

theorem AXc.scope {c : Code} {st : St} {Q : Exit → St → Prop} (h : AXc P pm c st (ScopeQ Q)) : AXc P pm (.scope c) st Q := by
  intro cx G a w hp s
  refine wp2_scope_straight (wp2_mono (h cx G a w hp s) ?_)
  rintro e a' w' ⟨G', st', s', q⟩
  cases e with
  | goto l => exact q.elim
  | _ => exact ⟨G', st', s', q⟩
theorem vc_ok (hm : P.follows .mixedOrders = true) : ∀ (c : Code) (st : St) (Q : Exit → St → Prop), codeOk E pm.N c = true → vc P pm E c st Q → AXc P pm c st Q
  | .skip, st, Q, _, h => AXc.skip h
  | .label _, st, Q, _, h => AXc.label h
  | .ret, st, Q, _, h => AXc.ret h
  | .exit id, st, Q, _, h => AXc.exit h
  | .seq x y, st, Q, hok, h => by
    simp only [codeOk, Bool.and_eq_true] at hok
    refine AXc.seq fun K hK => ?_
    refine (vc_ok hm x st _ hok.1 h).mono fun e s he => ?_
    cases e with
    | normal => exact hK s (vc_ok hm y s Q hok.2 he)
    | _ => exact he
  | .cond c x y, st, Q, hok, h => by
    simp only [codeOk, Bool.and_eq_true] at hok
    unfold vc vcnd at h
    split at h
    · next b hb => exact AXc.cond hb (fun e => vc_ok hm x st Q hok.1 (h.1 e)) (fun e => vc_ok hm y st Q hok.2 (h.2 e))
    · exact h.elim
  | .block id c, st, Q, hok, h => AXc.block (vc_ok hm c st _ hok h)
  | .region id ops d, st, Q, hok, h => by
    obtain ⟨l⟩ := ops
    unfold codeOk at hok
    simp only [Bool.and_eq_true] at hok
    unfold vc at h
    cases d with
    | true =>
      simp only [cond_true] at h
      simp only [if_true] at hok
      cases hE : mem? E (some (1000000 + id)) with
      | true => rw [hE] at h; exact h hok.1
      | false =>
      rw [hE] at h hok
      simp only [cond_false, Bool.false_or] at h hok
      have h1 := vcd_ok (P := P) (pm := pm) hok.1 l (fun _ h => h) _ _ h
      have e1 : l.take (drawN E l) = l.takeWhile (pureO E) := by
        unfold drawN
        exact List.prefix_iff_eq_take.1 (List.takeWhile_prefix _) |>.symm
      have e2 : l.drop (drawN E l) = l.dropWhile (pureO E) := by
        have h1 := List.take_append_drop (drawN E l) l
        rw [e1] at h1
        have h2 := List.takeWhile_append_dropWhile (p := pureO E) (l := l)
        exact List.append_cancel_left (h1.trans h2.symm)
      refine AXc.draw hm (drawN E l) hok.2 ?_
      rw [e1, e2]
      exact h1
    | false =>
      simp only [cond_false] at h
      exact AXc.region (vcl_ok hok.1 l (fun _ h => h) _ _ h)
  | .loop b, st, Q, hok, h => h hok
  | .rangeFunc .., _, _, _, h => h.elim
  | .scope c, st, Q, hok, h => AXc.scope (vc_ok hm c st _ hok h)
  | .goto .., _, _, _, h => h.elim
  | .refuse .., _, _, _, h => h.elim

/-- What a function leaves. -/
def finV (P : Program) (res : List ResultVar) (fr : Option Nat) (rs : List RV) (st : St) : Prop :=
  match resAVs P st res with
  | some αs => match rvsOf fr st.heap αs with
    | some rs' => rs' = rs
    | none => False
  | none => False
theorem finV_ok {res : List ResultVar} {fr : Option Nat} {rs : List RV} {st : St} (h : finV P res fr rs st) : ∃ αs, resAVs P st res = some αs ∧ rvsOf fr st.heap αs = some rs := by
  unfold finV at h
  split at h
  · next αs h1 =>
    split at h
    · next rs' h2 => exact ⟨αs, h1, by rw [h2, h]⟩
    · exact h.elim
  · exact h.elim
def FinV (P : Program) (res : List ResultVar) (fr : Option Nat) (rs : List RV) : Exit → St → Prop
  | .ret, st => finV P res fr rs st
  | .normal, st => finV P res fr rs st
  | _, _ => False
theorem FinV_ok {res : List ResultVar} {fr : Option Nat} {rs : List RV} {e : Exit} {st : St} (h : FinV P res fr rs e st) : Fin P res fr rs e st := by
  cases e with
  | ret => exact ⟨.inl rfl, finV_ok h⟩
  | normal => exact ⟨.inr rfl, finV_ok h⟩
  | _ => exact h.elim

/-- FROM THE RECKONED RULE TO THE CONTRACT. -/
theorem AFn.vc0 {Γ : List (Nat × List D)} {f : FuncId} {fn : Func} {c : Code} {args : List AV} {rs : List RV} (E : List Nat) (hf : P.funcs[f]? = some fn) (hb : fn.body = some c) (hm : P.follows .mixedOrders = true)
    (hok : (!(fn.name == "runtime.NumGoroutine") && codeOk E fn.ntmps c) = true) (hN : args.length ≤ fn.ntmps)
    (h : ap (vc P ⟨0, fn.ntmps, Γ⟩ E c ⟨envOf args 0, []⟩) (FinV P fn.results.toList none rs) ⟨⟩) : AFn P Γ f args rs := by
  simp only [Bool.and_eq_true, Bool.not_eq_true'] at hok
  exact AFn.of_body0 hf hok.1 hb rfl rfl hN ((vc_ok hm c _ _ hok.2 h).mono fun e s hs => FinV_ok hs)
theorem AFn.vc1 {Γ : List (Nat × List D)} {f : FuncId} {fn : Func} {c : Code} {args : List AV} {te : TypeId} {sz : Nat} {els : List (List D)} {r : ResultVar} (E : List Nat) (i : Nat) (hf : P.funcs[f]? = some fn) (hb : fn.body = some c) (hm : P.follows .mixedOrders = true)
    (hok : (!(fn.name == "runtime.NumGoroutine") && codeOk E fn.ntmps c) = true) (hres : fn.results.toList = [r]) (hN : args.length ≤ fn.ntmps)
    (h : ap (vc P ⟨0, fn.ntmps, Γ⟩ E c ⟨envOf args 0, []⟩) (FinV P [r] (some i) [.fresh te sz els]) ⟨⟩) : AFn P Γ f args [.fresh te sz els] := by
  simp only [Bool.and_eq_true, Bool.not_eq_true'] at hok
  exact AFn.of_body1 i hf hok.1 hb rfl hres hN ((vc_ok hm c _ _ hok.2 h).mono fun e s hs => FinV_ok hs)

def EthenT (K : St → Prop) (Q : Exit → St → Prop) (_ : Tok K) (_ : Tok Q) : Exit → St → Prop := Ethen K Q
def ScopeT (Q : Exit → St → Prop) (_ : Tok Q) : Exit → St → Prop := ScopeQ Q
def EinBlockT (i : Nat) (Q : Exit → St → Prop) (_ : Tok Q) : Exit → St → Prop := EinBlock i Q
/-! ### forgetting, reckoned -/
def preH : List LB → List LB → Prop
  | _, [] => True
  | [], _ :: _ => False
  | b :: r, b' :: r' => b = b' ∧ preH r r'
def lowL (n : Nat) : List AV → Prop
  | [] => True
  | α :: r => α.low n ∧ lowL n r
def lowEs (n : Nat) : Env → Prop
  | [] => True
  | c :: r => lowL n c ∧ lowEs n r
/-- A slot of a row that is left behind, read as closed data from now on; a nil slice, read as an empty one. -/
def frz (h : List LB) (n : Nat) : AV → AV → Prop
  | .c (.d (.lst sz els)), .c (.own i ver) => n ≤ i ∧ (match h[i]? with | some (.row _ sz' els' v) => (v = ver ∧ sz' = sz) ∧ els' = els | _ => False)
  | .c (.d (.lst _ els)), .c (.d (.raw (.slice none 0 0))) => els = []
  | _, _ => False
def subL (h : List LB) (n : Nat) : List AV → List AV → Prop
  | [], _ => True
  | a :: r, [] => a = .any ∧ subL h n r []
  | a :: r, b :: s => (a = .any ∨ a = b ∨ frz h n a b) ∧ subL h n r s
def subV (h : List LB) (n : Nat) : Env → Env → Prop
  | [], _ => True
  | c :: r, [] => subL h n c [] ∧ subV h n r []
  | c :: r, d :: s => subL h n c d ∧ subV h n r s
def lowCs (n : Nat) : List C → Prop
  | [] => True
  | c :: r => c.low n ∧ lowCs n r
def lowHs (n : Nat) : List LB → Prop
  | [] => True
  | .box _ cs :: r => lowCs n cs ∧ lowHs n r
  | _ :: r => lowHs n r
def fitsV (pm : Pm) (st st' : St) : Prop := subV st.heap st'.heap.length st'.env st.env ∧ preH st.heap st'.heap ∧ pm.n0 ≤ st'.heap.length ∧ lowEs st'.heap.length st'.env ∧ lowHs st'.heap.length st'.heap
theorem preH_ok : ∀ (h h' : List LB), preH h h' → h'.length ≤ h.length ∧ h' = h.take h'.length
  | h, [], _ => by simp
  | [], _ :: _, hh => hh.elim
  | b :: r, b' :: r', hh => by
    obtain ⟨h1, h2⟩ := hh
    obtain ⟨h3, h4⟩ := preH_ok r r' h2
    refine ⟨by simpa using h3, ?_⟩
    simp only [List.length_cons, List.take_succ_cons]
    rw [← h4, h1]
theorem low_any (n : Nat) : AV.low n .any := trivial
theorem lowL_ok {n : Nat} : ∀ (l : List AV), lowL n l → ∀ t, (g1 l t).low n
  | [], _, t => low_any n
  | α :: r, h, 0 => h.1
  | α :: r, h, t + 1 => lowL_ok r h.2 t
theorem lowEs_ok' {n : Nat} : ∀ (e : Env), lowEs n e → ∀ k t, (g1 (g2 e k) t).low n
  | [], _, k, t => low_any n
  | c :: r, h, 0, t => lowL_ok c h.1 t
  | c :: r, h, k + 1, t => lowEs_ok' r h.2 k t
theorem lowEs_ok {n : Nat} (e : Env) (h : lowEs n e) (t : Nat) : (lk t e).low n := lowEs_ok' e h _ _
def subR (h : List LB) (n : Nat) (a b : AV) : Prop := a = .any ∨ a = b ∨ frz h n a b
theorem subL_ok {h : List LB} {n : Nat} : ∀ (l m : List AV), subL h n l m → ∀ t, subR h n (g1 l t) (g1 m t)
  | [], _, _, t => .inl rfl
  | a :: r, [], hh, 0 => .inl hh.1
  | a :: r, [], hh, t + 1 => by
    have := subL_ok r [] hh.2 t
    simpa [g1] using this
  | a :: r, b :: s, hh, 0 => hh.1
  | a :: r, b :: s, hh, t + 1 => subL_ok r s hh.2 t
theorem subV_ok' {h : List LB} {n : Nat} : ∀ (e f : Env), subV h n e f → ∀ k t, subR h n (g1 (g2 e k) t) (g1 (g2 f k) t)
  | [], _, _, k, t => .inl rfl
  | c :: r, [], hh, 0, t => subL_ok c [] hh.1 t
  | c :: r, [], hh, k + 1, t => by
    have := subV_ok' r [] hh.2 k t
    simpa [g1, g2] using this
  | c :: r, d :: s, hh, 0, t => subL_ok c d hh.1 t
  | c :: r, d :: s, hh, k + 1, t => subV_ok' r s hh.2 k t
theorem subV_ok {h : List LB} {n : Nat} {e f : Env} (hh : subV h n e f) (t : Nat) : subR h n (lk t e) (lk t f) := subV_ok' e f hh _ _
theorem lowCs_ok {n : Nat} : ∀ (l : List C), lowCs n l → ∀ c, c ∈ l → c.low n
  | [], _, p, hp => by cases hp
  | c :: r, h, p, hp => by
    cases hp with
    | head => exact h.1
    | tail _ hm => exact lowCs_ok r h.2 p hm
theorem lowHs_ok {n : Nat} : ∀ (l : List LB), lowHs n l → ∀ b, b ∈ l → b.low n
  | [], _, p, hp => by cases hp
  | b :: r, h, p, hp => by
    cases b with
    | box t cs =>
      cases hp with
      | head => exact lowCs_ok cs h.1
      | tail _ hm => exact lowHs_ok r h.2 p hm
    | row t sz els ver =>
      cases hp with
      | head => trivial
      | tail _ hm => exact lowHs_ok r h p hm
    | dead =>
      cases hp with
      | head => trivial
      | tail _ hm => exact lowHs_ok r h p hm
    | mp _ _ =>
      cases hp with
      | head => trivial
      | tail _ hm => exact lowHs_ok r h p hm
    | it _ _ =>
      cases hp with
      | head => trivial
      | tail _ hm => exact lowHs_ok r h p hm
    | sit _ _ =>
      cases hp with
      | head => trivial
      | tail _ hm => exact lowHs_ok r h p hm
/-- Rows from a place on, left behind: they stay as they are. -/
theorem freezeFrom {cx : Cx} {w : World} (n : Nat) {G : Gh} {h : List LB} (s : SatH cx G h w) : ∀ (m : Nat), ∃ (V' : Vw) (h' : List LB), GLe G.g.length G ⟨V', G.g⟩ ∧ SatH cx ⟨V', G.g⟩ h' w ∧ (∀ i, i < n ∨ n + m ≤ i → h'[i]? = h[i]?) ∧
    ∀ (i : Nat) (t : TypeId) (sz ver : Nat) (els : List (List D)) (v : Value), n ≤ i → i < n + m → h[i]? = some (.row t sz els ver) → Cr G (.own i ver) v → Dr V' (.lst sz els) v
  | 0 => ⟨G.V, h, .refl _ _, s, fun _ _ => rfl, fun i _ _ _ _ _ h1 h2 => by omega⟩
  | m + 1 => by
    obtain ⟨V1, h1, hG1, s1, hs1, hd1⟩ := freezeFrom n s m
    have hsame := hs1 (n + m) (.inr (Nat.le_refl _))
    by_cases hr : ∃ t sz ver els, h[n + m]? = some (.row t sz els ver)
    · obtain ⟨t, sz, ver, els, hi⟩ := hr
      obtain ⟨V2, hG2, s2, hd2⟩ := freeze_core s1 (hsame.trans hi)
      refine ⟨V2, h1.set (n + m) .dead, hG1.trans hG2, s2, fun i hi' => by rw [List.getElem?_set_ne (by omega)]; exact hs1 i (by omega), fun i t' sz' ver' els' v h2 h3 h4 h5 => ?_⟩
      by_cases him : i = n + m
      · subst him
        rw [hi] at h4
        cases h4
        exact hd2 v (Cr.mono hG1 h5.low h5)
      · exact (hd1 i t' sz' ver' els' v h2 (by omega) h4 h5).mono hG2.V
    · refine ⟨V1, h1, hG1, s1, fun i hi' => hs1 i (by omega), fun i t' sz' ver' els' v h2 h3 h4 h5 => ?_⟩
      by_cases him : i = n + m
      · subst him
        exact absurd ⟨_, _, _, _, h4⟩ hr
      · exact hd1 i t' sz' ver' els' v h2 (by omega) h4 h5
/-- What may be forgotten, said of worlds. -/
def Fw (pm : Pm) (st st' : St) : Prop := ∀ (cx : Cx) (G : Gh) (a : Act) (w : World), cx.pm = pm → Sat cx G st a w → ∃ G', Sat cx G' st' a w
theorem fitsV_ok {st st' : St} (h : fitsV pm st st') : Fw pm st st' := by
  intro cx G a w hp s
  obtain ⟨h1, h2, h3, h4, h5⟩ := h
  obtain ⟨h6, h7⟩ := preH_ok _ _ h2
  obtain ⟨V', hh, hG, s1, hs, hd⟩ := freezeFrom st'.heap.length s.h st.heap.length
  -- the frame with the rows that are left behind read as data
  have sat1 : Sat cx ⟨V', G.g⟩ ⟨st'.env, hh⟩ a w := by
    refine ⟨s1, fun t => ?_, s.N, s.defers⟩
    have hr := s.env t
    rcases subV_ok h1 t with e | e | e
    · show Ar _ (lk t st'.env) _
      rw [e]; trivial
    · show Ar _ (lk t st'.env) _
      rw [e]; exact hr.grow hG
    · show Ar _ (lk t st'.env) _
      generalize lk t st'.env = x at e
      generalize lk t st.env = y at e hr
      unfold frz at e
      split at e
      · next sz els i ver =>
        obtain ⟨hn, e⟩ := e
        split at e
        · next tt sz' els' v' hi =>
          obtain ⟨⟨rfl, rfl⟩, rfl⟩ := e
          have hlt := getElem?_lt hi
          exact hd i tt sz' v' els' _ hn (by omega) hi hr
        · exact e.elim
      · next els =>
        subst e
        have := ar_raw hr
        rw [this]
        exact Dr.lst _ [] none 0 (fun _ _ => undef) (by simp) (by simp) (by simp) (by simp) (by simp)
      · exact e.elim
  have hpre : st'.heap = hh.take st'.heap.length := by
    apply List.ext_getElem?
    intro i
    rw [List.getElem?_take]
    split
    · next hlt => rw [hs i (.inl hlt), h7, List.getElem?_take, if_pos (by simpa using by omega)]
    · next hge => exact List.getElem?_eq_none (by omega)
  have hlen : st'.heap.length ≤ hh.length := by
    rw [← s1.len]
    have := s.h.len
    show _ ≤ G.g.length
    omega
  exact ⟨_, sat1.fits (st' := st') ⟨fun t => .inr rfl, hlen, hpre, by rw [hp]; exact h3, lowEs_ok _ h4, lowHs_ok _ h5⟩⟩
/-- A loop: what holds at the head is a state of a family. -/
theorem AXc.loopW {body : Code} {st : St} {Q : Exit → St → Prop} {S : Type} (enc : S → St) (I : S → Prop) (μ : S → Nat) (s0 : S) (h0 : I s0) (f0 : Fw pm st (enc s0))
    (round : ∀ s, I s → AXc P pm body (enc s) (Ethen (fun st' => ∃ s', I s' ∧ μ s' < μ s ∧ Fw pm st' (enc s')) Q)) : AXc P pm (.loop body) st Q := by
  intro cx G a w hp hs
  obtain ⟨G₀, s₀⟩ := f0 cx G a w hp hs
  refine wp2_loop (fun s a w => I s ∧ ∃ G, Sat cx G (enc s) a w) μ (s0 := s0) ⟨h0, _, s₀⟩ fun s a w ⟨hI, G, hsat⟩ => wp2_mono (round s hI cx G a w hp hsat) fun e a w ⟨G₁, st₁, s₁, q⟩ => ?_
  cases e with
  | normal =>
    obtain ⟨s', hI', hlt, hf⟩ := q
    obtain ⟨G₂, s₂⟩ := hf cx G₁ a w hp s₁
    exact ⟨s', hlt, hI', _, s₂⟩
  | _ => exact ⟨G₁, st₁, s₁, q⟩
/-- A nil slice in a slot, taken as an empty row of the call's own, ahead of a loop. -/
theorem LoopV.nilrow {b : Code} {st : St} {Q : Exit → St → Prop} {t : Tok Q} (k : Nat) (te : TypeId) (sz : Nat) (h : LoopV P pm E b ⟨pute k (.c (.own st.heap.length 0)) st.env, st.heap ++ [.row te sz [] 0]⟩ Q ⟨⟩) (hk : lk k st.env = .c (.d (.raw (.slice none 0 0))) := by rfl) : LoopV P pm E b st Q t :=
  fun hok => AXc.nilrow k te sz hk (h hok)
/-- A frame at a loop's head: the slots that change, and those that are kept. -/
def frame (keep : List Nat) (env : Env) : List (Nat × AV) → Env
  | [] => match keep with
    | [] => []
    | t :: r => pute t (lk t env) (frame r env [])
  | (t, α) :: vs => pute t α (frame keep env vs)
termination_by vs => (keep.length, vs.length)

/-- A loop by what holds at its head: the slots that change, those that are kept, the memory. -/
theorem LoopV.of {b : Code} {st : St} {Q : Exit → St → Prop} {S : Type} (hm : P.follows .mixedOrders = true) (keep : List Nat) (vars : S → List (Nat × AV)) (heap : S → List LB) (I : S → Prop) (μ : S → Nat) (s0 : S) (h0 : I s0) (f0 : fitsV pm st ⟨frame keep st.env (vars s0), heap s0⟩)
    (round : ∀ s, I s → ap (vc P pm E b ⟨frame keep st.env (vars s), heap s⟩) (EthenT (fun st' => ∃ s', (I s' ∧ μ s' < μ s) ∧ fitsV pm st' ⟨frame keep st.env (vars s'), heap s'⟩) Q ⟨⟩ ⟨⟩) ⟨⟩) : LoopV P pm E b st Q ⟨⟩ :=
  fun hok => AXc.loopW (fun s => ⟨frame keep st.env (vars s), heap s⟩) I μ s0 h0 (fitsV_ok f0) fun s hs => (vc_ok hm b _ _ hok (round s hs)).mono fun e s hs => by
    cases e with
    | normal => obtain ⟨s', ⟨h1, h2⟩, h3⟩ := hs; exact ⟨s', h1, h2, fitsV_ok h3⟩
    | _ => exact hs
end
end Go.Ax
