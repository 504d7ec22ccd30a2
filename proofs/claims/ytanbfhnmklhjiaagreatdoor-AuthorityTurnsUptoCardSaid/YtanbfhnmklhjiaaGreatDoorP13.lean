/- Part of a proof about this program; no condition of its own. -/
import Derived.Test.YtanbfhnmklhjiaaGreatDoorP12
set_option linter.all false
/-
  A rule that reckons what is to be shown of an operation that leaves memory alone. No condition.
-/
namespace Go.Ax
open Go Go.RowKit
/-! ### bounds of the kinds -/
def inK (k : IntKind) (z : Int) : Prop := k.min ≤ z ∧ z ≤ k.max
@[push_cast] theorem inK_i8 (z : Int) : inK .i8 z = (-128 ≤ z ∧ z ≤ 127) := rfl
@[push_cast] theorem inK_i16 (z : Int) : inK .i16 z = (-32768 ≤ z ∧ z ≤ 32767) := rfl
@[push_cast] theorem inK_i32 (z : Int) : inK .i32 z = (-2147483648 ≤ z ∧ z ≤ 2147483647) := rfl
@[push_cast] theorem inK_i64 (z : Int) : inK .i64 z = (-9223372036854775808 ≤ z ∧ z ≤ 9223372036854775807) := rfl
@[push_cast] theorem inK_u8 (z : Int) : inK .u8 z = (0 ≤ z ∧ z ≤ 255) := rfl
@[push_cast] theorem inK_u16 (z : Int) : inK .u16 z = (0 ≤ z ∧ z ≤ 65535) := rfl
@[push_cast] theorem inK_u32 (z : Int) : inK .u32 z = (0 ≤ z ∧ z ≤ 4294967295) := rfl
@[push_cast] theorem inK_u64 (z : Int) : inK .u64 z = (0 ≤ z ∧ z ≤ 18446744073709551615) := rfl
theorem inK_wrap {k : IntKind} {z : Int} (h : inK k z) : k.wrap z = z := by
  cases k
  · exact IntWalk.i8_in z h
  · exact IntWalk.i16_in z h
  · exact IntWalk.i32_in z h
  · exact IntWalk.i64_in z h
  · exact IntWalk.u8_in z h
  · exact IntWalk.u16_in z h
  · exact IntWalk.u32_in z h
  · exact IntWalk.u64_in z h
/-! ### types -/
def szT (P : Program) (t : TypeId) : Option Nat := (P.info? t).map (·.size)
def isB (P : Program) (t : TypeId) : Prop := P.underlying t = some .bool
def isS (P : Program) (t : TypeId) : Prop := P.underlying t = some .string
def intT (P : Program) (t : TypeId) : Option IntKind := match P.underlying t with | some (.int k) => some k | _ => none
theorem intT_some {P : Program} {t : TypeId} {k : IntKind} (h : intT P t = some k) : P.underlying t = some (.int k) := by
  unfold intT at h
  split at h
  · cases h; assumption
  · cases h
def eqT (P : Program) (t : TypeId) : Option (List Nat) :=
  match P.underlying t with
  | some (.struct fs) => let tags := fs.toList.map fun f => tagT P f.type
    if P.stoodInHeld t = false ∧ P.eqGuardType P.depth t = false ∧ flatFields P fs.toList 0 tags = true then some tags else none
  | some (.array n e) => if P.eqGuardType P.depth t = false ∧ P.cellsOf e = 1 ∧ (P.info? e).isSome = true then some (List.replicate n (tagT P e)) else none
  | _ => none
theorem run_eqItems_flat {P : Program} {V : Vw} {d : Nat} {e : TypeId} (hc : P.cellsOf e = 1) : ∀ (xs ys : List D) (us vs : List Value) (i : Nat) (U W : Array Value) (b : Bool) (w : World),
    (∀ x ∈ xs, tagD x = tagT P e) → All2 (Dr V) xs us → All2 (Dr V) ys vs → eqDs xs ys = some b → (∀ j u, us[j]? = some u → U[i + j]? = some u) → (∀ j u, vs[j]? = some u → W[i + j]? = some u) →
    (Op.eqItems (d + 1) e (P.cellsOf e) U W (List.range' i xs.length)).run P w = .ok b w
  | [], ys, us, vs, i, U, W, b, w, ht, hx, hy, hb, hU, hW => by
    cases hx
    cases hy with
    | nil => simp only [eqDs, Option.some.injEq] at hb; subst hb; rfl
    | cons h t => simp [eqDs] at hb
  | x :: xs, ys, us, vs, i, U, W, b, w, ht, hx, hy, hb, hU, hW => by
    cases hx with
    | @cons _ u _ us hxu hxs =>
      cases hy with
      | nil => simp [eqDs] at hb
      | @cons y v ys vs hyv hys =>
        simp only [eqDs] at hb
        split at hb
        · next b1 b2 e1 e2 =>
          cases hb
          have htg : tagT P e = tagD x := (ht x (by simp)).symm
          have hlt : tagT P e < 3 := by
            rw [htg]
            cases x <;> cases y <;> simp [eqD] at e1 <;> simp [tagD]
          obtain ⟨q, hq, hqa, _⟩ := tagT_form rfl hlt
          have p1 := run_part1 (P := P) hq hqa U (i * P.cellsOf e) u (by rw [hc, Nat.mul_one]; exact hU 0 u rfl) w
          have p2 := run_part1 (P := P) hq hqa W (i * P.cellsOf e) v (by rw [hc, Nat.mul_one]; exact hW 0 v rfl) w
          have p3 := run_equalCell (P := P) hxu hyv e1 htg d w
          have ih := run_eqItems_flat (P := P) (d := d) hc xs ys us vs (i + 1) U W b2 w (fun x hx => ht x (by simp [hx])) hxs hys e2 (fun j u hu => by have := hU (j + 1) u (by simpa using hu); rwa [show i + 1 + j = i + (j + 1) from by omega])
            (fun j u hu => by have := hW (j + 1) u (by simpa using hu); rwa [show i + 1 + j = i + (j + 1) from by omega])
          simp only [List.length_cons, List.range'_succ, Op.eqItems, Sem.run_bind, p1, p2, p3, Result.andThen_ok]
          cases b1
          · simp
          · simpa using ih
        · cases hb
theorem s_eqT {P : Program} {h : List LB} {ρ : Operand → AV} {dst : Option Tmp} {ty : TypeId} {p : String} {af : Array Edge} {gd : Option (Nat × Bool)} (op : BinOp) (t t' : TypeId) (x y : Operand) {tags : List Nat} {cs ds : List C} {xs ys : List D} {b b' : Bool} (hT : eqT P t = some tags)
    (hx : ρ x = .agg cs) (hy : ρ y = .agg ds) (hcs : toDs cs = some xs) (hds : toDs ds = some ys) (ht : xs.map tagD = tags) (hb : eqDs xs ys = some b) (hb' : beqs op b = some b') : Still P h ⟨dst, .binOp op t x y t', ty, p, af, gd⟩ ρ (.c (.d (.bool b'))) := by
  unfold eqT at hT
  split at hT
  · next fs hu =>
    simp only at hT
    split at hT
    · next hc =>
      cases hT
      have e : P.fieldsOf t = fs := by simp [Program.fieldsOf, hu]
      exact s_struct' op t t' x y ⟨by rw [e]; exact hu, hc.1, hc.2.1, by rw [e]; exact hc.2.2⟩ hx hy hcs hds ht hb hb'
    · cases hT
  · next n e hu =>
    split at hT
    · next hc =>
      cases hT
      obtain ⟨hg, hc1, hi⟩ := hc
      obtain ⟨i, hi⟩ := Option.isSome_iff_exists.1 hi
      have hlen : xs.length = n := by have := congrArg List.length ht; simpa using this
      have htag : ∀ x ∈ xs, tagD x = tagT P e := fun x hx => by
        have : tagD x ∈ xs.map tagD := List.mem_map.2 ⟨x, hx, rfl⟩
        rw [ht] at this
        exact List.eq_of_mem_replicate this
      intro cx G w a s ho
      obtain ⟨us, e1, h1⟩ := (hx ▸ ho x (by simp [Op.operands]) : Ar G (.agg cs) (a.eval x))
      obtain ⟨vs, e2, h2⟩ := (hy ▸ ho y (by simp [Op.operands]) : Ar G (.agg ds) (a.eval y))
      rw [toDs_ok _ _ hcs] at h1
      rw [toDs_ok _ _ hds] at h2
      refine ⟨.bool b', ?_, Dr.bool _⟩
      have he := run_eqItems_flat (P := P) (d := 9998) hc1 xs ys us vs 0 us.toArray vs.toArray b w htag (all2_dr h1) (all2_dr h2) hb (fun j u hu => by simpa using hu) (fun j u hu => by simpa using hu)
      rw [hlen, ← List.range_eq_range'] at he
      have he' := run_equalIn_array (P := P) (w := w) 9999 us.toArray vs.toArray hu hi
      rw [he] at he'
      cases op <;> simp only [beqs, Option.some.injEq, reduceCtorEq] at hb' <;> subst hb' <;>
        simp [execOp, e1, e2, run_eqGuard_agg w _ t x y us.toArray vs.toArray hg, run_eql_struct w t us.toArray vs.toArray, run_neq_struct w t us.toArray vs.toArray, he']
    · cases hT
  · cases hT
/-! ### operations -/
section
variable (P : Program) (h : List LB)
abbrev oI (k : IntKind) (z : Int) : AV := .c (.d (.int k z))
abbrev oB (b : Bool) : AV := .c (.d (.bool b))
abbrev oS (l : List UInt8) : AV := .c (.d (.str l))
def vbinI (op : BinOp) (kd : IntKind) (m n : Int) (k : AV → Prop) : Prop :=
  match op with
  | .eql => k (oB (decide (m = n)))
  | .neq => k (oB (decide (m ≠ n)))
  | .lss => k (oB (decide (m < n)))
  | .leq => k (oB (decide (m ≤ n)))
  | .gtr => k (oB (decide (n < m)))
  | .geq => k (oB (decide (n ≤ m)))
  | .add => inK kd (m + n) ∧ k (oI kd (m + n))
  | .sub => inK kd (m - n) ∧ k (oI kd (m - n))
  | .mul => inK kd (m * n) ∧ k (oI kd (m * n))
  | .quo => (kd = .i64 ∧ 0 ≤ m ∧ m ≤ 9223372036854775807 ∧ 0 < n) ∧ k (oI kd (m / n))
  | .rem => (0 ≤ m ∧ 0 < n) ∧ k (oI kd (m % n))
  | .shr => (0 ≤ n ∧ n ≤ 8) ∧ k (oI kd (m / 2 ^ n.toNat))
  | _ => False
def vbinS (op : BinOp) (m n : List UInt8) (k : AV → Prop) : Prop :=
  match op with
  | .eql => k (oB (decide (m = n)))
  | .neq => k (oB (decide (m ≠ n)))
  | .lss => k (oB (Op.bytesLess m n))
  | .leq => k (oB (Op.bytesLess m n || decide (m = n)))
  | .gtr => k (oB (!(Op.bytesLess m n || decide (m = n))))
  | .geq => k (oB (!Op.bytesLess m n))
  | .add => (m.length + n.length ≤ 9223372036854775807) ∧ k (oS (m ++ n))
  | _ => False
def vbinB (op : BinOp) (m n : Bool) (k : AV → Prop) : Prop :=
  match op with
  | .eql => k (oB (m == n))
  | .neq => k (oB (m != n))
  | _ => False
def vbinA (t : TypeId) (op : BinOp) (cs ds : List C) (k : AV → Prop) : Prop :=
  match eqT P t, toDs cs, toDs ds with
  | some tags, some xs, some ys => match eqDs xs ys, beqs op true with
    | some b, some _ => xs.map tagD = tags ∧ k (oB (if op = .eql then b else !b))
    | _, _ => False
  | _, _, _ => False
def vnil (t : TypeId) (op : BinOp) (α : AV) (k : AV → Prop) : Prop :=
  match slT P t, α with
  | some _, .c (.d (.raw (.slice none 0 0))) => match nilq op true with | some b => k (oB b) | none => False
  | some _, .c (.d (.lst _ els)) => match nilq op false with | some b => els ≠ [] ∧ k (oB b) | none => False
  | some _, .c (.bor _ els) => match nilq op false with | some b => els ≠ [] ∧ k (oB b) | none => False
  | _, _ => False
def isNil : Operand → Bool
  | .const (.slice none 0 0) => true
  | _ => false
def vbin (t : TypeId) (op : BinOp) (α β : AV) (nl : Bool) (k : AV → Prop) : Prop :=
  match nl with
  | true => vnil P t op α k
  | false => match α, β with
    | .c (.d (.int kd m)), .c (.d (.int kd' n)) => kd = kd' ∧ vbinI op kd m n k
    | .c (.d (.str m)), .c (.d (.str n)) => vbinS op m n k
    | .c (.d (.bool m)), .c (.d (.bool n)) => isB P t ∧ vbinB op m n k
    | .agg cs, .agg ds => vbinA P t op cs ds k
    | _, _ => False
def vun (op : UnOp) (α : AV) (k : AV → Prop) : Prop :=
  match op, α with
  | .neg, .c (.d (.int kd m)) => inK kd (-m) ∧ k (oI kd (-m))
  | .not, .c (.d (.bool b)) => k (oB (!b))
  | _, _ => False
def vpk (c : Bool) (a b : AV) (k : AV → Prop) : Prop :=
  match c with
  | true => k a
  | false => k b
def vpick (c a b : AV) (k : AV → Prop) : Prop :=
  match c with
  | .c (.d (.bool c)) => vpk c a b k
  | _ => False
def vconv (s d : TypeId) (α : AV) (k : AV → Prop) : Prop :=
  match intT P s, intT P d, α with
  | some _, some k', .c (.d (.int _ m)) => inK k' m ∧ k (oI k' m)
  | none, none, .c (.d (.str l)) => strB P s = true ∧ bysT P d = true ∧ l.length ≤ 16777216 ∧ k (.c (.d (.lst 1 (l.map byD))))
  | some _, none, .c (.d (.int _ m)) => strB P d = true ∧ k (.c (.d (.str (Lib.encodeRune m))))
  | _, _, _ => False
def vat (cs : List C) (off : Nat) (k : AV → Prop) : Prop := ∃ hh : off < cs.length, k (.c cs[off])
def vatN (cs : List C) (off n : Nat) (k : AV → Prop) : Prop := off + n ≤ cs.length ∧ k (.agg ((cs.drop off).take n))
def vel (els : List (List D)) (i : Nat) (k : List D → Prop) : Prop := ∃ hh : i < els.length, k els[i]
def vcells (α : AV) (k : List C → Nat → Prop) : Prop :=
  match α with
  | .c (.ptr cs) => k (cs.map C.d) 0
  | .c (.loc i off) => match h[i]? with
    | some (.box _ cs) => k cs off
    | _ => False
  | .c (.rowp i ver sz kk off) => match h[i]? with
    | some (.row _ sz' els v) => (v = ver ∧ sz' = sz) ∧ vel els kk fun e => k (e.map C.d) off
    | some (.opn _ sz' _ kk' cs v) => (v = ver ∧ sz' = sz ∧ kk = kk') ∧ k cs off
    | _ => False
  | _ => False
def flT (P : Program) (t : TypeId) (i : Nat) : Option Nat :=
  match P.underlying t with
  | some (.struct fs) => match fs[i]? with
    | some f => if ldT P f.type = some none then some f.offset else none
    | none => none
  | _ => none
def vload (t : TypeId) (α : AV) (k : AV → Prop) : Prop :=
  match ldT P t with
  | some none => vcells h α fun cs off => vat cs off k
  | some (some n) => vcells h α fun cs off => vatN cs off n k
  | none => False
def vfield (t : TypeId) (i : Nat) (α : AV) (k : AV → Prop) : Prop :=
  match fdT P t i with
  | some o => match α with
    | .c (.ptr cs) => k (.c (.ptr (cs.drop o)))
    | .c (.loc j off) => k (.c (.loc j (off + o)))
    | .c (.rowp j ver sz kk off) => match h[j]? with
      | some (.row _ sz' _ v) => (v = ver ∧ sz' = sz) ∧ k (.c (.rowp j ver sz kk (off + o)))
      | some (.opn _ sz' _ _ _ v) => (v = ver ∧ sz' = sz) ∧ k (.c (.rowp j ver sz kk (off + o)))
      | _ => False
    | _ => False
  | none => False
def vfv2 (r : Option Nat) (α : AV) (k : AV → Prop) : Prop :=
  match r, α with
  | some o, .agg cs => vat cs o k
  | _, _ => False
def vindex (t : TypeId) (α β : AV) (k : AV → Prop) : Prop :=
  match β with
  | .c (.d (.int _ i)) => match slT P t with
    | some (_, sz) => match α with
      | .c (.d (.lst sz' els)) => (sz' = sz ∧ 0 ≤ i) ∧ vel els i.toNat fun e => k (.c (.ptr e))
      | .c (.bor sz' els) => (sz' = sz ∧ 0 ≤ i) ∧ vel els i.toNat fun e => k (.c (.ptr e))
      | .c (.own j ver) => match h[j]? with
        | some (.row _ sz' els v) => (v = ver ∧ sz' = sz ∧ 0 ≤ i ∧ i < els.length) ∧ k (.c (.rowp j ver sz i.toNat 0))
        | _ => False
      | .c (.sub j ver sz'' lo n) => match h[j]? with
        | some (.row _ sz' els v) => (v = ver ∧ sz' = sz ∧ sz'' = sz ∧ lo + n ≤ els.length ∧ 0 ≤ i ∧ i < n) ∧ k (.c (.rowp j ver sz (lo + i.toNat) 0))
        | _ => False
      | _ => False
    | none => match arT P t with
      | some (m, _, sz) => match α with
        | .c (.loc j off) => (0 ≤ i ∧ i < m) ∧ k (.c (.loc j (off + i.toNat * sz)))
        | .c (.ptr cs) => (0 ≤ i ∧ i < m) ∧ k (.c (.ptr (cs.drop (i.toNat * sz))))
        | _ => False
      | none => False
  | _ => False
def ixT (P : Program) (t : TypeId) : Option Nat :=
  match P.underlying t with
  | some (.array n e) => if (P.info? e).map (·.size) = some 1 ∧ ldT P e = some none then some n else none
  | _ => none
def vstr (t : TypeId) (α β : AV) (k : AV → Prop) : Prop :=
  match α, β with
  | .agg cs, .c (.d (.int _ i)) => match ixT P t with
    | some n => (0 ≤ i ∧ i < n) ∧ vat cs i.toNat k
    | none => False
  | .c (.d (.str l)), .c (.d (.int _ i)) => isS P t ∧ 0 ≤ i ∧ ∃ hh : i.toNat < l.length, k (oI .u8 l[i.toNat].toNat)
  | _, _ => False
def vbd (x : Option AV) (d : Nat) (k : Nat → Prop) : Prop :=
  match x with
  | none => k d
  | some (.c (.d (.int _ i))) => 0 ≤ i ∧ k i.toNat
  | _ => False
def vslice (t : TypeId) (α : AV) (lo hi : Option AV) (k : AV → Prop) : Prop :=
  match α with
  | .c (.d (.str s)) => isS P t ∧ vbd lo 0 fun l => vbd hi s.length fun r => (l ≤ r ∧ r ≤ s.length) ∧ k (oS ((s.drop l).take (r - l)))
  | .c (.d (.lst sz' els)) => match slT P t with
    | some (_, sz) => sz' = sz ∧ vbd lo 0 fun l => vbd hi els.length fun r => (l ≤ r ∧ r ≤ els.length) ∧ k (.c (.d (.lst sz ((els.drop l).take (r - l)))))
    | none => False
  | .c (.bor sz' els) => match slT P t with
    | some (_, sz) => sz' = sz ∧ vbd lo 0 fun l => vbd hi els.length fun r => (l ≤ r ∧ r ≤ els.length) ∧ k (.c (.bor sz ((els.drop l).take (r - l))))
    | none => False
  | .c (.own j ver) => match slT P t, h[j]? with
    | some (_, sz), some (.row _ sz' els v) => (v = ver ∧ sz' = sz) ∧ vbd lo 0 fun l => vbd hi els.length fun r => (l ≤ r ∧ r ≤ els.length) ∧ k (.c (.sub j ver sz l (r - l)))
    | _, _ => False
  | _ => False
def vext (i : Nat) (α : AV) (k : AV → Prop) : Prop :=
  match α with
  | .tup vs => match vs[i]? with
    | some α => α.flat = true ∧ k α
    | none => False
  | _ => False
def vbuild (t : TypeId) (parts : List (Nat × AV)) (k : AV → Prop) : Prop :=
  match plT P t, zeroC P t with
  | some pl, some zc => match fillC (pl[·]?) zc parts with
    | some cs => k (.agg cs)
    | none => False
  | _, _ => False
def vlit (t : TypeId) (n : Nat) (parts : List (Nat × AV)) (k : AV → Prop) : Prop :=
  match apT P t with
  | some (_, sz, _) => match partsE sz parts 0 with
    | some els => (parts.length = n ∧ n * sz ≤ 16777216) ∧ k (.c (.d (.lst sz els)))
    | none => False
  | none => False
def vclo (f : FuncId) (parts : List AV) (k : AV → Prop) : Prop :=
  match locsOf parts with
  | some is => k (.c (.clo f is))
  | none => False
def vnilc (α : AV) (k : AV → Prop) : Prop :=
  match α with
  | .c (.ptr cs) => k (.c (.ptr cs))
  | .c (.loc i o) => k (.c (.loc i o))
  | .c (.rowp i ver sz kk off) => match h[i]? with
    | some (.row _ sz' _ v) => (v = ver ∧ sz' = sz) ∧ k (.c (.rowp i ver sz kk off))
    | some (.opn _ sz' _ _ _ v) => (v = ver ∧ sz' = sz) ∧ k (.c (.rowp i ver sz kk off))
    | _ => False
  | _ => False
def vlen (t : TypeId) (α : AV) (k : AV → Prop) : Prop :=
  match α with
  | .c (.d (.str l)) => isS P t ∧ k (oI .i64 l.length)
  | .c (.d (.raw (.slice none 0 0))) => match slT P t with
    | some _ => k (oI .i64 0)
    | none => False
  | α => match slT P t, elsOf h α with
    | some _, some (_, els) => k (oI .i64 els.length)
    | _, _ => False
def vmm (f : Int → Int → Int) (α β : AV) (k : AV → Prop) : Prop :=
  match α, β with
  | .c (.d (.int kd m)), .c (.d (.int kd' n)) => kd = kd' ∧ k (oI kd (f m n))
  | _, _ => False
def vbi (b : Builtin) (as : List AV) (ts : List TypeId) (k : AV → Prop) : Prop :=
  match b, as, ts with
  | .len, [α], [t] => vlen P h t α k
  | .min, [α, β], _ => vmm imin α β k
  | .max, [α, β], _ => vmm imax α β k
  | _, _, _ => False
/-! ### maps -/
def vlook (t : TypeId) (α β : AV) (ok : Bool) (k : AV → Prop) : Prop :=
  match mapOf h α, keyC β with
  | some (sh, m), some ks => (MapT P t sh ∧ Kfits sh ks) ∧ k (if ok then .tup [oI .i64 (mget m ks), oB (mhas m ks)] else oI .i64 (mget m ks))
  | _, _ => False
def ventry (α : AV) (k : AV → Prop) : Prop :=
  match α with
  | .c (.loc j 0) => match h[j]? with
    | some (.it _ (some kv)) => k (.tup [keyAV kv.1, oI .i64 kv.2])
    | _ => False
  | _ => False
def CallV (P : Program) (pm : Pm) (h : List LB) (f : FuncId) (as : List AV) (k : AV → Prop) : Prop :=
  ∃ args' rs, AFn P pm.Γ f args' rs ∧ All2 (ArgOk pm h) as args' ∧ k (rsAV rs)
def CallF (P : Program) (pm : Pm) (h : List LB) (R : Vw → Value → Prop) (as : List AV) (k : AV → Prop) : Prop :=
  ∃ F args' rs, R = FnSpec P pm.Γ F ∧ F args' rs ∧ All2 (ArgOk pm h) as args' ∧ k (rsAV rs)
def CallE (P : Program) (pm : Pm) (h : List LB) (o : Oper) (ρ : Operand → AV) (k : AV → Prop) : Prop :=
  ∃ r, Qt P pm h o ρ r ∧ k r
def vcallee (P : Program) (pm : Pm) (h : List LB) (α : AV) (as : List AV) (k : AV → Prop) : Prop :=
  match α with
  | .c (.clo f []) => CallV P pm h f as k
  | .c (.fn R) => CallF P pm h R as k
  | _ => False
structure Tok {α : Sort _} (x : α) : Type where
  mk ::
def ap {κ : Sort _} (f : κ → Prop) (k : κ) (_ : Tok k) : Prop := f k
def ap2 {κ κ' : Sort _} (f : κ → κ' → Prop) (k : κ) (k' : κ') (_ : Tok k) (_ : Tok k') : Prop := f k k'
def CallX (P : Program) (pm : Pm) (h : List LB) (o : Oper) (ρ : Operand → AV) (α : AV) (as : List AV) (k : AV → Prop) (_ : Tok k) : Prop := vcallee P pm h α as k ∨ CallE P pm h o ρ k
def vq (pm : Pm) (o : Oper) (ρ : Operand → AV) (k : AV → Prop) : Prop :=
  match o.op with
  | .move x => k (ρ x)
  | .assign x => k (ρ x)
  | .pick c x y => vpick (ρ c) (ρ x) (ρ y) k
  | .binOp op t x y _ => vbin P t op (ρ x) (ρ y) (isNil y) k
  | .unOp op _ x => vun op (ρ x) k
  | .convert s d x => vconv P s d (ρ x) k
  | .load t x => vload P h t (ρ x) k
  | .fieldAddr t x i => vfield P h t i (ρ x) k
  | .field t x i => vfv2 (flT P t i) (ρ x) k
  | .indexAddr t x y => vindex P h t (ρ x) (ρ y) k
  | .index t x y => vstr P t (ρ x) (ρ y) k
  | .slice t x lo hi none => vslice P h t (ρ x) (lo.map ρ) (hi.map ρ) k
  | .extract x i => vext i (ρ x) k
  | .build t ps => vbuild P t (ps.toList.map fun x => (x.1, ρ x.2)) k
  | .buildSlice t n ps => vlit P t n (ps.toList.map fun x => (x.1, ρ x.2)) k
  | .makeFunc (.func f) fi caps => fi = #[] ∧ vclo f (caps.toList.map ρ) k
  | .nilCheck x => vnilc h (ρ x) k
  | .lookup t x y ok => vlook P h t (ρ x) (ρ y) ok k
  | .entry x => ventry h (ρ x) k
  | .call { callee := .builtin b, args := as, argTypes := ts } => vbi P h b (as.toList.map ρ) ts.toList k
  | .call { callee := .value x, args := as, argTypes := _ } => CallX P pm h o ρ (ρ x) (as.toList.map ρ) k ⟨⟩
  | _ => False
end
/-! ### soundness -/
section
variable {P : Program} {pm : Pm} {h : List LB} {o : Oper} {ρ : Operand → AV} {k : AV → Prop}
theorem CallE.mk {r : AV} (hq : Qt P pm h o ρ r) (hk : k r) : CallE P pm h o ρ k := ⟨r, hq, hk⟩
theorem s_shr {dst : Option Tmp} {ty : TypeId} {p : String} {af : Array Edge} {gd : Option (Nat × Bool)} (t t' : TypeId) (x y : Operand) {k : IntKind} {m n : Int} (hx : ρ x = .c (.d (.int k m))) (hy : ρ y = .c (.d (.int k n))) (h0 : 0 ≤ n) (h2 : n ≤ 8) :
    Still P h ⟨dst, .binOp .shr t x y t', ty, p, af, gd⟩ ρ (.c (.d (.int k (m / 2 ^ n.toNat)))) := by
  intro cx G w a s ho
  have e1 := ar_int (hx ▸ ho x (by simp [Op.operands]))
  have e2 := ar_int (hy ▸ ho y (by simp [Op.operands]))
  refine ⟨.int k (m / 2 ^ n.toNat), ?_, Dr.int _ _⟩
  have hn : ¬ n < 0 := by omega
  have hb : min n.toNat k.bits = n.toNat := by
    have : 8 ≤ k.bits := by cases k <;> decide
    omega
  have hf : m.fdiv (2 ^ n.toNat) = m / 2 ^ n.toNat := Int.fdiv_eq_ediv_of_nonneg _ (Int.le_of_lt (Int.pow_pos (by decide)))
  simp [execOp, e1, e2, eqGuard, binOp, Op.shift, hn, hb, hf]
theorem vbin_ok {dst : Option Tmp} {ty : TypeId} {p : String} {af : Array Edge} {gd : Option (Nat × Bool)} {op : BinOp} {t t' : TypeId} {x y : Operand} (hh : vbin P t op (ρ x) (ρ y) (isNil y) k) :
    CallE P pm h ⟨dst, .binOp op t x y t', ty, p, af, gd⟩ ρ k := by
  unfold vbin at hh
  split at hh
  · next hn =>
    obtain rfl : y = .const (.slice none 0 0) := by
      unfold isNil at hn
      split at hn
      · rfl
      · cases hn
    unfold vnil at hh
    split at hh
    · next q hs hx =>
      split at hh
      · next b hb => exact .mk (Still.qt (s_slnil _ _ _ _ hs hx hb)) hh
      · exact hh.elim
    · next q sz els hs hx =>
      split at hh
      · next b hb => exact .mk (Still.qt (s_slnil_ne _ _ _ _ hs (.inl hx) hh.1 hb)) hh.2
      · exact hh.elim
    · next q sz els hs hx =>
      split at hh
      · next b hb => exact .mk (Still.qt (s_slnil_ne _ _ _ _ hs (.inr hx) hh.1 hb)) hh.2
      · exact hh.elim
    · exact hh.elim
  · split at hh
    · next kd m kd' n h1 h2 =>
      obtain ⟨rfl, hh⟩ := hh
      unfold vbinI at hh
      split at hh
      · exact .mk (Still.qt (s_icmp _ _ _ _ _ h1 h2 rfl)) hh
      · exact .mk (Still.qt (s_icmp _ _ _ _ _ h1 h2 rfl)) hh
      · exact .mk (Still.qt (s_icmp _ _ _ _ _ h1 h2 rfl)) hh
      · exact .mk (Still.qt (s_icmp _ _ _ _ _ h1 h2 rfl)) hh
      · exact .mk (Still.qt (s_icmp _ _ _ _ _ h1 h2 rfl)) hh
      · exact .mk (Still.qt (s_icmp _ _ _ _ _ h1 h2 rfl)) hh
      · exact .mk (Still.qt (s_iar _ _ _ _ _ h1 h2 rfl (inK_wrap hh.1))) hh.2
      · exact .mk (Still.qt (s_iar _ _ _ _ _ h1 h2 rfl (inK_wrap hh.1))) hh.2
      · exact .mk (Still.qt (s_iar _ _ _ _ _ h1 h2 rfl (inK_wrap hh.1))) hh.2
      · obtain ⟨⟨rfl, a, b, c⟩, hh⟩ := hh
        exact .mk (Still.qt (s_quo _ _ _ _ h1 h2 a b c)) hh
      · exact .mk (Still.qt (s_rem _ _ _ _ h1 h2 hh.1.1 hh.1.2)) hh.2
      · exact .mk (Still.qt (s_shr _ _ _ _ h1 h2 hh.1.1 hh.1.2)) hh.2
      · exact hh.elim
    · next m n h1 h2 =>
      unfold vbinS at hh
      split at hh
      · exact .mk (Still.qt (s_scmp _ _ _ _ _ h1 h2 rfl)) hh
      · exact .mk (Still.qt (s_scmp _ _ _ _ _ h1 h2 rfl)) hh
      · exact .mk (Still.qt (s_scmp _ _ _ _ _ h1 h2 rfl)) hh
      · exact .mk (Still.qt (s_scmp _ _ _ _ _ h1 h2 rfl)) hh
      · exact .mk (Still.qt (s_scmp _ _ _ _ _ h1 h2 rfl)) hh
      · exact .mk (Still.qt (s_scmp _ _ _ _ _ h1 h2 rfl)) hh
      · exact .mk (Still.qt (s_sadd _ _ _ _ h1 h2 hh.1)) hh.2
      · exact hh.elim
    · next m n h1 h2 =>
      obtain ⟨hb, hh⟩ := hh
      unfold vbinB at hh
      split at hh
      · exact .mk (Still.qt (s_bcmp _ _ _ _ _ hb h1 h2 rfl)) hh
      · exact .mk (Still.qt (s_bcmp _ _ _ _ _ hb h1 h2 rfl)) hh
      · exact hh.elim
    · next cs ds h1 h2 =>
      unfold vbinA at hh
      split at hh
      · next tags xs ys e1 e2 e3 =>
        split at hh
        · next b q e4 e5 =>
          refine .mk (Still.qt (s_eqT _ _ _ _ _ e1 h1 h2 e2 e3 hh.1 e4 ?_)) hh.2
          cases op <;> simp only [beqs, reduceCtorEq, Option.some.injEq, Bool.not_true] at e5 ⊢ <;> first | rfl | simp
        · exact hh.elim
      · exact hh.elim
    · exact hh.elim
end
end Go.Ax
