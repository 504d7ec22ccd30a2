/- Part of a proof about this program; no condition of its own. -/
import Derived.Shelf.Unicode.ValidAny
import Derived.Shelf.Strings.FieldsFuncAny
import Derived.Shelf.Strings.Split
import Derived.Test.YtanbfhnmklhjiaaGreatDoorProg
import Derived.Shelf.Strings.OnBuilder
import Derived.Lib.Join
import Derived.Test.YtanbfhnmklhjiaaGreatDoorP19
import Derived.Lib.FieldsP
import Derived.Lib.ValidLaws
set_option linter.all false
/- The shelf laid at this program: Split, FieldsFunc, ValidString. No condition. -/
namespace Go.Proofs
open Go.Shelf
def Tryz.lays146_ren : Go.Shelf.Ren := ⟨fun | 146 => 197 | 221 => 253 | 268 => 279 | 138 => 280 | 143 => 281 | 195 => 293 | 197 => 294 | 218 => 295 | 219 => 296 | 260 => 299 | 217 => 275 | 225 => 300 | 224 => 301 | 267 => 302 | 266 => 292 | 314 => 303 | n => n, fun | 9 => 9 | 31 => 42 | 3 => 3 | 4 => 4 | 0 => 0 | 105 => 279 | 21 => 21 | 5 => 5 | 46 => 149 | 119 => 268 | 139 => 271 | 138 => 270 | 146 => 283 | 51 => 189 | n => n, fun | 1 => 0 | 3 => 2 | 4 => 3 | n => n⟩
theorem Tryz.lays146 : Go.Proofs.Lays.n146 Tryz.prog Tryz.lays146_ren := {
  mixed := by kernel_rfl
  f138 := Tryz.func280.trans (congrArg some (by kernel_rfl))
  f143 := Tryz.func281.trans (congrArg some (by kernel_rfl))
  f146 := Tryz.func197.trans (congrArg some (by kernel_rfl))
  f195 := Tryz.func293.trans (congrArg some (by kernel_rfl))
  f197 := Tryz.func294.trans (congrArg some (by kernel_rfl))
  f217 := Tryz.func275.trans (congrArg some (by kernel_rfl))
  f218 := Tryz.func295.trans (congrArg some (by kernel_rfl))
  f219 := Tryz.func296.trans (congrArg some (by kernel_rfl))
  f221 := Tryz.func253.trans (congrArg some (by kernel_rfl))
  f224 := Tryz.func301.trans (congrArg some (by kernel_rfl))
  f225 := Tryz.func300.trans (congrArg some (by kernel_rfl))
  f260 := Tryz.func299.trans (congrArg some (by kernel_rfl))
  f266 := Tryz.func292.trans (congrArg some (by kernel_rfl))
  f267 := Tryz.func302.trans (congrArg some (by kernel_rfl))
  f268 := Tryz.func279.trans (congrArg some (by kernel_rfl))
  f314 := Tryz.func303.trans (congrArg some (by kernel_rfl))
  t0 := Tryz.underlying0
  a0 := Tryz.isAgg0
  z0 := Tryz.sizeOf0
  v0 := Tryz.zeroValue0
  t3 := Tryz.underlying3
  a3 := Tryz.isAgg3
  z3 := Tryz.sizeOf3
  v3 := Tryz.zeroValue3
  t4 := Tryz.underlying4
  a4 := Tryz.isAgg4
  z4 := Tryz.sizeOf4
  v4 := Tryz.zeroValue4
  t5 := Tryz.underlying5
  a5 := Tryz.isAgg5
  z5 := Tryz.sizeOf5
  v5 := Tryz.zeroValue5
  t9 := Tryz.underlying9
  a9 := Tryz.isAgg9
  z9 := Tryz.sizeOf9
  v9 := Tryz.zeroValue9
  t21 := Tryz.underlying21
  a21 := Tryz.isAgg21
  z21 := Tryz.sizeOf21
  v21 := Tryz.zeroValue21
  t31 := Tryz.underlying42
  a31 := Tryz.isAgg42
  z31 := Tryz.sizeOf42
  v31 := Tryz.zeroValue42
  t46 := Tryz.underlying149
  a46 := Tryz.isAgg149
  z46 := Tryz.sizeOf149
  v46 := Tryz.zeroValue149
  t51 := Tryz.underlying189
  a51 := Tryz.isAgg189
  z51 := Tryz.sizeOf189
  v51 := Tryz.zeroValue189
  t105 := Tryz.underlying279
  a105 := Tryz.isAgg279
  z105 := Tryz.sizeOf279
  v105 := Tryz.zeroValue279
  t119 := Tryz.underlying268
  a119 := Tryz.isAgg268
  z119 := Tryz.sizeOf268
  t138 := Tryz.underlying270
  a138 := Tryz.isAgg270
  z138 := Tryz.sizeOf270
  v138 := Tryz.zeroValue270
  t139 := Tryz.underlying271
  a139 := Tryz.isAgg271
  z139 := Tryz.sizeOf271
  v139 := Tryz.zeroValue271
  t146 := Tryz.underlying283
  a146 := Tryz.isAgg283
  z146 := Tryz.sizeOf283
  v146 := Tryz.zeroValue283
  g1 := by kernel_rfl
  g3 := by kernel_rfl
  g4 := by kernel_rfl }
open Go.RowKit Go.Lib in
/-- strings.Split. (LAID: no walk: one application.) -/
theorem Tryz.strings_Split (s sep : ByteArray) (m : Int) (w : World) (hs : s.size < 4294967281) (hm : w.cell? ⟨0, 0, none⟩ = some (.int .i64 m)) (h1 : 1 ≤ sep.size) :
    Calls Tryz.prog 197 #[.string s, .string sep] w fun e w' =>
      e = .returned (.slice (some ⟨w.heap.size, 0, none⟩) (Lib.countB s sep + 1) (Lib.countB s sep + 1)) ∧ w' = w.alloc (.cells ((Lib.splitB sep 0 (Lib.countB s sep) s).map Value.string).toArray 9) := Any.strings_Split Tryz.lays146 (by kernel_rfl) s sep m w hs hm h1
def Tryz.lays229_ren : Go.Shelf.Ren := ⟨fun | 229 => 199 | n => n, fun | 9 => 9 | 40 => 205 | 31 => 42 | 152 => 247 | 3 => 3 | 0 => 0 | 4 => 4 | 21 => 21 | 154 => 249 | n => n, fun | n => n⟩
theorem Tryz.lays229 : Go.Proofs.Lays.n229 Tryz.prog Tryz.lays229_ren := {
  mixed := by kernel_rfl
  f229 := Tryz.func199.trans (congrArg some (by kernel_rfl))
  t0 := Tryz.underlying0
  a0 := Tryz.isAgg0
  z0 := Tryz.sizeOf0
  v0 := Tryz.zeroValue0
  t3 := Tryz.underlying3
  a3 := Tryz.isAgg3
  z3 := Tryz.sizeOf3
  v3 := Tryz.zeroValue3
  t4 := Tryz.underlying4
  a4 := Tryz.isAgg4
  z4 := Tryz.sizeOf4
  v4 := Tryz.zeroValue4
  t9 := Tryz.underlying9
  a9 := Tryz.isAgg9
  z9 := Tryz.sizeOf9
  v9 := Tryz.zeroValue9
  t21 := Tryz.underlying21
  a21 := Tryz.isAgg21
  z21 := Tryz.sizeOf21
  v21 := Tryz.zeroValue21
  t31 := Tryz.underlying42
  a31 := Tryz.isAgg42
  z31 := Tryz.sizeOf42
  v31 := Tryz.zeroValue42
  t40 := Tryz.underlying205
  a40 := Tryz.isAgg205
  z40 := Tryz.sizeOf205
  v40 := Tryz.zeroValue205
  t152 := Tryz.underlying247
  a152 := Tryz.isAgg247
  z152 := Tryz.sizeOf247
  v152 := Tryz.zeroValue247
  t154 := Tryz.underlying249
  a154 := Tryz.isAgg249
  z154 := Tryz.sizeOf249
  v154 := Tryz.zeroValue249 }
open Go.RowKit Go.Lib in
theorem Tryz.strings_FieldsFunc_runes (g : Nat) (lb : Array Value) (eg : ∀ args w, (callFunc g args).run Tryz.prog w = .ok (.enter g args) w) (p : Nat → Bool) (s : ByteArray) (w : World) (hs : s.size ≤ 4294967296) (hp : PredAtRunes Tryz.prog g lb p w) :
    Calls Tryz.prog 199 #[.string s, .func (.func g) #[] lb] w fun e w' => ∃ A, e = .returned (.slice (some ⟨A, 0, none⟩) (Lib.goFieldsP p s).length (Lib.goFieldsP p s).length) ∧ w.heap.size ≤ A ∧
      w'.ownsRow w.heap.size 9 1 (.slice (some ⟨A, 0, none⟩) (Lib.goFieldsP p s).length (Lib.goFieldsP p s).length) (Lib.goFieldsP p s).length ((Lib.goFieldsP p s).map Value.string) ∧ Below w.heap.size w w' := Any.strings_FieldsFunc_runes Tryz.lays229 g lb eg p s w hs hp (by kernel_rfl) (by kernel_rfl)
def Tryz.lays196_ren : Go.Shelf.Ren := ⟨fun | 196 => 256 | 259 => 283 | n => n, fun | 9 => 9 | 4 => 4 | 3 => 3 | 5 => 5 | 12 => 12 | 119 => 268 | 0 => 0 | 46 => 149 | 139 => 271 | 138 => 270 | 53 => 146 | n => n, fun | 3 => 2 | 4 => 3 | n => n⟩
theorem Tryz.lays196 : Go.Proofs.Lays.n196 Tryz.prog Tryz.lays196_ren := {
  mixed := by kernel_rfl
  f196 := Tryz.func256.trans (congrArg some (by kernel_rfl))
  f259 := Tryz.func283.trans (congrArg some (by kernel_rfl))
  t0 := Tryz.underlying0
  a0 := Tryz.isAgg0
  z0 := Tryz.sizeOf0
  v0 := Tryz.zeroValue0
  t3 := Tryz.underlying3
  a3 := Tryz.isAgg3
  z3 := Tryz.sizeOf3
  v3 := Tryz.zeroValue3
  t4 := Tryz.underlying4
  a4 := Tryz.isAgg4
  z4 := Tryz.sizeOf4
  v4 := Tryz.zeroValue4
  t5 := Tryz.underlying5
  a5 := Tryz.isAgg5
  z5 := Tryz.sizeOf5
  v5 := Tryz.zeroValue5
  t9 := Tryz.underlying9
  a9 := Tryz.isAgg9
  z9 := Tryz.sizeOf9
  v9 := Tryz.zeroValue9
  t12 := Tryz.underlying12
  a12 := Tryz.isAgg12
  z12 := Tryz.sizeOf12
  v12 := Tryz.zeroValue12
  t46 := Tryz.underlying149
  a46 := Tryz.isAgg149
  z46 := Tryz.sizeOf149
  v46 := Tryz.zeroValue149
  t53 := Tryz.underlying146
  a53 := Tryz.isAgg146
  z53 := Tryz.sizeOf146
  v53 := Tryz.zeroValue146
  t119 := Tryz.underlying268
  a119 := Tryz.isAgg268
  z119 := Tryz.sizeOf268
  t138 := Tryz.underlying270
  a138 := Tryz.isAgg270
  z138 := Tryz.sizeOf270
  v138 := Tryz.zeroValue270
  t139 := Tryz.underlying271
  a139 := Tryz.isAgg271
  z139 := Tryz.sizeOf271
  v139 := Tryz.zeroValue271
  g3 := by kernel_rfl
  g4 := by kernel_rfl }
end Go.Proofs

/- Contracts on plain data, and strings.Join. Over whatever program. -/
namespace Go.Tx
open Go Go.RowKit Go.Ax Go.Lib Go.Proofs Go.Shelf
section
variable {P : Program} {Γ : List (Nat × List D)}
theorem AFn.ofFlat {f : FuncId} {args : List AV} {x : D} (hc : CallOk P f)
    (h : ∀ (V : Vw) (w : World) (vals : List Value), ViewOk Γ V w → All2 (Ar ⟨V, []⟩) args vals → Calls P f vals.toArray w fun e w' => ∃ v, e = .returned v ∧ Dr V x v ∧ Below w.heap.size w w') : AFn P Γ f args [.d x] :=
  ⟨hc, fun V w vals hv ha => (h V w vals hv ha).mono fun e w' ⟨v, he, hd, hb⟩ =>
    ⟨V, [v], he, Vw.Le.refl V, fun b o ho => by rw [hb.block b (heap_lt (hv.view b o ho))]; exact hv.view b o ho, fun b hb' => ⟨hv.imm b hb', .inl hb'⟩, .cons hd .nil, hb⟩⟩
theorem AFn.ofFresh {f : FuncId} {args : List AV} {t : TypeId} {sz : Nat} {els : List (List D)} (hc : CallOk P f) (hsz : ∀ e ∈ els, e.length = sz)
    (h : ∀ (V : Vw) (w : World) (vals : List Value), ViewOk Γ V w → All2 (Ar ⟨V, []⟩) args vals → Calls P f vals.toArray w fun e w' => ∃ v xs, e = .returned v ∧ w'.ownsRow w.heap.size t sz v els.length xs ∧ (∀ b, v.ownBlock = some b → w.heap.size ≤ b) ∧ All2 (Dr V) els.flatten xs ∧ Below w.heap.size w w') : AFn P Γ f args [.fresh t sz els] :=
  ⟨hc, fun V w vals hv ha => (h V w vals hv ha).mono fun e w' ⟨v, xs, he, ho, hbl, hd, hb⟩ =>
    ⟨V, [v], he, Vw.Le.refl V, fun b o ho => by rw [hb.block b (heap_lt (hv.view b o ho))]; exact hv.view b o ho, fun b hb' => ⟨hv.imm b hb', .inl hb'⟩,
      .cons ⟨xs, ho, fun b hb' => by
        cases hV : V.H b with
        | none => rfl
        | some o => have := heap_lt (hv.view b o hV); have := hbl b hb'; omega, hd, hsz⟩ .nil, hb⟩⟩
theorem cell_of_view {V : Vw} {w : World} (hv : ViewOk Γ V w) {a : Addr} {v : Value} (h : cellIn V.H a = some v) : w.cell? a = some v := by
  rw [← cellIn_world]
  exact cellIn_le (fun o ho => hv.view _ o ho) h
theorem glob_cell {V : Vw} {w : World} (hv : ViewOk Γ V w) {g : Nat} {ds : List D} (hm : (g, ds) ∈ Γ) {j : Nat} {k : IntKind} {n : Int} (hj : ds[j]? = some (.int k n)) : w.cell? ⟨g, j, none⟩ = some (.int k n) := by
  obtain ⟨⟨ad, u, he, h⟩, _⟩ := hv.glob _ hm
  cases he
  obtain ⟨h1, h2⟩ := h j _ hj
  have h1 : cellIn V.H ((⟨g, 0, none⟩ : Addr).add j) = some (u j) := h1
  rw [add_plain, Nat.zero_add] at h1
  rw [cell_of_view hv h1, dr_int h2]
variable {ρ : Ren}
/-! ### strings.Join -/
theorem AFn.join (L : Lays.n156 P ρ) (X : Builder.Extra P ρ) (xs : List (List UInt8)) (sep : List UInt8) (hN : xs.length ≤ 140737488355328) (hlen : (join xs sep).length ≤ 140737488355328) :
    AFn P Γ (ρ.f 156) [.c (.bor 1 (xs.map fun x => [.str x])), .c (.d (.str sep))] [.d (.str (join xs sep))] := by
  refine AFn.ofFlat ⟨⟨_, L.f156, by kernel_rfl, by kernel_rfl⟩⟩ fun V w vals hv ha => ?_
  cases ha with | cons a1 a2 => cases a2 with | cons a2 a3 =>
  cases a3
  rw [ar_str a2]
  obtain ⟨A, cap, u, rfl, hc, hm, hsz, hA, hu⟩ := a1
  by_cases hx : xs = []
  · subst hx
    refine (Any.strings_Join_none L X A cap ⟨sep.toArray⟩ w).mono fun e w' ⟨he, hw⟩ => ⟨_, he, ?_, hw ▸ Below.refl _ _⟩
    exact .str _
  · obtain ⟨ad, rfl, hcell⟩ := hA (by simpa using hx)
    have hcells : ∀ (j : Nat) x, xs[j]? = some x → w.cell? (ad.add j) = some (.string ⟨x.toArray⟩) := fun j x hj => by
      have e1 : (xs.map fun x => [D.str x])[j]? = some [.str x] := by simp [hj]
      have h1 := cell_of_view hv (hcell j [.str x] 0 (.str x) e1 rfl)
      have h2 := dr_str (hu j [.str x] 0 (.str x) e1 rfl)
      rw [h2, show j * 1 + 0 = j by omega] at h1
      exact h1
    obtain ⟨x0, hx0⟩ : ∃ x0, xs[0]? = some x0 := by cases xs with | nil => exact absurd rfl hx | cons y r => exact ⟨y, rfl⟩
    obtain ⟨bk, o, sp⟩ := ad
    have hsp : sp = none := by
      have h0 := hcells 0 x0 hx0
      have h1 : w.cell? ⟨bk, o, sp⟩ = some (.string ⟨x0.toArray⟩) := h0
      unfold World.cell? at h1
      cases sp with
      | none => rfl
      | some q => simp at h1; split at h1 <;> simp_all
    subst hsp
    have hbk : bk < w.heap.size := by
      have h0 := hcells 0 x0 hx0
      obtain ⟨ob, hob⟩ := heap_of_cell h0
      exact heap_lt hob
    have e2 : (xs.map fun x => (⟨x.toArray⟩ : ByteArray)).map (·.data.toList) = xs := by
      rw [List.map_map]
      exact (List.map_congr_left fun x _ => rfl).trans (List.map_id xs)
    have e3 : (⟨sep.toArray⟩ : ByteArray).data.toList = sep := by simp
    have hJ := Any.strings_Join L X bk o cap (xs.map fun x => ⟨x.toArray⟩) ⟨sep.toArray⟩ w (fun j x hj => by
      rw [List.getElem?_map] at hj
      cases hxj : xs[j]? with
      | none => rw [hxj] at hj; cases hj
      | some y =>
        rw [hxj] at hj; cases hj
        have := hcells j y hxj
        rwa [add_plain] at this) hbk (by rw [List.length_map]; exact hN) (by rw [List.length_map] at hc ⊢; exact hc) (by rw [e2, e3]; exact hlen)
    rw [e2, e3] at hJ
    have e4 : (xs.map fun x => (⟨x.toArray⟩ : ByteArray)).length = (xs.map fun x => [D.str x]).length := by simp
    rw [e4] at hJ
    exact hJ.mono fun e w' ⟨he, hb⟩ => ⟨_, he, .str _, hb⟩
end
end Go.Tx

/- Texts: what the library's functions on texts and the reference's compute is the same. Plain Lean; no condition of its own. -/
namespace Go.Tx
open Go Go.Ax Go.Lib
def dec3 (a b c n : Nat) : Nat × Nat :=
  if 32 ≤ a ∧ a < 127 then (a, 1)
  else if 194 ≤ a ∧ a < 224 ∧ 1 < n ∧ 128 ≤ b ∧ b < 192 then (if 160 ≤ (a - 192) * 64 + (b - 128) then ((a - 192) * 64 + (b - 128), 2) else (0, 0))
  else if 224 ≤ a ∧ a < 240 ∧ 2 < n ∧ 128 ≤ b ∧ b < 192 ∧ 128 ≤ c ∧ c < 192 then
    (if 2048 ≤ (a - 224) * 4096 + (b - 128) * 64 + (c - 128) ∧ ((a - 224) * 4096 + (b - 128) * 64 + (c - 128) < 55296 ∨ 57343 < (a - 224) * 4096 + (b - 128) * 64 + (c - 128)) then ((a - 224) * 4096 + (b - 128) * 64 + (c - 128), 3) else (0, 0))
  else (0, 0)
def decF (l : List UInt8) : Nat × Nat := dec3 (l.getD 0 0).toNat (l.getD 1 0).toNat (l.getD 2 0).toNat l.length
def okR (c : Nat) : Bool := !(decide (c < 32) || (decide (127 ≤ c) && decide (c ≤ 159)) || decide (65535 < c))
def blankR (c : Nat) : Bool := decide (c = 32) || decide (c = 160)
set_option maxRecDepth 100000 in
set_option maxHeartbeats 4000000 in
theorem dec_same (a b c d n : Nat) (ha : a < 256) (hb : b < 256) (hc : c < 256) (hd : d < 256) (hn : 1 ≤ n) :
    (0 < (dec3 a b c n).2 → decodeN n a b c d = dec3 a b c n ∧ okR (dec3 a b c n).1 = true ∧ ¬ ((dec3 a b c n).1 = 65533 ∧ (dec3 a b c n).2 = 1)) ∧
    ((dec3 a b c n).2 = 0 → ((decodeN n a b c d).1 = 65533 ∧ (decodeN n a b c d).2 = 1) ∨ okR (decodeN n a b c d).1 = false) := by
  unfold dec3 decodeN okR
  constructor
  · repeat' split
    all_goals first
      | (intro h; exfalso; simp only at h; omega)
      | (intro _; refine ⟨?_, ?_, ?_⟩
         · first | rfl | (exfalso; omega) | (apply Prod.ext <;> simp only <;> omega)
         · simp; omega
         · simp; try omega)
  · repeat' split
    all_goals first
      | (intro h; exfalso; simp only at h; omega)
      | (intro _; left; exact ⟨rfl, rfl⟩)
      | (intro _; right; simp; omega)
      | (exfalso; omega)
theorem u8lt (x : UInt8) : x.toNat < 256 := x.toNat_lt
theorem decodeL_N' (l : List UInt8) : decodeL l = decodeN l.length (l.getD 0 0).toNat (l.getD 1 0).toNat (l.getD 2 0).toNat (l.getD 3 0).toNat := decodeL_N l
theorem decF_pos {l : List UInt8} (hne : l ≠ []) (h : 0 < (decF l).2) : decodeL l = decF l ∧ okR (decF l).1 = true ∧ ¬ ((decF l).1 = 65533 ∧ (decF l).2 = 1) := by
  have hn : 1 ≤ l.length := List.length_pos_iff.2 hne
  rw [decodeL_N']
  exact (dec_same _ _ _ _ _ (u8lt _) (u8lt _) (u8lt _) (u8lt _) hn).1 h
theorem decF_zero {l : List UInt8} (hne : l ≠ []) (h : (decF l).2 = 0) : ((decodeL l).1 = 65533 ∧ (decodeL l).2 = 1) ∨ okR (decodeL l).1 = false := by
  have hn : 1 ≤ l.length := List.length_pos_iff.2 hne
  rw [decodeL_N']
  exact (dec_same _ _ _ _ _ (u8lt _) (u8lt _) (u8lt _) (u8lt _) hn).2 h
theorem decF_le (l : List UInt8) (hne : l ≠ []) : (decF l).2 ≤ l.length := by
  have hn : 1 ≤ l.length := List.length_pos_iff.2 hne
  unfold decF dec3
  repeat' split
  all_goals (simp only; omega)
/-! ### is it a text? -/
def validG : Nat → List UInt8 → Bool
  | 0, _ => true
  | f + 1, l => if l = [] then true else decide (0 < (decF l).2) && validG f (l.drop (decF l).2)
def validF (l : List UInt8) : Bool := validG l.length l
def runesG : Nat → List UInt8 → Bool
  | 0, _ => true
  | f + 1, l => if l = [] then true else okR (decodeL l).1 && runesG f (l.drop (decodeL l).2)
def runesF (l : List UInt8) : Bool := runesG l.length l
theorem validG_fuel : ∀ (n m : Nat) (l : List UInt8), l.length ≤ n → l.length ≤ m → validG n l = validG m l
  | 0, 0, _, _, _ => rfl
  | 0, m + 1, l, h, _ => by obtain rfl : l = [] := List.length_eq_zero_iff.1 (by omega); simp [validG]
  | n + 1, 0, l, _, h => by obtain rfl : l = [] := List.length_eq_zero_iff.1 (by omega); simp [validG]
  | n + 1, m + 1, l, h1, h2 => by
    unfold validG
    split
    · rfl
    · next hne =>
      have : 1 ≤ l.length := List.length_pos_iff.2 hne
      cases hd : decide (0 < (decF l).2) with
      | false => rfl
      | true =>
        have hp : 0 < (decF l).2 := of_decide_eq_true hd
        rw [validG_fuel n m _ (by rw [List.length_drop]; omega) (by rw [List.length_drop]; omega)]
theorem validF_step {l : List UInt8} (hne : l ≠ []) : validF l = (decide (0 < (decF l).2) && validF (l.drop (decF l).2)) := by
  have : 1 ≤ l.length := List.length_pos_iff.2 hne
  obtain ⟨n, hn⟩ : ∃ n, l.length = n + 1 := ⟨l.length - 1, by omega⟩
  have e : validF l = validG (n + 1) l := by unfold validF; rw [hn]
  rw [e]
  show (if l = [] then true else decide (0 < (decF l).2) && validG n (l.drop (decF l).2)) = _
  rw [if_neg hne]
  cases hd : decide (0 < (decF l).2) with
  | false => rfl
  | true =>
    have hp : 0 < (decF l).2 := of_decide_eq_true hd
    rw [validG_fuel n (l.drop (decF l).2).length _ (by rw [List.length_drop]; omega) (Nat.le_refl _)]; rfl
theorem runesG_fuel : ∀ (n m : Nat) (l : List UInt8), l.length ≤ n → l.length ≤ m → runesG n l = runesG m l
  | 0, 0, _, _, _ => rfl
  | 0, m + 1, l, h, _ => by obtain rfl : l = [] := List.length_eq_zero_iff.1 (by omega); simp [runesG]
  | n + 1, 0, l, _, h => by obtain rfl : l = [] := List.length_eq_zero_iff.1 (by omega); simp [runesG]
  | n + 1, m + 1, l, h1, h2 => by
    unfold runesG
    split
    · rfl
    · next hne =>
      have : 1 ≤ l.length := List.length_pos_iff.2 hne
      have hp := decodeL_width l
      rw [runesG_fuel n m _ (by rw [List.length_drop]; omega) (by rw [List.length_drop]; omega)]
theorem runesF_step {l : List UInt8} (hne : l ≠ []) : runesF l = (okR (decodeL l).1 && runesF (l.drop (decodeL l).2)) := by
  have : 1 ≤ l.length := List.length_pos_iff.2 hne
  obtain ⟨n, hn⟩ : ∃ n, l.length = n + 1 := ⟨l.length - 1, by omega⟩
  have e : runesF l = runesG (n + 1) l := by unfold runesF; rw [hn]
  rw [e]
  show (if l = [] then true else okR (decodeL l).1 && runesG n (l.drop (decodeL l).2)) = _
  rw [if_neg hne]
  have hp := decodeL_width l
  rw [runesG_fuel n (l.drop (decodeL l).2).length _ (by rw [List.length_drop]; omega) (Nat.le_refl _)]; rfl
theorem valid_same : ∀ (n : Nat) (l : List UInt8), l.length ≤ n → (validD l && runesF l) = validF l
  | 0, l, h => by obtain rfl : l = [] := List.length_eq_zero_iff.1 (by omega); rfl
  | n + 1, l, h => by
    by_cases hne : l = []
    · subst hne; rfl
    · have : 1 ≤ l.length := List.length_pos_iff.2 hne
      rw [validD_step l hne, runesF_step hne, validF_step hne]
      rcases Nat.eq_zero_or_pos (decF l).2 with hz | hp
      · rcases decF_zero hne hz with h1 | h1
        · rw [if_pos h1, hz]; rfl
        · rw [h1, hz]; simp
      · obtain ⟨h1, h2, h3⟩ := decF_pos hne hp
        rw [h1, if_neg h3, h2, Bool.true_and, decide_eq_true hp, Bool.true_and]
        exact valid_same n _ (by rw [List.length_drop]; omega)
/-! ### without superfluous blanks -/
def cleanStep (st : List UInt8 × Bool) (c : Nat) (x : List UInt8) : List UInt8 × Bool :=
  if blankR c = true then (st.1, true) else ((if st.2 = true ∧ st.1 ≠ [] then st.1 ++ [32] else st.1) ++ x, false)
def cleanG : Nat → List UInt8 → List UInt8 × Bool → List UInt8
  | 0, _, st => st.1
  | f + 1, l, st => if l = [] then st.1 else cleanG f (l.drop (max (decF l).2 1)) (cleanStep st (decF l).1 (l.take (max (decF l).2 1)))
def cleanF (l : List UInt8) : List UInt8 := cleanG l.length l ([], false)
def cleanP (l : List UInt8) : List UInt8 := join ((goFieldsP blankR ⟨l.toArray⟩).map (·.data.toList)) [32]
theorem join_snoc : ∀ (xs : List (List UInt8)) (x : List UInt8), join (xs ++ [x]) [32] = if xs = [] then x else join xs [32] ++ [32] ++ x
  | [], x => by simp [join_one]
  | y :: r, x => by
    rw [if_neg (by simp), List.cons_append, join_cons, join_cons]
    simp [joinTail]
theorem join_grow (xs : List (List UInt8)) (x y : List UInt8) : join (xs ++ [x ++ y]) [32] = join (xs ++ [x]) [32] ++ y := by
  rw [join_snoc, join_snoc]
  split <;> simp
theorem join_ne (xs : List (List UInt8)) (h : xs ≠ []) (hx : ∀ x ∈ xs, x ≠ []) : join xs [32] ≠ [] := by
  cases xs with
  | nil => exact absurd rfl h
  | cons y r =>
    rw [join_cons]
    intro e
    exact hx y (by simp) (List.append_eq_nil_iff.1 e).1
end Go.Tx

/- Texts: a text without superfluous blanks, by the library's fields and by the reference. Plain Lean; no condition of its own. -/
namespace Go.Tx
open Go Go.Ax Go.Lib
def piecesOf (l : List UInt8) (acc : List (Nat × Nat)) : List (List UInt8) := acc.map fun x => pieceU l x.1 x.2
def openOf (l : List UInt8) (st : Option Nat) (pos : Nat) : List (List UInt8) := match st with | some a => [pieceU l a pos] | none => []
structure Rel (l : List UInt8) (pos : Nat) (st : Option Nat) (acc : List (Nat × Nat)) (out : List UInt8 × Bool) : Prop where
  eq : out.1 = join (piecesOf l acc ++ openOf l st pos) [32]
  opn : ∀ a, st = some a → a < pos ∧ out.2 = false
  cls : st = none → out.2 = true ∨ acc = []
  ne : ∀ x ∈ piecesOf l acc, x ≠ []
theorem clean_from (s : ByteArray) (l : List UInt8) (hl : l = s.data.toList) : ∀ (f g pos : Nat) (st : Option Nat) (acc : List (Nat × Nat)) (out : List UInt8 × Bool), l.length ≤ pos + f → l.length ≤ pos + g → pos ≤ l.length → validF (l.drop pos) = true → Rel l pos st acc out →
    join (piecesOf l (closeSpans s (spansFromP blankR s f pos st acc))) [32] = cleanG g (l.drop pos) out
  | f, g, pos, st, acc, out, hf, hg, hp, hv, hr => by
    have hsz : s.size = l.length := by rw [hl, ← size_eq]
    by_cases hlt : pos < l.length
    · match f, g, hf, hg with
      | 0, _, hf, _ => exact absurd hf (by omega)
      | _ + 1, 0, _, hg => exact absurd hg (by omega)
      | f + 1, g + 1, hf, hg =>
        have hne : l.drop pos ≠ [] := fun e => by have := congrArg List.length e; rw [List.length_drop] at this; simp at this; omega
        rw [validF_step hne, Bool.and_eq_true, decide_eq_true_eq] at hv
        obtain ⟨hv1, hv2⟩ := hv
        obtain ⟨hd, _, _⟩ := decF_pos hne hv1
        have hle := decF_le _ hne
        rw [List.length_drop] at hle
        have hdec : Utf8.decode s pos = decF (l.drop pos) := by rw [← decodeL_drop, ← hl]; exact hd
        rw [List.drop_drop] at hv2
        show join (piecesOf l (closeSpans s (spansFromP blankR s (f + 1) pos st acc))) [32] = (if l.drop pos = [] then out.1 else cleanG g ((l.drop pos).drop (max (decF (l.drop pos)).2 1)) (cleanStep out (decF (l.drop pos)).1 ((l.drop pos).take (max (decF (l.drop pos)).2 1))))
        rw [if_neg hne, show max (decF (l.drop pos)).2 1 = (decF (l.drop pos)).2 by omega, List.drop_drop]
        simp only [spansFromP, hsz, if_pos hlt, hdec]
        generalize hc : (decF (l.drop pos)).1 = c at *
        generalize hk : (decF (l.drop pos)).2 = k at *
        cases hb : blankR c with
        | true =>
          simp only [if_true]
          have hcs : cleanStep out c ((l.drop pos).take k) = (out.1, true) := by unfold cleanStep; rw [if_pos hb]
          rw [hcs]
          cases st with
          | none =>
            exact clean_from s l hl f g (pos + k) none acc _ (by omega) (by omega) (by omega) hv2 ⟨by have := hr.eq; simpa [openOf] using this, (fun a h => by cases h), fun _ => .inl rfl, hr.ne⟩
          | some a =>
            have ha := (hr.opn a rfl).1
            refine clean_from s l hl f g (pos + k) none (acc ++ [(a, pos)]) _ (by omega) (by omega) (by omega) hv2 ⟨?_, (fun a h => by cases h), fun _ => .inl rfl, fun x hx => ?_⟩
            · have := hr.eq; simpa [openOf, piecesOf] using this
            · unfold piecesOf at hx
              rw [List.map_append] at hx
              rcases List.mem_append.1 hx with hx | hx
              · exact hr.ne x hx
              · simp at hx; subst hx; exact pieceU_ne l a pos ha (by omega)
        | false =>
          simp only [Bool.false_eq_true, if_false]
          have hcs : cleanStep out c ((l.drop pos).take k) = ((if out.2 = true ∧ out.1 ≠ [] then out.1 ++ [32] else out.1) ++ (l.drop pos).take k, false) := by unfold cleanStep; rw [if_neg (by simp [hb])]
          rw [hcs]
          cases st with
          | none =>
            refine clean_from s l hl f g (pos + k) (some pos) acc _ (by omega) (by omega) (by omega) hv2 ⟨?_, (fun a h => by cases h; exact ⟨by omega, rfl⟩), (fun h => by cases h), hr.ne⟩
            have ho := hr.eq
            simp only [openOf, List.append_nil] at ho
            have hpc : pieceU l pos (pos + k) = (l.drop pos).take k := by unfold pieceU; rw [show pos + k - pos = k by omega]
            simp only [openOf, hpc]
            rw [join_snoc]
            by_cases hacc : piecesOf l acc = []
            · rw [if_pos hacc]
              have : out.1 = [] := by rw [ho, hacc]; rfl
              rw [if_neg (by simp [this]), this]; rfl
            · rw [if_neg hacc]
              have hg2 : out.2 = true := by
                rcases hr.cls rfl with h | h
                · exact h
                · exact absurd (by rw [h]; rfl) hacc
              have : out.1 ≠ [] := by rw [ho]; exact join_ne _ hacc hr.ne
              rw [if_pos ⟨hg2, this⟩, ho]
          | some a =>
            obtain ⟨ha, hg2⟩ := hr.opn a rfl
            refine clean_from s l hl f g (pos + k) (some a) acc _ (by omega) (by omega) (by omega) hv2 ⟨?_, (fun b h => by cases h; exact ⟨by omega, rfl⟩), (fun h => by cases h), hr.ne⟩
            have ho := hr.eq
            simp only [openOf] at ho ⊢
            rw [if_neg (by simp [hg2]), ← pieceU_grow l a pos k (by omega), join_grow, ho]
    · have hd : l.drop pos = [] := List.drop_eq_nil_of_le (by omega)
      have e1 : spansFromP blankR s f pos st acc = (acc, st) := spansFromP_end _ _ _ _ _ _ (by omega)
      have e2 : cleanG g (l.drop pos) out = out.1 := by rw [hd]; cases g <;> rfl
      rw [e1, e2, hr.eq]
      have hps : pos = s.size := by omega
      cases st with
      | none => simp [closeSpans, openOf]
      | some a => simp [closeSpans, openOf, piecesOf, hps]
termination_by f => f
theorem clean_same (l : List UInt8) (hv : validF l = true) : cleanP l = cleanF l := by
  have h := clean_from ⟨l.toArray⟩ l (by simp) l.length l.length 0 none [] ([], false) (by omega) (by omega) (by omega) (by simpa using hv) ⟨rfl, (fun a h => by cases h), fun _ => .inr rfl, (fun x hx => by cases hx)⟩
  rw [List.drop_zero] at h
  unfold cleanP cleanF
  rw [← h]
  congr 1
  unfold goFieldsP spansOfP piecesOf
  rw [List.map_map]
  have hsz : (⟨l.toArray⟩ : ByteArray).size = l.length := rfl
  rw [hsz]
  refine List.map_congr_left fun x _ => ?_
  show (ByteArray.extract ⟨l.toArray⟩ x.1 x.2).data.toList = pieceU l x.1 x.2
  rw [extract_data]; rfl
end Go.Tx

/- The library's contracts on texts, as contracts over closed data. Over whatever program. -/
namespace Go.Tx
open Go Go.RowKit Go.Ax Go.Lib Go.Proofs Go.Shelf
section
variable {P : Program} {Γ : List (Nat × List D)}
/-! ### utf8.ValidString -/
def firstD : List D := (List.range 256).map fun c => .int .u8 (firstT c)
def acceptD : List D := (List.range 16).flatMap fun i => [.int .u8 (accLo i), .int .u8 (accHi i)]
theorem acceptD_at : ∀ i, i < 16 → acceptD[2 * i]? = some (.int .u8 (accLo i)) ∧ acceptD[2 * i + 1]? = some (.int .u8 (accHi i)) := fun i hi => match i, hi with
  | 0, _ => ⟨rfl, rfl⟩
  | 1, _ => ⟨rfl, rfl⟩
  | 2, _ => ⟨rfl, rfl⟩
  | 3, _ => ⟨rfl, rfl⟩
  | 4, _ => ⟨rfl, rfl⟩
  | 5, _ => ⟨rfl, rfl⟩
  | 6, _ => ⟨rfl, rfl⟩
  | 7, _ => ⟨rfl, rfl⟩
  | 8, _ => ⟨rfl, rfl⟩
  | 9, _ => ⟨rfl, rfl⟩
  | 10, _ => ⟨rfl, rfl⟩
  | 11, _ => ⟨rfl, rfl⟩
  | 12, _ => ⟨rfl, rfl⟩
  | 13, _ => ⟨rfl, rfl⟩
  | 14, _ => ⟨rfl, rfl⟩
  | 15, _ => ⟨rfl, rfl⟩
  | i + 16, hi => absurd hi (by omega)
variable {ρ : Ren}
/-! ### strings.FieldsFunc -/
theorem AFn.fieldsFunc (L : Lays.n229 P ρ) (g : Nat) (p : Nat → Bool) (eg : ∀ args w, (callFunc g args).run P w = .ok (.enter g args) w) (hp : ∀ (W : World) (x : Nat), x ≤ 1114111 → FnGives P g #[] #[encR x] (.bool (p x)) W)
    (hi154 : (P.info? (ρ.t 154)).map (fun i => (i.zero, i.size, i.bytes)) = some (some (.agg #[.int .i64 0, .int .i64 0]), 2, 16))
    (hi9 : (P.info? (ρ.t 9)).map (fun i => (i.zero, i.size, i.bytes)) = some (some (.string ⟨#[]⟩), 1, 16)) (s : List UInt8) (hs : s.length ≤ 4294967296) :
    AFn P Γ (ρ.f 229) [.c (.d (.str s)), .c (.clo g [])] [.fresh (ρ.t 9) 1 (((goFieldsP p ⟨s.toArray⟩).map (·.data.toList)).map fun x => [.str x])] := by
  refine AFn.ofFresh ⟨⟨_, L.f229, by kernel_rfl, by kernel_rfl⟩⟩ (fun e he => by simp at he; obtain ⟨x, _, rfl⟩ := he; rfl) fun V w vals hv ha => ?_
  cases ha with | cons a1 a2 => cases a2 with | cons a2 a3 =>
  cases a3
  rw [ar_str a1]
  obtain ⟨bs, rfl, hbs⟩ := a2
  cases hbs
  refine (Any.strings_FieldsFunc_runes L g #[] eg p ⟨s.toArray⟩ w hs (fun W x hx _ => hp W x hx) hi154 hi9).mono fun e w' ⟨A, he, hA, hown, hb⟩ => ⟨_, _, he, by simpa using hown, fun b hb' => ?_, ?_, hb⟩
  · cases hb'; exact hA
  · generalize goFieldsP p ⟨s.toArray⟩ = xs
    induction xs with
    | nil => exact .nil
    | cons x r ih =>
      refine .cons ?_ ih
      have := Dr.str (V := V) x.data.toList
      rwa [byteArray_eta] at this
end
end Go.Tx
