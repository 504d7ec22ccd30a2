/- Part of a proof about this program; no condition of its own. -/
import Derived.Shelf.Strings.OnBuilder
import Derived.Lib.Join
import Derived.Test.YtanbfhnmklhjiaaDoorGxD
set_option linter.all false
/- Contracts on plain data, and strings.Join. Over whatever program. -/
namespace Go.Tx
open Go Go.RowKit Go.Ax Go.Lib Go.Proofs Go.Shelf
section
variable {P : Program} {Γ : List (Nat × List D)}
theorem AFn.ofFlat {f : FuncId} {args : List AV} {x : D} (hc : CallOk P f)
    (h : ∀ (V : Vw) (w : World) (vals : List Value), ViewOk Γ V w → All2 (Ar ⟨V, []⟩) args vals → Calls P f vals.toArray w fun e w' => ∃ v, e = .returned v ∧ Dr V x v ∧ Below w.heap.size w w') : AFn P Γ f args [.d x] :=
  ⟨hc, fun V w vals hv ha => (h V w vals hv ha).mono fun e w' ⟨v, he, hd, hb⟩ =>
    ⟨V, [v], he, Vw.Le.refl V, fun b o ho => by rw [hb.block b (heap_lt (hv.view b o ho))]; exact hv.view b o ho, fun b hb' => ⟨hv.imm b hb', .inl hb'⟩, .cons hd .nil, hb⟩⟩
theorem AFn.ofFresh {f : FuncId} {args : List AV} {t : TypeId} {sz : Nat} {els : List (List D)} (hc : CallOk P f) (hsz : ∀ e ∈ els, e.length = sz)
    (h : ∀ (V : Vw) (w : World) (vals : List Value), ViewOk Γ V w → All2 (Ar ⟨V, []⟩) args vals → Calls P f vals.toArray w fun e w' => ∃ v xs, e = .returned v ∧ w'.ownsRow w.heap.size t sz v els.length xs ∧ (∀ b, v.ownBlock = some b → w.heap.size ≤ b) ∧ All2 (Dr V) els.flatten xs ∧ Below w.heap.size w w') : AFn P Γ f args [.fresh t sz els] :=
  ⟨hc, fun V w vals hv ha => (h V w vals hv ha).mono fun e w' ⟨v, xs, he, ho, hbl, hd, hb⟩ =>
    ⟨V, [v], he, Vw.Le.refl V, fun b o ho => by rw [hb.block b (heap_lt (hv.view b o ho))]; exact hv.view b o ho, fun b hb' => ⟨hv.imm b hb', .inl hb'⟩,
      .cons ⟨xs, ho, fun b hb' => by
        cases hV : V.H b with
        | none => rfl
        | some o => have := heap_lt (hv.view b o hV); have := hbl b hb'; omega, hd, hsz⟩ .nil, hb⟩⟩
theorem cell_of_view {V : Vw} {w : World} (hv : ViewOk Γ V w) {a : Addr} {v : Value} (h : cellIn V.H a = some v) : w.cell? a = some v := by
  rw [← cellIn_world]
  exact cellIn_le (fun o ho => hv.view _ o ho) h

theorem glob_cell {V : Vw} {w : World} (hv : ViewOk Γ V w) {g : Nat} {ds : List D} (hm : (g, ds) ∈ Γ) {j : Nat} {k : IntKind} {n : Int} (hj : ds[j]? = some (.int k n)) : w.cell? ⟨g, j, none⟩ = some (.int k n) := by
  obtain ⟨⟨ad, u, he, h⟩, _⟩ := hv.glob _ hm
  cases he
  obtain ⟨h1, h2⟩ := h j _ hj
  have h1 : cellIn V.H ((⟨g, 0, none⟩ : Addr).add j) = some (u j) := h1
  rw [add_plain, Nat.zero_add] at h1
  rw [cell_of_view hv h1, dr_int h2]
variable {ρ : Ren}
/-! ### strings.Join -/
theorem AFn.join (L : Lays.n156 P ρ) (X : Builder.Extra P ρ) (xs : List (List UInt8)) (sep : List UInt8) (hN : xs.length ≤ 140737488355328) (hlen : (join xs sep).length ≤ 140737488355328) :
    AFn P Γ (ρ.f 156) [.c (.bor 1 (xs.map fun x => [.str x])), .c (.d (.str sep))] [.d (.str (join xs sep))] := by
  refine AFn.ofFlat ⟨⟨_, L.f156, by kernel_rfl, by kernel_rfl⟩⟩ fun V w vals hv ha => ?_
  cases ha with | cons a1 a2 => cases a2 with | cons a2 a3 =>
  cases a3
  rw [ar_str a2]
  obtain ⟨A, cap, u, rfl, hc, hm, hsz, hA, hu⟩ := a1
  by_cases hx : xs = []
  · subst hx
    refine (Any.strings_Join_none L X A cap ⟨sep.toArray⟩ w).mono fun e w' ⟨he, hw⟩ => ⟨_, he, ?_, hw ▸ Below.refl _ _⟩
    exact .str _
  · obtain ⟨ad, rfl, hcell⟩ := hA (by simpa using hx)
    have hcells : ∀ (j : Nat) x, xs[j]? = some x → w.cell? (ad.add j) = some (.string ⟨x.toArray⟩) := fun j x hj => by
      have e1 : (xs.map fun x => [D.str x])[j]? = some [.str x] := by simp [hj]
      have h1 := cell_of_view hv (hcell j [.str x] 0 (.str x) e1 rfl)
      have h2 := dr_str (hu j [.str x] 0 (.str x) e1 rfl)
      rw [h2, show j * 1 + 0 = j by omega] at h1
      exact h1
    obtain ⟨x0, hx0⟩ : ∃ x0, xs[0]? = some x0 := by cases xs with | nil => exact absurd rfl hx | cons y r => exact ⟨y, rfl⟩
    obtain ⟨bk, o, sp⟩ := ad
    have hsp : sp = none := by
      have h0 := hcells 0 x0 hx0
      have h1 : w.cell? ⟨bk, o, sp⟩ = some (.string ⟨x0.toArray⟩) := h0
      unfold World.cell? at h1
      cases sp with
      | none => rfl
      | some q => simp at h1; split at h1 <;> simp_all
    subst hsp
    have hbk : bk < w.heap.size := by
      have h0 := hcells 0 x0 hx0
      obtain ⟨ob, hob⟩ := heap_of_cell h0
      exact heap_lt hob
    have e2 : (xs.map fun x => (⟨x.toArray⟩ : ByteArray)).map (·.data.toList) = xs := by
      rw [List.map_map]
      exact (List.map_congr_left fun x _ => rfl).trans (List.map_id xs)
    have e3 : (⟨sep.toArray⟩ : ByteArray).data.toList = sep := by simp
    have hJ := Any.strings_Join L X bk o cap (xs.map fun x => ⟨x.toArray⟩) ⟨sep.toArray⟩ w (fun j x hj => by
      rw [List.getElem?_map] at hj
      cases hxj : xs[j]? with
      | none => rw [hxj] at hj; cases hj
      | some y =>
        rw [hxj] at hj; cases hj
        have := hcells j y hxj
        rwa [add_plain] at this) hbk (by rw [List.length_map]; exact hN) (by rw [List.length_map] at hc ⊢; exact hc) (by rw [e2, e3]; exact hlen)
    rw [e2, e3] at hJ
    have e4 : (xs.map fun x => (⟨x.toArray⟩ : ByteArray)).length = (xs.map fun x => [D.str x]).length := by simp
    rw [e4] at hJ
    exact hJ.mono fun e w' ⟨he, hb⟩ => ⟨_, he, .str _, hb⟩
end
end Go.Tx
