/- Slices of an array behind a pointer; a slice against nil. No condition. -/
import Derived.Test.YtimehiamdikinaaAxR
set_option linter.all false
namespace Go.Ax
open Go Go.RowKit
variable {P : Program} {h : List LB} {ρ : Operand → AV} {dst : Option Tmp} {ty : TypeId} {p : String} {af : Array Edge} {gd : Option (Nat × Bool)}
theorem s_slice_arr (t : TypeId) (x : Operand) {e : TypeId} {m sz : Nat} {cs : List D} (els : List (List D)) (hs : arT P t = some (m, e, sz)) (hx : ρ x = .c (.ptr cs)) (hcs : cs = els.flatten) (hlen : els.length = m) (hall : ∀ e ∈ els, e.length = sz) (hm : m ≤ maxLen) :
    Still P h ⟨dst, .slice t x none none none, ty, p, af, gd⟩ ρ (.c (.bor sz els)) := by
  intro cx G w a s ho
  obtain ⟨hu, hsz⟩ := arT_some hs
  obtain ⟨ad, u, e1, hc⟩ := (hx ▸ ho x (by simp [Op.operands]) : Ar G (.c (.ptr cs)) (a.eval x))
  have hp : (if m = 0 then ad else ad.add (0 * sz)) = ad := by split <;> simp [add_zero]
  refine ⟨.slice (some ad) els.length m, ?_, some ad, m, (fun i j => u (i * sz + j)), rfl, by omega, hm, hall, fun _ => ⟨ad, rfl, fun i e' j c h1 h2 => ?_⟩, fun i e' j c h1 h2 => ?_⟩
  · simp [execOp, Instr.sliceAt, run_underlying hu, e1, Instr.sliceBounds, run_sizeOf' hsz, Instr.sureAddr, hlen, add_zero]
    try rfl
  · have := flat_get els hall i e' j c h1 h2
    rw [← hcs] at this
    exact (hc _ c this).1
  · have := flat_get els hall i e' j c h1 h2
    rw [← hcs] at this
    exact (hc _ c this).2

theorem run_nilne {t e : TypeId} (hu : P.underlying t = some (.slice e)) (ad : Addr) (n c d : Nat) (w : World) : (Op.equalIn (d + 1) t (.slice (some ad) n c) (.slice none 0 0)).run P w = .ok false w := by
  simp [Op.equalIn, run_underlying hu]
theorem run_nileq {t e : TypeId} (hu : P.underlying t = some (.slice e)) (d : Nat) (w : World) : (Op.equalIn (d + 1) t (.slice none 0 0) (.slice none 0 0)).run P w = .ok true w := by
  simp [Op.equalIn, run_underlying hu]
theorem run_nilne' {t e : TypeId} (hu : P.underlying t = some (.slice e)) (ad : Addr) (n c : Nat) (w : World) : (Op.equal t (.slice (some ad) n c) (.slice none 0 0)).run P w = .ok false w := run_nilne hu ad n c 9999 w
theorem run_nileq' {t e : TypeId} (hu : P.underlying t = some (.slice e)) (w : World) : (Op.equal t (.slice none 0 0) (.slice none 0 0)).run P w = .ok true w := run_nileq hu 9999 w
def nilq : BinOp → Bool → Option Bool
  | .eql, b => some b
  | .neq, b => some (!b)
  | _, _ => none
/-- A slice that is not empty is not nil. -/
theorem s_slnil_ne (op : BinOp) (t t' : TypeId) (x : Operand) {e : TypeId} {n sz : Nat} {els : List (List D)} {b : Bool} (hs : slT P t = some (e, n)) (hx : ρ x = .c (.d (.lst sz els)) ∨ ρ x = .c (.bor sz els)) (hne : els ≠ []) (hb : nilq op false = some b) :
    Still P h ⟨dst, .binOp op t x (.const (.slice none 0 0)) t', ty, p, af, gd⟩ ρ (.c (.d (.bool b))) := by
  intro cx G w a s ho
  obtain ⟨hu, hsz⟩ := slT_some hs
  have key : ∃ ad n c, a.eval x = .slice (some ad) n c := by
    rcases hx with hx | hx
    · obtain ⟨A, cap, u, e1, _, _, _, ha, _⟩ := dr_lst (hx ▸ ho x (by simp [Op.operands]) : Ar G (.c (.d (.lst sz els))) (a.eval x))
      obtain ⟨ad, rfl, _⟩ := ha hne
      exact ⟨_, _, _, e1⟩
    · obtain ⟨A, cap, u, e1, _, _, _, ha, _⟩ := (hx ▸ ho x (by simp [Op.operands]) : Ar G (.c (.bor sz els)) (a.eval x))
      obtain ⟨ad, rfl, _⟩ := ha hne
      exact ⟨_, _, _, e1⟩
  obtain ⟨ad, k, c, e1⟩ := key
  have e2 : a.eval (.const (.slice none 0 0)) = .slice none 0 0 := rfl
  refine ⟨.bool b, ?_, Dr.bool _⟩
  cases op <;> simp only [nilq, Option.some.injEq, reduceCtorEq] at hb <;> subst hb <;>
    simp [execOp, e1, e2, eqGuard, binOp, run_nilne' hu]
theorem s_slnil (op : BinOp) (t t' : TypeId) (x : Operand) {e : TypeId} {n : Nat} {b : Bool} (hs : slT P t = some (e, n)) (hx : ρ x = .c (.d (.raw (.slice none 0 0)))) (hb : nilq op true = some b) :
    Still P h ⟨dst, .binOp op t x (.const (.slice none 0 0)) t', ty, p, af, gd⟩ ρ (.c (.d (.bool b))) := by
  intro cx G w a s ho
  obtain ⟨hu, hsz⟩ := slT_some hs
  have e1 := ar_raw (hx ▸ ho x (by simp [Op.operands]) : Ar G (.c (.d (.raw (.slice none 0 0)))) (a.eval x))
  have e2 : a.eval (.const (.slice none 0 0)) = .slice none 0 0 := rfl
  refine ⟨.bool b, ?_, Dr.bool _⟩
  cases op <;> simp only [nilq, Option.some.injEq, reduceCtorEq] at hb <;> subst hb <;>
    simp [execOp, e1, e2, eqGuard, binOp, run_nileq' hu]
end Go.Ax
