/- A string turned into a list of bytes. No condition. -/
import Derived.Test.YtimehiamdikinaaAxX
import Derived.Lib.ConvBytes
set_option linter.all false
namespace Go.Ax
open Go Go.RowKit Go.Lib
def byD (c : UInt8) : List D := [.int .u8 c.toNat]
attribute [push_cast] byD
def strB (P : Program) (t : TypeId) : Bool := match P.underlying t with | some .string => true | _ => false
def bysT (P : Program) (t : TypeId) : Bool := match P.underlying t with
  | some (.slice e) => match P.underlying e with
    | some (.int .u8) => true
    | _ => false
  | _ => false
theorem strB_ok {P : Program} {t : TypeId} (h : strB P t = true) : P.underlying t = some .string := by
  unfold strB at h
  split at h
  · assumption
  · cases h
theorem bysT_ok {P : Program} {t : TypeId} (h : bysT P t = true) : ∃ e, P.underlying t = some (.slice e) ∧ P.underlying e = some (.int .u8) := by
  unfold bysT at h
  split at h
  · next e he =>
    split at h
    · next h2 => exact ⟨e, he, h2⟩
    · cases h
  · cases h
section
variable {P : Program} {pm : Pm} {h : List LB} {ρ : Operand → AV} {dst : Option Tmp} {ty : TypeId} {p : String} {af : Array Edge} {gd : Option (Nat × Bool)}
theorem q_bytes {src d' : TypeId} {x : Operand} {l : List UInt8} (hx : ρ x = .c (.d (.str l))) (hs : strB P src = true) (hd : bysT P d' = true) (hl : l.length ≤ 16777216) :
    Qt P pm h ⟨dst, .convert src d' x, ty, p, af, gd⟩ ρ (.c (.d (.lst 1 (l.map byD)))) := by
  intro cx G w a _ s ho next Q hnext
  obtain ⟨e, he, h8⟩ := bysT_ok hd
  have h1 : a.eval x = .string ⟨l.toArray⟩ := ar_str (hx ▸ ho x (by simp [Op.operands]))
  have hrun := Go.Lib.run_convert_string_bytes (P := P) w src d' e ⟨l.toArray⟩ (strB_ok hs) he h8
  have hsz : (⟨l.toArray⟩ : ByteArray).size = l.length := rfl
  have hr : (execOp a.eval ⟨dst, .convert src d' x, ty, p, af, gd⟩).run P w = .ok (.value (.slice (some ⟨w.heap.size, 0, none⟩) l.length (grownCap w l.length 0 e))) (bytesWorld w e ⟨l.toArray⟩) := by
    simp only [execOp, h1, Sem.run_bind, hrun, Result.andThen_ok, Sem.run_pure, hsz]
  unfold Oper.wp
  rw [hr]
  have hb : Below w.heap.size w (bytesWorld w e ⟨l.toArray⟩) := ⟨rfl, rfl, rfl, by rw [bytesWorld_size]; omega, fun k hk => bytesWorld_at_old w e _ k hk⟩
  have s' : SatH cx G h (bytesWorld w e ⟨l.toArray⟩) := s.later hb
  have hH : G.V.H w.heap.size = none := (s.alloc (.cells #[] e)).2.1
  have hne := (s.alloc (.cells #[] e)).2.2
  have hnew := bytesWorld_at_new w e ⟨l.toArray⟩
  generalize hob : Obj.cells (bytesCells w e ⟨l.toArray⟩) e ((bytesCells w e ⟨l.toArray⟩).size, (bytesCells w e ⟨l.toArray⟩).size + 1) = ob at hnew
  let V' : Vw := ⟨fun b => if b = w.heap.size then some ob else G.V.H b, fun b => G.V.I b ∨ b = w.heap.size⟩
  have hV : G.V.Le V' := ⟨fun b o e => by
    have : b ≠ w.heap.size := fun e' => by rw [e', hH] at e; cases e
    simp only [V', if_neg this, e], fun b hb => .inl hb⟩
  have hG : GLe G.g.length G ⟨V', G.g⟩ := ⟨hV, fun i v n _ e => ⟨v, n, e, Nat.le_refl _, fun _ => rfl, fun _ => ⟨rfl, rfl⟩⟩⟩
  refine hnext _ _ ⟨V', G.g⟩ hG ⟨s'.len, fun i b e hi he => ?_, s'.sep, fun b o hb => ?_, fun b hb => ?_, s'.below, s'.ext.trans (hG.all _), fun q hq => (s'.glob q hq).grow hG⟩ ?_
  · have h0 := s'.ent i b e hi he
    refine Lr.mono' hG ?_ h0
    intro k hlv hk
    have := hne i b e hi hlv he
    have hkn : k ≠ w.heap.size := fun e' => this (by rw [hk, e'])
    simp only [V', if_neg hkn]
    exact (h0.blk hlv hk).2.2
  · simp only [V'] at hb
    split at hb
    · next e => cases hb; rw [e]; exact hnew
    · exact s'.view b o hb
  · rcases hb with hb | rfl
    · obtain ⟨⟨o, h1⟩, h2⟩ := s'.imm b hb
      exact ⟨⟨o, hV.H b o h1⟩, h2⟩
    · exact ⟨⟨ob, by simp [V']⟩, .inr s.below.size⟩
  · show Dr V' _ _
    have key : Dr V' (.lst 1 (l.map byD)) (.slice (some ⟨w.heap.size, 0, none⟩) (l.map byD).length (grownCap w l.length 0 e)) := by
      refine .lst 1 (l.map byD) _ _ (fun i _ => .int .u8 (l.getD i 0).toNat) (by rw [List.length_map]; exact grownCap_ge w _ 0 e) (grownCap_le_maxLen w _ 0 e (by unfold maxLen; omega)) (fun x hx => ?_) (fun hn => ⟨_, rfl, .inr rfl, fun i x j c h1 h2 => ?_⟩) (fun i x j c h1 h2 => ?_)
      · obtain ⟨c, _, rfl⟩ := List.mem_map.1 hx; rfl
      · have hil : i < l.length := by have := getElem?_lt h1; simpa using this
        simp only [List.getElem?_map, List.getElem?_eq_getElem hil, Option.map_some, Option.some.injEq] at h1
        subst h1
        have hj : j = 0 := by
          cases j with
          | zero => rfl
          | succ j => simp [byD] at h2
        subst hj
        rw [add_plain]
        have hcell := bytesWorld_cell w e ⟨l.toArray⟩ i hil
        rw [show 0 + (i * 1 + 0) = i by omega]
        have e1 : cellIn V'.H ⟨w.heap.size, i, none⟩ = (bytesWorld w e ⟨l.toArray⟩).cell? ⟨w.heap.size, i, none⟩ := by
          rw [← cellIn_world]
          simp only [cellIn, V', if_true, hnew]
        rw [e1, hcell]
      · have hil : i < l.length := by have := getElem?_lt h1; simpa using this
        simp only [List.getElem?_map, List.getElem?_eq_getElem hil, Option.map_some, Option.some.injEq] at h1
        subst h1
        have hj : j = 0 := by
          cases j with
          | zero => rfl
          | succ j => simp [byD] at h2
        subst hj
        simp only [byD, List.getElem?_cons_zero, Option.some.injEq] at h2
        subst h2
        have : l.getD i 0 = l[i] := by simp [List.getElem?_eq_getElem hil]
        rw [this]
        exact .int _ _
    rw [List.length_map] at key
    exact key
end
end Go.Ax
