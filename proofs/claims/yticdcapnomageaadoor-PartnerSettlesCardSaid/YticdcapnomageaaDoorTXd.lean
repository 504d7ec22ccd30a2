/- Part of a proof about this program; no condition of its own. -/
import Derived.Test.YticdcapnomageaaDoorTLay
import Derived.Test.YticdcapnomageaaDoorGyA
import Derived.WalkKit
import Derived.WalkMore
import Derived.WalkSmall
set_option linter.all false
/- text.Valid walks: a range over a string. -/
namespace Go.Proofs
open Go.RowKit Go.Shelf Go.Lib Go.Tx
set_option maxHeartbeats 1000000 in
set_option maxRecDepth 1000000 in
theorem textValid_calls (s : ByteArray) (w : World) (hs : s.size ≤ 9223372036854775807) (hT : Utf8Tabs (Tryd.lays196_ren.g 3) (Tryd.lays196_ren.g 4) w) :
    Calls Tryd.prog 113 #[.string s] w fun e w' => e = .returned (.bool (validD s.data.toList && runesF s.data.toList)) ∧ Below w.heap.size w w' := by
  have cV : Calls Tryd.prog 120 #[.string s] w _ := Any.utf8_ValidString Tryd.lays196 s w hs hT
  generalize validD s.data.toList = V at cV ⊢
  cases V with
  | false =>
    go_enter Tryd.func113, Tryd.ntmps113
    go_wp2_with (go_at_call 120; refine cV.mono ?_; rintro e w' ⟨rfl, hb⟩)
    go_ret
    exact ⟨rfl, hb⟩
  | true =>
    rw [Bool.true_and]
    obtain ⟨ANS, hANS⟩ : ∃ ANS, runesF s.data.toList = ANS := ⟨_, rfl⟩
    rw [hANS]
    go_enter Tryd.func113, Tryd.ntmps113
    go_wp2_with (go_at_call 120; refine cV.mono ?_; rintro e w' ⟨rfl, hb⟩)
    go_loopg [] s.size (fun gf wx => ∃ pos, wx.heap[w'.heap.size]? = some (.stringIter s pos) ∧ Below w.heap.size w wx ∧ runesF (s.data.toList.drop pos) = ANS ∧ pos ≤ s.size ∧ s.size ≤ pos + gf)
    case atStart => exact ⟨0, World.iter_heap w' s 0, hb.alloc hb.size _, by simpa using hANS, Nat.zero_le _, by omega⟩
    case round =>
      obtain ⟨pos, hit, hbw, hru, hps, hfu⟩ := hrel
      by_cases hlt : pos < s.size
      · obtain ⟨g', rfl⟩ : ∃ g', gk = g' + 1 := ⟨gk - 1, by omega⟩
        have hnx : ∀ ty, (Instr.next (.pointer (some ⟨w'.heap.size, 0, none⟩)) true ty).run Tryd.prog wr = _ := fun ty => Lib.run_next_any_at wr w'.heap.size s pos ty hit hlt
        have hwd := Lib.width_pos s pos
        have hwn : pos + (Utf8.decode s pos).2 ≤ s.size := by
          have := Lib.decodeN_le_n' (s.size - pos) (s.get! pos).toNat (s.get! (pos + 1)).toNat (s.get! (pos + 2)).toNat (s.get! (pos + 3)).toNat (by omega)
          rw [← Lib.decode_at] at this
          omega
        have hne : s.data.toList.drop pos ≠ [] := fun e => by
          have := congrArg List.length e
          rw [List.length_drop, ← size_eq] at this
          simp at this; omega
        rw [runesF_step hne, decodeL_drop, List.drop_drop] at hru
        obtain ⟨R, hR⟩ : ∃ R, (Utf8.decode s pos).1 = R := ⟨_, rfl⟩
        obtain ⟨K, hK⟩ : ∃ K, (Utf8.decode s pos).2 = K := ⟨_, rfl⟩
        rw [hR, hK] at hnx hru
        rw [hK] at hwd hwn
        have hit2 := Lib.iterAt_heap wr w'.heap.size s pos (pos + K) hit
        have hbw2 := Lib.below_iterAt hbw (k := w'.heap.size) hb.size s (pos + K)
        obtain ⟨W, hWd⟩ : ∃ W, wr.iterAt w'.heap.size s (pos + K) = W := ⟨_, rfl⟩
        rw [hWd] at hnx hit2 hbw2
        clear hit hbw
        have ho : okR R = true ↔ (32 ≤ (R : Int) ∧ ((R : Int) < 127 ∨ 159 < (R : Int)) ∧ (R : Int) ≤ 65535) := by unfold okR; simp; omega
        go_wp2
        all_goals first
          | (go_ret
             have hf : okR R = false := by
               cases h : okR R with
               | false => rfl
               | true => exact absurd (ho.1 h) (by omega)
             rw [hf] at hru
             exact ⟨by rw [← hru]; rfl, hbw2⟩)
          | (have ht : okR R = true := ho.2 (by omega)
             rw [ht, Bool.true_and] at hru
             go_roundg g'
             case measure => omega
             case rel => exact ⟨pos + K, hit2, hbw2, hru, hwn, by omega⟩)
      · obtain rfl : pos = s.size := by omega
        have hnx : ∀ ty, (Instr.next (.pointer (some ⟨w'.heap.size, 0, none⟩)) true ty).run Tryd.prog wr = _ := fun ty => Lib.run_next_end_at wr w'.heap.size s s.size ty hit hlt
        rw [List.drop_eq_nil_of_le (by rw [← size_eq]; exact Nat.le_refl _)] at hru
        go_wp2
        go_ret
        exact ⟨by rw [← hru]; rfl, hbw⟩
end Go.Proofs
