/- Part of a proof about this program; no condition of its own. -/
import Derived.Test.YtanbfhnmklhjiaaDoorGwG
import Derived.Test.YtanbfhnmklhjiaaDoorGfA
import Derived.Test.YtanbfhnmklhjiaaDoorGwD
import Derived.Test.YtanbfhnmklhjiaaDoorGxD
set_option linter.all false
/- The program's folding, walked. No condition. -/
namespace Go.Proofs
open Go Go.Ax Go.Tx Go.Lib Go.RowKit Go.Fc Go.Shelf
set_option maxRecDepth 1000000
set_option maxHeartbeats 0
def foldK (c : Nat) : List UInt8 := if foldC c = [] then encodeRune (c : Int) else foldC c
theorem foldD_eq (l : List UInt8) : foldD l = (chD l).flatMap fun ch => foldK ch.1 := rfl
theorem plain_at {i : Nat} (h : i < 64) : plainL[i]? = some (foldC (192 + i)) := by
  unfold plainL
  rw [List.getElem?_map, List.getElem?_range h]
  rfl
theorem foldK_up {c : Nat} (h1 : 65 ≤ c) (h2 : c ≤ 90) : foldK c = encodeRune ((c : Int) + 97 - 65) := by
  have : (List.range 26).all (fun i => foldK (65 + i) == encodeRune (((65 + i : Nat) : Int) + 97 - 65)) = true := by kernel_rfl
  have h := List.all_eq_true.1 this (c - 65) (List.mem_range.2 (by omega))
  rw [show 65 + (c - 65) = c by omega] at h
  simpa using h
theorem foldC_none {c : Nat} (h1 : ¬ (65 ≤ c ∧ c ≤ 90)) (h2 : ¬ (192 ≤ c ∧ c < 256)) : foldC c = [] := by
  unfold foldC
  rw [if_neg h1, if_pos (by omega)]
theorem alloc_at (w : World) (o : Obj) : (w.alloc o).heap[w.heap.size]? = some o := by
  simp only [World.alloc]
  exact Array.getElem?_push_size
theorem foldK_len (c : Nat) : (foldK c).length ≤ 4 := by
  unfold foldK
  split
  · exact encR_len _
  · have := foldC_len c; omega
theorem w48 (l : List UInt8) (w : World) (hs : l.length ≤ 4000000) :
    Calls Tryd.prog 48 #[.string ⟨l.toArray⟩] w fun e w' => e = .returned (.string ⟨(foldD l).toArray⟩) ∧ Below w.heap.size w w' := by
  go_enter Tryd.func48, Tryd.ntmps48
  go_wp2_with (go_at_call 72; refine (w72 ⟨plainS.toArray⟩ 44 w plain_len).mono ?_; rw [plain_cnt, plain_split]; rintro e W1 ⟨rfl, hw⟩; have hz : w.heap.size < W1.heap.size := (by rw [hw]; simp); have hc : W1.heap[w.heap.size]? = some (.cells ((plainL.map fun l => (⟨l.toArray⟩ : ByteArray)).map Value.string).toArray 9) := (by rw [hw]; exact alloc_at _ _); have hb0 : Below w.heap.size w W1 := (by rw [hw]; exact (Below.refl _ w).alloc (Nat.le_refl _) _); clear hw)
  go_loopw [] (fun wr => ∃ (pos : Nat) (acc : List UInt8), Lib.IsBuilderF 93 5 W1.heap.size W1.heap.size (Lib.byteCells acc) wr ∧ wr.heap[W1.heap.size + 1]? = some (.stringIter ⟨l.toArray⟩ pos) ∧ Below W1.heap.size W1 wr ∧ acc ++ (chD (l.drop pos)).flatMap (fun ch => foldK ch.1) = foldD l ∧ pos ≤ l.length ∧ acc.length ≤ 4 * pos) (fun wr => l.length - wr.iterPos (W1.heap.size + 1))
  case atStart =>
    refine ⟨0, [], (Lib.IsBuilderF.of (Lib.fresh_isBuilder 93 5 W1)).alloc _, ?_, ((Below.refl _ W1).alloc (Nat.le_refl _) _).alloc (by simp) _, by simp [foldD_eq], Nat.zero_le _, by simp⟩
    have := World.iter_heap (W1.alloc (.cells #[.pointer none, .slice none 0 0] 93)) ⟨l.toArray⟩ 0
    simpa using this
  case round =>
    obtain ⟨pos, acc, hI, hit, hbw, hacc, hp0, hal⟩ := hrel
    have hsz : W1.heap.size + 1 < wr.heap.size := (Array.getElem?_eq_some_iff.1 hit).1
    have hds : (⟨l.toArray⟩ : ByteArray).size = l.length := rfl
    by_cases hp : pos < l.length
    · have hnx : ∀ ty, (Instr.next (.pointer (some ⟨W1.heap.size + 1, 0, none⟩)) true ty).run Tryd.prog wr = _ := fun ty => Lib.run_next_any_at wr (W1.heap.size + 1) ⟨l.toArray⟩ pos ty hit hp
      have hdec : Utf8.decode ⟨l.toArray⟩ pos = decodeL (l.drop pos) := by
        have := decodeL_drop ⟨l.toArray⟩ pos
        rw [← this]
      obtain ⟨w1, w2⟩ := dec_w hp
      rw [chD_at hp, List.flatMap_cons, ← List.append_assoc] at hacc
      have hr := decodeL_rune (l.drop pos)
      rw [hdec] at hnx
      have hI2 := hI.iterAt hit (pos + (decodeL (l.drop pos)).2)
      have hit2 := Lib.iterAt_heap wr (W1.heap.size + 1) ⟨l.toArray⟩ pos (pos + (decodeL (l.drop pos)).2) hit
      have hbw2 := Lib.below_iterAt hbw (k := W1.heap.size + 1) (by omega) ⟨l.toArray⟩ (pos + (decodeL (l.drop pos)).2)
      have hsz2 : W1.heap.size ≤ (wr.iterAt (W1.heap.size + 1) ⟨l.toArray⟩ (pos + (decodeL (l.drop pos)).2)).heap.size := by rw [Lib.iterAt_size]; omega
      generalize (decodeL (l.drop pos)).1 = c at *
      generalize (decodeL (l.drop pos)).2 = n at *
      have hcell : 192 ≤ c → c < 256 → (wr.iterAt (W1.heap.size + 1) ⟨l.toArray⟩ (pos + n)).cell? ⟨w.heap.size, c - 192, none⟩ = some (.string ⟨(foldC c).toArray⟩) := fun h1 h2 => by
        have k1 := (hbw2.block w.heap.size (by omega)).trans hc
        have k2 := plain_at (i := c - 192) (by omega)
        rw [show 192 + (c - 192) = c by omega] at k2
        unfold World.cell?
        rw [k1]
        simp [k2]
      have fin : Hid (∀ (x : List UInt8) (W3 : World), foldK c = x → Lib.BuilderAtF 93 5 W1.heap.size W1.heap.size (.pointer (some ⟨W1.heap.size, 0, none⟩)) (byteCells acc ++ byteCells x) W3 → Below W1.heap.size (wr.iterAt (W1.heap.size + 1) ⟨l.toArray⟩ (pos + n)) W3 → Lib.OthersKept 5 (some W1.heap.size) (wr.iterAt (W1.heap.size + 1) ⟨l.toArray⟩ (pos + n)) W3 →
          (∃ (pos : Nat) (acc : List UInt8), Lib.IsBuilderF 93 5 W1.heap.size W1.heap.size (Lib.byteCells acc) W3 ∧ W3.heap[W1.heap.size + 1]? = some (.stringIter ⟨l.toArray⟩ pos) ∧ Below W1.heap.size W1 W3 ∧ acc ++ (chD (l.drop pos)).flatMap (fun ch => foldK ch.1) = foldD l ∧ pos ≤ l.length ∧ acc.length ≤ 4 * pos) ∧ l.length - W3.iterPos (W1.heap.size + 1) < l.length - wr.iterPos (W1.heap.size + 1)) := by
        show ∀ _, _
        intro x W3 ex h1 b1 k1
        have hx := foldK_len c
        rw [ex] at hx
        have hit3 := k1.iter hit2 (by omega)
        refine ⟨⟨pos + n, acc ++ x, ?_, hit3, hbw2.trans b1, by rw [← ex]; exact hacc, w2, by rw [List.length_append]; omega⟩, ?_⟩
        · rw [Lib.byteCells_append]; exact Or.inr h1
        · simp only [World.iterPos, hit3, hit]; omega
      have hal2 : acc.length ≤ 16000000 := by omega
      clear hacc hI hit hit2 hbw hbw2 hdec w1 w2 hc hb0
      by_cases hA : 65 ≤ c ∧ c ≤ 90
      · obtain ⟨a1, a2⟩ := hA
        clear hcell
        go_wp2_with (go_at_call 73; skip)
        all_goals try (exfalso; omega; done)
        · go_at_call 52
          refine (Tryd.bRune W1.heap.size W1.heap.size _ ((c : Int) + 97 - 65) (by omega) (by omega) _ hI2 (by rw [Lib.byteCells_length]; omega) hsz2).mono ?_
          rintro e W3 ⟨rfl, h1, b1, k1⟩
          have hf := fin.out (encodeRune ((c : Int) + 97 - 65)) W3 (foldK_up a1 a2) (by rw [Lib.byteCells_encodeRune]; exact h1) b1 k1
          clear hnx fin
          go_wp2
          go_roundw
          case rel => exact hf.1
          case measure => exact hf.2
      by_cases hB : 192 ≤ c ∧ c < 256
      · obtain ⟨a1, a2⟩ := hB
        have hk := hcell a1 a2
        clear hcell
        go_wp2_with (go_at_call 73; skip)
        all_goals try (exfalso; omega; done)
        · go_at_call 64
          refine (Tryd.bStr W1.heap.size W1.heap.size _ ⟨(foldC c).toArray⟩ _ hI2 (by rw [Lib.byteCells_length]; show _ + (foldC c).toArray.size ≤ _; have := foldC_len c; simp; omega) hsz2).mono ?_
          rintro e W3 ⟨rfl, h1, b1, k1⟩
          have hf := fin.out (foldC c) W3 (by have h9 : (!(foldC c).isEmpty) = true := (by assumption); unfold foldK; rw [if_neg (fun e => by rw [e] at h9; cases h9)]) (by simpa using h1) b1 k1
          clear hnx hk fin
          go_wp2
          go_roundw
          case rel => exact hf.1
          case measure => exact hf.2
        · go_at_call 52
          refine (Tryd.bRune W1.heap.size W1.heap.size _ (c : Int) (by omega) (by omega) _ hI2 (by rw [Lib.byteCells_length]; omega) hsz2).mono ?_
          rintro e W3 ⟨rfl, h1, b1, k1⟩
          have hf := fin.out (encodeRune (c : Int)) W3 (by have h9 : (!(foldC c).isEmpty) = false := (by assumption); unfold foldK; rw [if_pos (by simpa using h9)]) (by rw [Lib.byteCells_encodeRune]; exact h1) b1 k1
          clear hnx hk fin
          go_wp2
          go_roundw
          case rel => exact hf.1
          case measure => exact hf.2
      · clear hcell
        have hk0 : foldC c = [] := foldC_none hA hB
        go_wp2_with (go_at_call 73; skip)
        all_goals try (exfalso; omega; done)
        · go_at_call 52
          refine (Tryd.bRune W1.heap.size W1.heap.size _ (c : Int) (by omega) (by omega) _ hI2 (by rw [Lib.byteCells_length]; omega) hsz2).mono ?_
          rintro e W3 ⟨rfl, h1, b1, k1⟩
          have hf := fin.out (encodeRune (c : Int)) W3 (by unfold foldK; rw [if_pos hk0]) (by rw [Lib.byteCells_encodeRune]; exact h1) b1 k1
          clear hnx hk0 fin
          go_wp2
          go_roundw
          case rel => exact hf.1
          case measure => exact hf.2
        · go_at_call 52
          refine (Tryd.bRune W1.heap.size W1.heap.size _ (c : Int) (by omega) (by omega) _ hI2 (by rw [Lib.byteCells_length]; omega) hsz2).mono ?_
          rintro e W3 ⟨rfl, h1, b1, k1⟩
          have hf := fin.out (encodeRune (c : Int)) W3 (by unfold foldK; rw [if_pos hk0]) (by rw [Lib.byteCells_encodeRune]; exact h1) b1 k1
          clear hnx hk0 fin
          go_wp2
          go_roundw
          case rel => exact hf.1
          case measure => exact hf.2
        · go_at_call 52
          refine (Tryd.bRune W1.heap.size W1.heap.size _ (c : Int) (by omega) (by omega) _ hI2 (by rw [Lib.byteCells_length]; omega) hsz2).mono ?_
          rintro e W3 ⟨rfl, h1, b1, k1⟩
          have hf := fin.out (encodeRune (c : Int)) W3 (by unfold foldK; rw [if_pos hk0]) (by rw [Lib.byteCells_encodeRune]; exact h1) b1 k1
          clear hnx hk0 fin
          go_wp2
          go_roundw
          case rel => exact hf.1
          case measure => exact hf.2
    · have hnx : ∀ ty, (Instr.next (.pointer (some ⟨W1.heap.size + 1, 0, none⟩)) true ty).run Tryd.prog wr = _ := fun ty => Lib.run_next_end_at wr (W1.heap.size + 1) ⟨l.toArray⟩ pos ty hit (by rw [hds]; omega)
      have hfull : acc = foldD l := by
        rw [← hacc, List.drop_eq_nil_of_le (by omega)]
        simp [chD_nil]
      clear hacc hc
      subst hfull
      have hbl := hb0.trans (Below.mono hbw (by omega))
      go_wp2_with (go_at_call 53; refine (Tryd.bString W1.heap.size W1.heap.size _ wr hI (by omega)).mono ?_; rintro e W3 ⟨rfl, h1, b1, k1⟩)
      all_goals try go_ret
      exact ⟨rfl, hbl.trans (Below.mono b1 (by omega))⟩
end Go.Proofs

/- The program's key of a text, walked. No condition. -/
namespace Go.Proofs
open Go Go.Ax Go.Tx Go.Lib Go.RowKit Go.Fc Go.Shelf
set_option maxRecDepth 1000000
set_option maxHeartbeats 0
theorem fresh_at {T e : TypeId} {B b : Nat} {W : World} (h : W.heap[b]? = some (.cells #[.pointer none, .slice none 0 0] T)) (hB : B ≤ b) : Lib.IsBuilderF T e B b [] W :=
  Or.inl (BuilderAtF.of ⟨hB, .slice none 0 0, h, World.ownsRow_nil _ _ _ _, by simp [Value.ownBlock]⟩)
theorem flat_len {f : Nat → List UInt8} (hf : ∀ c, (f c).length ≤ 4) (l : List UInt8) : ((chD l).flatMap fun ch => f ch.1).length ≤ 4 * l.length := by
  have h1 : ∀ xs : List Ch, (xs.flatMap fun ch => f ch.1).length ≤ 4 * xs.length := fun xs => by
    induction xs with
    | nil => simp
    | cons x r ih => rw [List.flatMap_cons, List.length_append, List.length_cons]; have := hf x.1; omega
  have h2 := h1 (chD l)
  have h3 := chD_len _ l (Nat.le_refl _)
  omega
theorem keyLet_iff (c : Nat) : keyLet c = true ↔ ((97 ≤ c ∧ c ≤ 122) ∨ (48 ≤ c ∧ c ≤ 57) ∨ (123 ≤ c ∧ c ≤ 126) ∨ 256 ≤ c) := by
  unfold keyLet
  simp only [Bool.or_eq_true, Bool.and_eq_true, decide_eq_true_eq]
  omega
theorem w29 (lang l : List UInt8) (w : World) (hs : l.length ≤ 1000000) :
    Calls Tryd.prog 29 #[.string ⟨lang.toArray⟩, .string ⟨l.toArray⟩] w fun e w' => e = .returned (.string ⟨(keyP lang l).toArray⟩) ∧ Below w.heap.size w w' := by
  have hl1 : (repF lang l).length ≤ 4000000 := by have := flat_len (repC_len lang) l; unfold repF; omega
  have hl2 : (foldD (repF lang l)).length ≤ 16000000 := by have := flat_len foldK_len (repF lang l); rw [foldD_eq]; omega
  go_enter Tryd.func29, Tryd.ntmps29
  go_wp2_with (first | (go_at_call 49; refine (w49 lang l _ hs).mono ?_; rintro e W1 ⟨rfl, b1⟩) | (go_at_call 48; refine (w48 _ _ hl1).mono ?_; rintro e W2 ⟨rfl, b2⟩; have hfr : W2.heap[w.heap.size]? = some (.cells #[.pointer none, .slice none 0 0] 93) := (b2.block _ (Nat.lt_of_lt_of_le (by simp) b1.size)).trans ((b1.block _ (by simp)).trans (alloc_at _ _)); have hsz0 : w.heap.size < W2.heap.size := (Nat.lt_of_lt_of_le (Nat.lt_of_lt_of_le (by simp) b1.size) b2.size); have hW : Below w.heap.size w W2 := ((((Below.refl _ w).alloc (Nat.le_refl _) _).trans (b1.mono (by simp))).trans (b2.mono (by have := b1.size; simp at this; omega))); clear b1 b2))
  have hKK : ((chD (foldD (repF lang l))).foldl kStep ([], false)).1 = keyP lang l := rfl
  generalize foldD (repF lang l) = T at hKK hl2 ⊢
  go_loopw [6] (fun s6 wr => ∃ (pos : Nat) (acc : List UInt8) (gap : Bool), s6 = .bool gap ∧ Lib.IsBuilderF 93 5 w.heap.size w.heap.size (Lib.byteCells acc) wr ∧ wr.heap[W2.heap.size]? = some (.stringIter ⟨T.toArray⟩ pos) ∧ Below w.heap.size w wr ∧ ((chD (T.drop pos)).foldl kStep (acc, gap)).1 = keyP lang l ∧ pos ≤ T.length ∧ acc.length ≤ 5 * pos) (fun s6 wr => T.length - wr.iterPos W2.heap.size)
  case atStart =>
    refine ⟨0, [], false, rfl, (fresh_at hfr (Nat.le_refl _)).alloc _, ?_, hW.alloc (Nat.le_of_lt hsz0) _, hKK, Nat.zero_le _, by simp⟩
    have := World.iter_heap W2 ⟨T.toArray⟩ 0
    simpa using this
  case round =>
    obtain ⟨pos, acc, gap, rfl, hI, hit, hbw, hacc, hp0, hal⟩ := hrel
    have hsz : W2.heap.size < wr.heap.size := (Array.getElem?_eq_some_iff.1 hit).1
    have hds : (⟨T.toArray⟩ : ByteArray).size = T.length := rfl
    clear hfr hW
    by_cases hp : pos < T.length
    · have hnx : ∀ ty, (Instr.next (.pointer (some ⟨W2.heap.size, 0, none⟩)) true ty).run Tryd.prog wr = _ := fun ty => Lib.run_next_any_at wr W2.heap.size ⟨T.toArray⟩ pos ty hit hp
      have hdec : Utf8.decode ⟨T.toArray⟩ pos = decodeL (T.drop pos) := by
        have := decodeL_drop ⟨T.toArray⟩ pos
        rw [← this]
      obtain ⟨w1, w2⟩ := dec_w hp
      rw [chD_at hp, List.foldl_cons] at hacc
      have hr := decodeL_rune (T.drop pos)
      rw [hdec] at hnx
      have hI2 := hI.iterAt hit (pos + (decodeL (T.drop pos)).2)
      have hit2 := Lib.iterAt_heap wr W2.heap.size ⟨T.toArray⟩ pos (pos + (decodeL (T.drop pos)).2) hit
      have hbw2 := Lib.below_iterAt hbw (k := W2.heap.size) (by omega) ⟨T.toArray⟩ (pos + (decodeL (T.drop pos)).2)
      have hsz2 : w.heap.size ≤ (wr.iterAt W2.heap.size ⟨T.toArray⟩ (pos + (decodeL (T.drop pos)).2)).heap.size := by rw [Lib.iterAt_size]; omega
      generalize hch2 : (T.drop pos).take (decodeL (T.drop pos)).2 = ch2 at hacc
      clear hch2
      generalize (decodeL (T.drop pos)).1 = c at *
      generalize (decodeL (T.drop pos)).2 = n at *
      have fin : Hid (∀ (x : List UInt8) (g : Bool) (W3 : World), kStep (acc, gap) (c, ch2) = (acc ++ x, g) ∧ x.length ≤ 5 → Lib.IsBuilderF 93 5 w.heap.size w.heap.size (Lib.byteCells (acc ++ x)) W3 → Below w.heap.size (wr.iterAt W2.heap.size ⟨T.toArray⟩ (pos + n)) W3 → Lib.OthersKept 5 (some w.heap.size) (wr.iterAt W2.heap.size ⟨T.toArray⟩ (pos + n)) W3 →
          (∃ (pos : Nat) (acc : List UInt8) (gap : Bool), Value.bool g = .bool gap ∧ Lib.IsBuilderF 93 5 w.heap.size w.heap.size (Lib.byteCells acc) W3 ∧ W3.heap[W2.heap.size]? = some (.stringIter ⟨T.toArray⟩ pos) ∧ Below w.heap.size w W3 ∧ ((chD (T.drop pos)).foldl kStep (acc, gap)).1 = keyP lang l ∧ pos ≤ T.length ∧ acc.length ≤ 5 * pos) ∧ T.length - W3.iterPos W2.heap.size < T.length - wr.iterPos W2.heap.size) := by
        show ∀ _, _
        intro x g W3 ex h1 b1 k1
        have hit3 := k1.iter hit2 (by omega)
        rw [ex.1] at hacc
        refine ⟨⟨pos + n, acc ++ x, g, rfl, h1, hit3, hbw2.trans b1, hacc, w2, by rw [List.length_append]; have := ex.2; omega⟩, ?_⟩
        simp only [World.iterPos, hit3, hit]; omega
      have hal2 : acc.length ≤ 80000000 := by omega
      clear hacc hit hit2 hbw hbw2 hdec w1 w2 hI
      by_cases hk : keyLet c = true
      · have hkp := (keyLet_iff c).1 hk
        have hel := encR_len (c : Int)
        by_cases hg : gap = true
        · subst hg
          by_cases ha : acc = []
          · subst ha
            go_wp2_with (go_at_call 50; refine (Tryd.bLen w.heap.size w.heap.size _ _ hI2).mono ?_; rw [Lib.byteCells_length]; rintro e w' ⟨rfl, rfl⟩)
            all_goals try (exfalso; omega; done)
            all_goals
              go_at_call 52
              refine (Tryd.bRune w.heap.size w.heap.size _ (c : Int) (by omega) (by omega) _ hI2 (by rw [Lib.byteCells_length]; simp) hsz2).mono ?_
              rintro e W4 ⟨rfl, h1, b1, k1⟩
              have hf := fin.out (encodeRune (c : Int)) false W4 ⟨by unfold kStep; rw [if_pos hk]; simp, by omega⟩ (Or.inr (by rw [Lib.byteCells_append, Lib.byteCells_encodeRune]; exact h1)) b1 k1
              clear fin hnx
              go_wp2
              first | exact hf | (go_roundw; (case rel => exact hf.1); (case measure => exact hf.2))
          · have hpos : 0 < acc.length := List.length_pos_iff.2 ha
            go_wp2_with (go_at_call 50; refine (Tryd.bLen w.heap.size w.heap.size _ _ hI2).mono ?_; rw [Lib.byteCells_length]; rintro e w' ⟨rfl, rfl⟩)
            all_goals try (exfalso; omega; done)
            all_goals
              go_at_call 51
              refine (Tryd.bByte w.heap.size w.heap.size _ 32 _ hI2 (by rw [Lib.byteCells_length]; omega) hsz2).mono ?_
              rintro e W3 ⟨rfl, h2, b2, k2⟩
              have hsz3 := Nat.le_trans hsz2 b2.size
              have hx32 : kStep (acc, true) (c, ch2) = (acc ++ (32 :: encodeRune (c : Int)), false) := by unfold kStep; rw [if_pos hk]; simp [ha]
              go_wp2_with (go_at_call 73; skip)
              go_at_call 52
              refine (Tryd.bRune w.heap.size w.heap.size _ (c : Int) (by omega) (by omega) _ (Or.inr h2) (by rw [List.length_append, Lib.byteCells_length]; simp; omega) hsz3).mono ?_
              rintro e W4 ⟨rfl, h1, b1, k1⟩
              have hf := fin.out (32 :: encodeRune (c : Int)) false W4 ⟨by exact hx32, by simp; omega⟩ (Or.inr (by rw [show acc ++ 32 :: encodeRune (c : Int) = (acc ++ [32]) ++ encodeRune (c : Int) by simp, Lib.byteCells_append, Lib.byteCells_append, Lib.byteCells_encodeRune]; exact h1)) (b2.trans b1) (k2.trans k1)
              clear fin hnx
              go_wp2
              first | exact hf | (go_roundw; (case rel => exact hf.1); (case measure => exact hf.2))
        · have hg' : gap = false := by simpa using hg
          subst hg'
          go_wp2_with (go_at_call 73; skip)
          all_goals try (exfalso; omega; done)
          all_goals
            go_at_call 52
            refine (Tryd.bRune w.heap.size w.heap.size _ (c : Int) (by omega) (by omega) _ hI2 (by rw [Lib.byteCells_length]; omega) hsz2).mono ?_
            rintro e W4 ⟨rfl, h1, b1, k1⟩
            have hf := fin.out (encodeRune (c : Int)) false W4 ⟨by unfold kStep; rw [if_pos hk]; simp, by omega⟩ (Or.inr (by rw [Lib.byteCells_append, Lib.byteCells_encodeRune]; exact h1)) b1 k1
            clear fin hnx
            go_wp2
            first | exact hf | (go_roundw; (case rel => exact hf.1); (case measure => exact hf.2))
      · have hkp : ¬ ((97 ≤ c ∧ c ≤ 122) ∨ (48 ≤ c ∧ c ≤ 57) ∨ (123 ≤ c ∧ c ≤ 126) ∨ 256 ≤ c) := fun h => hk ((keyLet_iff c).2 h)
        have hf := fin.out [] true _ ⟨by unfold kStep; rw [if_neg hk]; simp, by simp⟩ (by rw [List.append_nil]; exact hI2) (Below.refl _ _) (OthersKept.refl _ _ _)
        clear fin
        go_wp2_with (go_at_call 73; skip)
        all_goals try (exfalso; omega; done)
        all_goals first | exact hf | (go_roundw; (case rel => exact hf.1); (case measure => exact hf.2))
    · have hnx : ∀ ty, (Instr.next (.pointer (some ⟨W2.heap.size, 0, none⟩)) true ty).run Tryd.prog wr = _ := fun ty => Lib.run_next_end_at wr W2.heap.size ⟨T.toArray⟩ pos ty hit (by rw [hds]; omega)
      have hfull : acc = keyP lang l := by
        rw [← hacc, List.drop_eq_nil_of_le (by omega)]
        simp [chD_nil]
      clear hacc hKK
      subst hfull
      go_wp2_with (go_at_call 53; refine (Tryd.bString w.heap.size w.heap.size _ wr hI (by omega)).mono ?_; rintro e W3 ⟨rfl, h1, b1, k1⟩)
      all_goals try go_ret
      exact ⟨rfl, hbw.trans b1⟩
end Go.Proofs

/- Comparing headings by their keys: contracts. No condition. -/
namespace Go.Proofs
open Go Go.Ax Go.Tx Go.Lib Go.RowKit Go.Fc Go.Shelf
set_option maxRecDepth 100000
set_option maxHeartbeats 0
variable {Γ : List (Nat × List D)}
theorem c29 (lang l : Str) (h : l.length ≤ 1000000) : AFn Tryd.prog Γ 29 [.c (.d (.str lang)), .c (.d (.str l))] [.d (.str (keyP lang l))] := by
  refine AFn.ofFlat ⟨⟨_, Tryd.func29, by kernel_rfl, by kernel_rfl⟩⟩ fun V w vals hv ha => ?_
  cases ha with | cons a1 a2 => cases a2 with | cons a2 a3 =>
  cases a3
  rw [ar_str a1, ar_str a2]
  exact (w29 lang l w h).mono fun e w' ⟨he, hb⟩ => ⟨_, he, .str _, hb⟩
theorem c21 (lang a b : Str) (ha : a.length ≤ 1000000) (hb : b.length ≤ 1000000) : AFn Tryd.prog Γ 21 [.c (.d (.str lang)), .c (.d (.str a)), .c (.d (.str b))] [.d (.int .i64 (cmpK lang a b))] := by
  refine AFn.vc [] Tryd.func21 rfl Tryd.mixed (by kernel_rfl) Tryd.ntmps21 Tryd.results21 (by simp) ?_
  push_cast
  refine CallL.q (c29 lang a ha) ?_
  push_cast
  refine CallL.q (c29 lang b hb) ?_
  push_cast
  refine CallL.q (c28 (keyP lang a) (keyP lang b)) ?_
  push_cast
  refine ⟨fun e => by unfold cmpK; rw [if_pos e], fun e => ?_⟩
  refine CallL.q (c28 a b) ?_
  push_cast
  unfold cmpK
  rw [if_neg (by simpa using e)]
theorem c20 (lang : Str) (x y : Br) (h1 : x.hd.length ≤ 1000000) (h2 : x.ref.length ≤ 1000000) (h3 : y.hd.length ≤ 1000000) (h4 : y.ref.length ≤ 1000000) :
    AFn Tryd.prog Γ 20 [.agg (x.ds.map C.d), .agg (y.ds.map C.d), .c (.ptr [.str lang])] [.d (.int .i64 (cmpP lang x.pr y.pr))] := by
  refine AFn.vc [] Tryd.func20 rfl Tryd.mixed (by kernel_rfl) Tryd.ntmps20 Tryd.results20 (by simp) ?_
  push_cast
  first
  | refine CallL.q (c21 lang x.hd y.hd h1 h3) ?_
  | refine CallX.q (c21 lang x.hd y.hd h1 h3) ?_
  push_cast
  refine ⟨fun e => by unfold cmpP; rw [if_pos (by exact e)]; rfl, fun e => ?_⟩
  refine CallL.q (c21 lang x.ref y.ref h2 h4) ?_
  push_cast
  unfold cmpP
  rw [if_neg (by show ¬ (cmpK lang x.hd y.hd ≠ 0); simpa using e)]
  rfl
end Go.Proofs
