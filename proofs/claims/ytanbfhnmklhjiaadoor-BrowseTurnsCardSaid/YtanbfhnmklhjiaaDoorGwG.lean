/- Part of a proof about this program; no condition of its own. -/
import Derived.Test.YtanbfhnmklhjiaaDoorGlA
import Derived.Test.YtanbfhnmklhjiaaDoorGwC
import Derived.Test.YtanbfhnmklhjiaaDoorTXj
import Derived.Lib.OthersKept
import Derived.WalkKit
import Derived.BigCall
set_option linter.all false
/- Texts made by a builder: the program's replacing. No condition. -/
namespace Go.Proofs
open Go Go.Ax Go.Tx Go.Lib Go.RowKit Go.Fc Go.Shelf
set_option maxRecDepth 1000000
set_option maxHeartbeats 0
theorem Tryd.bLen (B b : Nat) (bs : List Value) (w : World) (h : Lib.IsBuilderF 93 5 B b bs w) : Calls Tryd.prog 50 #[.pointer (some ⟨b, 0, none⟩)] w fun e w' => e = .returned (.int .i64 bs.length) ∧ w' = w := Any.Builder_Len_f Tryd.laysBld170 B b bs w h
theorem Tryd.bByte (B b : Nat) (bs : List Value) (c : Int) (w : World) (h : Lib.IsBuilderF 93 5 B b bs w) (hlen : bs.length + 1 ≤ 140737488355328) (hBw : B ≤ w.heap.size) :
    Calls Tryd.prog 51 #[.pointer (some ⟨b, 0, none⟩), .int .u8 c] w fun e w' => e = .returned .nilIface ∧ (Lib.BuilderAtF 93 5 B b (.pointer (some ⟨b, 0, none⟩)) (bs ++ [.int .u8 c]) w' ∧ Below B w w' ∧ Lib.OthersKept 5 (some b) w w') := Any.Builder_WriteByte_k Tryd.laysBld167 Tryd.bldX B b bs c w h hlen hBw
theorem Tryd.bStr (B b : Nat) (bs : List Value) (s : ByteArray) (w : World) (h : Lib.IsBuilderF 93 5 B b bs w) (hlen : bs.length + s.size ≤ 140737488355328) (hBw : B ≤ w.heap.size) :
    Calls Tryd.prog 64 #[.pointer (some ⟨b, 0, none⟩), .string s] w fun e w' => e = .returned (.tuple #[.int .i64 s.size, .nilIface]) ∧ (Lib.BuilderAtF 93 5 B b (.pointer (some ⟨b, 0, none⟩)) (bs ++ Lib.byteCells s.data.toList) w' ∧ Below B w w' ∧ Lib.OthersKept 5 (some b) w w') := Any.Builder_WriteString_k Tryd.laysBld166 Tryd.bldX B b bs s w h hlen hBw
theorem Tryd.bRune (B b : Nat) (bs : List Value) (r : Int) (hr0 : -2147483648 ≤ r) (hr1 : r ≤ 2147483647) (w : World) (h : Lib.IsBuilderF 93 5 B b bs w) (hlen : bs.length + 4 ≤ 140737488355328) (hBw : B ≤ w.heap.size) :
    Calls Tryd.prog 52 #[.pointer (some ⟨b, 0, none⟩), .int .i32 r] w fun e w' => e = .returned (.tuple #[.int .i64 (Lib.runeCells r).length, .nilIface]) ∧ (Lib.BuilderAtF 93 5 B b (.pointer (some ⟨b, 0, none⟩)) (bs ++ Lib.runeCells r) w' ∧ Below B w w' ∧ Lib.OthersKept 5 (some b) w w') := Any.Builder_WriteRune_k Tryd.laysBld168 Tryd.bldX B b bs r hr0 hr1 w h hlen hBw
theorem Tryd.bString (B b : Nat) (l : List UInt8) (w : World) (h : Lib.IsBuilderF 93 5 B b (Lib.byteCells l) w) (hBw : B ≤ w.heap.size) :
    Calls Tryd.prog 53 #[.pointer (some ⟨b, 0, none⟩)] w fun e w' => e = .returned (.string ⟨l.toArray⟩) ∧ (Lib.IsBuilderF 93 5 B b (Lib.byteCells l) w' ∧ Below B w w' ∧ Lib.OthersKept 5 (some b) w w') := Any.Builder_String_any_k Tryd.laysBld169 Tryd.bldX B b l w h hBw
def pickS (r a b : Nat) (s : List UInt8) : List UInt8 := if r = a ∨ r = b then s else []
theorem w73 (r a b : Nat) (s : List UInt8) (w : World) : Calls Tryd.prog 73 #[.int .i32 r, .int .i32 a, .int .i32 b, .string ⟨s.toArray⟩] w fun e w' => e = .returned (.string ⟨(pickS r a b s).toArray⟩) ∧ w' = w := by
  go_enter Tryd.func73, Tryd.ntmps73
  go_wp2
  · go_ret
    exact ⟨by rw [pickS, if_pos (by omega)]; rfl, rfl⟩
  · go_ret
    rename_i h
    simp only [beq_iff_eq] at h
    exact ⟨by rw [pickS, if_pos (by omega)]; rfl, rfl⟩
  · go_ret
    rename_i h
    simp only [beq_eq_false_iff_ne, ne_eq] at h
    exact ⟨by rw [pickS, if_neg (by omega)]; rfl, rfl⟩
theorem langC_len (lang : List UInt8) (c : Nat) : (langC lang c).length ≤ 2 := by
  unfold langC gerC sweC spaC
  repeat' split
  all_goals decide
def Hid (p : Prop) : Prop := p
theorem Hid.out {p : Prop} (h : Hid p) : p := h
theorem w49 (lang l : List UInt8) (w : World) (hs : l.length ≤ 1000000) :
    Calls Tryd.prog 49 #[.string ⟨lang.toArray⟩, .string ⟨l.toArray⟩] w fun e w' => e = .returned (.string ⟨(repF lang l).toArray⟩) ∧ Below w.heap.size w w' := by
  go_enter Tryd.func49, Tryd.ntmps49
  go_wp2
  go_loopw [] (fun wr => ∃ (pos : Nat) (acc : List UInt8), Lib.IsBuilderF 93 5 w.heap.size w.heap.size (Lib.byteCells acc) wr ∧ wr.heap[w.heap.size + 1]? = some (.stringIter ⟨l.toArray⟩ pos) ∧ Below w.heap.size w wr ∧ acc ++ (chD (l.drop pos)).flatMap (fun ch => repC lang ch.1) = repF lang l ∧ pos ≤ l.length ∧ acc.length ≤ 4 * pos) (fun wr => l.length - wr.iterPos (w.heap.size + 1))
  case atStart =>
    refine ⟨0, [], (Lib.IsBuilderF.of (Lib.fresh_isBuilder 93 5 w)).alloc _, ?_, ((Below.refl _ w).alloc (Nat.le_refl _) _).alloc (by simp) _, by simp [repF], Nat.zero_le _, by simp⟩
    have := World.iter_heap (w.alloc (.cells #[.pointer none, .slice none 0 0] 93)) ⟨l.toArray⟩ 0
    simpa using this
  case round =>
    obtain ⟨pos, acc, hI, hit, hbw, hacc, hp0, hal⟩ := hrel
    have hsz : w.heap.size + 1 < wr.heap.size := (Array.getElem?_eq_some_iff.1 hit).1
    have hds : (⟨l.toArray⟩ : ByteArray).size = l.length := rfl
    by_cases hp : pos < l.length
    · have hnx : ∀ ty, (Instr.next (.pointer (some ⟨w.heap.size + 1, 0, none⟩)) true ty).run Tryd.prog wr = _ := fun ty => Lib.run_next_any_at wr (w.heap.size + 1) ⟨l.toArray⟩ pos ty hit hp
      have hdec : Utf8.decode ⟨l.toArray⟩ pos = decodeL (l.drop pos) := by
        have := decodeL_drop ⟨l.toArray⟩ pos
        rw [← this]
      obtain ⟨w1, w2⟩ := dec_w hp
      rw [chD_at hp, List.flatMap_cons, ← List.append_assoc] at hacc
      have hr := decodeL_rune (l.drop pos)
      rw [hdec] at hnx
      have hI2 := hI.iterAt hit (pos + (decodeL (l.drop pos)).2)
      have hit2 := Lib.iterAt_heap wr (w.heap.size + 1) ⟨l.toArray⟩ pos (pos + (decodeL (l.drop pos)).2) hit
      have hbw2 := Lib.below_iterAt hbw (k := w.heap.size + 1) (by omega) ⟨l.toArray⟩ (pos + (decodeL (l.drop pos)).2)
      have hsz2 : w.heap.size ≤ (wr.iterAt (w.heap.size + 1) ⟨l.toArray⟩ (pos + (decodeL (l.drop pos)).2)).heap.size := by rw [Lib.iterAt_size]; omega
      generalize (decodeL (l.drop pos)).1 = c at *
      generalize (decodeL (l.drop pos)).2 = n at *
      have fin : Hid (∀ (x : List UInt8) (W1 : World), repC lang c = x → Lib.BuilderAtF 93 5 w.heap.size w.heap.size (.pointer (some ⟨w.heap.size, 0, none⟩)) (byteCells acc ++ byteCells x) W1 → Below w.heap.size (wr.iterAt (w.heap.size + 1) ⟨l.toArray⟩ (pos + n)) W1 → Lib.OthersKept 5 (some w.heap.size) (wr.iterAt (w.heap.size + 1) ⟨l.toArray⟩ (pos + n)) W1 →
          (∃ (pos : Nat) (acc : List UInt8), Lib.IsBuilderF 93 5 w.heap.size w.heap.size (Lib.byteCells acc) W1 ∧ W1.heap[w.heap.size + 1]? = some (.stringIter ⟨l.toArray⟩ pos) ∧ Below w.heap.size w W1 ∧ acc ++ (chD (l.drop pos)).flatMap (fun ch => repC lang ch.1) = repF lang l ∧ pos ≤ l.length ∧ acc.length ≤ 4 * pos) ∧ l.length - W1.iterPos (w.heap.size + 1) < l.length - wr.iterPos (w.heap.size + 1)) := by
        show ∀ _, _
        intro x W1 ex h1 b1 k1
        have hx := repC_len lang c
        rw [ex] at hx
        have hit3 := k1.iter hit2 (by omega)
        refine ⟨⟨pos + n, acc ++ x, ?_, hit3, hbw2.trans b1, by rw [← ex]; exact hacc, w2, by rw [List.length_append]; omega⟩, ?_⟩
        · rw [Lib.byteCells_append]; exact Or.inr h1
        · simp only [World.iterPos, hit3, hit]; omega
      clear hacc hI hit hit2 hbw hbw2 hdec w1 w2
      have pl : ∀ (a b : Nat) (s : List UInt8), (pickS c a b s).length ≤ s.length := fun a b s => by unfold pickS; split <;> simp
      have q1 := pl 196 228 [97, 101]
      have q2 := pl 214 246 [111, 101]
      have q3 := pl 220 252 [117, 101]
      have q4 := pl 197 229 [123]
      have q5 := pl 196 228 [124]
      have q6 := pl 214 246 [125]
      have q7 := pl 209 241 [110, 126]
      simp only [List.length_cons, List.length_nil] at q1 q2 q3 q4 q5 q6 q7
      have hal2 : acc.length ≤ 4000000 := by omega
      by_cases hg : lang = [103, 101, 114]
      · have hL : langC lang c = pickS c 196 228 [97, 101] ++ (pickS c 214 246 [111, 101] ++ pickS c 220 252 [117, 101]) := by
          unfold langC
          rw [if_pos hg]
          unfold gerC pickS
          by_cases a1 : c = 196 ∨ c = 228
          · rw [if_pos a1, if_pos a1, if_neg (by omega), if_neg (by omega)]; rfl
          · rw [if_neg a1, if_neg a1]
            by_cases a2 : c = 214 ∨ c = 246
            · rw [if_pos a2, if_pos a2, if_neg (by omega)]; rfl
            · rw [if_neg a2, if_neg a2]; rfl
        have hV : (⟨(pickS c 196 228 [97, 101]).toArray⟩ ++ ⟨(pickS c 214 246 [111, 101]).toArray⟩ ++ ⟨(pickS c 220 252 [117, 101]).toArray⟩ : ByteArray) = ⟨(langC lang c).toArray⟩ := by
          apply ByteArray.ext
          rw [hL, ByteArray.data_append, ByteArray.data_append]; simp
        subst hg
        clear pl
        go_wp2_with (go_at_call 73; refine (w73 _ _ _ _ _).mono ?_; rintro e w' ⟨rfl, rfl⟩)
        all_goals try (exfalso; omega; done)
        · go_at_call 51
          refine (Tryd.bByte w.heap.size w.heap.size _ 32 _ hI2 (by rw [Lib.byteCells_length]; omega) hsz2).mono ?_
          rintro e W1 ⟨rfl, h1, b1, k1⟩
          have hf := fin.out [32] W1 (by unfold repC; rw [if_pos ⟨by omega, by omega⟩]) h1 b1 k1
          clear hV hL fin
          go_wp2
          go_roundw
          case rel => exact hf.1
          case measure => exact hf.2
        · go_at_call 64
          try rw [← hL]
          have hne : langC [103, 101, 114] c ≠ [] := fun e => by
            have h9 : (!(pickS c 196 228 [97, 101] ++ (pickS c 214 246 [111, 101] ++ pickS c 220 252 [117, 101])).isEmpty) = true := by assumption
            rw [← hL, e] at h9
            cases h9
          refine (Tryd.bStr w.heap.size w.heap.size _ ⟨(langC [103, 101, 114] c).toArray⟩ _ hI2 (by rw [Lib.byteCells_length]; show _ + (langC [103, 101, 114] c).toArray.size ≤ _; have := langC_len [103, 101, 114] c; simp; omega) hsz2).mono ?_
          rintro e W1 ⟨rfl, h1, b1, k1⟩
          have hf := fin.out (langC [103, 101, 114] c) W1 (by unfold repC; rw [if_neg (by omega), if_neg hne]) (by simpa using h1) b1 k1
          clear hV hL fin
          go_wp2
          go_roundw
          case rel => exact hf.1
          case measure => exact hf.2
        · go_at_call 52
          have hne : langC [103, 101, 114] c = [] := by
            have h9 : (!(pickS c 196 228 [97, 101] ++ (pickS c 214 246 [111, 101] ++ pickS c 220 252 [117, 101])).isEmpty) = false := by assumption
            rw [← hL] at h9
            simpa using h9
          refine (Tryd.bRune w.heap.size w.heap.size _ c (by omega) (by omega) _ hI2 (by rw [Lib.byteCells_length]; omega) hsz2).mono ?_
          rintro e W1 ⟨rfl, h1, b1, k1⟩
          have hf := fin.out (encodeRune (c : Int)) W1 (by unfold repC; rw [if_neg (by omega), if_pos hne]) (by rw [Lib.byteCells_encodeRune]; exact h1) b1 k1
          clear hV hL fin
          go_wp2
          go_roundw
          case rel => exact hf.1
          case measure => exact hf.2
        · go_at_call 64
          try rw [← hL]
          have hne : langC [103, 101, 114] c ≠ [] := fun e => by
            have h9 : (!(pickS c 196 228 [97, 101] ++ (pickS c 214 246 [111, 101] ++ pickS c 220 252 [117, 101])).isEmpty) = true := by assumption
            rw [← hL, e] at h9
            cases h9
          refine (Tryd.bStr w.heap.size w.heap.size _ ⟨(langC [103, 101, 114] c).toArray⟩ _ hI2 (by rw [Lib.byteCells_length]; show _ + (langC [103, 101, 114] c).toArray.size ≤ _; have := langC_len [103, 101, 114] c; simp; omega) hsz2).mono ?_
          rintro e W1 ⟨rfl, h1, b1, k1⟩
          have hf := fin.out (langC [103, 101, 114] c) W1 (by unfold repC; rw [if_neg (by omega), if_neg hne]) (by simpa using h1) b1 k1
          clear hV hL fin
          go_wp2
          go_roundw
          case rel => exact hf.1
          case measure => exact hf.2
        · go_at_call 52
          have hne : langC [103, 101, 114] c = [] := by
            have h9 : (!(pickS c 196 228 [97, 101] ++ (pickS c 214 246 [111, 101] ++ pickS c 220 252 [117, 101])).isEmpty) = false := by assumption
            rw [← hL] at h9
            simpa using h9
          refine (Tryd.bRune w.heap.size w.heap.size _ c (by omega) (by omega) _ hI2 (by rw [Lib.byteCells_length]; omega) hsz2).mono ?_
          rintro e W1 ⟨rfl, h1, b1, k1⟩
          have hf := fin.out (encodeRune (c : Int)) W1 (by unfold repC; rw [if_neg (by omega), if_pos hne]) (by rw [Lib.byteCells_encodeRune]; exact h1) b1 k1
          clear hV hL fin
          go_wp2
          go_roundw
          case rel => exact hf.1
          case measure => exact hf.2
      by_cases hw : lang = [115, 119, 101]
      · have hL : langC lang c = pickS c 197 229 [123] ++ (pickS c 196 228 [124] ++ pickS c 214 246 [125]) := by
          unfold langC
          rw [if_neg hg, if_pos hw]
          unfold sweC pickS
          by_cases a1 : c = 197 ∨ c = 229
          · rw [if_pos a1, if_pos a1, if_neg (by omega), if_neg (by omega)]; rfl
          · rw [if_neg a1, if_neg a1]
            by_cases a2 : c = 196 ∨ c = 228
            · rw [if_pos a2, if_pos a2, if_neg (by omega)]; rfl
            · rw [if_neg a2, if_neg a2]; rfl
        have hV : (⟨(pickS c 197 229 [123]).toArray⟩ ++ ⟨(pickS c 196 228 [124]).toArray⟩ ++ ⟨(pickS c 214 246 [125]).toArray⟩ : ByteArray) = ⟨(langC lang c).toArray⟩ := by
          apply ByteArray.ext
          rw [hL, ByteArray.data_append, ByteArray.data_append]; simp
        subst hw
        clear pl
        go_wp2_with (go_at_call 73; refine (w73 _ _ _ _ _).mono ?_; rintro e w' ⟨rfl, rfl⟩)
        all_goals try (exfalso; omega; done)
        · go_at_call 51
          refine (Tryd.bByte w.heap.size w.heap.size _ 32 _ hI2 (by rw [Lib.byteCells_length]; omega) hsz2).mono ?_
          rintro e W1 ⟨rfl, h1, b1, k1⟩
          have hf := fin.out [32] W1 (by unfold repC; rw [if_pos ⟨by omega, by omega⟩]) h1 b1 k1
          clear hV hL fin
          go_wp2
          go_roundw
          case rel => exact hf.1
          case measure => exact hf.2
        · go_at_call 64
          try rw [← hL]
          have hne : langC [115, 119, 101] c ≠ [] := fun e => by
            have h9 : (!(pickS c 197 229 [123] ++ (pickS c 196 228 [124] ++ pickS c 214 246 [125])).isEmpty) = true := by assumption
            rw [← hL, e] at h9
            cases h9
          refine (Tryd.bStr w.heap.size w.heap.size _ ⟨(langC [115, 119, 101] c).toArray⟩ _ hI2 (by rw [Lib.byteCells_length]; show _ + (langC [115, 119, 101] c).toArray.size ≤ _; have := langC_len [115, 119, 101] c; simp; omega) hsz2).mono ?_
          rintro e W1 ⟨rfl, h1, b1, k1⟩
          have hf := fin.out (langC [115, 119, 101] c) W1 (by unfold repC; rw [if_neg (by omega), if_neg hne]) (by simpa using h1) b1 k1
          clear hV hL fin
          go_wp2
          go_roundw
          case rel => exact hf.1
          case measure => exact hf.2
        · go_at_call 52
          have hne : langC [115, 119, 101] c = [] := by
            have h9 : (!(pickS c 197 229 [123] ++ (pickS c 196 228 [124] ++ pickS c 214 246 [125])).isEmpty) = false := by assumption
            rw [← hL] at h9
            simpa using h9
          refine (Tryd.bRune w.heap.size w.heap.size _ c (by omega) (by omega) _ hI2 (by rw [Lib.byteCells_length]; omega) hsz2).mono ?_
          rintro e W1 ⟨rfl, h1, b1, k1⟩
          have hf := fin.out (encodeRune (c : Int)) W1 (by unfold repC; rw [if_neg (by omega), if_pos hne]) (by rw [Lib.byteCells_encodeRune]; exact h1) b1 k1
          clear hV hL fin
          go_wp2
          go_roundw
          case rel => exact hf.1
          case measure => exact hf.2
        · go_at_call 64
          try rw [← hL]
          have hne : langC [115, 119, 101] c ≠ [] := fun e => by
            have h9 : (!(pickS c 197 229 [123] ++ (pickS c 196 228 [124] ++ pickS c 214 246 [125])).isEmpty) = true := by assumption
            rw [← hL, e] at h9
            cases h9
          refine (Tryd.bStr w.heap.size w.heap.size _ ⟨(langC [115, 119, 101] c).toArray⟩ _ hI2 (by rw [Lib.byteCells_length]; show _ + (langC [115, 119, 101] c).toArray.size ≤ _; have := langC_len [115, 119, 101] c; simp; omega) hsz2).mono ?_
          rintro e W1 ⟨rfl, h1, b1, k1⟩
          have hf := fin.out (langC [115, 119, 101] c) W1 (by unfold repC; rw [if_neg (by omega), if_neg hne]) (by simpa using h1) b1 k1
          clear hV hL fin
          go_wp2
          go_roundw
          case rel => exact hf.1
          case measure => exact hf.2
        · go_at_call 52
          have hne : langC [115, 119, 101] c = [] := by
            have h9 : (!(pickS c 197 229 [123] ++ (pickS c 196 228 [124] ++ pickS c 214 246 [125])).isEmpty) = false := by assumption
            rw [← hL] at h9
            simpa using h9
          refine (Tryd.bRune w.heap.size w.heap.size _ c (by omega) (by omega) _ hI2 (by rw [Lib.byteCells_length]; omega) hsz2).mono ?_
          rintro e W1 ⟨rfl, h1, b1, k1⟩
          have hf := fin.out (encodeRune (c : Int)) W1 (by unfold repC; rw [if_neg (by omega), if_pos hne]) (by rw [Lib.byteCells_encodeRune]; exact h1) b1 k1
          clear hV hL fin
          go_wp2
          go_roundw
          case rel => exact hf.1
          case measure => exact hf.2
      by_cases hp2 : lang = [115, 112, 97]
      · have hL : langC lang c = pickS c 209 241 [110, 126] := by
          unfold langC
          rw [if_neg hg, if_neg hw, if_pos hp2]
          rfl
        have hV : (⟨(pickS c 209 241 [110, 126]).toArray⟩ : ByteArray) = ⟨(langC lang c).toArray⟩ := by rw [hL]
        subst hp2
        clear pl
        go_wp2_with (go_at_call 73; refine (w73 _ _ _ _ _).mono ?_; rintro e w' ⟨rfl, rfl⟩)
        all_goals try (exfalso; omega; done)
        · go_at_call 51
          refine (Tryd.bByte w.heap.size w.heap.size _ 32 _ hI2 (by rw [Lib.byteCells_length]; omega) hsz2).mono ?_
          rintro e W1 ⟨rfl, h1, b1, k1⟩
          have hf := fin.out [32] W1 (by unfold repC; rw [if_pos ⟨by omega, by omega⟩]) h1 b1 k1
          clear hV hL fin
          go_wp2
          go_roundw
          case rel => exact hf.1
          case measure => exact hf.2
        · go_at_call 64
          try rw [← hL]
          have hne : langC [115, 112, 97] c ≠ [] := fun e => by
            have h9 : (!(pickS c 209 241 [110, 126]).isEmpty) = true := by assumption
            rw [← hL, e] at h9
            cases h9
          refine (Tryd.bStr w.heap.size w.heap.size _ ⟨(langC [115, 112, 97] c).toArray⟩ _ hI2 (by rw [Lib.byteCells_length]; show _ + (langC [115, 112, 97] c).toArray.size ≤ _; have := langC_len [115, 112, 97] c; simp; omega) hsz2).mono ?_
          rintro e W1 ⟨rfl, h1, b1, k1⟩
          have hf := fin.out (langC [115, 112, 97] c) W1 (by unfold repC; rw [if_neg (by omega), if_neg hne]) (by simpa using h1) b1 k1
          clear hV hL fin
          go_wp2
          go_roundw
          case rel => exact hf.1
          case measure => exact hf.2
        · go_at_call 52
          have hne : langC [115, 112, 97] c = [] := by
            have h9 : (!(pickS c 209 241 [110, 126]).isEmpty) = false := by assumption
            rw [← hL] at h9
            simpa using h9
          refine (Tryd.bRune w.heap.size w.heap.size _ c (by omega) (by omega) _ hI2 (by rw [Lib.byteCells_length]; omega) hsz2).mono ?_
          rintro e W1 ⟨rfl, h1, b1, k1⟩
          have hf := fin.out (encodeRune (c : Int)) W1 (by unfold repC; rw [if_neg (by omega), if_pos hne]) (by rw [Lib.byteCells_encodeRune]; exact h1) b1 k1
          clear hV hL fin
          go_wp2
          go_roundw
          case rel => exact hf.1
          case measure => exact hf.2
        · go_at_call 64
          try rw [← hL]
          have hne : langC [115, 112, 97] c ≠ [] := fun e => by
            have h9 : (!(pickS c 209 241 [110, 126]).isEmpty) = true := by assumption
            rw [← hL, e] at h9
            cases h9
          refine (Tryd.bStr w.heap.size w.heap.size _ ⟨(langC [115, 112, 97] c).toArray⟩ _ hI2 (by rw [Lib.byteCells_length]; show _ + (langC [115, 112, 97] c).toArray.size ≤ _; have := langC_len [115, 112, 97] c; simp; omega) hsz2).mono ?_
          rintro e W1 ⟨rfl, h1, b1, k1⟩
          have hf := fin.out (langC [115, 112, 97] c) W1 (by unfold repC; rw [if_neg (by omega), if_neg hne]) (by simpa using h1) b1 k1
          clear hV hL fin
          go_wp2
          go_roundw
          case rel => exact hf.1
          case measure => exact hf.2
        · go_at_call 52
          have hne : langC [115, 112, 97] c = [] := by
            have h9 : (!(pickS c 209 241 [110, 126]).isEmpty) = false := by assumption
            rw [← hL] at h9
            simpa using h9
          refine (Tryd.bRune w.heap.size w.heap.size _ c (by omega) (by omega) _ hI2 (by rw [Lib.byteCells_length]; omega) hsz2).mono ?_
          rintro e W1 ⟨rfl, h1, b1, k1⟩
          have hf := fin.out (encodeRune (c : Int)) W1 (by unfold repC; rw [if_neg (by omega), if_pos hne]) (by rw [Lib.byteCells_encodeRune]; exact h1) b1 k1
          clear hV hL fin
          go_wp2
          go_roundw
          case rel => exact hf.1
          case measure => exact hf.2
      · have hne0 : langC lang c = [] := by unfold langC; rw [if_neg hg, if_neg hw, if_neg hp2]
        have g1 : (lang == [103, 101, 114]) = false := by simpa using hg
        have g2 : (lang == [115, 119, 101]) = false := by simpa using hw
        have g3 : (lang == [115, 112, 97]) = false := by simpa using hp2
        clear q1 q2 q3 q4 q5 q6 q7 pl hg hw hp2
        go_wp2_with (go_at_call 73; refine (w73 _ _ _ _ _).mono ?_; rintro e w' ⟨rfl, rfl⟩)
        all_goals try (exfalso; omega; done)
        · go_at_call 51
          refine (Tryd.bByte w.heap.size w.heap.size _ 32 _ hI2 (by rw [Lib.byteCells_length]; omega) hsz2).mono ?_
          rintro e W1 ⟨rfl, h1, b1, k1⟩
          have hf := fin.out [32] W1 (by unfold repC; rw [if_pos ⟨by omega, by omega⟩]) h1 b1 k1
          clear g1 g2 g3 fin
          go_wp2
          go_roundw
          case rel => exact hf.1
          case measure => exact hf.2
        · go_at_call 52
          have hne : langC lang c = [] := hne0
          refine (Tryd.bRune w.heap.size w.heap.size _ c (by omega) (by omega) _ hI2 (by rw [Lib.byteCells_length]; omega) hsz2).mono ?_
          rintro e W1 ⟨rfl, h1, b1, k1⟩
          have hf := fin.out (encodeRune (c : Int)) W1 (by unfold repC; rw [if_neg (by omega), if_pos hne]) (by rw [Lib.byteCells_encodeRune]; exact h1) b1 k1
          clear g1 g2 g3 fin
          go_wp2
          go_roundw
          case rel => exact hf.1
          case measure => exact hf.2
        · go_at_call 52
          have hne : langC lang c = [] := hne0
          refine (Tryd.bRune w.heap.size w.heap.size _ c (by omega) (by omega) _ hI2 (by rw [Lib.byteCells_length]; omega) hsz2).mono ?_
          rintro e W1 ⟨rfl, h1, b1, k1⟩
          have hf := fin.out (encodeRune (c : Int)) W1 (by unfold repC; rw [if_neg (by omega), if_pos hne]) (by rw [Lib.byteCells_encodeRune]; exact h1) b1 k1
          clear g1 g2 g3 fin
          go_wp2
          go_roundw
          case rel => exact hf.1
          case measure => exact hf.2
    · have hnx : ∀ ty, (Instr.next (.pointer (some ⟨w.heap.size + 1, 0, none⟩)) true ty).run Tryd.prog wr = _ := fun ty => Lib.run_next_end_at wr (w.heap.size + 1) ⟨l.toArray⟩ pos ty hit (by rw [hds]; omega)
      have hfull : acc = repF lang l := by
        rw [← hacc, List.drop_eq_nil_of_le (by omega)]
        simp [chD_nil]
      clear hacc
      subst hfull
      go_wp2_with (go_at_call 53; refine (Tryd.bString w.heap.size w.heap.size _ wr hI (by omega)).mono ?_; rintro e W1 ⟨rfl, h1, b1, k1⟩)
      all_goals try go_ret
      exact ⟨rfl, hbw.trans b1⟩
end Go.Proofs

/- The table of folded letters: a constant split at its commas. No condition. -/
namespace Go.Proofs
open Go Go.Ax Go.Tx Go.Lib Go.RowKit Go.Fc Go.Shelf
set_option maxRecDepth 1000000
set_option maxHeartbeats 0
theorem w83 (s : ByteArray) (c : UInt8) (w : World) (hs : s.size < 4294967281) :
    Calls Tryd.prog 83 #[.string s, .string ⟨#[c]⟩, .int .i64 0, .int .i64 (-1)] w fun e w' =>
      e = .returned (.slice (some ⟨w.heap.size, 0, none⟩) (Lib.countB s ⟨#[c]⟩ + 1) (Lib.countB s ⟨#[c]⟩ + 1)) ∧ w' = w.alloc (.cells ((Lib.splitB ⟨#[c]⟩ 0 (Lib.countB s ⟨#[c]⟩) s).map Value.string).toArray 9) := by
  have h1 : 1 ≤ (⟨#[c]⟩ : ByteArray).size := Nat.le_refl 1
  have hle := Lib.countB_le ⟨#[c]⟩ h1 s.size s (Nat.le_refl _)
  have hlen := Lib.splitB_all ⟨#[c]⟩ h1 0 _ s rfl
  have k := Any.strings_genSplit_core Tryd.lays221 (by kernel_rfl) s ⟨#[c]⟩ 0 (-1) (Lib.countB s ⟨#[c]⟩ + 1) w hs h1 (Nat.zero_le _)
    (fun x cs _ => (Tryd.strings_Index_one x c _).mono fun e w' ⟨he, hw⟩ => ⟨by rw [he]; show _ = Ending.returned (Value.int .i64 (Lib.index x.data.toList [c])); rw [Lib.index_one], hw⟩)
    ((Tryd.strings_Count_one s c w).mono fun e w' ⟨he, hw⟩ => ⟨by rw [he]; show _ = Ending.returned (Value.int .i64 ((Lib.count s.data.toList [c] : Nat) : Int)); rw [Lib.count_one]; rfl, hw⟩)
    (by decide) (by decide) (by rw [if_pos (by decide)]; omega)
  rw [Nat.add_sub_cancel, hlen] at k
  have e2 : Lib.cellsOf (Lib.splitB ⟨#[c]⟩ 0 (Lib.countB s ⟨#[c]⟩) s) (Lib.countB s ⟨#[c]⟩ + 1) = ((Lib.splitB ⟨#[c]⟩ 0 (Lib.countB s ⟨#[c]⟩) s).map Value.string).toArray := by rw [← hlen]; exact Lib.cellsOf_full _
  rw [e2] at k
  exact k
theorem w72 (s : ByteArray) (c : UInt8) (w : World) (hs : s.size < 4294967281) :
    Calls Tryd.prog 72 #[.string s, .string ⟨#[c]⟩] w fun e w' =>
      e = .returned (.slice (some ⟨w.heap.size, 0, none⟩) (Lib.countB s ⟨#[c]⟩ + 1) (Lib.countB s ⟨#[c]⟩ + 1)) ∧ w' = w.alloc (.cells ((Lib.splitB ⟨#[c]⟩ 0 (Lib.countB s ⟨#[c]⟩) s).map Value.string).toArray 9) := by
  have k := w83 s c w hs
  go_enter Tryd.func72, Tryd.ntmps72
  go_wp2_with (go_at_call 83; refine k.mono ?_; rintro e w' ⟨rfl, hw⟩; rw [hw])
  go_ret
  exact ⟨rfl, rfl⟩
def plainS : List UInt8 := "a,a,a,a,a,a,ae,c,e,e,e,e,i,i,i,i,d,n,o,o,o,o,o,,o,u,u,u,u,y,th,ss,a,a,a,a,a,a,ae,c,e,e,e,e,i,i,i,i,d,n,o,o,o,o,o,,o,u,u,u,u,y,th,y".toUTF8.data.toList
def plainL : List (List UInt8) := (List.range 64).map fun i => foldC (192 + i)
theorem plain_cnt : Lib.countB ⟨plainS.toArray⟩ ⟨#[44]⟩ = 63 := by kernel_rfl
theorem plain_len : plainS.length < 4294967281 := of_decide_eq_true (by kernel_rfl)
theorem indexByte_app (c : UInt8) : ∀ (a rest : List UInt8), c ∉ a → Lib.indexByte (a ++ c :: rest) c = a.length
  | [], rest, _ => by simp [Lib.indexByte]
  | b :: a, rest, h => by
    have hb : ¬ b = c := fun e => h (by rw [e]; exact List.mem_cons_self)
    have ih := indexByte_app c a rest fun h2 => h (List.mem_cons_of_mem _ h2)
    rw [List.cons_append]
    unfold Lib.indexByte
    rw [ih]
    simp only [beq_iff_eq, hb, if_false]
    rw [if_neg (by omega)]
    simp
theorem split_app (c : UInt8) (k : Nat) (a rest : List UInt8) (h : c ∉ a) : Lib.splitB ⟨#[c]⟩ 0 (k + 1) ⟨(a ++ c :: rest).toArray⟩ = ⟨a.toArray⟩ :: Lib.splitB ⟨#[c]⟩ 0 k ⟨rest.toArray⟩ := by
  have hi : Lib.indexB ⟨(a ++ c :: rest).toArray⟩ ⟨#[c]⟩ = a.length := by
    show Lib.index (a ++ c :: rest).toArray.toList [c] = _
    rw [Lib.index_one, List.toList_toArray, indexByte_app c a rest h]
  rw [Lib.splitB, hi, if_neg (by simp)]
  congr 1
  · apply ByteArray.ext
    rw [ByteArray.data_extract]
    simp
  · congr 1
    apply ByteArray.ext
    rw [ByteArray.data_extract]
    have e1 : (⟨#[c]⟩ : ByteArray).size = 1 := rfl
    have e2 : (⟨(a ++ c :: rest).toArray⟩ : ByteArray).size = a.length + (rest.length + 1) := by show (a ++ c :: rest).toArray.size = _; simp
    rw [e1, e2]
    simp
    exact List.take_of_length_le (by omega)
def joinC (c : UInt8) : List (List UInt8) → List UInt8
  | [] => []
  | [a] => a
  | a :: b :: l => a ++ c :: joinC c (b :: l)
theorem split_join (c : UInt8) : ∀ (a : List UInt8) (l : List (List UInt8)), (∀ x ∈ a :: l, c ∉ x) → Lib.splitB ⟨#[c]⟩ 0 l.length ⟨(joinC c (a :: l)).toArray⟩ = (a :: l).map fun x => ⟨x.toArray⟩
  | a, [], h => by simp [joinC, Lib.splitB]
  | a, b :: l, h => by
    rw [List.length_cons]
    show Lib.splitB ⟨#[c]⟩ 0 (l.length + 1) ⟨(a ++ c :: joinC c (b :: l)).toArray⟩ = _
    rw [split_app c _ a _ (h a List.mem_cons_self), split_join c b l fun x hx => h x (List.mem_cons_of_mem _ hx)]
    rfl
theorem plain_join : plainS = joinC 44 (foldC 192 :: (List.range 63).map fun i => foldC (193 + i)) := by kernel_rfl
theorem plain_no : ∀ x ∈ (foldC 192 :: (List.range 63).map fun i => foldC (193 + i)), (44 : UInt8) ∉ x := of_decide_eq_true (by kernel_rfl)
theorem plainL_eq : plainL = foldC 192 :: (List.range 63).map fun i => foldC (193 + i) := by kernel_rfl
theorem plain_split : Lib.splitB ⟨#[44]⟩ 0 63 ⟨plainS.toArray⟩ = plainL.map fun l => ⟨l.toArray⟩ := by
  rw [plain_join, plainL_eq]
  have := split_join 44 (foldC 192) ((List.range 63).map fun i => foldC (193 + i)) plain_no
  rw [List.length_map, List.length_range] at this
  exact this
end Go.Proofs
