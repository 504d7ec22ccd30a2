/- Part of a proof about this program; no condition of its own. -/
import Derived.Test.YtanbfhnmklhjiaaGreatDoorP25
import Derived.WalkKit
import Derived.WalkMore
import Derived.WalkSmall
import Derived.Lib.MapLaws
set_option linter.all false
/- text.Valid walks: a range over a string. -/
namespace Go.Proofs
open Go.RowKit Go.Shelf Go.Lib Go.Tx
set_option maxHeartbeats 1000000 in
set_option maxRecDepth 1000000 in
theorem textValid_calls (s : ByteArray) (w : World) (hs : s.size ≤ 9223372036854775807) (hT : Utf8Tabs (Tryz.lays196_ren.g 3) (Tryz.lays196_ren.g 4) w) :
    Calls Tryz.prog 204 #[.string s] w fun e w' => e = .returned (.bool (validD s.data.toList && runesF s.data.toList)) ∧ Below w.heap.size w w' := by
  have cV : Calls Tryz.prog 256 #[.string s] w _ := Any.utf8_ValidString Tryz.lays196 s w hs hT
  generalize validD s.data.toList = V at cV ⊢
  cases V with
  | false =>
    go_enter Tryz.func204, Tryz.ntmps204
    go_wp2_with (go_at_call 256; refine cV.mono ?_; rintro e w' ⟨rfl, hb⟩)
    go_ret
    exact ⟨rfl, hb⟩
  | true =>
    rw [Bool.true_and]
    obtain ⟨ANS, hANS⟩ : ∃ ANS, runesF s.data.toList = ANS := ⟨_, rfl⟩
    rw [hANS]
    go_enter Tryz.func204, Tryz.ntmps204
    go_wp2_with (go_at_call 256; refine cV.mono ?_; rintro e w' ⟨rfl, hb⟩)
    go_loopg [] s.size (fun gf wx => ∃ pos, wx.heap[w'.heap.size]? = some (.stringIter s pos) ∧ Below w.heap.size w wx ∧ runesF (s.data.toList.drop pos) = ANS ∧ pos ≤ s.size ∧ s.size ≤ pos + gf)
    case atStart => exact ⟨0, World.iter_heap w' s 0, hb.alloc hb.size _, by simpa using hANS, Nat.zero_le _, by omega⟩
    case round =>
      obtain ⟨pos, hit, hbw, hru, hps, hfu⟩ := hrel
      by_cases hlt : pos < s.size
      · obtain ⟨g', rfl⟩ : ∃ g', gk = g' + 1 := ⟨gk - 1, by omega⟩
        have hnx : ∀ ty, (Instr.next (.pointer (some ⟨w'.heap.size, 0, none⟩)) true ty).run Tryz.prog wr = _ := fun ty => Lib.run_next_any_at wr w'.heap.size s pos ty hit hlt
        have hwd := Lib.width_pos s pos
        have hwn : pos + (Utf8.decode s pos).2 ≤ s.size := by
          have := Lib.decodeN_le_n' (s.size - pos) (s.get! pos).toNat (s.get! (pos + 1)).toNat (s.get! (pos + 2)).toNat (s.get! (pos + 3)).toNat (by omega)
          rw [← Lib.decode_at] at this
          omega
        have hne : s.data.toList.drop pos ≠ [] := fun e => by
          have := congrArg List.length e
          rw [List.length_drop, ← size_eq] at this
          simp at this; omega
        rw [runesF_step hne, decodeL_drop, List.drop_drop] at hru
        obtain ⟨R, hR⟩ : ∃ R, (Utf8.decode s pos).1 = R := ⟨_, rfl⟩
        obtain ⟨K, hK⟩ : ∃ K, (Utf8.decode s pos).2 = K := ⟨_, rfl⟩
        rw [hR, hK] at hnx hru
        rw [hK] at hwd hwn
        have hit2 := Lib.iterAt_heap wr w'.heap.size s pos (pos + K) hit
        have hbw2 := Lib.below_iterAt hbw (k := w'.heap.size) hb.size s (pos + K)
        obtain ⟨W, hWd⟩ : ∃ W, wr.iterAt w'.heap.size s (pos + K) = W := ⟨_, rfl⟩
        rw [hWd] at hnx hit2 hbw2
        clear hit hbw
        have ho : okR R = true ↔ (32 ≤ (R : Int) ∧ ((R : Int) < 127 ∨ 159 < (R : Int)) ∧ (R : Int) ≤ 65535) := by unfold okR; simp; omega
        go_wp2
        all_goals first
          | (go_ret
             have hf : okR R = false := by
               cases h : okR R with
               | false => rfl
               | true => exact absurd (ho.1 h) (by omega)
             rw [hf] at hru
             exact ⟨by rw [← hru]; rfl, hbw2⟩)
          | (have ht : okR R = true := ho.2 (by omega)
             rw [ht, Bool.true_and] at hru
             go_roundg g'
             case measure => omega
             case rel => exact ⟨pos + K, hit2, hbw2, hru, hwn, by omega⟩)
      · obtain rfl : pos = s.size := by omega
        have hnx : ∀ ty, (Instr.next (.pointer (some ⟨w'.heap.size, 0, none⟩)) true ty).run Tryz.prog wr = _ := fun ty => Lib.run_next_end_at wr w'.heap.size s s.size ty hit hlt
        rw [List.drop_eq_nil_of_le (by rw [← size_eq]; exact Nat.le_refl _)] at hru
        go_wp2
        go_ret
        exact ⟨by rw [← hru]; rfl, hbw⟩
end Go.Proofs

/- Texts as rows of characters: folding, words, keys. Plain Lean; no condition of its own. -/
namespace Go.Tx
open Go Go.Ax Go.Lib
abbrev Ch := Nat × List UInt8
/-! ### the reference's characters -/
def chG : Nat → List UInt8 → List Ch
  | 0, _ => []
  | f + 1, l => if l = [] then [] else ((decF l).1, l.take (max (decF l).2 1)) :: chG f (l.drop (max (decF l).2 1))
def chF (l : List UInt8) : List Ch := chG l.length l
theorem chG_fuel : ∀ (n m : Nat) (l : List UInt8), l.length ≤ n → l.length ≤ m → chG n l = chG m l
  | 0, 0, _, _, _ => rfl
  | 0, m + 1, l, h, _ => by obtain rfl : l = [] := List.length_eq_zero_iff.1 (by omega); simp [chG]
  | n + 1, 0, l, _, h => by obtain rfl : l = [] := List.length_eq_zero_iff.1 (by omega); simp [chG]
  | n + 1, m + 1, l, h1, h2 => by
    unfold chG
    split
    · rfl
    · next hne =>
      have : 1 ≤ l.length := List.length_pos_iff.2 hne
      rw [chG_fuel n m _ (by rw [List.length_drop]; omega) (by rw [List.length_drop]; omega)]
theorem chF_nil : chF [] = [] := rfl
theorem chF_step {l : List UInt8} (hne : l ≠ []) : chF l = ((decF l).1, l.take (max (decF l).2 1)) :: chF (l.drop (max (decF l).2 1)) := by
  have : 1 ≤ l.length := List.length_pos_iff.2 hne
  obtain ⟨n, hn⟩ : ∃ n, l.length = n + 1 := ⟨l.length - 1, by omega⟩
  have e : chF l = chG (n + 1) l := by unfold chF; rw [hn]
  rw [e]
  show (if l = [] then _ else _ :: chG n (l.drop (max (decF l).2 1))) = _
  rw [if_neg hne, chG_fuel n (l.drop (max (decF l).2 1)).length _ (by rw [List.length_drop]; omega) (Nat.le_refl _)]; rfl
/-! ### the characters of a range -/
def chE : Nat → List UInt8 → List Ch
  | 0, _ => []
  | f + 1, l => if l = [] then [] else ((decodeL l).1, l.take (decodeL l).2) :: chE f (l.drop (decodeL l).2)
def chD (l : List UInt8) : List Ch := chE l.length l
theorem chE_fuel : ∀ (n m : Nat) (l : List UInt8), l.length ≤ n → l.length ≤ m → chE n l = chE m l
  | 0, 0, _, _, _ => rfl
  | 0, m + 1, l, h, _ => by obtain rfl : l = [] := List.length_eq_zero_iff.1 (by omega); simp [chE]
  | n + 1, 0, l, _, h => by obtain rfl : l = [] := List.length_eq_zero_iff.1 (by omega); simp [chE]
  | n + 1, m + 1, l, h1, h2 => by
    unfold chE
    split
    · rfl
    · next hne =>
      have : 1 ≤ l.length := List.length_pos_iff.2 hne
      have hp := decodeL_width l
      rw [chE_fuel n m _ (by rw [List.length_drop]; omega) (by rw [List.length_drop]; omega)]
theorem chD_nil : chD [] = [] := rfl
theorem chD_step {l : List UInt8} (hne : l ≠ []) : chD l = ((decodeL l).1, l.take (decodeL l).2) :: chD (l.drop (decodeL l).2) := by
  have : 1 ≤ l.length := List.length_pos_iff.2 hne
  obtain ⟨n, hn⟩ : ∃ n, l.length = n + 1 := ⟨l.length - 1, by omega⟩
  have e : chD l = chE (n + 1) l := by unfold chD; rw [hn]
  have hp := decodeL_width l
  rw [e]
  show (if l = [] then _ else _ :: chE n (l.drop (decodeL l).2)) = _
  rw [if_neg hne, chE_fuel n (l.drop (decodeL l).2).length _ (by rw [List.length_drop]; omega) (Nat.le_refl _)]; rfl
theorem ch_same : ∀ (n : Nat) (l : List UInt8), l.length ≤ n → validF l = true → chD l = chF l
  | 0, l, h, _ => by obtain rfl : l = [] := List.length_eq_zero_iff.1 (by omega); rfl
  | n + 1, l, h, hv => by
    by_cases hne : l = []
    · subst hne; rfl
    · have : 1 ≤ l.length := List.length_pos_iff.2 hne
      rw [validF_step hne, Bool.and_eq_true, decide_eq_true_eq] at hv
      obtain ⟨h1, _, _⟩ := decF_pos hne hv.1
      rw [chD_step hne, chF_step hne, h1, show max (decF l).2 1 = (decF l).2 by omega]
      rw [ch_same n _ (by rw [List.length_drop]; omega) hv.2]
theorem decF_append {x : List UInt8} (y : List UInt8) (h : 0 < (decF x).2) : decF (x ++ y) = decF x := by
  have key : ∀ (a b c b' c' n m : Nat), n ≤ m → (1 < n → b' = b) → (2 < n → c' = c) → 0 < (dec3 a b c n).2 → dec3 a b' c' m = dec3 a b c n := by
    intro a b c b' c' n m hm hb hc h
    unfold dec3 at *
    by_cases h1 : 32 ≤ a ∧ a < 127
    · rw [if_pos h1, if_pos h1]
    · rw [if_neg h1] at h ⊢
      rw [if_neg h1]
      by_cases h2 : 194 ≤ a ∧ a < 224 ∧ 1 < n ∧ 128 ≤ b ∧ b < 192
      · obtain ⟨q1, q2, q3, q4, q5⟩ := h2
        have := hb q3; subst this
        rw [if_pos (show 194 ≤ a ∧ a < 224 ∧ 1 < m ∧ 128 ≤ b' ∧ b' < 192 from ⟨q1, q2, by omega, q4, q5⟩), if_pos (show 194 ≤ a ∧ a < 224 ∧ 1 < n ∧ 128 ≤ b' ∧ b' < 192 from ⟨q1, q2, q3, q4, q5⟩)]
      · rw [if_neg h2] at h ⊢
        by_cases h3 : 224 ≤ a ∧ a < 240 ∧ 2 < n ∧ 128 ≤ b ∧ b < 192 ∧ 128 ≤ c ∧ c < 192
        · obtain ⟨q1, q2, q3, q4, q5, q6, q7⟩ := h3
          have := hb (by omega); subst this
          have := hc q3; subst this
          rw [if_neg (show ¬(194 ≤ a ∧ a < 224 ∧ 1 < m ∧ 128 ≤ b' ∧ b' < 192) by omega), if_pos (show 224 ≤ a ∧ a < 240 ∧ 2 < m ∧ 128 ≤ b' ∧ b' < 192 ∧ 128 ≤ c' ∧ c' < 192 from ⟨q1, q2, by omega, q4, q5, q6, q7⟩), if_pos (show 224 ≤ a ∧ a < 240 ∧ 2 < n ∧ 128 ≤ b' ∧ b' < 192 ∧ 128 ≤ c' ∧ c' < 192 from ⟨q1, q2, q3, q4, q5, q6, q7⟩)]
        · rw [if_neg h3] at h; simp at h
  by_cases hx : x = []
  · subst hx; unfold decF dec3 at h; simp at h
  · have hl := List.length_pos_iff.2 hx
    unfold decF at *
    have e0 : (x ++ y).getD 0 0 = x.getD 0 0 := by simp [List.getD, List.getElem?_append_left hl]
    rw [e0]
    refine key _ _ _ _ _ _ _ (by simp) (fun h1 => ?_) (fun h2 => ?_) h
    · simp [List.getD, List.getElem?_append_left h1]
    · simp [List.getD, List.getElem?_append_left h2]
theorem decF_take {l : List UInt8} (hne : l ≠ []) (h : 0 < (decF l).2) : decF (l.take (decF l).2) = decF l := by
  have key : ∀ (a b c n : Nat), 1 ≤ n → ∀ b' c' : Nat, (1 < (dec3 a b c n).2 → b' = b) → (2 < (dec3 a b c n).2 → c' = c) → 0 < (dec3 a b c n).2 → dec3 a b' c' (dec3 a b c n).2 = dec3 a b c n := by
    intro a b c n hn b' c' hb hc h
    unfold dec3 at *
    by_cases h1 : 32 ≤ a ∧ a < 127
    · simp only [if_pos h1]
    · simp only [if_neg h1] at *
      by_cases h2 : 194 ≤ a ∧ a < 224 ∧ 1 < n ∧ 128 ≤ b ∧ b < 192
      · simp only [if_pos h2] at *
        by_cases h3 : 160 ≤ (a - 192) * 64 + (b - 128)
        · simp only [if_pos h3] at *
          have := hb (by omega); subst this
          rw [if_pos ⟨h2.1, h2.2.1, by omega, h2.2.2.2.1, h2.2.2.2.2⟩]
          exact if_pos h3
        · simp only [if_neg h3] at h; omega
      · simp only [if_neg h2] at *
        by_cases h3 : 224 ≤ a ∧ a < 240 ∧ 2 < n ∧ 128 ≤ b ∧ b < 192 ∧ 128 ≤ c ∧ c < 192
        · simp only [if_pos h3] at *
          split at h
          · next h4 =>
            simp only [if_pos h4] at *
            have := hb (by omega); subst this
            have := hc (by omega); subst this
            rw [if_neg (by omega), if_pos ⟨h3.1, h3.2.1, by omega, h3.2.2.2.1, h3.2.2.2.2.1, h3.2.2.2.2.2.1, h3.2.2.2.2.2.2⟩]
            exact if_pos h4
          · simp only at h; omega
        · simp only [if_neg h3] at h; omega
  have hl := List.length_pos_iff.2 hne
  have hle := decF_le l hne
  have e0 : (l.take (decF l).2).getD 0 0 = l.getD 0 0 := by simp [List.getD, List.getElem?_take, h]
  have el : (l.take (decF l).2).length = (decF l).2 := by rw [List.length_take]; omega
  have e := key (l.getD 0 0).toNat (l.getD 1 0).toNat (l.getD 2 0).toNat l.length hl ((l.take (decF l).2).getD 1 0).toNat ((l.take (decF l).2).getD 2 0).toNat
    (fun q => by have q : 1 < (decF l).2 := q; simp [List.getD, List.getElem?_take, q]) (fun q => by have q : 2 < (decF l).2 := q; simp [List.getD, List.getElem?_take, q]) h
  show dec3 ((l.take (decF l).2).getD 0 0).toNat ((l.take (decF l).2).getD 1 0).toNat ((l.take (decF l).2).getD 2 0).toNat (l.take (decF l).2).length = _
  rw [e0, el]
  exact e
theorem validF_append : ∀ (n : Nat) (x y : List UInt8), x.length ≤ n → validF x = true → validF (x ++ y) = validF y
  | 0, x, y, h, _ => by obtain rfl : x = [] := List.length_eq_zero_iff.1 (by omega); rfl
  | n + 1, x, y, h, hv => by
    by_cases hne : x = []
    · subst hne; rfl
    · have hl : 1 ≤ x.length := List.length_pos_iff.2 hne
      rw [validF_step hne, Bool.and_eq_true, decide_eq_true_eq] at hv
      have hle := decF_le x hne
      rw [validF_step (by simp [hne]), decF_append y hv.1, List.drop_append_of_le_length hle, decide_eq_true hv.1, Bool.true_and]
      exact validF_append n _ y (by rw [List.length_drop]; omega) hv.2
theorem validF_flat {α : Type} (f : α → List UInt8) : ∀ (xs : List α), (∀ x ∈ xs, validF (f x) = true) → validF (xs.flatMap f) = true
  | [], _ => rfl
  | x :: r, h => by
    rw [List.flatMap_cons, validF_append _ _ _ (Nat.le_refl _) (h x (by simp))]
    exact validF_flat f r fun y hy => h y (by simp [hy])
theorem ch_valid : ∀ (n : Nat) (l : List UInt8), l.length ≤ n → validF l = true → ∀ ch ∈ chF l, validF ch.2 = true ∧ ch.2 ≠ [] ∧ decF ch.2 = (ch.1, ch.2.length) ∧ okR ch.1 = true
  | 0, l, h, _ => by obtain rfl : l = [] := List.length_eq_zero_iff.1 (by omega); intro ch hc; cases hc
  | n + 1, l, h, hv => by
    by_cases hne : l = []
    · subst hne; intro ch hc; cases hc
    · have hl : 1 ≤ l.length := List.length_pos_iff.2 hne
      rw [validF_step hne, Bool.and_eq_true, decide_eq_true_eq] at hv
      have hle := decF_le l hne
      intro ch hc
      rw [chF_step hne, show max (decF l).2 1 = (decF l).2 by omega] at hc
      rcases List.mem_cons.1 hc with rfl | hc
      · have ht := decF_take hne hv.1
        have hlen : (l.take (decF l).2).length = (decF l).2 := by rw [List.length_take]; omega
        have hnt : l.take (decF l).2 ≠ [] := fun e => by rw [e] at hlen; simp at hlen; omega
        refine ⟨?_, hnt, by simp only [ht, hlen], (decF_pos hne hv.1).2.1⟩
        rw [validF_step hnt, ht, decide_eq_true hv.1, List.drop_of_length_le (by omega)]
        rfl
      · exact ch_valid n _ (by rw [List.length_drop]; omega) hv.2 ch hc
theorem ch_enc {l : List UInt8} (hv : validF l = true) : ∀ ch ∈ chF l, encodeRune (ch.1 : Int) = ch.2 := by
  intro ch hc
  obtain ⟨h1, h2, h3, _⟩ := ch_valid _ l (Nat.le_refl _) hv ch hc
  have hp : 0 < (decF ch.2).2 := by rw [h3]; exact List.length_pos_iff.2 h2
  obtain ⟨e1, _, e3⟩ := decF_pos h2 hp
  have := encode_decode ch.2 h2 (by rw [e1]; exact e3)
  rw [e1, h3] at this
  simpa using this
theorem ch_flat : ∀ (n : Nat) (l : List UInt8), l.length ≤ n → (chF l).flatMap (·.2) = l
  | 0, l, h => by obtain rfl : l = [] := List.length_eq_zero_iff.1 (by omega); rfl
  | n + 1, l, h => by
    by_cases hne : l = []
    · subst hne; rfl
    · have hl : 1 ≤ l.length := List.length_pos_iff.2 hne
      rw [chF_step hne, List.flatMap_cons, ch_flat n _ (by rw [List.length_drop]; omega)]
      exact List.take_append_drop _ _
/-! ### folding -/
def foldC (c : Nat) : List UInt8 :=
  if 65 ≤ c ∧ c ≤ 90 then [(c + 32).toUInt8] else if c < 192 ∨ 255 < c ∨ c = 215 ∨ c = 247 then [] else if c = 223 then [115, 115] else if c = 255 then [121] else
  let d := if 224 ≤ c then c - 32 else c
  if d ≤ 197 then [97] else if d = 198 then [97, 101] else if d = 199 then [99] else if d ≤ 203 then [101] else if d ≤ 207 then [105] else if d = 208 then [100] else if d = 209 then [110] else if d ≤ 216 then [111] else if d ≤ 220 then [117] else if d = 221 then [121] else [116, 104]
def fold1 (ch : Ch) : List UInt8 := if foldC ch.1 = [] then ch.2 else foldC ch.1
def foldF (l : List UInt8) : List UInt8 := (chF l).flatMap fold1
def foldD (l : List UInt8) : List UInt8 := (chD l).flatMap fun ch => if foldC ch.1 = [] then encodeRune (ch.1 : Int) else foldC ch.1
theorem fold_same {l : List UInt8} (hv : validF l = true) : foldD l = foldF l := by
  unfold foldD foldF
  rw [ch_same _ l (Nat.le_refl _) hv]
  have : ∀ xs : List Ch, (∀ ch ∈ xs, encodeRune (ch.1 : Int) = ch.2) → (xs.flatMap fun ch => if foldC ch.1 = [] then encodeRune (ch.1 : Int) else foldC ch.1) = xs.flatMap fold1 := by
    intro xs
    induction xs with
    | nil => intro _; rfl
    | cons x r ih =>
      intro h
      rw [List.flatMap_cons, List.flatMap_cons, ih fun y hy => h y (by simp [hy]), h x (by simp)]
      rfl
  exact this _ (ch_enc hv)
theorem foldC_valid : ∀ c : Nat, validF (foldC c) = true := by
  intro c
  by_cases h : c < 256
  · have : (List.range 256).all (fun c => validF (foldC c)) = true := by kernel_rfl
    exact List.all_eq_true.1 this c (List.mem_range.2 h)
  · unfold foldC; rw [if_neg (by omega), if_pos (by omega)]; rfl
theorem fold_valid {l : List UInt8} (hv : validF l = true) : validF (foldF l) = true := by
  refine validF_flat _ _ fun ch hc => ?_
  unfold fold1
  split
  · exact (ch_valid _ l (Nat.le_refl _) hv ch hc).1
  · exact foldC_valid _
/-! ### words -/
def letterC (c : Nat) : Bool := (decide (97 ≤ c) && decide (c ≤ 122)) || (decide (48 ≤ c) && decide (c ≤ 57)) || decide (256 ≤ c)
def wStep (st : List (List UInt8) × List UInt8) (ch : Ch) : List (List UInt8) × List UInt8 :=
  if letterC ch.1 = true then (st.1, st.2 ++ ch.2) else if st.2 = [] then st else (st.1 ++ [st.2], [])
def wEnd (st : List (List UInt8) × List UInt8) : List (List UInt8) := if st.2 = [] then st.1 else st.1 ++ [st.2]
def wordsF (l : List UInt8) : List (List UInt8) := wEnd ((chF (foldF l)).foldl wStep ([], []))
/-! ### keys -/
end Go.Tx

/- Headings: their parts and normal forms. Plain Lean; no condition of its own. -/
namespace Go.Tx
open Go Go.Ax Go.Lib
/-! ### a text divided at each separator -/
def splG (sep : List UInt8) : Nat → List UInt8 → List UInt8 → List (List UInt8)
  | 0, cur, l => [cur ++ l]
  | f + 1, cur, l => if sep.length ≤ l.length then (if l.take sep.length = sep then cur :: splG sep f [] (l.drop sep.length) else splG sep f (cur ++ l.take 1) (l.drop 1)) else [cur ++ l]
def splF (l sep : List UInt8) : List (List UInt8) := splG sep l.length [] l
theorem splG_fuel (sep : List UInt8) (hs : 1 ≤ sep.length) : ∀ (n m : Nat) (cur l : List UInt8), l.length ≤ n → l.length ≤ m → splG sep n cur l = splG sep m cur l
  | 0, 0, _, _, _, _ => rfl
  | 0, m + 1, cur, l, h, _ => by
    obtain rfl : l = [] := List.length_eq_zero_iff.1 (by omega)
    show [cur ++ []] = if _ then _ else _
    rw [if_neg (show ¬ sep.length ≤ ([] : List UInt8).length by rw [List.length_nil]; omega)]
  | n + 1, 0, cur, l, _, h => by
    obtain rfl : l = [] := List.length_eq_zero_iff.1 (by omega)
    show (if _ then _ else _) = [cur ++ []]
    rw [if_neg (show ¬ sep.length ≤ ([] : List UInt8).length by rw [List.length_nil]; omega)]
  | n + 1, m + 1, cur, l, h1, h2 => by
    show (if _ then _ else _) = if _ then _ else _
    by_cases h : sep.length ≤ l.length
    · rw [if_pos h, if_pos h, splG_fuel sep hs n m [] (l.drop sep.length) (by rw [List.length_drop]; omega) (by rw [List.length_drop]; omega), splG_fuel sep hs n m (cur ++ l.take 1) (l.drop 1) (by rw [List.length_drop]; omega) (by rw [List.length_drop]; omega)]
    · rw [if_neg h, if_neg h]
def splR (sep cur l : List UInt8) : List (List UInt8) := splG sep l.length cur l
theorem splR_hit {sep cur l : List UInt8} (hs : 1 ≤ sep.length) (h : sep.length ≤ l.length) (e : l.take sep.length = sep) : splR sep cur l = cur :: splR sep [] (l.drop sep.length) := by
  have hl : splR sep cur l = splG sep (l.length + 1) cur l := splG_fuel sep hs _ _ cur l (Nat.le_refl _) (by omega)
  rw [hl]
  show (if _ then _ else _) = _
  rw [if_pos h, if_pos e, splG_fuel sep hs l.length (l.drop sep.length).length _ _ (by rw [List.length_drop]; omega) (Nat.le_refl _)]; rfl
theorem splR_miss {sep cur l : List UInt8} (hs : 1 ≤ sep.length) (h : sep.length ≤ l.length) (e : ¬ l.take sep.length = sep) : splR sep cur l = splR sep (cur ++ l.take 1) (l.drop 1) := by
  have hl : splR sep cur l = splG sep (l.length + 1) cur l := splG_fuel sep hs _ _ cur l (Nat.le_refl _) (by omega)
  rw [hl]
  show (if _ then _ else _) = _
  rw [if_pos h, if_neg e, splG_fuel sep hs l.length (l.drop 1).length _ _ (by rw [List.length_drop]; omega) (Nat.le_refl _)]; rfl
theorem splR_end {sep cur l : List UInt8} (hs : 1 ≤ sep.length) (h : ¬ sep.length ≤ l.length) : splR sep cur l = [cur ++ l] := by
  have hl : splR sep cur l = splG sep (l.length + 1) cur l := splG_fuel sep hs _ _ cur l (Nat.le_refl _) (by omega)
  rw [hl]
  show (if _ then _ else _) = _
  rw [if_neg h]
theorem splG_len (sep : List UInt8) (hs : 1 ≤ sep.length) : ∀ (n : Nat) (cur l : List UInt8), (splG sep n cur l).length ≤ l.length + 1 ∧ ∀ x ∈ splG sep n cur l, x.length ≤ cur.length + l.length
  | 0, cur, l => by simp [splG]
  | n + 1, cur, l => by
    rw [splG.eq_2]
    by_cases h : sep.length ≤ l.length
    · by_cases e : l.take sep.length = sep
      · obtain ⟨h1, h2⟩ := splG_len sep hs n [] (l.drop sep.length)
        rw [if_pos h, if_pos e]
        rw [List.length_drop] at h1 h2
        refine ⟨by rw [List.length_cons]; omega, fun x hx => ?_⟩
        rcases List.mem_cons.1 hx with rfl | hx
        · omega
        · have := h2 x hx; simp at this; omega
      · obtain ⟨h1, h2⟩ := splG_len sep hs n (cur ++ l.take 1) (l.drop 1)
        rw [if_pos h, if_neg e]
        rw [List.length_drop] at h1 h2
        refine ⟨by omega, fun x hx => ?_⟩
        have := h2 x hx
        rw [List.length_append, List.length_take] at this
        omega
    · rw [if_neg h]
      refine ⟨by simp, fun x hx => ?_⟩
      simp at hx
      rw [hx, List.length_append]; omega
theorem splF_len {l sep : List UInt8} (hs : 1 ≤ sep.length) : (splF l sep).length ≤ l.length + 1 ∧ ∀ x ∈ splF l sep, x.length ≤ l.length := by
  have := splG_len sep hs l.length [] l
  simpa [splF] using this
/-! ### no longer than before -/
theorem cleanG_le : ∀ (f : Nat) (l : List UInt8) (st : List UInt8 × Bool), (cleanG f l st).length ≤ st.1.length + l.length + (if st.2 = true ∧ st.1 ≠ [] then 1 else 0)
  | 0, l, st => by simp [cleanG]; omega
  | f + 1, l, st => by
    unfold cleanG
    by_cases hne : l = []
    · rw [if_pos hne]; omega
    · rw [if_neg hne]
      have hl : 1 ≤ l.length := List.length_pos_iff.2 hne
      have hle := decF_le l hne
      have ih := cleanG_le f (l.drop (max (decF l).2 1)) (cleanStep st (decF l).1 (l.take (max (decF l).2 1)))
      rw [List.length_drop] at ih
      unfold cleanStep at ih ⊢
      by_cases hb : blankR (decF l).1 = true
      · rw [if_pos hb] at ih ⊢
        simp only at ih
        by_cases h2 : st.1 = []
        · rw [if_neg (by simp [h2])] at ih
          have : st.1.length = 0 := by rw [h2]; rfl
          omega
        · rw [if_pos ⟨trivial, h2⟩] at ih
          omega
      · rw [if_neg hb] at ih ⊢
        simp only [Bool.false_eq_true, false_and, if_false] at ih
        by_cases h2 : st.2 = true ∧ st.1 ≠ []
        · simp only [if_pos h2, List.length_append, List.length_cons, List.length_nil, List.length_take] at ih ⊢
          omega
        · simp only [if_neg h2, List.length_append, List.length_take] at ih ⊢
          omega
theorem cleanF_le (l : List UInt8) : (cleanF l).length ≤ l.length := by
  have := cleanG_le l.length l ([], false)
  simpa [cleanF] using this
/-! ### parts, normal forms -/
def neS (p : List UInt8) : Bool := decide (p ≠ [])
def partsF (l : List UInt8) : List (List UInt8) := ((splF l [45, 45]).map cleanF).filter neS
def wordJ (p : List UInt8) : List UInt8 := join (wordsF p) [32]
def normF (l : List UInt8) : List UInt8 := join (((partsF l).map wordJ).filter neS) [45, 45]
theorem partsF_len (l : List UInt8) : (partsF l).length ≤ l.length + 1 ∧ ∀ x ∈ partsF l, x.length ≤ l.length := by
  obtain ⟨h1, h2⟩ := splF_len (l := l) (sep := [45, 45]) (by decide)
  unfold partsF
  refine ⟨Nat.le_trans (List.length_filter_le _ _) (by rw [List.length_map]; exact h1), fun x hx => ?_⟩
  obtain ⟨y, hy, rfl⟩ := List.mem_map.1 (List.mem_filter.1 hx).1
  exact Nat.le_trans (cleanF_le y) (h2 y hy)
/-! ### how long words are -/
def wLen (st : List (List UInt8) × List UInt8) : Nat := (st.1.map List.length).sum + st.2.length
theorem wStep_len (st : List (List UInt8) × List UInt8) (ch : Ch) : wLen (wStep st ch) ≤ wLen st + ch.2.length ∧ (wStep st ch).1.length + (wStep st ch).2.length ≤ st.1.length + st.2.length + ch.2.length ∧ ((∀ x ∈ st.1, x ≠ []) → ∀ x ∈ (wStep st ch).1, x ≠ []) := by
  unfold wStep wLen
  split
  · refine ⟨by simp [List.length_append]; omega, by simp [List.length_append]; omega, fun h => h⟩
  · split
    · exact ⟨by omega, by omega, fun h => h⟩
    · next h1 h2 =>
      have := List.length_pos_iff.2 h2
      refine ⟨by simp [List.sum_append], by simp; omega, fun h x hx => ?_⟩
      rcases List.mem_append.1 hx with hx | hx
      · exact h x hx
      · simp at hx; rw [hx]; exact h2
theorem wFold_len : ∀ (cs : List Ch) (st : List (List UInt8) × List UInt8), wLen (cs.foldl wStep st) ≤ wLen st + (cs.flatMap (·.2)).length ∧ (cs.foldl wStep st).1.length + (cs.foldl wStep st).2.length ≤ st.1.length + st.2.length + (cs.flatMap (·.2)).length ∧ ((∀ x ∈ st.1, x ≠ []) → ∀ x ∈ (cs.foldl wStep st).1, x ≠ [])
  | [], st => by simp
  | c :: cs, st => by
    obtain ⟨h1, h2, h3⟩ := wStep_len st c
    obtain ⟨k1, k2, k3⟩ := wFold_len cs (wStep st c)
    rw [List.foldl_cons, List.flatMap_cons, List.length_append]
    exact ⟨by omega, by omega, fun h => k3 (h3 h)⟩
theorem wEnd_len (st : List (List UInt8) × List UInt8) : ((wEnd st).map List.length).sum = wLen st ∧ (wEnd st).length ≤ st.1.length + st.2.length ∧ ((∀ x ∈ st.1, x ≠ []) → ∀ x ∈ wEnd st, x ≠ []) := by
  unfold wEnd wLen
  split
  · next h => exact ⟨by rw [h]; simp, by omega, fun h => h⟩
  · next h2 =>
    have := List.length_pos_iff.2 h2
    refine ⟨by simp [List.sum_append], by simp; omega, fun h x hx => ?_⟩
    rcases List.mem_append.1 hx with hx | hx
    · exact h x hx
    · simp at hx; rw [hx]; exact h2
theorem wordsF_len (l : List UInt8) : ((wordsF l).map List.length).sum ≤ (foldF l).length ∧ (wordsF l).length ≤ (foldF l).length ∧ ∀ x ∈ wordsF l, x ≠ [] := by
  obtain ⟨h1, h2, h3⟩ := wFold_len (chF (foldF l)) ([], [])
  rw [ch_flat _ _ (Nat.le_refl _)] at h1 h2
  obtain ⟨k1, k2, k3⟩ := wEnd_len ((chF (foldF l)).foldl wStep ([], []))
  unfold wordsF
  refine ⟨by rw [k1]; simpa [wLen] using h1, Nat.le_trans k2 (by simpa using h2), k3 (h3 (by simp))⟩
theorem join_sum (sep : List UInt8) : ∀ l : List (List UInt8), (join l sep).length ≤ (l.map List.length).sum + l.length * sep.length
  | [] => by simp [join]
  | [x] => by simp [join]
  | x :: y :: r => by
    have ih := join_sum sep (y :: r)
    have e : (join (x :: y :: r) sep).length = x.length + sep.length + (join (y :: r) sep).length := by simp [join]; omega
    rw [e]
    simp only [List.map_cons, List.sum_cons, List.length_cons, Nat.add_mul] at ih ⊢
    omega
end Go.Tx
