/- Part of a proof about this program; no condition of its own. -/
import Derived.Test.YtanbfhnmklhjiaaGreatDoorP26
import Derived.Lib.Split
import Derived.Test.YtanbfhnmklhjiaaGreatDoorProg
import Derived.Test.YtanbfhnmklhjiaaGreatDoorP17
import Derived.Lib.SlicesCompact
import Derived.Sort.Walk0
set_option linter.all false
/- Words and divided texts by the library's functions and by the reference: the same. Plain Lean; no condition. -/
namespace Go.Tx
open Go Go.Ax Go.Lib
def opn (l : List UInt8) (st : Option Nat) (pos : Nat) : List UInt8 := match st with | some a => pieceU l a pos | none => []
theorem chF_at' {s : List UInt8} {k : Nat} (hk : k < s.length) : chF (s.drop k) = ((decF (s.drop k)).1, (s.drop k).take (max (decF (s.drop k)).2 1)) :: chF (s.drop (k + max (decF (s.drop k)).2 1)) := by
  rw [chF_step (by intro e; have := congrArg List.length e; rw [List.length_drop] at this; simp at this; omega), List.drop_drop]
theorem words_from (s : ByteArray) (l : List UInt8) (hl : l = s.data.toList) : ∀ (f pos : Nat) (st : Option Nat) (acc : List (Nat × Nat)), l.length ≤ pos + f → pos ≤ l.length → validF (l.drop pos) = true → (∀ a, st = some a → a < pos) →
    piecesOf l (closeSpans s (spansFromP (fun c => !letterC c) s f pos st acc)) = wEnd ((chF (l.drop pos)).foldl wStep (piecesOf l acc, opn l st pos))
  | f, pos, st, acc, hf, hp, hv, hst => by
    have hsz : s.size = l.length := by rw [hl, ← size_eq]
    by_cases hlt : pos < l.length
    · match f, hf with
      | 0, hf => exact absurd hf (by omega)
      | f + 1, hf =>
        have hne : l.drop pos ≠ [] := fun e => by have := congrArg List.length e; rw [List.length_drop] at this; simp at this; omega
        rw [validF_step hne, Bool.and_eq_true, decide_eq_true_eq] at hv
        obtain ⟨hv1, hv2⟩ := hv
        obtain ⟨hd, _, _⟩ := decF_pos hne hv1
        have hle := decF_le _ hne
        rw [List.length_drop] at hle
        have hdec : Utf8.decode s pos = decF (l.drop pos) := by rw [← decodeL_drop, ← hl]; exact hd
        rw [List.drop_drop] at hv2
        rw [chF_at' hlt, show max (decF (l.drop pos)).2 1 = (decF (l.drop pos)).2 by omega, List.foldl_cons]
        simp only [spansFromP, hsz, if_pos hlt, hdec]
        generalize hc : (decF (l.drop pos)).1 = c at *
        generalize hk : (decF (l.drop pos)).2 = k at *
        have hpc : pieceU l pos (pos + k) = (l.drop pos).take k := by unfold pieceU; rw [show pos + k - pos = k by omega]
        cases hb : letterC c with
        | true =>
          have hcs : ∀ o, wStep (piecesOf l acc, o) (c, (l.drop pos).take k) = (piecesOf l acc, o ++ (l.drop pos).take k) := fun o => by unfold wStep; rw [if_pos hb]
          rw [hcs]
          cases st with
          | none =>
            simp only [Bool.not_true, Bool.false_eq_true, if_false]
            rw [words_from s l hl f (pos + k) (some pos) acc (by omega) (by omega) hv2 (fun a h => by cases h; omega)]
            simp only [opn, hpc, List.nil_append]
          | some a =>
            simp only [Bool.not_true, Bool.false_eq_true, if_false]
            have ha := hst a rfl
            rw [words_from s l hl f (pos + k) (some a) acc (by omega) (by omega) hv2 (fun b h => by cases h; omega)]
            simp only [opn]
            rw [← pieceU_grow l a pos k (by omega)]
        | false =>
          simp only [Bool.not_false, if_true]
          cases st with
          | none =>
            have hcs : wStep (piecesOf l acc, opn l none pos) (c, (l.drop pos).take k) = (piecesOf l acc, []) := by unfold wStep; rw [if_neg (by simp [hb])]; rfl
            rw [hcs]
            exact words_from s l hl f (pos + k) none acc (by omega) (by omega) hv2 (fun a h => by cases h)
          | some a =>
            have ha := hst a rfl
            have hpn := pieceU_ne l a pos ha (by omega)
            have hcs : wStep (piecesOf l acc, opn l (some a) pos) (c, (l.drop pos).take k) = (piecesOf l (acc ++ [(a, pos)]), []) := by
              unfold wStep
              rw [if_neg (by simp [hb])]
              rw [if_neg (show ¬ opn l (some a) pos = [] from hpn)]
              simp [piecesOf, opn]
            rw [hcs]
            exact words_from s l hl f (pos + k) none (acc ++ [(a, pos)]) (by omega) (by omega) hv2 (fun a h => by cases h)
    · have hd : l.drop pos = [] := List.drop_eq_nil_of_le (by omega)
      have e1 : spansFromP (fun c => !letterC c) s f pos st acc = (acc, st) := spansFromP_end _ _ _ _ _ _ (by omega)
      rw [e1, hd, chF_nil]
      have hps : pos = s.size := by omega
      cases st with
      | none => simp [closeSpans, opn, wEnd]
      | some a =>
        have hpn := pieceU_ne l a pos (hst a rfl) (by omega)
        show piecesOf l (acc ++ [(a, s.size)]) = if opn l (some a) pos = [] then _ else _
        rw [if_neg (show ¬ opn l (some a) pos = [] from hpn), ← hps]
        simp [piecesOf, opn]
termination_by f => f
theorem words_same (l : List UInt8) (hv : validF l = true) : (goFieldsP (fun c => !letterC c) ⟨l.toArray⟩).map (·.data.toList) = wEnd ((chF l).foldl wStep ([], [])) := by
  have h := words_from ⟨l.toArray⟩ l (by simp) l.length 0 none [] (by omega) (by omega) (by simpa using hv) (fun a h => by cases h)
  rw [List.drop_zero] at h
  unfold goFieldsP spansOfP
  rw [List.map_map]
  have hsz : (⟨l.toArray⟩ : ByteArray).size = l.length := rfl
  rw [hsz]
  refine Eq.trans (List.map_congr_left fun x _ => ?_) h
  show (ByteArray.extract ⟨l.toArray⟩ x.1 x.2).data.toList = pieceU l x.1 x.2
  rw [extract_data]; rfl
/-! ### a text divided -/
def glue (cur : List UInt8) : List (List UInt8) → List (List UInt8)
  | [] => []
  | h :: t => (cur ++ h) :: t
theorem pre_take {sep l : List UInt8} : sep.isPrefixOf l = true ↔ sep.length ≤ l.length ∧ l.take sep.length = sep := by
  rw [List.isPrefixOf_iff_prefix, List.prefix_iff_eq_take]
  constructor
  · intro h
    refine ⟨?_, h.symm⟩
    have := congrArg List.length h
    rw [List.length_take] at this
    omega
  · exact fun h => h.2.symm
theorem split_nil {sep : List UInt8} (hs : 1 ≤ sep.length) : split [] sep = [[]] := by
  have : index [] sep = -1 := by unfold index; rw [if_neg (by cases sep <;> simp_all)]
  unfold split
  rw [count_miss this]; rfl
theorem split_R {sep : List UInt8} (hs : 1 ≤ sep.length) : ∀ (n : Nat) (l cur : List UInt8), l.length ≤ n → glue cur (split l sep) = splR sep cur l
  | _, [], cur, _ => by rw [split_nil hs, splR_end hs (by rw [List.length_nil]; omega)]; rfl
  | 0, b :: r, _, h => absurd h (by simp)
  | n + 1, b :: r, cur, h => by
    have hne : sep ≠ [] := fun e => by rw [e] at hs; simp at hs
    rw [List.length_cons] at h
    by_cases hp : sep.isPrefixOf (b :: r) = true
    · obtain ⟨h1, h2⟩ := pre_take.1 hp
      have hi : index (b :: r) sep = ((0 : Nat) : Int) := by unfold index; rw [if_pos hp]; rfl
      have hc := count_hit hne hi
      have ih := split_R hs n ((b :: r).drop sep.length) [] (by rw [List.length_drop, List.length_cons]; omega)
      rw [splR_hit hs h1 h2, ← ih]
      unfold split
      rw [hc, Nat.zero_add, Nat.add_comm, splitK, hi, if_neg (by decide)]
      simp only [Int.toNat_natCast, Nat.zero_add, List.take_zero, glue, List.append_nil]
      congr 1
      generalize splitK sep 0 (count ((b :: r).drop sep.length) sep) ((b :: r).drop sep.length) = q
      cases q <;> rfl
    · have hgl : glue cur (split (b :: r) sep) = glue (cur ++ [b]) (split r sep) := by
        by_cases hr : index r sep = -1
        · have hi : index (b :: r) sep = -1 := by unfold index; rw [if_neg hp, hr]; rfl
          unfold split
          rw [count_miss hi, count_miss hr]
          simp [splitK, glue]
        · obtain ⟨i, hri⟩ : ∃ i : Nat, index r sep = i := ⟨(index r sep).toNat, by have := index_ge r sep; omega⟩
          have hi : index (b :: r) sep = ((i + 1 : Nat) : Int) := by
            unfold index
            rw [if_neg hp, hri, if_neg (by simp)]
            push_cast
          have hd : (b :: r).drop (i + 1 + sep.length) = r.drop (i + sep.length) := by rw [show i + 1 + sep.length = (i + sep.length) + 1 by omega, List.drop_succ_cons]
          have hc := count_hit hne hi
          have hcr := count_hit hne hri
          unfold split
          rw [hc, hcr, hd, Nat.add_comm 1, splitK, splitK, hi, hri, if_neg (by simp; omega), if_neg (by simp)]
          simp only [Int.toNat_natCast, Nat.add_zero, hd, List.take_succ_cons, glue, List.append_assoc, List.cons_append, List.nil_append]
      rw [hgl, split_R hs n r (cur ++ [b]) (by omega)]
      by_cases hl : sep.length ≤ (b :: r).length
      · rw [splR_miss (cur := cur) hs hl (fun e => hp (pre_take.2 ⟨hl, e⟩))]; rfl
      · rw [splR_end (cur := cur) hs hl, splR_end hs (by rw [List.length_cons] at hl; omega)]; simp
theorem split_same {sep : List UInt8} (hs : 1 ≤ sep.length) (l : List UInt8) : split l sep = splF l sep := by
  have := split_R hs l.length l [] (Nat.le_refl _)
  have e : glue [] (split l sep) = split l sep := by cases split l sep <;> rfl
  rw [e] at this
  exact this
end Go.Tx

/- Facts on the types of the translation, for the rule that reckons. No condition. -/
namespace Go.Proofs
open Go Go.Ax
theorem Tryz.mixed : Tryz.prog.follows .mixedOrders = true := by kernel_rfl
@[push_cast] theorem Tryz.ldT3 : ldT Tryz.prog 3 = some none := by kernel_rfl
@[push_cast] theorem Tryz.ldT5 : ldT Tryz.prog 5 = some none := by kernel_rfl
@[push_cast] theorem Tryz.ldT9 : ldT Tryz.prog 9 = some none := by kernel_rfl
@[push_cast] theorem Tryz.ldT29 : ldT Tryz.prog 29 = some none := by kernel_rfl
@[push_cast] theorem Tryz.ldT37 : ldT Tryz.prog 37 = some (some 3) := by kernel_rfl
@[push_cast] theorem Tryz.ldT42 : ldT Tryz.prog 42 = some none := by kernel_rfl
@[push_cast] theorem Tryz.ldT43 : ldT Tryz.prog 43 = some none := by kernel_rfl
@[push_cast] theorem Tryz.ldT45 : ldT Tryz.prog 45 = some (some 5) := by kernel_rfl
@[push_cast] theorem Tryz.ldT62 : ldT Tryz.prog 62 = some none := by kernel_rfl
@[push_cast] theorem Tryz.ldT64 : ldT Tryz.prog 64 = some (some 5) := by kernel_rfl
@[push_cast] theorem Tryz.ldT79 : ldT Tryz.prog 79 = some (some 2) := by kernel_rfl
@[push_cast] theorem Tryz.ldT85 : ldT Tryz.prog 85 = some (some 2) := by kernel_rfl
@[push_cast] theorem Tryz.ldT86 : ldT Tryz.prog 86 = some none := by kernel_rfl
@[push_cast] theorem Tryz.ldT88 : ldT Tryz.prog 88 = some (some 4) := by kernel_rfl
@[push_cast] theorem Tryz.ldT93 : ldT Tryz.prog 93 = some none := by kernel_rfl
@[push_cast] theorem Tryz.ldT115 : ldT Tryz.prog 115 = some (some 2) := by kernel_rfl
@[push_cast] theorem Tryz.ldT146 : ldT Tryz.prog 146 = some none := by kernel_rfl
@[push_cast] theorem Tryz.ldT155 : ldT Tryz.prog 155 = some (some 7) := by kernel_rfl
@[push_cast] theorem Tryz.ldT191 : ldT Tryz.prog 191 = some none := by kernel_rfl
@[push_cast] theorem Tryz.ldT192 : ldT Tryz.prog 192 = some none := by kernel_rfl
@[push_cast] theorem Tryz.ldT237 : ldT Tryz.prog 237 = some none := by kernel_rfl
@[push_cast] theorem Tryz.ldT249 : ldT Tryz.prog 249 = some (some 2) := by kernel_rfl
@[push_cast] theorem Tryz.ldT270 : ldT Tryz.prog 270 = some (some 2) := by kernel_rfl
@[push_cast] theorem Tryz.szT3 : szT Tryz.prog 3 = some 1 := by kernel_rfl
@[push_cast] theorem Tryz.szT5 : szT Tryz.prog 5 = some 1 := by kernel_rfl
@[push_cast] theorem Tryz.szT9 : szT Tryz.prog 9 = some 1 := by kernel_rfl
@[push_cast] theorem Tryz.szT29 : szT Tryz.prog 29 = some 1 := by kernel_rfl
@[push_cast] theorem Tryz.szT37 : szT Tryz.prog 37 = some 3 := by kernel_rfl
@[push_cast] theorem Tryz.szT42 : szT Tryz.prog 42 = some 1 := by kernel_rfl
@[push_cast] theorem Tryz.szT43 : szT Tryz.prog 43 = some 1 := by kernel_rfl
@[push_cast] theorem Tryz.szT45 : szT Tryz.prog 45 = some 5 := by kernel_rfl
@[push_cast] theorem Tryz.szT62 : szT Tryz.prog 62 = some 1 := by kernel_rfl
@[push_cast] theorem Tryz.szT64 : szT Tryz.prog 64 = some 5 := by kernel_rfl
@[push_cast] theorem Tryz.szT79 : szT Tryz.prog 79 = some 2 := by kernel_rfl
@[push_cast] theorem Tryz.szT85 : szT Tryz.prog 85 = some 2 := by kernel_rfl
@[push_cast] theorem Tryz.szT86 : szT Tryz.prog 86 = some 1 := by kernel_rfl
@[push_cast] theorem Tryz.szT88 : szT Tryz.prog 88 = some 4 := by kernel_rfl
@[push_cast] theorem Tryz.szT93 : szT Tryz.prog 93 = some 1 := by kernel_rfl
@[push_cast] theorem Tryz.szT115 : szT Tryz.prog 115 = some 2 := by kernel_rfl
@[push_cast] theorem Tryz.szT146 : szT Tryz.prog 146 = some 1 := by kernel_rfl
@[push_cast] theorem Tryz.szT155 : szT Tryz.prog 155 = some 7 := by kernel_rfl
@[push_cast] theorem Tryz.szT172 : szT Tryz.prog 172 = some 4 := by kernel_rfl
@[push_cast] theorem Tryz.szT191 : szT Tryz.prog 191 = some 1 := by kernel_rfl
@[push_cast] theorem Tryz.szT192 : szT Tryz.prog 192 = some 1 := by kernel_rfl
@[push_cast] theorem Tryz.szT237 : szT Tryz.prog 237 = some 1 := by kernel_rfl
@[push_cast] theorem Tryz.szT249 : szT Tryz.prog 249 = some 2 := by kernel_rfl
@[push_cast] theorem Tryz.szT270 : szT Tryz.prog 270 = some 2 := by kernel_rfl
@[push_cast] theorem Tryz.zC3 : zeroC Tryz.prog 3 = some [.d (.int .i64 0)] := by kernel_rfl
@[push_cast] theorem Tryz.zC9 : zeroC Tryz.prog 9 = some [.d (.str [])] := by kernel_rfl
@[push_cast] theorem Tryz.zC29 : zeroC Tryz.prog 29 = some [.d (.raw (.slice none 0 0))] := by kernel_rfl
@[push_cast] theorem Tryz.zC37 : zeroC Tryz.prog 37 = some [.d (.str []), .d (.str []), .d (.int .i64 0)] := by kernel_rfl
@[push_cast] theorem Tryz.zC45 : zeroC Tryz.prog 45 = some [.d (.int .i64 0), .d (.int .i64 0), .d (.str []), .d (.raw (.slice none 0 0)), .d (.raw (.slice none 0 0))] := by kernel_rfl
@[push_cast] theorem Tryz.zC64 : zeroC Tryz.prog 64 = some [.d (.int .i64 0), .d (.int .i64 0), .d (.int .i64 0), .d (.str []), .d (.raw (.slice none 0 0))] := by kernel_rfl
@[push_cast] theorem Tryz.zC79 : zeroC Tryz.prog 79 = some [.d (.str []), .d (.int .i64 0)] := by kernel_rfl
@[push_cast] theorem Tryz.zC85 : zeroC Tryz.prog 85 = some [.d (.int .u8 0), .d (.str [])] := by kernel_rfl
@[push_cast] theorem Tryz.zC88 : zeroC Tryz.prog 88 = some [.d (.str []), .d (.str []), .d (.raw (.slice none 0 0)), .d (.int .i64 0)] := by kernel_rfl
@[push_cast] theorem Tryz.zC93 : zeroC Tryz.prog 93 = some [.d (.raw (.map none))] := by kernel_rfl
@[push_cast] theorem Tryz.zC94 : zeroC Tryz.prog 94 = some [.d (.str []), .d (.str [])] := by kernel_rfl
@[push_cast] theorem Tryz.zC115 : zeroC Tryz.prog 115 = some [.d (.int .i64 0), .d (.str [])] := by kernel_rfl
@[push_cast] theorem Tryz.zC155 : zeroC Tryz.prog 155 = some [.d (.str []), .d (.bool false), .d (.bool false), .d (.str []), .d (.str []), .d (.str []), .d (.int .i64 0)] := by kernel_rfl
@[push_cast] theorem Tryz.zC172 : zeroC Tryz.prog 172 = some [.d (.str []), .d (.str []), .d (.str []), .d (.str [])] := by kernel_rfl
@[push_cast] theorem Tryz.zC194 : zeroC Tryz.prog 194 = some [.d (.raw (.pointer none)), .d (.raw (.slice none 0 0))] := by kernel_rfl
@[push_cast] theorem Tryz.zC237 : zeroC Tryz.prog 237 = some [.d (.int .u64 0)] := by kernel_rfl
@[push_cast] theorem Tryz.zC249 : zeroC Tryz.prog 249 = some [.d (.int .i64 0), .d (.int .i64 0)] := by kernel_rfl
@[push_cast] theorem Tryz.zC257 : zeroC Tryz.prog 257 = some [.d (.int .u8 0), .d (.int .u8 0), .d (.int .u8 0), .d (.int .u8 0), .d (.int .u8 0), .d (.int .u8 0), .d (.int .u8 0), .d (.int .u8 0), .d (.int .u8 0), .d (.int .u8 0), .d (.int .u8 0), .d (.int .u8 0), .d (.int .u8 0), .d (.int .u8 0), .d (.int .u8 0), .d (.int .u8 0), .d (.int .u8 0), .d (.int .u8 0), .d (.int .u8 0), .d (.int .u8 0), .d (.int .u8 0), .d (.int .u8 0), .d (.int .u8 0), .d (.int .u8 0)] := by kernel_rfl
@[push_cast] theorem Tryz.zC270 : zeroC Tryz.prog 270 = some [.d (.int .u8 0), .d (.int .u8 0)] := by kernel_rfl
@[push_cast] theorem Tryz.zC278 : zeroC Tryz.prog 278 = some [.d (.int .u8 0), .d (.int .u8 0), .d (.int .u8 0), .d (.int .u8 0), .d (.int .u8 0), .d (.int .u8 0), .d (.int .u8 0), .d (.int .u8 0), .d (.int .u8 0), .d (.int .u8 0), .d (.int .u8 0), .d (.int .u8 0), .d (.int .u8 0), .d (.int .u8 0), .d (.int .u8 0), .d (.int .u8 0), .d (.int .u8 0), .d (.int .u8 0), .d (.int .u8 0), .d (.int .u8 0), .d (.int .u8 0), .d (.int .u8 0), .d (.int .u8 0), .d (.int .u8 0), .d (.int .u8 0), .d (.int .u8 0), .d (.int .u8 0), .d (.int .u8 0), .d (.int .u8 0), .d (.int .u8 0), .d (.int .u8 0), .d (.int .u8 0), .d (.int .u8 0), .d (.int .u8 0), .d (.int .u8 0), .d (.int .u8 0), .d (.int .u8 0), .d (.int .u8 0), .d (.int .u8 0), .d (.int .u8 0), .d (.int .u8 0), .d (.int .u8 0), .d (.int .u8 0), .d (.int .u8 0), .d (.int .u8 0), .d (.int .u8 0), .d (.int .u8 0), .d (.int .u8 0), .d (.int .u8 0), .d (.int .u8 0), .d (.int .u8 0), .d (.int .u8 0), .d (.int .u8 0), .d (.int .u8 0), .d (.int .u8 0), .d (.int .u8 0), .d (.int .u8 0), .d (.int .u8 0), .d (.int .u8 0), .d (.int .u8 0), .d (.int .u8 0), .d (.int .u8 0), .d (.int .u8 0), .d (.int .u8 0), .d (.int .u8 0)] := by kernel_rfl
@[push_cast] theorem Tryz.fdT25_0 : fdT Tryz.prog 25 0 = some 0 := by kernel_rfl
@[push_cast] theorem Tryz.fdT25_1 : fdT Tryz.prog 25 1 = some 1 := by kernel_rfl
@[push_cast] theorem Tryz.fdT37_0 : fdT Tryz.prog 37 0 = some 0 := by kernel_rfl
@[push_cast] theorem Tryz.fdT37_1 : fdT Tryz.prog 37 1 = some 1 := by kernel_rfl
@[push_cast] theorem Tryz.fdT37_2 : fdT Tryz.prog 37 2 = some 2 := by kernel_rfl
@[push_cast] theorem Tryz.fdT45_0 : fdT Tryz.prog 45 0 = some 0 := by kernel_rfl
@[push_cast] theorem Tryz.fdT45_1 : fdT Tryz.prog 45 1 = some 1 := by kernel_rfl
@[push_cast] theorem Tryz.fdT45_2 : fdT Tryz.prog 45 2 = some 2 := by kernel_rfl
@[push_cast] theorem Tryz.fdT45_3 : fdT Tryz.prog 45 3 = some 3 := by kernel_rfl
@[push_cast] theorem Tryz.fdT45_4 : fdT Tryz.prog 45 4 = some 4 := by kernel_rfl
@[push_cast] theorem Tryz.fdT64_0 : fdT Tryz.prog 64 0 = some 0 := by kernel_rfl
@[push_cast] theorem Tryz.fdT64_1 : fdT Tryz.prog 64 1 = some 1 := by kernel_rfl
@[push_cast] theorem Tryz.fdT64_2 : fdT Tryz.prog 64 2 = some 2 := by kernel_rfl
@[push_cast] theorem Tryz.fdT64_3 : fdT Tryz.prog 64 3 = some 3 := by kernel_rfl
@[push_cast] theorem Tryz.fdT64_4 : fdT Tryz.prog 64 4 = some 4 := by kernel_rfl
@[push_cast] theorem Tryz.fdT79_0 : fdT Tryz.prog 79 0 = some 0 := by kernel_rfl
@[push_cast] theorem Tryz.fdT79_1 : fdT Tryz.prog 79 1 = some 1 := by kernel_rfl
@[push_cast] theorem Tryz.fdT85_0 : fdT Tryz.prog 85 0 = some 0 := by kernel_rfl
@[push_cast] theorem Tryz.fdT85_1 : fdT Tryz.prog 85 1 = some 1 := by kernel_rfl
@[push_cast] theorem Tryz.fdT88_0 : fdT Tryz.prog 88 0 = some 0 := by kernel_rfl
@[push_cast] theorem Tryz.fdT88_1 : fdT Tryz.prog 88 1 = some 1 := by kernel_rfl
@[push_cast] theorem Tryz.fdT88_2 : fdT Tryz.prog 88 2 = some 2 := by kernel_rfl
@[push_cast] theorem Tryz.fdT88_3 : fdT Tryz.prog 88 3 = some 3 := by kernel_rfl
@[push_cast] theorem Tryz.fdT155_0 : fdT Tryz.prog 155 0 = some 0 := by kernel_rfl
@[push_cast] theorem Tryz.fdT155_6 : fdT Tryz.prog 155 6 = some 6 := by kernel_rfl
@[push_cast] theorem Tryz.fdT194_0 : fdT Tryz.prog 194 0 = some 0 := by kernel_rfl
@[push_cast] theorem Tryz.fdT194_1 : fdT Tryz.prog 194 1 = some 1 := by kernel_rfl
@[push_cast] theorem Tryz.fdT249_0 : fdT Tryz.prog 249 0 = some 0 := by kernel_rfl
@[push_cast] theorem Tryz.fdT249_1 : fdT Tryz.prog 249 1 = some 1 := by kernel_rfl
@[push_cast] theorem Tryz.fdT270_0 : fdT Tryz.prog 270 0 = some 0 := by kernel_rfl
@[push_cast] theorem Tryz.fdT270_1 : fdT Tryz.prog 270 1 = some 1 := by kernel_rfl
@[push_cast] theorem Tryz.isS9 : isS Tryz.prog 9 = True := eq_true Tryz.underlying9
@[push_cast] theorem Tryz.slT22 : slT Tryz.prog 22 = some (64, 5) := by kernel_rfl
@[push_cast] theorem Tryz.slT23 : slT Tryz.prog 23 = some (45, 5) := by kernel_rfl
@[push_cast] theorem Tryz.slT29 : slT Tryz.prog 29 = some (37, 3) := by kernel_rfl
@[push_cast] theorem Tryz.slT42 : slT Tryz.prog 42 = some (9, 1) := by kernel_rfl
@[push_cast] theorem Tryz.slT43 : slT Tryz.prog 43 = some (3, 1) := by kernel_rfl
@[push_cast] theorem Tryz.slT62 : slT Tryz.prog 62 = some (88, 4) := by kernel_rfl
@[push_cast] theorem Tryz.slT70 : slT Tryz.prog 70 = some (79, 2) := by kernel_rfl
@[push_cast] theorem Tryz.slT80 : slT Tryz.prog 80 = none := by kernel_rfl
@[push_cast] theorem Tryz.ixT80 : ixT Tryz.prog 80 = some 2 := by kernel_rfl
@[push_cast] theorem Tryz.arT80 : arT Tryz.prog 80 = some (2, 3, 1) := by kernel_rfl
@[push_cast] theorem Tryz.slT86 : slT Tryz.prog 86 = some (85, 2) := by kernel_rfl
@[push_cast] theorem Tryz.slT158 : slT Tryz.prog 158 = some (155, 7) := by kernel_rfl
@[push_cast] theorem Tryz.slT172 : slT Tryz.prog 172 = none := by kernel_rfl
@[push_cast] theorem Tryz.ixT172 : ixT Tryz.prog 172 = some 4 := by kernel_rfl
@[push_cast] theorem Tryz.arT172 : arT Tryz.prog 172 = some (4, 9, 1) := by kernel_rfl
@[push_cast] theorem Tryz.slT192 : slT Tryz.prog 192 = some (5, 1) := by kernel_rfl
@[push_cast] theorem Tryz.slT235 : slT Tryz.prog 235 = none := by kernel_rfl
@[push_cast] theorem Tryz.arT235 : arT Tryz.prog 235 = some (25, 155, 7) := by kernel_rfl
@[push_cast] theorem Tryz.slT247 : slT Tryz.prog 247 = some (249, 2) := by kernel_rfl
@[push_cast] theorem Tryz.slT257 : slT Tryz.prog 257 = none := by kernel_rfl
@[push_cast] theorem Tryz.ixT257 : ixT Tryz.prog 257 = some 24 := by kernel_rfl
@[push_cast] theorem Tryz.arT257 : arT Tryz.prog 257 = some (24, 5, 1) := by kernel_rfl
@[push_cast] theorem Tryz.slT268 : slT Tryz.prog 268 = none := by kernel_rfl
@[push_cast] theorem Tryz.ixT268 : ixT Tryz.prog 268 = some 256 := by kernel_rfl
@[push_cast] theorem Tryz.arT268 : arT Tryz.prog 268 = some (256, 5, 1) := by kernel_rfl
@[push_cast] theorem Tryz.slT271 : slT Tryz.prog 271 = none := by kernel_rfl
@[push_cast] theorem Tryz.arT271 : arT Tryz.prog 271 = some (16, 270, 2) := by kernel_rfl
@[push_cast] theorem Tryz.slT277 : slT Tryz.prog 277 = none := by kernel_rfl
@[push_cast] theorem Tryz.ixT277 : ixT Tryz.prog 277 = some 20 := by kernel_rfl
@[push_cast] theorem Tryz.arT277 : arT Tryz.prog 277 = some (20, 146, 1) := by kernel_rfl
@[push_cast] theorem Tryz.slT278 : slT Tryz.prog 278 = none := by kernel_rfl
@[push_cast] theorem Tryz.ixT278 : ixT Tryz.prog 278 = some 65 := by kernel_rfl
@[push_cast] theorem Tryz.arT278 : arT Tryz.prog 278 = some (65, 5, 1) := by kernel_rfl
@[push_cast] theorem Tryz.slT281 : slT Tryz.prog 281 = none := by kernel_rfl
@[push_cast] theorem Tryz.ixT281 : ixT Tryz.prog 281 = some 32 := by kernel_rfl
@[push_cast] theorem Tryz.arT281 : arT Tryz.prog 281 = some (32, 5, 1) := by kernel_rfl
@[push_cast] theorem Tryz.slT282 : slT Tryz.prog 282 = none := by kernel_rfl
@[push_cast] theorem Tryz.ixT282 : ixT Tryz.prog 282 = some 64 := by kernel_rfl
@[push_cast] theorem Tryz.arT282 : arT Tryz.prog 282 = some (64, 5, 1) := by kernel_rfl
@[push_cast] theorem Tryz.plT37 : plT Tryz.prog 37 = some [(0, 1), (1, 1), (2, 1)] := by kernel_rfl
@[push_cast] theorem Tryz.plT45 : plT Tryz.prog 45 = some [(0, 1), (1, 1), (2, 1), (3, 1), (4, 1)] := by kernel_rfl
@[push_cast] theorem Tryz.plT64 : plT Tryz.prog 64 = some [(0, 1), (1, 1), (2, 1), (3, 1), (4, 1)] := by kernel_rfl
@[push_cast] theorem Tryz.plT79 : plT Tryz.prog 79 = some [(0, 1), (1, 1)] := by kernel_rfl
@[push_cast] theorem Tryz.plT85 : plT Tryz.prog 85 = some [(0, 1), (1, 1)] := by kernel_rfl
@[push_cast] theorem Tryz.plT88 : plT Tryz.prog 88 = some [(0, 1), (1, 1), (2, 1), (3, 1)] := by kernel_rfl
@[push_cast] theorem Tryz.plT94 : plT Tryz.prog 94 = some [(0, 1), (1, 1)] := by kernel_rfl
@[push_cast] theorem Tryz.plT115 : plT Tryz.prog 115 = some [(0, 1), (1, 1)] := by kernel_rfl
@[push_cast] theorem Tryz.plT155 : plT Tryz.prog 155 = some [(0, 1), (1, 1), (2, 1), (3, 1), (4, 1), (5, 1), (6, 1)] := by kernel_rfl
@[push_cast] theorem Tryz.plT172 : plT Tryz.prog 172 = some [(0, 1), (1, 1), (2, 1), (3, 1)] := by kernel_rfl
@[push_cast] theorem Tryz.plT249 : plT Tryz.prog 249 = some [(0, 1), (1, 1)] := by kernel_rfl
@[push_cast] theorem Tryz.apT22 : apT Tryz.prog 22 = some (64, 5, 64) := by kernel_rfl
@[push_cast] theorem Tryz.apT23 : apT Tryz.prog 23 = some (45, 5, 80) := by kernel_rfl
@[push_cast] theorem Tryz.apT29 : apT Tryz.prog 29 = some (37, 3, 40) := by kernel_rfl
@[push_cast] theorem Tryz.apT42 : apT Tryz.prog 42 = some (9, 1, 16) := by kernel_rfl
@[push_cast] theorem Tryz.apT43 : apT Tryz.prog 43 = some (3, 1, 8) := by kernel_rfl
@[push_cast] theorem Tryz.apT62 : apT Tryz.prog 62 = some (88, 4, 64) := by kernel_rfl
@[push_cast] theorem Tryz.apT70 : apT Tryz.prog 70 = some (79, 2, 24) := by kernel_rfl
@[push_cast] theorem Tryz.apT86 : apT Tryz.prog 86 = some (85, 2, 24) := by kernel_rfl
@[push_cast] theorem Tryz.apT158 : apT Tryz.prog 158 = some (155, 7, 80) := by kernel_rfl
@[push_cast] theorem Tryz.apT192 : apT Tryz.prog 192 = some (5, 1, 1) := by kernel_rfl
@[push_cast] theorem Tryz.apT247 : apT Tryz.prog 247 = some (249, 2, 16) := by kernel_rfl
@[push_cast] theorem Tryz.mapSh91 : mapSh Tryz.prog 91 = some [.str] := by kernel_rfl
@[push_cast] theorem Tryz.mapSh93 : mapSh Tryz.prog 93 = some [.str, .str] := by kernel_rfl
@[push_cast] theorem Tryz.mapSh110 : mapSh Tryz.prog 110 = some [.int .i64, .str] := by kernel_rfl
@[push_cast] theorem Tryz.mapSh116 : mapSh Tryz.prog 116 = some [.int .i64] := by kernel_rfl
@[push_cast] theorem Tryz.intT2 : intT Tryz.prog 2 = some .i64 := by kernel_rfl
@[push_cast] theorem Tryz.intT3 : intT Tryz.prog 3 = some .i64 := by kernel_rfl
@[push_cast] theorem Tryz.intT5 : intT Tryz.prog 5 = some .u8 := by kernel_rfl
@[push_cast] theorem Tryz.intT9 : intT Tryz.prog 9 = none := by kernel_rfl
@[push_cast] theorem Tryz.strB9 : strB Tryz.prog 9 = true := by kernel_rfl
@[push_cast] theorem Tryz.intT12 : intT Tryz.prog 12 = some .u64 := by kernel_rfl
@[push_cast] theorem Tryz.intT21 : intT Tryz.prog 21 = some .i32 := by kernel_rfl
@[push_cast] theorem Tryz.intT146 : intT Tryz.prog 146 = some .u64 := by kernel_rfl
@[push_cast] theorem Tryz.intT149 : intT Tryz.prog 149 = some .u64 := by kernel_rfl
@[push_cast] theorem Tryz.intT189 : intT Tryz.prog 189 = some .u32 := by kernel_rfl
@[push_cast] theorem Tryz.intT192 : intT Tryz.prog 192 = none := by kernel_rfl
@[push_cast] theorem Tryz.bysT192 : bysT Tryz.prog 192 = true := by kernel_rfl
@[push_cast] theorem Tryz.intT237 : intT Tryz.prog 237 = some .u64 := by kernel_rfl
@[push_cast] theorem Tryz.isB4 : isB Tryz.prog 4 = True := eq_true Tryz.underlying4
@[push_cast] theorem Tryz.eqT37 : eqT Tryz.prog 37 = some [2, 2, 0] := by kernel_rfl
@[push_cast] theorem Tryz.eqT79 : eqT Tryz.prog 79 = some [2, 0] := by kernel_rfl
end Go.Proofs

/- Lists ascending by a strict total order: insertion, sorting, compacting. Plain Lean; no condition of its own. -/
namespace Go.Or
open Go
structure STO {α : Type} (lt : α → α → Bool) : Prop where
  irr : ∀ x, lt x x = false
  tr : ∀ x y z, lt x y = true → lt y z = true → lt x z = true
  tri : ∀ x y, lt x y = false → lt y x = false → x = y
variable {α : Type} {lt : α → α → Bool}
theorem STO.ne (h : STO lt) {x y : α} (a : lt x y = true) : x ≠ y := fun e => by subst e; rw [h.irr] at a; cases a
def put [DecidableEq α] (lt : α → α → Bool) : List α → α → Bool → List α
  | [], n, done => if done then [] else [n]
  | x :: r, n, done => if done = false ∧ x ≠ n ∧ lt n x = true then n :: x :: put lt r n true else x :: put lt r n (done || decide (x = n))
section
variable [DecidableEq α]
theorem put_true (n : α) : ∀ l : List α, put lt l n true = l
  | [] => rfl
  | x :: r => by unfold put; rw [if_neg (by simp)]; simp [put_true n r]
theorem put_len (n : α) : ∀ (l : List α) (d : Bool), (put lt l n d).length ≤ l.length + 1
  | [], d => by unfold put; cases d <;> simp
  | x :: r, d => by
    unfold put
    split
    · rw [put_true]; simp
    · have := put_len n r (d || decide (x = n)); simp; omega
/-! ### compacting a sorted list -/
end
/-! ### strings -/
def ltS (x y : List UInt8) : Bool := Op.bytesLess x y
def ltI (x y : Int) : Bool := decide (x < y)
end Go.Or

/- Records and facets, in plain data. No condition. -/
namespace Go.Fc
open Go Go.Ax Go.Or
abbrev Str := List UInt8
structure Sb where
  code : Int
  val : Str
  deriving DecidableEq, Inhabited
structure Fld where
  tag : Str
  ind : Str
  subs : List Sb
  auth : Int
  deriving DecidableEq, Inhabited
structure Rec where
  id : Int
  ver : Int
  kind : Int
  lang : Str
  fields : List Fld
  deriving DecidableEq, Inhabited
structure Bk where
  val : Str
  cnt : Int
  deriving DecidableEq, Inhabited
def Sb.ds (s : Sb) : List D := [.int .u8 s.code, .str s.val]
def Fld.ds (f : Fld) : List D := [.str f.tag, .str f.ind, .lst 2 (f.subs.map Sb.ds), .int .i64 f.auth]
def Rec.ds (r : Rec) : List D := [.int .i64 r.id, .int .i64 r.ver, .int .i64 r.kind, .str r.lang, .lst 4 (r.fields.map Fld.ds)]
def Bk.ds (b : Bk) : List D := [.str b.val, .int .i64 b.cnt]
def sD (s : Str) : List D := [.str s]
def iD (n : Int) : List D := [.int .i64 n]
@[push_cast] theorem Sb.ds_eq (s : Sb) : s.ds = [.int .u8 s.code, .str s.val] := rfl
@[push_cast] theorem Fld.ds_eq (f : Fld) : f.ds = [.str f.tag, .str f.ind, .lst 2 (f.subs.map Sb.ds), .int .i64 f.auth] := rfl
@[push_cast] theorem Rec.ds_eq (r : Rec) : r.ds = [.int .i64 r.id, .int .i64 r.ver, .int .i64 r.kind, .str r.lang, .lst 4 (r.fields.map Fld.ds)] := rfl
@[push_cast] theorem Bk.ds_eq (b : Bk) : b.ds = [.str b.val, .int .i64 b.cnt] := rfl
@[push_cast] theorem sD_eq (s : Str) : sD s = [.str s] := rfl
@[push_cast] theorem iD_eq (n : Int) : iD n = [.int .i64 n] := rfl
attribute [push_cast] Nat.min_self
theorem take_next {α : Type} {l : List α} {k : Nat} (h : k < l.length) : l.take (k + 1) = l.take k ++ [l[k]] := by
  rw [List.take_add_one, List.getElem?_eq_getElem h]; rfl
theorem drop_cons {α : Type} {l : List α} {k : Nat} (h : k < l.length) : l.drop k = l[k] :: l.drop (k + 1) := List.drop_eq_getElem_cons h
/-! ### fields -/
def getS (l : List Sb) (c : Int) : Str × Bool :=
  match l.find? (fun s => decide (s.code = c)) with
  | some s => (s.val, true)
  | none => ([], false)
def inCodes (codes : Str) (c : Int) : Bool := codes.isEmpty || codes.any (fun x => decide ((x.toNat : Int) = c))
def allS (l : List Sb) (codes : Str) : List Str := (l.filter fun s => inCodes codes s.code).map Sb.val
/-! ### years -/
/-! ### steps of loops -/
theorem eq_step {α : Type} {a b : List α} {k : Nat} (ha : k < a.length) (hb : k < b.length) : (a.drop k = b.drop k) ↔ (a[k] = b[k] ∧ a.drop (k + 1) = b.drop (k + 1)) := by
  rw [drop_cons ha, drop_cons hb]
  exact ⟨fun h => by injection h with h1 h2; exact ⟨h1, h2⟩, fun h => by rw [h.1, h.2]⟩
theorem eq_end {α : Type} {a b : List α} {k : Nat} (ha : ¬ k < a.length) (h : a.length = b.length) : a.drop k = b.drop k := by
  rw [List.drop_eq_nil_of_le (by omega), List.drop_eq_nil_of_le (by omega)]
theorem mem_step {α : Type} {l : List α} {k : Nat} {n : α} (h : k < l.length) : (n ∈ l.drop k) ↔ (l[k] = n ∨ n ∈ l.drop (k + 1)) := by
  rw [drop_cons h, List.mem_cons]
  exact ⟨fun h => h.imp Eq.symm id, fun h => h.imp Eq.symm id⟩
theorem mem_end {α : Type} {l : List α} {k : Nat} {n : α} (h : ¬ k < l.length) : ¬ n ∈ l.drop k := by
  rw [List.drop_eq_nil_of_le (by omega)]; simp
theorem allS_len (l : List Sb) (codes : Str) : (allS l codes).length ≤ l.length := by
  unfold allS
  rw [List.length_map]; exact List.length_filter_le _ _
theorem allS_mem {l : List Sb} {codes : Str} {v : Str} (h : v ∈ allS l codes) : ∃ s ∈ l, s.val = v := by
  unfold allS at h
  obtain ⟨s, hs, rfl⟩ := List.mem_map.1 h
  exact ⟨s, (List.mem_filter.1 hs).1, rfl⟩
/-! ### validity -/
end Go.Fc
