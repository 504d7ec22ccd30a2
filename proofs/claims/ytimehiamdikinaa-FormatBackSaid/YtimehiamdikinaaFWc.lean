/- Walks of the chapter on formats, third part. -/
import Derived.Test.YtimehiamdikinaaFWb
set_option linter.all false
namespace Go.Proofs
open Go Go.Ax Go.Fm
set_option maxRecDepth 100000
variable {Γ : List (Nat × List D)}
theorem c31 (s : List UInt8) (hl : s.length ≤ 1000000) : AFn Try.prog Γ 31 [.c (.d (.str s))] [.d (.bool (nameB s))] := by
  refine AFn.vc [] Try.func31 rfl Try.mixed (by kernel_rfl) Try.ntmps31 Try.results31 (by simp) ?_
  push_cast
  refine LoopV.cnt Try.mixed [0] s.length (fun k => [(3, .c (.d (.int .i64 k)))]) (fun k => s.all okc = (s.drop k).all okc) (by simp) ?_ (by push_cast)
  intro k hk hinv
  push_cast
  refine ⟨fun h => ?_, fun h => ?_⟩
  · have hk' : k < s.length := by omega
    rw [all_drop okc hk'] at hinv
    have hd : okc s[k] = true ↔ (97 ≤ s[k].toNat ∧ s[k].toNat ≤ 122) ∨ (48 ≤ s[k].toNat ∧ s[k].toNat ≤ 57) ∨ s[k].toNat = 45 := by simp [okc]; omega
    have k1 : okc s[k] = true → s.all okc = (List.drop (k + 1) s).all okc := fun a => by rw [hinv, a]; rfl
    have k2 : okc s[k] = false → false = nameB s := fun a => by unfold nameB; rw [hinv, a]; rfl
    have k3 : ¬ ((97 ≤ s[k].toNat ∧ s[k].toNat ≤ 122) ∨ (48 ≤ s[k].toNat ∧ s[k].toNat ≤ 57) ∨ s[k].toNat = 45) → okc s[k] = false := fun a => by
      cases e : okc s[k]
      · rfl
      · exact absurd (hd.1 e) a
    repeat' (first | apply And.intro | intro _ | refine Exists.intro (by omega) ?_)
    all_goals first | omega | (exact k1 (hd.2 (by omega))) | (exact k2 (k3 (by omega)))
  · have e : nameB s = inB s.length 1 20 := by unfold nameB; rw [hinv, drop_end (by omega)]; rfl
    rw [e]; unfold inB
    refine ⟨fun a => ?_, fun a => ?_⟩
    · rw [decide_eq_true a]; rfl
    · rw [decide_eq_false (by omega)]; rfl
theorem c35 (l : List Fmt) (id : Int) (hl : l.length ≤ 1000000) : AFn Try.prog Γ 35 [.c (.d (.lst 7 (l.map Fmt.ds))), .c (.d (.int .i64 id))] [.d (.int .i64 (findF l id))] := by
  refine AFn.vc [] Try.func35 rfl Try.mixed (by kernel_rfl) Try.ntmps35 Try.results35 (by simp) ?_
  push_cast
  refine LoopV.cnt Try.mixed [0, 1] l.length (fun k => [(5, .c (.d (.int .i64 k)))]) (fun k => findF l id = fI (fun f => decide (f.id = id)) k (l.drop k)) (by simp [findF]) ?_ (by push_cast)
  intro k hk hinv
  push_cast
  refine ⟨fun h => ?_, fun h => by rw [hinv, drop_end (by omega)]; rfl⟩
  have hk' : k < l.length := by omega
  rw [drop_cons hk', fI] at hinv
  refine ⟨hk', fun a => ?_, fun a => ⟨⟨by omega, by omega⟩, hk', ?_⟩⟩
  · rw [hinv, if_pos (by simp [a])]
  · rw [hinv, if_neg (by simp [a])]
theorem c37 (l : List Int) (n : Int) (hl : l.length ≤ 1000000) : AFn Try.prog Γ 37 [.c (.bor 1 (l.map iD)), .c (.d (.int .i64 n))] [.d (.bool (inF l n))] := by
  refine AFn.vc [] Try.func37 rfl Try.mixed (by kernel_rfl) Try.ntmps37 Try.results37 (by simp) ?_
  push_cast
  refine LoopV.cnt Try.mixed [0, 1] l.length (fun k => [(5, .c (.d (.int .i64 k)))]) (fun k => inF l n = (l.drop k).any fun x => decide (x = n)) (by simp [inF]) ?_ (by push_cast)
  intro k hk hinv
  push_cast
  refine ⟨fun h => ?_, fun h => by rw [hinv, drop_end (by omega)]; rfl⟩
  have hk' : k < l.length := by omega
  rw [any_drop _ hk'] at hinv
  refine ⟨hk', fun a => ?_, fun a => ⟨⟨by omega, by omega⟩, hk', ?_⟩⟩
  · rw [hinv]; simp [a]
  · rw [hinv]; simp [a]
theorem c25 (l : List Int) (n : Int) (hl : l.length ≤ 1000000) : AFn Try.prog Γ 25 [.c (.bor 1 (l.map iD)), .c (.d (.int .i64 n))] [.d (.bool (inF l n))] := by
  refine AFn.vc [] Try.func25 rfl Try.mixed (by kernel_rfl) Try.ntmps25 Try.results25 (by simp) ?_
  push_cast
  refine LoopV.cnt Try.mixed [0, 1] l.length (fun k => [(5, .c (.d (.int .i64 k)))]) (fun k => inF l n = (l.drop k).any fun x => decide (x = n)) (by simp [inF]) ?_ (by push_cast)
  intro k hk hinv
  push_cast
  refine ⟨fun h => ?_, fun h => by rw [hinv, drop_end (by omega)]; rfl⟩
  have hk' : k < l.length := by omega
  rw [any_drop _ hk'] at hinv
  refine ⟨hk', fun a => ?_, fun a => ⟨⟨by omega, by omega⟩, hk', ?_⟩⟩
  · rw [hinv]; simp [a]
  · rw [hinv]; simp [a]
theorem c30 (l : List Fmt) (f : Fmt) (hl : l.length ≤ 1000000) (ht : f.to.length ≤ 1000000) : AFn Try.prog Γ 30 [.c (.d (.lst 7 (l.map Fmt.ds))), .agg (f.ds.map C.d)] [.d (.int .i64 (targF l f))] := by
  refine AFn.vc [] Try.func30 rfl Try.mixed (by kernel_rfl) Try.ntmps30 Try.results30 (by simp) ?_
  push_cast
  refine LoopV.cnt Try.mixed [0, 3, 10, 11] f.to.length (fun k => [(12, .c (.d (.int .i64 k)))]) (fun k => ascF f.to = firstE (fun k => if 0 < k ∧ f.to.getD k 0 ≤ f.to.getD (k - 1) 0 then 7 else 0) (f.to.length - k) k) rfl ?_ (by push_cast)
  intro k hk hinv
  push_cast
  refine ⟨fun h => ?_, fun h => ?_⟩
  · have hk' : k < f.to.length := by omega
    rw [firstE_step hk'] at hinv
    have g1 : f.to.getD k 0 = f.to[k] := by simp [List.getElem?_eq_getElem hk']
    have hkm : ((k : Int) - 1).toNat = k - 1 := by omega
    have g2 : f.to.getD (k - 1) 0 = f.to[k - 1] := by simp [List.getElem?_eq_getElem (show k - 1 < f.to.length by omega)]
    simp only [hkm]
    rw [g1, g2] at hinv
    refine ⟨hk', fun a => ⟨⟨by omega, by omega⟩, by omega, by omega, fun b => ?_, fun b => ⟨⟨by omega, by omega⟩, hk', ?_⟩⟩, fun a => ⟨⟨by omega, by omega⟩, hk', ?_⟩⟩
    · have e : ascF f.to = 7 := by rw [hinv, if_pos (⟨by omega, b⟩ : 0 < k ∧ f.to[k] ≤ f.to[k - 1])]; rfl
      unfold targF; rw [e]; rfl
    · rw [hinv, if_neg (by omega : ¬ (0 < k ∧ f.to[k] ≤ f.to[k - 1])), if_pos rfl]
    · rw [hinv, if_neg (by omega : ¬ (0 < k ∧ f.to[k] ≤ f.to[k - 1])), if_pos rfl]
  · have e0 : targF l f = aimF l f := by
      unfold targF; rw [hinv, firstE_end (by omega), if_pos rfl]
    rw [e0]
    clear hinv
    refine LoopV.cnt Try.mixed [0, 3, 31, 32] f.to.length (fun k => [(33, .c (.d (.int .i64 k)))]) (fun k => aimF l f = firstE (fun k => if f.to.getD k 0 = f.id then 11 else if findF l (f.to.getD k 0) < 0 then 9 else 0) (f.to.length - k) k) rfl ?_ (by push_cast)
    intro j hj hinv
    push_cast
    refine ⟨fun h => ?_, fun h => by rw [hinv, firstE_end (by omega)]⟩
    have hj' : j < f.to.length := by omega
    rw [firstE_step hj'] at hinv
    have g1 : f.to.getD j 0 = f.to[j] := by simp [List.getElem?_eq_getElem hj']
    rw [g1] at hinv
    refine ⟨hj', fun a => ?_, fun a => ?_⟩
    · rw [hinv, if_pos a]; rfl
    · refine CallL.q (c32 l f.to[j] hl) ?_
      push_cast
      rw [if_neg a] at hinv
      refine ⟨fun b => ?_, fun b => ⟨⟨by omega, by omega⟩, hj', ?_⟩⟩
      · have e9 : (if findF l f.to[j] < 0 then (9 : Int) else 0) = 9 := if_pos b
        rw [e9] at hinv; rw [hinv]; rfl
      · have e9 : (if findF l f.to[j] < 0 then (9 : Int) else 0) = 0 := if_neg (by omega)
        rw [e9, if_pos rfl] at hinv; exact hinv
theorem c22 (a b : Fmt) (ha : a.to.length ≤ 1000000) (hb : b.to.length ≤ 1000000) : AFn Try.prog Γ 22 [.agg (a.ds.map C.d), .agg (b.ds.map C.d)] [.d (.bool (decide (a.id = b.id ∧ a.since = b.since ∧ a.until_ = b.until_ ∧ a.base = b.base ∧ a.name = b.name ∧ a.magic = b.magic) && (a.to == b.to)))] := by
  refine AFn.vc [] Try.func22 rfl Try.mixed (by kernel_rfl) Try.ntmps22 Try.results22 (by simp) ?_
  push_cast
  refine ⟨fun h1 => ⟨fun h2 => ⟨fun h3 => ⟨fun h4 => ⟨fun h5 => ⟨fun h6 => ?_, fun h6 => by simp [h6]⟩, fun h5 => by simp [h5]⟩, fun h4 => by simp [h4]⟩, fun h3 => by simp [h3]⟩, fun h2 => by simp [h2]⟩, fun h1 => by simp [h1]⟩
  refine CallL.q (c13 a.to b.to ha hb) ?_
  push_cast
  simp [h1, h2, h3, h4, h5, h6]
theorem c11 (l : List Fmt) (hn : ∀ f ∈ l, f.name.length ≤ 1000000 ∧ f.to.length ≤ 1000000) : AFn Try.prog Γ 11 [.c (.d (.lst 7 (l.map Fmt.ds)))] [.d (.int .i64 (rightF l))] := by
  refine AFn.vc [] Try.func11 rfl Try.mixed (by kernel_rfl) Try.ntmps11 Try.results11 (by simp) ?_
  push_cast
  refine ⟨fun h => ?_, fun h => ?_⟩
  · unfold rightF; rw [if_pos (by omega)]
  have hr1 : ∀ v, firstE (oneE l) l.length 0 = v → v ≠ 0 → v = rightF l := fun v hv h0 => by
    unfold rightF; rw [if_neg (by omega), if_pos (by rw [hv]; exact h0), hv]
  refine LoopV.cnt Try.mixed [0, 14, 15] l.length (fun k => [(16, .c (.d (.int .i64 k)))]) (fun k => firstE (oneE l) l.length 0 = firstE (oneE l) (l.length - k) k) rfl ?_ (by push_cast)
  intro k hk hinv
  push_cast
  refine ⟨fun h2 => ?_, fun h2 => ?_⟩
  · have hk' : k < l.length := by omega
    rw [firstE_step hk'] at hinv
    have g1 : l.getD k noFmt = l[k] := by simp [List.getElem?_eq_getElem hk']
    have hkm : ((k : Int) - 1).toNat = k - 1 := by omega
    have g2 : l.getD (k - 1) noFmt = l[k - 1] := by simp [List.getElem?_eq_getElem (show k - 1 < l.length by omega)]
    have hone : oneE l k = if 0 < k ∧ l[k].id ≤ l[k - 1].id then 7 else checkF l[k] := by unfold oneE; rw [g1, g2]
    simp only [hkm]
    refine ⟨hk', fun a => ⟨⟨by omega, by omega⟩, by omega, by omega, fun b => ?_, fun b => ?_⟩, fun a => ?_⟩
    · rw [if_pos (⟨by omega, b⟩ : 0 < k ∧ l[k].id ≤ l[k - 1].id)] at hone
      rw [hone] at hinv
      exact hr1 7 hinv (by omega)
    all_goals
      rw [if_neg (by omega : ¬ (0 < k ∧ l[k].id ≤ l[k - 1].id))] at hone
      rw [hone] at hinv
      refine CallL.q (c27 l[k] (hn _ (List.getElem_mem hk')).1) ?_
      push_cast
      refine ⟨fun d => ?_, fun d => ⟨⟨by omega, by omega⟩, hk', ?_⟩⟩
      · rw [if_neg d] at hinv; exact hr1 _ hinv d
      · rw [if_pos d] at hinv; exact hinv
  have h01 : firstE (oneE l) l.length 0 = 0 := by rw [hinv, firstE_end (by omega)]
  have hr2 : ∀ v, firstE (dupE l) l.length 0 = v → v ≠ 0 → v = rightF l := fun v hv h0 => by
    unfold rightF; rw [if_neg (by omega), if_neg (by rw [h01]; simp), if_pos (by rw [hv]; exact h0), hv]
  clear hinv h2 hk
  refine LoopV.cnt Try.mixed [0, 40, 41] l.length (fun k => [(42, .c (.d (.int .i64 k)))]) (fun k => firstE (dupE l) l.length 0 = firstE (dupE l) (l.length - k) k) rfl ?_ (by push_cast)
  intro k hk hinv
  push_cast
  refine ⟨fun h2 => ?_, fun h2 => ?_⟩
  · have hk' : k < l.length := by omega
    rw [firstE_step hk'] at hinv
    have g1 : l.getD k noFmt = l[k] := by simp [List.getElem?_eq_getElem hk']
    have hone : dupE l k = if (l.take k).any (dupB l[k]) = true then 7 else 0 := by unfold dupE; rw [g1]
    refine ⟨hk', ⟨by omega, by omega⟩, ?_⟩
    refine CallL.q (c28 (l.take k) (dupB l[k]) (by simp; omega)) ?_ (.cons (ArgOk.bor (by rw [List.map_take]; rfl)) (.cons (ArgOk.clo (dss := [l[k].ds]) (c29 (Γ := []) noFmt noFmt).call rfl (fun a r h => by obtain ⟨x, rfl, rfl⟩ := h; exact c29 x l[k])) .nil))
    push_cast
    refine ⟨fun d => ?_, fun d => ⟨⟨by omega, by omega⟩, hk', ?_⟩⟩
    · rw [if_pos d] at hone; rw [hone] at hinv; exact hr2 7 hinv (by omega)
    · rw [if_neg (by rw [d]; simp)] at hone; rw [hone] at hinv; exact hinv
  have h02 : firstE (dupE l) l.length 0 = 0 := by rw [hinv, firstE_end (by omega)]
  have hr3 : rightF l = firstE (aimE l) l.length 0 := by
    unfold rightF; rw [if_neg (by omega), if_neg (by rw [h01]; simp), if_neg (by rw [h02]; simp)]
  rw [hr3]
  clear hinv h2 hk
  refine LoopV.cnt Try.mixed [0, 53, 54] l.length (fun k => [(55, .c (.d (.int .i64 k)))]) (fun k => firstE (aimE l) l.length 0 = firstE (aimE l) (l.length - k) k) rfl ?_ (by push_cast)
  intro k hk hinv
  push_cast
  refine ⟨fun h2 => ?_, fun h2 => by rw [hinv, firstE_end (by omega)]⟩
  have hk' : k < l.length := by omega
  rw [firstE_step hk'] at hinv
  have g1 : l.getD k noFmt = l[k] := by simp [List.getElem?_eq_getElem hk']
  have hone : aimE l k = targF l l[k] := by unfold aimE; rw [g1]
  rw [hone] at hinv
  refine ⟨hk', ?_⟩
  refine CallL.q (c30 l l[k] (by omega) (hn _ (List.getElem_mem hk')).2) ?_
  push_cast
  refine ⟨fun d => ?_, fun d => ⟨⟨by omega, by omega⟩, hk', ?_⟩⟩
  · rw [if_neg d] at hinv; exact hinv.symm
  · rw [if_pos d] at hinv; exact hinv
end Go.Proofs
