/- Part of a proof about this program; no condition of its own. -/
import Derived.Test.YtanbfhnmklhjiaaGreatDoorZWb
import Derived.Test.YtanbfhnmklhjiaaGreatDoorFcB
set_option linter.all false
/- Walks: validity of fields and records (reference). -/
namespace Go.Proofs
open Go Go.Ax Go.Tx Go.Fc
set_option maxRecDepth 100000
set_option maxHeartbeats 0
variable {Γ : List (Nat × List D)}
theorem c120 (f : Fld) (hs : f.sm) : AFn Tryz.prog Γ 120 [.agg (f.ds.map C.d)] [.d (.int .i64 (rightF f))] := by
  generalize hR : rightF f = R
  have k1 : tagB f.tag = false → R = 6 := fun h => by rw [← hR, rightF, if_pos h]
  have k2 : tagB f.tag = true → indB f.ind = false → R = 3 := fun h h' => by rw [← hR, rightF, if_neg (by rw [h]; simp), if_pos h']
  have k3 : tagB f.tag = true → indB f.ind = true → f.subs.length = 0 → R = 8 := fun h h' h2 => by rw [← hR, rightF, if_neg (by rw [h]; simp), if_neg (by rw [h']; simp), if_pos h2]
  have k4 : tagB f.tag = true → indB f.ind = true → ¬ f.subs.length = 0 → 16 < f.subs.length → R = 4 := fun h h' h2 h3 => by rw [← hR, rightF, if_neg (by rw [h]; simp), if_neg (by rw [h']; simp), if_neg h2, if_pos h3]
  have k5 : tagB f.tag = true → indB f.ind = true → ¬ f.subs.length = 0 → ¬ 16 < f.subs.length → R = if rightSs f.subs = 0 then (if f.auth < 0 ∨ 9999 < f.auth then 2 else 0) else rightSs f.subs := fun h h' h2 h3 => by rw [← hR, rightF, if_neg (by rw [h]; simp), if_neg (by rw [h']; simp), if_neg h2, if_neg h3]
  clear hR
  refine AFn.vc [] Tryz.func120 rfl Tryz.mixed (by kernel_rfl) Tryz.ntmps120 Tryz.results120 (by simp) ?_
  push_cast
  refine CallL.q (c166 f.tag) ?_
  push_cast
  refine ⟨fun h1 => (k1 h1).symm, fun h1 => ?_⟩
  by_cases h2 : f.ind.length = 2
  · obtain ⟨tag, ind, subs, auth⟩ := f
    simp only at h1 h2 k2 k3 k4 k5 ⊢
    obtain ⟨a, b, rfl⟩ : ∃ a b, ind = [a, b] := by
      match ind, h2 with
      | [a, b], _ => exact ⟨a, b, rfl⟩
    have hi : indB [a, b] = ((decide (a.toNat = 32) || digB a) && (decide (b.toNat = 32) || digB b)) := by
      unfold indB
      simp only [List.length_cons, List.length_nil, List.all_cons, List.all_nil]
      simp
    rw [hi] at k2 k3 k4 k5
    have k2 := k2 h1
    have k3 := k3 h1
    have k4 := k4 h1
    have k5 := k5 h1
    have ea : (((a.toNat : Nat) : Int) = 32) = True ∧ decide (a.toNat = 32) = true ∨ (((a.toNat : Nat) : Int) = 32) = False ∧ decide (a.toNat = 32) = false := by
      by_cases h : a.toNat = 32
      · exact .inl ⟨eq_true (by omega), decide_eq_true h⟩
      · exact .inr ⟨eq_false (by omega), decide_eq_false h⟩
    have eb : (((b.toNat : Nat) : Int) = 32) = True ∧ decide (b.toNat = 32) = true ∨ (((b.toNat : Nat) : Int) = 32) = False ∧ decide (b.toNat = 32) = false := by
      by_cases h : b.toNat = 32
      · exact .inl ⟨eq_true (by omega), decide_eq_true h⟩
      · exact .inr ⟨eq_false (by omega), decide_eq_false h⟩
    rcases ea with ⟨ea, ea2⟩ | ⟨ea, ea2⟩ <;> rcases eb with ⟨eb, eb2⟩ | ⟨eb, eb2⟩ <;> cases hda : digB a <;> cases hdb : digB b <;> rw [ea2, eb2, hda, hdb] at k2 k3 k4 k5
    all_goals
      push_cast [ea, eb]
      repeat
        refine CallL.q (c167 _) ?_
        push_cast [ea, eb, digI_b, hda, hdb]
      first
        | exact (k2 rfl).symm
        | (refine ⟨fun h3 => (k3 rfl (by omega)).symm, fun h3 => ⟨fun h4 => (k4 rfl (by omega) (by omega)).symm, fun h4 => ?_⟩⟩
           have k5 := k5 rfl (by omega) (by omega)
           clear k2 k3 k4
           refine LoopV.cntH Tryz.mixed [1] subs.length (fun k => [(3, .c (.d (.int .i64 k)))]) (fun _ => [.box 88 [.d (.str tag), .d (.str [a, b]), .d (.lst 2 (subs.map Sb.ds)), .d (.int .i64 auth)]]) (fun k => rightSs subs = rightSs (subs.drop k)) (by simp) ?_ (by push_cast)
           intro k hk hinv
           push_cast
           refine ⟨fun h6 => ?_, fun h6 => ?_⟩
           · have hlt : k < subs.length := by omega
             have hst := rightSs_step hlt
             rw [← hinv] at hst
             have hr : ∀ n, rightS subs[k] = n → n ≠ 0 → n = R := fun n h h' => by
               rw [h, if_neg h'] at hst
               rw [k5, hst, if_neg h']
             have hv := hs subs[k] (List.getElem_mem hlt)
             refine ⟨hlt, ?_⟩
             refine CallL.q (c168 _) ?_
             push_cast
             refine ⟨fun e1 => hr 1 (by unfold rightS; rw [if_pos e1]) (by omega), fun e1 => ⟨fun e2 => hr 8 (by unfold rightS; rw [if_neg (by rw [e1]; simp), if_pos e2]) (by omega), fun e2 => ?_⟩⟩
             refine CallL.q (c25 _ hv) ?_
             push_cast
             refine ⟨fun e3 => hr 3 (by unfold rightS; rw [if_neg (by rw [e1]; simp), if_neg e2, if_pos e3]) (by omega), fun e3 => ⟨fun e4 => hr 4 (by unfold rightS; rw [if_neg (by rw [e1]; simp), if_neg e2, if_neg (by rw [e3]; simp), if_pos (by omega)]) (by omega), fun e4 => ?_⟩⟩
             have hz : rightS subs[k] = 0 := by unfold rightS; rw [if_neg (by rw [e1]; simp), if_neg e2, if_neg (by rw [e3]; simp), if_neg (by omega)]
             rw [if_pos hz] at hst
             exact ⟨by omega, hlt, hst⟩
           · rw [rightSs_end (by omega)] at hinv
             rw [if_pos hinv] at k5
             clear hinv ea eb
             repeat' (first | apply And.intro | intro _)
             all_goals (rw [k5]; split <;> omega))
  · push_cast [show ((List.length f.ind : Int) = 2) = False from eq_false (by omega)]
    exact (k2 h1 (by unfold indB; rw [decide_eq_false h2]; rfl)).symm
end Go.Proofs

/- Walks: validity of records (reference). -/
namespace Go.Proofs
open Go Go.Ax Go.Tx Go.Fc
set_option maxRecDepth 100000
set_option maxHeartbeats 0
variable {Γ : List (Nat × List D)}
theorem c58 (r : Rec) (hs : r.sm) : AFn Tryz.prog Γ 58 [.agg (r.ds.map C.d)] [.d (.int .i64 (rightR r))] := by
  generalize hR : rightR r = R
  obtain ⟨id, ver, kind, lang, fields⟩ := r
  unfold rightR at hR
  simp only at hR
  have k1 : (id < 0 ∨ 9999 < id) → R = 2 := fun h => by rw [← hR, if_pos h]
  have k2 : ¬ (id < 0 ∨ 9999 < id) → (ver < 1 ∨ 3 < ver) → R = 20 := fun h h' => by rw [← hR, if_neg h, if_pos h']
  have k3 : ¬ (id < 0 ∨ 9999 < id) → ¬ (ver < 1 ∨ 3 < ver) → (kind < 1 ∨ 4 < kind) → R = 1 := fun h h' h2 => by rw [← hR, if_neg h, if_neg h', if_pos h2]
  have k4 : ¬ (id < 0 ∨ 9999 < id) → ¬ (ver < 1 ∨ 3 < ver) → ¬ (kind < 1 ∨ 4 < kind) → R = if lang.length = 3 then (if langB lang = false then 3 else if 64 < fields.length then 4 else rightFs fields) else 3 := fun h h' h2 => by rw [← hR, if_neg h, if_neg h', if_neg h2]
  clear hR
  refine AFn.vc [] Tryz.func58 rfl Tryz.mixed (by kernel_rfl) Tryz.ntmps58 Tryz.results58 (by simp) ?_
  push_cast
  refine ⟨fun a1 => ⟨fun a2 => (k1 (by omega)).symm, fun a2 => ⟨fun b1 => ⟨fun b2 => (k2 (by omega) (by omega)).symm, fun b2 => ⟨fun c1 => ⟨fun c2 => (k3 (by omega) (by omega) (by omega)).symm, fun c2 => ?_⟩, fun c1 => (k3 (by omega) (by omega) (by omega)).symm⟩⟩, fun b1 => (k2 (by omega) (by omega)).symm⟩⟩, fun a1 => (k1 (by omega)).symm⟩
  have k4 := k4 (by omega) (by omega) (by omega)
  clear k1 k2 k3
  refine ⟨fun h3 => by rw [k4, if_neg (by omega)], fun h3 => ?_⟩
  rw [if_pos (by omega)] at k4
  refine LoopV.cntH Tryz.mixed [1] 3 (fun k => [(3, .c (.d (.int .i64 k)))]) (fun _ => [.box 64 [.d (.int .i64 id), .d (.int .i64 ver), .d (.int .i64 kind), .d (.str lang), .d (.lst 4 (fields.map Fld.ds))]]) (fun k => langB lang = langB (lang.drop k)) (by simp) ?_ (by push_cast)
  intro k hk hinv
  push_cast
  refine ⟨fun h6 => ?_, fun h6 => ?_⟩
  · have hlt : k < lang.length := by omega
    have hst : langB (lang.drop k) = (decide (97 ≤ lang[k].toNat ∧ lang[k].toNat ≤ 122) && langB (lang.drop (k + 1))) := by rw [Fc.drop_cons hlt]; rfl
    rw [hst] at hinv
    have hbad : ¬ (97 ≤ lang[k].toNat ∧ lang[k].toNat ≤ 122) → 3 = R := fun h => by
      rw [decide_eq_false h, Bool.false_and] at hinv
      rw [k4, if_pos hinv]
    refine ⟨hlt, fun e1 => ⟨hlt, fun e2 => hbad (by omega), fun e2 => ⟨by omega, by omega, ?_⟩⟩, fun e1 => hbad (by omega)⟩
    rw [hinv, decide_eq_true (by omega), Bool.true_and]
  · have hd : langB lang = true := by rw [hinv, List.drop_eq_nil_of_le (by omega)]; rfl
    rw [if_neg (by rw [hd]; simp)] at k4
    clear hinv
    refine ⟨fun h7 => by rw [k4, if_pos (by omega)], fun h7 => ?_⟩
    rw [if_neg (by omega)] at k4
    refine LoopV.cntH Tryz.mixed [1] fields.length (fun k => [(4, .c (.d (.int .i64 k)))]) (fun _ => [.box 64 [.d (.int .i64 id), .d (.int .i64 ver), .d (.int .i64 kind), .d (.str lang), .d (.lst 4 (fields.map Fld.ds))]]) (fun k => rightFs fields = rightFs (fields.drop k)) (by simp) ?_ (by push_cast)
    intro k hk hinv
    push_cast
    refine ⟨fun h6 => ?_, fun h6 => ?_⟩
    · have hlt : k < fields.length := by omega
      have hst := rightFs_step hlt
      rw [← hinv] at hst
      refine ⟨hlt, ?_⟩
      refine CallL.q (c120 fields[k] (hs _ (List.getElem_mem hlt))) ?_
      push_cast
      refine ⟨fun e1 => ?_, fun e1 => ⟨by omega, hlt, by rw [if_pos e1] at hst; exact hst⟩⟩
      rw [if_neg e1] at hst
      rw [k4, hst]
    · rw [k4, hinv, rightFs_end (by omega)]
def fewB (l : List Rec) (n : Nat) : Bool := decide (l.length ≤ 8) && (decide (n ≤ 20) && l.all fun r => decide (r.fields.length ≤ 12) && decide (rightR r = 0))
theorem c44 (l : List Rec) (ids : List Int) (hs : ∀ r ∈ l, r.sm) : AFn Tryz.prog Γ 44 [.c (.d (.lst 5 (l.map Rec.ds))), .c (.d (.lst 1 (ids.map Fc.iD)))] [.d (.bool (fewB l ids.length))] := by
  generalize hR : fewB l ids.length = R
  unfold fewB at hR
  have hst : ∀ k (h : k < l.length), (l.drop k).all (fun r => decide (r.fields.length ≤ 12) && decide (rightR r = 0)) = ((decide (l[k].fields.length ≤ 12) && decide (rightR l[k] = 0)) && (l.drop (k + 1)).all (fun r => decide (r.fields.length ≤ 12) && decide (rightR r = 0))) := fun k h => by rw [Fc.drop_cons h]; rfl
  refine AFn.vc [] Tryz.func44 rfl Tryz.mixed (by kernel_rfl) Tryz.ntmps44 Tryz.results44 (by simp) ?_
  push_cast
  refine ⟨fun h1 => ⟨fun h2 => ?_, fun h2 => ?_⟩, fun h1 => ?_⟩
  · rw [← hR, decide_eq_false (by omega : ¬ ids.length ≤ 20)]; simp
  · rw [decide_eq_true (by omega : ids.length ≤ 20), decide_eq_true (by omega : l.length ≤ 8), Bool.true_and, Bool.true_and] at hR
    refine LoopV.cnt Tryz.mixed [0] l.length (fun k => [(5, .c (.d (.int .i64 k)))]) (fun k => (l.drop k).all (fun r => decide (r.fields.length ≤ 12) && decide (rightR r = 0)) = R) (by simpa using hR) ?_ (by push_cast)
    intro k hk hinv
    push_cast
    refine ⟨fun h6 => ?_, fun h6 => ?_⟩
    · have hlt : k < l.length := by omega
      rw [hst k hlt] at hinv
      refine ⟨hlt, fun e1 => ⟨hlt, ?_⟩, fun e1 => ?_⟩
      · refine CallL.q (c58 l[k] (hs _ (List.getElem_mem hlt))) ?_
        push_cast
        rw [decide_eq_true (by omega : l[k].fields.length ≤ 12), Bool.true_and] at hinv
        refine ⟨fun e2 => ?_, fun e2 => ?_⟩
        · rw [decide_eq_false e2, Bool.false_and] at hinv; exact hinv
        · rw [decide_eq_true e2, Bool.true_and] at hinv
          exact ⟨by omega, hlt, hinv⟩
      · rw [decide_eq_false (by omega : ¬ l[k].fields.length ≤ 12), Bool.false_and, Bool.false_and] at hinv; exact hinv
    · rw [List.drop_eq_nil_of_le (by omega)] at hinv
      exact hinv
  · rw [← hR, decide_eq_false (by omega : ¬ l.length ≤ 8)]; simp
end Go.Proofs
