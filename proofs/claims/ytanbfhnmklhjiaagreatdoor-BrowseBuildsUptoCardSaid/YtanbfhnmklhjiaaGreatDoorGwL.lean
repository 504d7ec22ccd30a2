/- Part of a proof about this program; no condition of its own. -/
import Derived.Test.YtanbfhnmklhjiaaGreatDoorGwK
import Derived.Test.YtanbfhnmklhjiaaGreatDoorGwJ
import Derived.Test.YtanbfhnmklhjiaaGreatDoorGxD
set_option linter.all false
/- The statements on browse lists: Builds and Finds. No condition. -/
namespace Go.Fc
open Go Go.Ax Go.Or Go.Tx
theorem rightA_ok {l : List Au} (h : rightA l = 0) : l.length ≤ 64 ∧ formsE none l = 0 ∧ twiceA l = false ∧ firstE (above1 l) l = 0 ∧ loopE l = false := by
  unfold rightA at h
  split at h
  · omega
  · next h0 =>
    split at h
    · next h1 =>
      split at h
      · omega
      · next h2 =>
        split at h
        · next h3 =>
          split at h
          · omega
          · next h4 => exact ⟨by omega, h1, by simpa using h2, h3, by simpa using h4⟩
        · next h3 => exact absurd h h3
    · next h1 => exact absurd h h1
theorem heads_ne {s : Str} (h : normF s ≠ []) : s ≠ [] := fun e => by rw [e] at h; exact h (by kernel_rfl)
theorem join_valid {sep : Str} (hs : validF sep = true) : ∀ l : List Str, (∀ x ∈ l, validF x = true) → validF (Lib.join l sep) = true
  | [], _ => rfl
  | [x], h => by simpa [Lib.join] using h x (by simp)
  | x :: y :: r, h => by
    have ih := join_valid hs (y :: r) fun z hz => h z (List.mem_cons_of_mem _ hz)
    have e : Lib.join (x :: y :: r) sep = x ++ (sep ++ Lib.join (y :: r) sep) := by simp [Lib.join]
    rw [e, validF_append _ _ _ (Nat.le_refl _) (h x (by simp)), validF_append _ _ _ (Nat.le_refl _) hs]
    exact ih
theorem rightS_code {s : Sb} (h : rightS s = 0) : 0 ≤ s.code ∧ s.code ≤ 255 := by
  unfold rightS at h
  split at h
  · omega
  · next h1 =>
    simp only [Bool.not_eq_false] at h1
    unfold codeI digI at h1
    simp at h1
    omega
theorem hok_of {f : Fld} (h : rightF f = 0) : f.hok := by
  obtain ⟨_, h2, h3⟩ := rightF_ok h
  exact ⟨by omega, fun s hs => ⟨by have := (rightS_ok (h3 s hs)).2.2; omega, rightS_code (h3 s hs)⟩⟩
theorem getS_ok {f : Fld} (h : rightF f = 0) (c : Int) : validF (getS f.subs c).1 = true ∧ (getS f.subs c).1.length ≤ 200 := by
  unfold getS
  split
  · next s hs => have := rightS_ok ((rightF_ok h).2.2 s (List.mem_of_find?_eq_some hs)); exact ⟨this.2.1, this.2.2⟩
  · exact ⟨rfl, by simp⟩
theorem allS_ok {f : Fld} (h : rightF f = 0) (codes sep : Str) (hv : validF sep = true) (hs : sep.length ≤ 10) : validF (Lib.join (allS f.subs codes) sep) = true ∧ (Lib.join (allS f.subs codes) sep).length ≤ 3360 := by
  have key : ∀ v ∈ allS f.subs codes, validF v = true ∧ v.length ≤ 200 := fun v hv => by
    obtain ⟨s, hs, rfl⟩ := allS_mem hv
    have := rightS_ok ((rightF_ok h).2.2 s hs)
    exact ⟨this.2.1, this.2.2⟩
  refine ⟨join_valid hv _ fun x hx => (key x hx).1, ?_⟩
  have h1 := join_bd2 (K := 200) sep (allS f.subs codes) (fun v hv => (key v hv).2)
  have h2 := allS_len f.subs codes
  have h3 := (rightF_ok h).2.1
  have h4 : (allS f.subs codes).length * (200 + sep.length) ≤ 16 * 210 := Nat.mul_le_mul (by omega) (by omega)
  omega
theorem headF_ok {f : Fld} (h : rightF f = 0) : validF (headF f) = true ∧ (headF f).length ≤ 10000 := by
  have h1 := allS_ok h [97] [32] rfl (by decide)
  have h2 := allS_ok h [97, 120, 121, 122] [45, 45] rfl (by decide)
  have h3 := getS_ok h 97
  have h4 := getS_ok h 100
  unfold headF
  repeat' split
  · refine ⟨?_, by simp only [List.length_append, List.length_cons, List.length_nil]; omega⟩
    rw [validF_append _ _ _ (Nat.le_refl _) h1.1, validF_append _ _ _ (Nat.le_refl _) rfl]
    exact h4.1
  · exact ⟨h1.1, by omega⟩
  · exact ⟨h3.1, by omega⟩
  · exact ⟨h2.1, by omega⟩
  · exact ⟨rfl, by simp⟩
end Go.Fc
namespace Go.Proofs
open Go Go.Ax Go.Tx Go.Lib Go.RowKit Go.Fc
set_option maxRecDepth 100000
set_option maxHeartbeats 0
variable {Γ : List (Nat × List D)}
/-- What a valid call's arguments are. -/
structure Valid24 (l : List Rec) (auths : List Au) : Prop where
  n : l.length ≤ 12
  hok : ∀ r ∈ l, ∀ f ∈ r.fields, f.hok
  tot : (l.flatMap fun r => r.fields).length ≤ 240
  au : auths.length ≤ 64
  see : ∀ a ∈ auths, a.see.length ≤ 8
  hd : ∀ a ∈ auths, ∀ s ∈ headsA a, validF s = true ∧ s.length ≤ 200 ∧ s ≠ []
  pairs : ∀ kind, (pairsA auths kind).length ≤ 576
  heads : ∀ r ∈ l, ∀ f ∈ r.fields, PrOk (headF f, [])
theorem flat_le (n : Nat) : ∀ (l : List Rec), (∀ r ∈ l, r.fields.length ≤ n) → (l.flatMap fun r => r.fields).length ≤ l.length * n
  | [], _ => by simp
  | r :: l, h => by
    have := flat_le n l fun x hx => h x (by simp [hx])
    have h1 := h r (by simp)
    rw [List.flatMap_cons, List.length_append, List.length_cons, Nat.add_mul]; omega
theorem pairs_le (kind : Int) : ∀ (l : List Au), (∀ a ∈ l, a.see.length ≤ 8) → (pairsA l kind).length ≤ l.length * 9
  | [], _ => by simp [pairsA]
  | a :: l, h => by
    have := pairs_le kind l fun x hx => h x (by simp [hx])
    have h1 := h a (by simp)
    have e : (pairsA (a :: l) kind).length ≤ (a.see.length + 1) + (pairsA l kind).length := by
      unfold pairsA
      by_cases e : a.kind = kind
      · rw [List.filter_cons_of_pos (by simpa using e), List.flatMap_cons, List.length_append]; simp
      · rw [List.filter_cons_of_neg (by simpa using e)]; omega
    rw [List.length_cons, Nat.add_mul]; omega
theorem valid24 {l : List Rec} {auths : List Au} (h : validB l auths = true) : Valid24 l auths := by
  unfold validB smallRs at h
  simp only [Bool.and_eq_true, decide_eq_true_eq, List.all_eq_true] at h
  obtain ⟨⟨h1, _⟩, h2, h3, h4⟩ := h
  obtain ⟨h5, h6, _, _, _⟩ := rightA_ok h3
  have hrf : ∀ r ∈ l, ∀ f ∈ r.fields, rightF f = 0 := fun r hr f hf => (rightR_ok (h4 r hr).2).2.2.2.2 f hf
  have hsee : ∀ a ∈ auths, a.see.length ≤ 8 := fun a ha => (shapeA_ok (formsE_ok h6 a ha).1).2.1
  refine ⟨by omega, fun r hr f hf => hok_of (hrf r hr f hf), ?_, h2, hsee, fun a ha s hs => ?_, fun kind => ?_, fun r hr f hf => ?_⟩
  · have := flat_le 20 l fun r hr => (h4 r hr).1
    have h7 : l.length * 20 ≤ 12 * 20 := Nat.mul_le_mul (by omega) (Nat.le_refl _)
    omega
  · have := (shapeA_ok (formsE_ok h6 a ha).1).2.2 s hs
    exact ⟨this.1, this.2.1, heads_ne this.2.2⟩
  · have := pairs_le kind auths hsee
    have h7 : auths.length * 9 ≤ 64 * 9 := Nat.mul_le_mul h2 (Nat.le_refl _)
    omega
  · have := headF_ok (hrf r hr f hf)
    exact ⟨this.1, rfl, by show (headF f).length ≤ _; omega, by simp⟩
theorem Valid24.c18 {l : List Rec} {auths : List Au} (v : Valid24 l auths) (hΓ : (1, stdD) ∈ Γ) (kind : Int) (lang : Str) : AFn Tryz.prog Γ 18 [.c (.d (.lst 5 (l.map Rec.ds))), .c (.d (.lst 5 (auths.map Au.ds))), .c (.d (.int .i64 kind)), .c (.d (.str lang))] [.fresh 37 3 ((buildF headH l auths kind lang).map Br.ds)] := by
  have hn := v.n
  have ht := v.tot
  have ha := v.au
  refine Proofs.c18 hΓ l auths kind lang (by omega) (fun r hr => by have := flat_at hr; omega) v.hok (by omega) (fun a ha => ⟨?_, fun s hs => ?_, ?_⟩) (by have := v.pairs kind; omega) (by omega) (fun a ha _ => (v.hd a ha a.hd (by simp [headsA])).2.2)
  · have := (v.hd a ha a.hd (by simp [headsA])).2.1; omega
  · have := (v.hd a ha s (by simp [headsA, hs])).2.1; omega
  · have := v.see a ha; omega
theorem Valid24.c19 {l : List Rec} {auths : List Au} (v : Valid24 l auths) (kind : Int) (lang : Str) : AFn Tryz.prog Γ 19 [.c (.d (.lst 5 (l.map Rec.ds))), .c (.d (.lst 5 (auths.map Au.ds))), .c (.d (.int .i64 kind)), .c (.d (.str lang))] [.d (.lst 3 ((buildF headH l auths kind lang).map Br.ds))] := by
  have hn := v.n
  have ht := v.tot
  have ha := v.au
  refine Proofs.c19 l auths kind lang (by omega) v.hok (by omega) (by have := v.pairs kind; omega) (by omega) (fun r hr f hf _ _ => v.heads r hr f hf) (fun a ha _ => ⟨?_, fun s hs => ?_⟩) (fun a ha _ => (v.hd a ha a.hd (by simp [headsA])).2.2)
  · have := v.hd a ha a.hd (by simp [headsA])
    exact ⟨this.1, rfl, by show a.hd.length ≤ _; omega, by simp⟩
  · have h1 := v.hd a ha a.hd (by simp [headsA])
    have h2 := v.hd a ha s (by simp [headsA, hs])
    exact ⟨h2.1, h1.1, by show s.length ≤ _; omega, by show a.hd.length ≤ _; omega⟩
theorem build_len {l : List Rec} {auths : List Au} (v : Valid24 l auths) (kind : Int) (lang : Str) : (buildF headH l auths kind lang).length ≤ 816 := by
  have h1 : (pairsR headH l kind).length ≤ (l.flatMap fun r => r.fields).length := by
    unfold pairsR
    have : ∀ l : List Rec, (l.flatMap fun r => (r.fields.filter fun f => decide ((headH f).1 = kind) && decide ((headH f).2 ≠ [])).map fun f => (((headH f).2, []) : Pr)).length ≤ (l.flatMap fun r => r.fields).length := by
      intro l
      induction l with
      | nil => simp
      | cons r l ih =>
        rw [List.flatMap_cons, List.flatMap_cons, List.length_append, List.length_append, List.length_map]
        have := List.length_filter_le (fun f => decide ((headH f).1 = kind) && decide ((headH f).2 ≠ [])) r.fields
        omega
    exact this l
  unfold buildF
  split
  · rw [List.length_map]
    unfold buildP
    have := Or.puts_len (lt := ltP lang) (allP headH l auths kind) []
    have h2 := v.pairs kind
    have h3 := v.tot
    have h4 : (allP headH l auths kind).length = (pairsR headH l kind).length + (pairsA auths kind).length := by unfold allP; rw [List.length_append]
    simp at this
    omega
  · simp
structure Arg24 (l : List Rec) (auths : List Au) : Prop where
  sm : ∀ r ∈ l, r.sm
  au : AuSm auths
theorem c3 (hΓ : (1, stdD) ∈ Γ) (hp : (4, powD) ∈ Γ) (l : List Rec) (auths : List Au) (kind : Int) (lang : Str) (ha : Arg24 l auths) : AFn Tryz.prog Γ 3 [.c (.d (.lst 5 (l.map Rec.ds))), .c (.d (.lst 5 (auths.map Au.ds))), .agg [.d (.int .i64 kind), .d (.str lang)]] [.d (.bool true)] := by
  refine AFn.vc [] Tryz.func3 rfl Tryz.mixed (by kernel_rfl) Tryz.ntmps3 Tryz.results3 (by simp) ?_
  push_cast
  refine CallL.q (c15 l auths ha.sm ha.au) ?_
  push_cast
  refine ⟨fun e => ?_, fun e => ?_⟩
  · refine CallL.q (c16 hΓ hp) ?_
    push_cast
  · have v := valid24 e
    refine CallX.q (v.c18 hΓ kind lang).frz ?_
    push_cast
    refine CallX.q (v.c19 kind lang) ?_
    push_cast
    have hb := build_len v kind lang
    have h17 := c17 (Γ := Γ) (buildF headH l auths kind lang) (buildF headH l auths kind lang) (by omega)
    rw [decide_eq_true rfl] at h17
    refine CallX.q h17 ?_
    push_cast
    refine CallX.q (c16 hΓ hp) ?_
    push_cast
theorem texts_ok {l : List Br} {s : Str} (h : textsF l s = true) : l.length ≤ 60 ∧ s.length ≤ 300 ∧ validF s = true ∧ ∀ b ∈ l, b.hd.length ≤ 300 ∧ validF b.hd = true := by
  unfold textsF at h
  simp only [Bool.and_eq_true, decide_eq_true_eq, List.all_eq_true] at h
  exact ⟨h.1, h.2.1, h.2.2.1, h.2.2.2⟩
theorem find_same {lang s : Str} (hs : validF s = true) : ∀ (l : List Br) (k : Nat), (∀ b ∈ l, validF b.hd = true) → findG (cmpKR lang) s k l = findG (cmpK lang) s k l
  | [], _, _ => rfl
  | b :: r, k, h => by
    unfold findG
    rw [cmpKR_eq (h b (by simp)) hs, find_same hs r (k + 1) fun x hx => h x (by simp [hx])]
theorem c4 (hΓ : (1, stdD) ∈ Γ) (hp : (4, powD) ∈ Γ) (l : List Br) (lang s : Str) : AFn Tryz.prog Γ 4 [.c (.d (.lst 3 (l.map Br.ds))), .c (.d (.str lang)), .c (.d (.str s))] [.d (.bool true)] := by
  refine AFn.vc [] Tryz.func4 rfl Tryz.mixed (by kernel_rfl) Tryz.ntmps4 Tryz.results4 (by simp) ?_
  push_cast
  refine CallL.q (c20 l s) ?_
  push_cast
  refine ⟨fun e => ?_, fun e => ?_⟩
  · obtain ⟨h1, h2, h3, h4⟩ := texts_ok e
    refine CallL.q (c21 l lang s (by omega) (by omega) (fun b hb => by have := (h4 b hb).1; omega)) ?_
    push_cast
    have h22 := c22 (Γ := Γ) l lang s (by omega) (by omega) (fun b hb => by have := (h4 b hb).1; omega)
    rw [show findF (cmpKR lang) l s = findF (cmpK lang) l s from find_same h3 l 0 fun b hb => (h4 b hb).2] at h22
    refine CallL.q h22 ?_
    push_cast
    refine CallL.q (c16 hΓ hp) ?_
    push_cast
  · refine CallL.q (c16 hΓ hp) ?_
    push_cast
end Go.Proofs

/- The statements on browse lists: Orders and Refers. No condition. -/
namespace Go.Fc
open Go Go.Ax Go.Or Go.Tx
theorem find_spec {c : Str → Str → Int} {s : Str} : ∀ (l : List Br) (k0 i : Nat) (hi : i < l.length), 0 ≤ c l[i].hd s → ∃ (j : Nat) (hj : j < l.length), j ≤ i ∧ findG c s k0 l = k0 + j ∧ 0 ≤ c l[j].hd s
  | [], _, i, hi, _ => by simp at hi
  | b :: r, k0, i, hi, h => by
    unfold findG
    by_cases h0 : 0 ≤ c b.hd s
    · rw [if_pos h0]
      exact ⟨0, by simp, by omega, rfl, h0⟩
    · rw [if_neg h0]
      cases i with
      | zero => exact absurd h h0
      | succ i =>
        obtain ⟨j, hj, h1, h2, h3⟩ := find_spec r (k0 + 1) i (by simpa using hi) (by simpa using h)
        exact ⟨j + 1, by simpa using hj, by omega, by omega, by simpa using h3⟩
end Go.Fc
namespace Go.Proofs
open Go Go.Ax Go.Tx Go.Lib Go.RowKit Go.Fc
set_option maxRecDepth 100000
set_option maxHeartbeats 0
variable {Γ : List (Nat × List D)}
theorem build_mem {l : List Rec} {auths : List Au} {kind : Int} {lang : Str} {b : Br} (h : b ∈ buildF headH l auths kind lang) : ∃ p ∈ allP headH l auths kind, b = mkBr headH l kind p := by
  unfold buildF at h
  split at h
  · obtain ⟨p, hp, rfl⟩ := List.mem_map.1 h
    exact ⟨p, ((buildP_spec headH l auths kind lang).2 p).1 hp, rfl⟩
  · cases h
theorem build_has {l : List Rec} {auths : List Au} {kind : Int} {lang : Str} (hne : buildF headH l auths kind lang ≠ []) {p : Pr} (h : p ∈ allP headH l auths kind) : mkBr headH l kind p ∈ buildF headH l auths kind lang := by
  unfold buildF at hne ⊢
  split
  · exact List.mem_map_of_mem (((buildP_spec headH l auths kind lang).2 p).2 h)
  · next e => rw [if_neg e] at hne; exact absurd rfl hne
theorem build_asc (l : List Rec) (auths : List Au) (kind : Int) (lang : Str) : (buildF headH l auths kind lang).Pairwise fun x y => ltP lang x.pr y.pr = true := by
  unfold buildF
  split
  · rw [List.pairwise_map]
    exact (buildP_spec headH l auths kind lang).1
  · exact List.Pairwise.nil
theorem Valid24.pr {l : List Rec} {auths : List Au} (v : Valid24 l auths) {kind : Int} {p : Pr} (h : p ∈ allP headH l auths kind) : PrOk p := by
  rcases List.mem_append.1 h with h | h
  · obtain ⟨r, hr, f, hf, _, _, rfl⟩ := mem_pairsR.1 h
    exact v.heads r hr f hf
  · unfold pairsA at h
    obtain ⟨a, h1, h2⟩ := List.mem_flatMap.1 h
    have ha := (List.mem_filter.1 h1).1
    have h3 := v.hd a ha a.hd (by simp [headsA])
    rcases List.mem_cons.1 h2 with rfl | h2
    · exact ⟨h3.1, rfl, by show a.hd.length ≤ _; omega, by simp⟩
    · obtain ⟨s, hs, rfl⟩ := List.mem_map.1 h2
      have h4 := v.hd a ha s (by simp [headsA, hs])
      exact ⟨h4.1, h3.1, by show s.length ≤ _; omega, by show a.hd.length ≤ _; omega⟩
theorem Valid24.br {l : List Rec} {auths : List Au} (v : Valid24 l auths) {kind : Int} {lang : Str} {b : Br} (h : b ∈ buildF headH l auths kind lang) : PrOk b.pr := by
  obtain ⟨p, hp, rfl⟩ := build_mem h
  exact v.pr hp
theorem c5 (hΓ : (1, stdD) ∈ Γ) (hp : (4, powD) ∈ Γ) (l : List Rec) (auths : List Au) (kind : Int) (lang : Str) (ha : Arg24 l auths) : AFn Tryz.prog Γ 5 [.c (.d (.lst 5 (l.map Rec.ds))), .c (.d (.lst 5 (auths.map Au.ds))), .agg [.d (.int .i64 kind), .d (.str lang)]] [.d (.bool true)] := by
  refine AFn.vc [] Tryz.func5 rfl Tryz.mixed (by kernel_rfl) Tryz.ntmps5 Tryz.results5 (by simp) ?_
  push_cast
  refine CallL.q (c15 l auths ha.sm ha.au) ?_
  push_cast
  refine ⟨fun e => ?_, fun e => ?_⟩
  · refine CallL.q (c16 hΓ hp) ?_
    push_cast
  · have v := valid24 e
    refine CallL.own (v.c18 hΓ kind lang) ?_
    push_cast
    have hb := build_len v kind lang
    have hasc := build_asc l auths kind lang
    have hpr : ∀ b ∈ buildF headH l auths kind lang, PrOk b.pr := fun b hb => v.br hb
    generalize buildF headH l auths kind lang = B at *
    refine LoopV.cnt Tryz.mixed [5, 7, 23] B.length (fun k => [(24, .c (.d (.int .i64 k)))]) (fun _ => True) trivial ?_
    intro k hk _
    push_cast
    refine ⟨fun h => ?_, fun h => ?_⟩
    · have hlt : k < B.length := by omega
      have hlen : ∀ b ∈ B, b.hd.length ≤ 100000 ∧ b.ref.length ≤ 100000 := fun b hb => ⟨(hpr b hb).n1, (hpr b hb).n2⟩
      have fnd : ∃ (j : Nat) (hj : j < B.length), j ≤ k ∧ findF (cmpK lang) B B[k].hd = j ∧ B[j].hd = B[k].hd := by
        obtain ⟨j, hj, h1, h2, h3⟩ := find_spec (c := cmpK lang) (s := B[k].hd) B 0 k hlt (by rw [(cmpK_zero lang _ _).2 rfl]; exact Int.le_refl 0)
        refine ⟨j, hj, h1, by unfold findF; omega, ?_⟩
        rcases Nat.lt_or_ge j k with hjk | hjk
        · have := List.pairwise_iff_getElem.1 hasc j k hj hlt hjk
          rw [ltP_eq, Bool.or_eq_true, Bool.and_eq_true, decide_eq_true_eq] at this
          rcases this with this | this
          · exact absurd h3 (by have := of_decide_eq_true this; exact Int.not_le.2 this)
          · exact this.1
        · have : j = k := by omega
          subst this; rfl
      refine ⟨fun k0 => ?_, fun k0 => ?_⟩
      · have hz : ((k : Int) - 1).toNat < B.length := by omega
        refine ⟨by omega, by omega, hz, by omega, hlt, ?_⟩
        have h23 := c23 (Γ := Γ) lang B[((k : Int) - 1).toNat] B[k] (hlen _ (List.getElem_mem hz)).1 (hlen _ (List.getElem_mem hlt)).1 (hlen _ (List.getElem_mem hz)).2 (hlen _ (List.getElem_mem hlt)).2
        rw [cmpPR_eq (hpr _ (List.getElem_mem hz)) (hpr _ (List.getElem_mem hlt))] at h23
        have hneg : cmpP lang B[((k : Int) - 1).toNat].pr B[k].pr < 0 := of_decide_eq_true (List.pairwise_iff_getElem.1 hasc _ k hz hlt (by omega))
        refine CallX.q h23 ?_
        push_cast
        refine ⟨fun q => by omega, fun _ => ⟨by omega, hlt, ?_⟩⟩
        refine CallX.q (c21 B lang B[k].hd (by omega) (by have := (hpr _ (List.getElem_mem hlt)).n1; exact Nat.le_trans this (by decide)) (fun b hb => Nat.le_trans (hpr b hb).n1 (by decide))) ?_
        push_cast
        obtain ⟨j, hj, h1, h2, h3⟩ := fnd
        rw [h2]
        exact ⟨⟨fun _ => ⟨by omega, hj, by omega, hlt, fun q => q h3, fun _ => ⟨by omega, hlt⟩⟩, fun q => by omega⟩, fun q => by omega⟩
      · refine ⟨by omega, hlt, ?_⟩
        refine CallX.q (c21 B lang B[k].hd (by omega) (by have := (hpr _ (List.getElem_mem hlt)).n1; exact Nat.le_trans this (by decide)) (fun b hb => Nat.le_trans (hpr b hb).n1 (by decide))) ?_
        push_cast
        obtain ⟨j, hj, h1, h2, h3⟩ := fnd
        rw [h2]
        exact ⟨⟨fun _ => ⟨by omega, hj, by omega, hlt, fun q => q h3, fun _ => ⟨by omega, hlt⟩⟩, fun q => by omega⟩, fun q => by omega⟩
    · refine CallL.q (c16 hΓ hp) ?_
      push_cast
def refG (x y : Br) : Bool := decide (y.ref = []) && (decide (y.hd = x.ref) && decide (y.cnt = x.cnt))
def fndN (x : Br) (B : List Br) (m : Nat) : Bool := decide (x.ref = []) || (B.take m).any (refG x)
theorem fndN_next {x : Br} {B : List Br} {m : Nat} (h : m < B.length) : fndN x B (m + 1) = (fndN x B m || refG x B[m]) := by
  unfold fndN
  rw [Fc.take_next h, List.any_append]
  simp [Bool.or_assoc]
theorem c6 (hΓ : (1, stdD) ∈ Γ) (hp : (4, powD) ∈ Γ) (l : List Rec) (auths : List Au) (kind : Int) (lang : Str) (ha : Arg24 l auths) : AFn Tryz.prog Γ 6 [.c (.d (.lst 5 (l.map Rec.ds))), .c (.d (.lst 5 (auths.map Au.ds))), .agg [.d (.int .i64 kind), .d (.str lang)]] [.d (.bool true)] := by
  refine AFn.vc [] Tryz.func6 rfl Tryz.mixed (by kernel_rfl) Tryz.ntmps6 Tryz.results6 (by simp) ?_
  push_cast
  refine CallL.q (c15 l auths ha.sm ha.au) ?_
  push_cast
  refine ⟨fun e => ?_, fun e => ?_⟩
  · refine CallL.q (c16 hΓ hp) ?_
    push_cast
  · have v := valid24 e
    refine CallL.own (v.c18 hΓ kind lang) ?_
    push_cast
    have hb := build_len v kind lang
    have hcnt : ∀ x ∈ buildF headH l auths kind lang, 0 ≤ x.cnt ∧ x.cnt ≤ l.length := fun x hx => by
      obtain ⟨p, _, rfl⟩ := build_mem hx
      unfold mkBr
      simp only
      split
      · exact cnt_bound l kind p.1
      · exact cnt_bound l kind p.2
    have href : ∀ x ∈ buildF headH l auths kind lang, fndN x (buildF headH l auths kind lang) (buildF headH l auths kind lang).length = true := fun x hx => by
      obtain ⟨p, hp, rfl⟩ := build_mem hx
      unfold fndN
      rw [List.take_length]
      by_cases e0 : p.2 = []
      · rw [show (mkBr headH l kind p).ref = p.2 from rfl, decide_eq_true e0]; rfl
      · have h2 : (p.2, ([] : Str)) ∈ allP headH l auths kind := by
          rcases List.mem_append.1 hp with h | h
          · obtain ⟨r, hr, f, hf, _, _, rfl⟩ := mem_pairsR.1 h
            exact absurd rfl e0
          · unfold pairsA at h
            obtain ⟨a, q1, q2⟩ := List.mem_flatMap.1 h
            rcases List.mem_cons.1 q2 with rfl | q2
            · exact absurd rfl e0
            · obtain ⟨s, hs, rfl⟩ := List.mem_map.1 q2
              exact List.mem_append_right _ (List.mem_flatMap.2 ⟨a, q1, List.mem_cons_self ..⟩)
        rw [Bool.or_eq_true]
        refine .inr (List.any_eq_true.2 ⟨_, build_has (List.ne_nil_of_mem hx) h2, ?_⟩)
        unfold refG mkBr
        simp [e0]
    generalize buildF headH l auths kind lang = B at *
    refine LoopV.cnt Tryz.mixed [0, 7, 25, 26] B.length (fun k => [(27, .c (.d (.int .i64 k)))]) (fun _ => True) trivial ?_
    intro k hk _
    push_cast
    refine ⟨fun h => ?_, fun h => ?_⟩
    · have hlt : k < B.length := by omega
      have hc := hcnt _ (List.getElem_mem hlt)
      have hf := href _ (List.getElem_mem hlt)
      refine ⟨by omega, hlt, fun a1 => ⟨fun a2 => by omega, fun a2 => ?_⟩, fun a1 => by omega⟩
      refine LoopV.cnt Tryz.mixed [0, 7, 9, 25, 26, 27, 44, 45] B.length (fun m => [(10, .c (.d (.bool (fndN B[k] B m)))), (46, .c (.d (.int .i64 m)))]) (fun _ => True) trivial ?_ (by push_cast; simp [fndN])
      intro m hm _
      push_cast
      refine ⟨fun h2 => ?_, fun h2 => ?_⟩
      · have hmt : m < B.length := by omega
        have hn := fndN_next (x := B[k]) hmt
        unfold refG at hn
        refine ⟨by omega, hmt, fun e => ⟨fun e1 => ⟨fun e2 => ⟨by omega, hmt, ?_⟩, fun e2 => ⟨by omega, hmt, ?_⟩⟩, fun e1 => ⟨by omega, hmt, ?_⟩⟩, fun e => ⟨by omega, hmt, ?_⟩⟩
        · rw [hn, e, decide_eq_true e1, decide_eq_true e2]; simp
        · rw [hn, e, decide_eq_false e2]; simp
        · rw [hn, e, decide_eq_false e1]; simp
        · rw [hn, e]; simp
      · have : m = B.length := by omega
        subst this
        exact ⟨fun q => absurd (hf.symm.trans q) (by simp), fun _ => ⟨by omega, hlt⟩⟩
    · refine CallL.q (c16 hΓ hp) ?_
      push_cast
end Go.Proofs
