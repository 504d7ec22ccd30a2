/- Part of a proof about this program; no condition of its own. -/
import Derived.Test.YtanbfhnmklhjiaaGreatDoorP33
import Derived.Test.YtanbfhnmklhjiaaGreatDoorP18
import Derived.Test.YtanbfhnmklhjiaaGreatDoorP34
import Derived.Test.YtanbfhnmklhjiaaGreatDoorP22
set_option linter.all false
/- Authorities by the program: Below, forms, the checks, Right, Find. No condition. -/
namespace Go.Proofs
open Go Go.Ax Go.Tx Go.Lib Go.RowKit Go.Fc
set_option maxRecDepth 100000
set_option maxHeartbeats 0
variable {Γ : List (Nat × List D)} {M : Int}
theorem Tryz.und115 : ∃ f0 f1, Tryz.prog.underlying 115 = some (.struct #[f0, f1]) ∧ f0.type = 3 ∧ f1.type = 9 ∧ f0.offset = 0 ∧ f1.offset = 1 ∧ f0.name = "kind" ∧ f1.name = "norm" := ⟨_, _, Tryz.underlying115, rfl, rfl, rfl, rfl, rfl, rfl⟩
theorem Tryz.mapT110 : MapT Tryz.prog 110 [.int .i64, .str] := by
  obtain ⟨f0, f1, h, t0, t1, o0, o1, n0, n1⟩ := Tryz.und115
  exact MapT.stis (K := 115) (E := 3) (f0 := f0) (f1 := f1) (by kernel_rfl) (of_decide_eq_true (by kernel_rfl)) (of_decide_eq_true (by kernel_rfl)) (by kernel_rfl) h (by rw [t0]; kernel_rfl) (by rw [t1]; kernel_rfl) o0 o1 (by rw [n0]; decide) (by rw [n1]; decide) (by kernel_rfl) (by kernel_rfl) (by rw [t0]; kernel_rfl) (by rw [t1]; kernel_rfl) (by kernel_rfl) Tryz.zeroValue3
def belowP (l : List Au) (id : Int) : List Int := (l.filter fun a => decide (id ∈ aboveP l a.id)).map Au.id
theorem adds_ok {l : List Au} {n : Nat} : ∀ (ups : List Int) (f q : List Int), (∀ x ∈ ups, x ∈ allUp l) → BfsI l n f q → BfsI l n (ups.foldl addUp (f, q)).1 (ups.foldl addUp (f, q)).2
  | [], f, q, _, h => h
  | u :: ups, f, q, hs, h => by
    rw [List.foldl_cons]
    exact adds_ok ups _ _ (fun x hx => hs x (List.mem_cons_of_mem _ hx)) (h.add (hs u List.mem_cons_self))
theorem bfs_ok {l : List Au} : ∀ (n : Nat) (f q : List Int), BfsI l n f q → (bfs l n (f, q)).length ≤ (allUp l).length ∧ ∀ x ∈ bfs l n (f, q), x ∈ allUp l
  | 0, f, q, h => ⟨by have := h.len; show f.length ≤ _; omega, h.sub⟩
  | n + 1, f, [], h => ⟨by have := h.len; show f.length ≤ _; omega, h.sub⟩
  | n + 1, f, x :: q, h => by
    have h2 : BfsI l n f q := ⟨by have := h.pot; simp at this ⊢; omega, h.len, h.sub⟩
    have := adds_ok (upsOf l x) f q upsOf_sub h2
    exact bfs_ok n _ _ this
theorem aboveP_len (l : List Au) (id : Int) : (aboveP l id).length ≤ (allUp l).length := by
  unfold aboveP
  rw [List.length_mergeSort]
  exact (bfs_ok _ _ _ (BfsI.start l id)).1
theorem c35 (l : List Au) (id : Int) (hl : l.length ≤ 2000000) (hU : (allUp l).length ≤ 2000000) (hB : ∀ x ∈ allUp l, -9223372036854775808 ≤ x ∧ x ≤ 9223372036854775807) : AFn Tryz.prog Γ 35 [.c (.d (.lst 5 (l.map Au.ds))), .c (.d (.int .i64 id))] [.d (.lst 1 ((belowP l id).map Fc.iD))] := by
  generalize hR : belowP l id = R
  unfold belowP at hR
  refine AFn.vc [] Tryz.func35 rfl Tryz.mixed (by kernel_rfl) Tryz.ntmps35 Tryz.results35 (by simp) ?_
  push_cast
  refine LoopV.nilrow 5 3 1 ?_
  push_cast
  refine LoopV.of Tryz.mixed [0, 1, 8, 9] (S := Nat × List Int) (fun s => [(5, .c (.own 0 s.2.length)), (10, .c (.d (.int .i64 s.1)))]) (fun s => [.row 3 1 (s.2.map Fc.iD) s.2.length]) (fun s => s.1 ≤ l.length ∧ s.2.length ≤ s.1 ∧ s.2 ++ ((l.drop s.1).filter fun a => decide (id ∈ aboveP l a.id)).map Au.id = R) (fun s => l.length - s.1) (0, []) ⟨Nat.zero_le _, Nat.zero_le _, hR⟩ (by push_cast) ?_
  rintro ⟨k, o⟩ ⟨hk, ho, hinv⟩
  simp only at hk ho hinv
  push_cast
  refine ⟨fun h => ?_, fun h => ?_⟩
  · have hlt : k < l.length := by omega
    rw [Fc.drop_cons hlt, List.filter_cons] at hinv
    refine ⟨hlt, ?_⟩
    have hal := aboveP_len l l[k].id
    refine CallL.q (c34 l l[k].id hl (by omega) hB) ?_
    push_cast
    refine CallL.q (c85 (aboveP l l[k].id) id (by omega)) ?_
    push_cast
    refine ⟨fun e => ?_, fun e => ?_⟩
    · rw [if_pos (by simpa using e)] at hinv
      exact ⟨⟨by omega, by omega⟩, by omega, (k + 1, o ++ [l[k].id]), ⟨⟨by show k + 1 ≤ _; omega, by simp; omega, by rw [← hinv]; simp⟩, by show l.length - (k + 1) < _; omega⟩, ⟨by simp, by push_cast⟩, by simp [Fc.iD], by simp⟩
    · rw [if_neg (by simpa using e)] at hinv
      exact ⟨by omega, (k + 1, o), ⟨⟨by show k + 1 ≤ _; omega, by show o.length ≤ k + 1; omega, hinv⟩, by show l.length - (k + 1) < _; omega⟩, ⟨rfl, by push_cast⟩, rfl, rfl⟩
  · rw [List.drop_eq_nil_of_le (by omega)] at hinv
    rw [← hinv]; simp
def loopP (l : List Au) : Bool := l.any fun a => decide (a.id ∈ aboveP l a.id)
def checkP (l : List Au) : Int := if firstE (above1 l) l = 0 then (if loopP l = true then 11 else 0) else firstE (above1 l) l
theorem allUp_len (l : List Au) : (allUp l).length = abN l := by unfold allUp abN; rw [List.length_flatMap]
theorem c83 (l : List Au) (hl : l.length ≤ 64) (hA : ∀ a ∈ l, a.above.length ≤ 2000000) (hB : ∀ x ∈ allUp l, -9223372036854775808 ≤ x ∧ x ≤ 9223372036854775807) : AFn Tryz.prog Γ 83 [.c (.d (.lst 5 (l.map Au.ds)))] [.d (.int .i64 (checkP l))] := by
  generalize hR : checkP l = R
  unfold checkP at hR
  refine AFn.vc [] Tryz.func83 rfl Tryz.mixed (by kernel_rfl) Tryz.ntmps83 Tryz.results83 (by simp) ?_
  push_cast
  refine LoopV.cnt Tryz.mixed [0, 13, 14] l.length (fun i => [(15, .c (.d (.int .i64 i)))]) (fun i => firstE (above1 l) l = firstE (above1 l) (l.drop i)) (by simp) ?_
  intro i hi hinv
  push_cast
  refine ⟨fun h2 => ?_, fun h2 => ?_⟩
  · have hlt : i < l.length := by omega
    rw [firstE_step hlt] at hinv
    have hai := hA _ (List.getElem_mem hlt)
    have r1 : ∀ e : Int, e ≠ 0 → above1 l l[i] = e → e = R := fun e h0 h1 => by
      rw [h1, if_neg h0] at hinv
      rw [hinv, if_neg h0] at hR
      exact hR
    refine ⟨hlt, fun a1 => r1 13 (by decide) (if_pos (by omega)), fun a1 => ?_⟩
    refine LoopV.cnt Tryz.mixed [0, 4, 13, 14, 15, 24, 25] l[i].above.length (fun q => [(26, .c (.d (.int .i64 q)))]) (fun q => ascI l[i].above = ascI (l[i].above.drop (q - 1))) (by simp) ?_
    intro q hq hq3
    push_cast
    refine ⟨fun h3 => ?_, fun h3 => ?_⟩
    · have hqt : q < l[i].above.length := by omega
      have hst : ∀ (z : Nat) (hz : z + 1 = q) (hb : z < l[i].above.length), ascI l[i].above = (decide (l[i].above[z] < l[i].above[q]) && ascI (l[i].above.drop q)) := fun z hz hb => by
        subst hz
        rw [hq3, Nat.add_sub_cancel, ascI_step hqt]
      refine ⟨hqt, fun h0 => ⟨by omega, by omega, by omega, fun e => ?_, fun e => ⟨by omega, hqt, ?_⟩⟩, fun h0 => ⟨by omega, hqt, ?_⟩⟩
      · refine r1 7 (by decide) ?_
        unfold above1
        rw [if_neg (by omega), if_pos]
        rw [hst ((q : Int) - 1).toNat (by omega) (by omega), decide_eq_false (by omega)]; rfl
      · rw [hst ((q : Int) - 1).toNat (by omega) (by omega), decide_eq_true e, Bool.true_and]
      · rw [show q = 0 by omega]; rfl
    · have hasc : ascI l[i].above = true := by rw [hq3, ascI_end (by omega)]
      refine LoopV.cnt Tryz.mixed [0, 4, 13, 14, 15, 45, 46] l[i].above.length (fun j => [(47, .c (.d (.int .i64 j)))]) (fun j => l[i].above.all (sameK l l[i].kind) = (l[i].above.drop j).all (sameK l l[i].kind)) (by simp) ?_
      intro j hj hinv2
      push_cast
      refine ⟨fun h4 => ?_, fun h4 => ?_⟩
      · have hjt : j < l[i].above.length := by omega
        rw [all_step hjt] at hinv2
        have r9 : sameK l l[i].kind l[i].above[j] = false → 9 = R := fun e => r1 9 (by decide) (by
          unfold above1
          rw [if_neg (by omega), if_neg (by rw [hasc]; simp), hinv2, e, if_neg (by simp)])
        have r0 : sameK l l[i].kind l[i].above[j] = true → l[i].above.all (sameK l l[i].kind) = (l[i].above.drop (j + 1)).all (sameK l l[i].kind) := fun e => by rw [hinv2, e, Bool.true_and]
        refine ⟨hjt, ?_⟩
        refine CallL.q (c28 l l[i].above[j] (by omega)) ?_
        push_cast
        cases hg : getA l l[i].above[j] with
        | none =>
          have hsk : sameK l l[i].kind l[i].above[j] = false := by unfold sameK; rw [hg]
          exact ⟨fun e => absurd e (by simp), fun _ => r9 hsk⟩
        | some x =>
          have hsk : sameK l l[i].kind l[i].above[j] = decide (x.kind = l[i].kind) := by unfold sameK; rw [hg]
          exact ⟨fun _ => ⟨fun e => r9 (by rw [hsk]; exact decide_eq_false e), fun e => ⟨by omega, hjt, r0 (by rw [hsk]; exact decide_eq_true e)⟩⟩, fun e => absurd e (by simp)⟩
      · have hok : above1 l l[i] = 0 := by
          unfold above1
          rw [if_neg (by omega), if_neg (by rw [hasc]; simp), hinv2, all_end (by omega), if_pos rfl]
        rw [if_pos hok] at hinv
        exact ⟨by omega, hlt, hinv⟩
  · rw [firstE_end (by omega)] at hinv
    rw [hinv, if_pos rfl] at hR
    have hN : (allUp l).length ≤ 2000000 := by
      rw [allUp_len]
      have h1 := ab_le 4 l fun a ha => above1_len (firstE_ok hinv a ha)
      have h2' : l.length * 4 ≤ 64 * 4 := Nat.mul_le_mul (by omega) (Nat.le_refl _)
      omega
    unfold loopP at hR
    refine LoopV.cnt Tryz.mixed [0, 68, 69] l.length (fun j => [(70, .c (.d (.int .i64 j)))]) (fun j => (l.any fun a => decide (a.id ∈ aboveP l a.id)) = (l.drop j).any fun a => decide (a.id ∈ aboveP l a.id)) (by simp) ?_
    intro j hj hinv2
    push_cast
    refine ⟨fun h4 => ?_, fun h4 => ?_⟩
    · have hjt : j < l.length := by omega
      rw [any_step hjt] at hinv2
      refine ⟨hjt, ?_⟩
      have hal := aboveP_len l l[j].id
      refine CallX.q (c34 l l[j].id (by omega) (by omega) hB) ?_
      push_cast
      refine CallX.q (c85 (aboveP l l[j].id) l[j].id (by omega)) ?_
      push_cast
      refine ⟨fun e => ?_, fun e => ⟨by omega, hjt, ?_⟩⟩
      · rw [hinv2, decide_eq_true e, Bool.true_or, if_pos rfl] at hR
        exact hR
      · rw [hinv2, decide_eq_false e, Bool.false_or]
    · rw [any_end (by omega)] at hinv2
      rw [hinv2] at hR
      exact hR
end Go.Proofs

/- The headings of a file as a map; Right and Find by the program. No condition. -/
namespace Go.Fc
open Go Go.Ax Go.Tx Go.Proofs
def kd (p : Str × Int) : List KD := [.int .i64 p.2, .str p.1]
theorem kd_inj {p q : Str × Int} (h : kd p = kd q) : p = q := by
  unfold kd at h
  injection h with h1 h2
  injection h1 with _ h1
  injection h2 with h2 _
  injection h2 with h2
  exact Prod.ext h2 h1
theorem has_kd : ∀ (m : Mp) (ps : List (Str × Int)) (p : Str × Int), m.map (·.1) = ps.map kd → mhas m (kd p) = decide (p ∈ ps)
  | [], [], p, _ => by simp [mhas]
  | [], _ :: _, _, h => by cases h
  | _ :: _, [], _, h => by cases h
  | kv :: m, q :: ps, p, h => by
    rw [List.map_cons, List.map_cons] at h
    injection h with h1 h2
    have ih := has_kd m ps p h2
    unfold mhas at *
    rw [List.any_cons, ih, h1, Bool.eq_iff_iff]
    simp only [Bool.or_eq_true, decide_eq_true_eq, List.mem_cons]
    constructor
    · rintro (e | e)
      · exact .inl (kd_inj e).symm
      · exact .inr e
    · rintro (e | e)
      · exact .inl (by rw [e])
      · exact .inr e
theorem put_new {m : Mp} {k : List KD} {v : Int} (h : mhas m k = false) : mput m k v = m ++ [(k, v)] := by
  unfold mput mpre
  rw [h, (mget_none h).2]
  unfold mset
  exact mod_last (fun kv : List KD × Int => (kv.1, v)) m (k, 0)
def mpA (a : Au) (i k : Nat) : Mp := ((headsA a).take k).map fun s => (kd (normF s, a.kind), (i : Int))
def mpOf (l : List Au) : Mp := l.zipIdx.flatMap fun x => mpA x.1 x.2 (headsA x.1).length
theorem mpOf_next {l : List Au} {i : Nat} (h : i < l.length) : mpOf (l.take (i + 1)) = mpOf (l.take i) ++ mpA l[i] i (headsA l[i]).length := by
  unfold mpOf
  have hl : (l.take i).length = i := by rw [List.length_take]; omega
  rw [Fc.take_next h, List.zipIdx_append, List.flatMap_append]
  simp [hl]
theorem mpA_next {a : Au} {i k : Nat} (h : k < (headsA a).length) : mpA a i (k + 1) = mpA a i k ++ [(kd (normF (headsA a)[k], a.kind), (i : Int))] := by
  unfold mpA
  rw [Fc.take_next h, List.map_append]; rfl
theorem mpA_keys (a : Au) (i k : Nat) : (mpA a i k).map (·.1) = (keysT a k).map kd := by
  unfold mpA keysT
  rw [List.map_map, List.map_map]; rfl
theorem mpOf_keys : ∀ (l : List Au) (i : Nat), i ≤ l.length → (mpOf (l.take i)).map (·.1) = (keysA (l.take i)).map kd
  | l, 0, _ => by simp [mpOf, keysA]
  | l, i + 1, h => by
    rw [mpOf_next (by omega), keysA_next (by omega), List.map_append, List.map_append, mpOf_keys l i (by omega), mpA_keys]
def formsM (l : List Au) : Mp := if twiceA l = true then [] else mpOf l
end Go.Fc
namespace Go.Proofs
open Go Go.Ax Go.Tx Go.Lib Go.RowKit Go.Fc
set_option maxRecDepth 100000
set_option maxHeartbeats 0
variable {Γ : List (Nat × List D)} {M : Int}
def tab80 : List (Nat × List Bool × List (Nat × Nat)) := [(0, [true, true, true, true, true, false, false], [(5, 0)]), (0, [true, true, true, true, true, true, false], [(6, 0)]), (0, [true, true, true, true, true, true, true], [])]
theorem c80 (hM : (0, [D.int .i64 M]) ∈ Γ) (l : List Au) (hl : l.length ≤ 2000000) (hs : ∀ a ∈ l, a.see.length ≤ 2000000 ∧ (-9223372036854775808 ≤ a.kind ∧ a.kind ≤ 9223372036854775807) ∧ ∀ s ∈ headsA a, s.length ≤ 100000 ∧ validF s = true) : AFn Tryz.prog Γ 80 [.c (.bor 5 (l.map Au.ds))] [.d (.mp [.int .i64, .str] (formsM l)), .d (.bool (!twiceA l))] := by
  refine AFn.vc [1000008] Tryz.func80 rfl Tryz.mixed (by kernel_rfl) Tryz.ntmps80 Tryz.results80 (by simp) ?_
  push_cast
  refine LoopV.cntH Tryz.mixed [4, 13, 14] l.length (fun i => [(15, .c (.d (.int .i64 i)))]) (fun i => [.mp [.int .i64, .str] (mpOf (l.take i))]) (fun i => (keysA (l.take i)).Nodup) (by simp [keysA]) ?_ (by push_cast; try rfl)
  intro i hi hnd
  push_cast
  refine ⟨fun h => ?_, fun h => ?_⟩
  · have hlt : i < l.length := by omega
    obtain ⟨hhs, hkd, hhi⟩ := hs _ (List.getElem_mem hlt)
    have hhl : (headsA l[i]).length = l[i].see.length + 1 := rfl
    refine ⟨hlt, ?_⟩
    refine CallL.q (c94 l[i] hhs) ?_
    push_cast
    refine LoopV.cntH Tryz.mixed [4, 5, 6, 13, 14, 15, 21, 22] (headsA l[i]).length (fun k => [(23, .c (.d (.int .i64 k)))]) (fun k => [.mp [.int .i64, .str] (mpOf (l.take i) ++ mpA l[i] i k), .box 45 (l[i].ds.map C.d)]) (fun k => (ksA l l[i] i k).Nodup) (by rw [ksA_zero]; exact hnd) ?_ (by push_cast; simp [mpA])
    intro k hk hnd2
    push_cast
    refine ⟨fun h2 => ?_, fun h2 => ?_⟩
    · have hkt : k < (headsA l[i]).length := by omega
      obtain ⟨hs1, hv1⟩ := hhi _ (List.getElem_mem hkt)
      have hdup := keysA_dup hlt hkt
      have hnx := ksA_next (l := l) (i := i) hkt
      have hpx := mpA_next (i := i) hkt
      have hkeys : (mpOf (l.take i) ++ mpA l[i] i k).map (·.1) = (ksA l l[i] i k).map kd := by
        rw [List.map_append, mpOf_keys l i (by omega), mpA_keys]
        unfold ksA
        rw [List.map_append]
      refine ⟨hkt, ?_⟩
      generalize (headsA l[i])[k] = s1 at *
      have hhas := has_kd _ _ (normF s1, l[i].kind) hkeys
      refine RegV.preA (E := [1000008]) Tryz.mixed 5 [⟨5, 9, 115, [.d (.int .i64 0), .d (.str [])]⟩] (by kernel_rfl) (by kernel_rfl) ?_ ?_
      · intro x hx
        simp only [List.mem_cons, List.not_mem_nil, or_false] at hx
        subst hx
        push_cast
      simp only [List.take_succ_cons, List.take_zero]
      push_cast
      refine CallX.q (c79 hM s1 hs1 hv1) ?_
      push_cast
      refine ⟨fun hA => CallX.q (c79 hM s1 hs1 hv1) ?_, ?_⟩
      · push_cast
      refine RestA.tab1 (E := [1000008]) tab80 [([none, none, none, none, none, some (9, .c (.loc 2 0)), none], [none, none, none, none, none, some [.mp [.int .i64, .str] (mpOf (l.take i) ++ mpA l[i] i k), .box 45 (l[i].ds.map C.d), .box 115 [.d (.int .i64 0), .d (.str [])]], some [.mp [.int .i64, .str] (mpOf (l.take i) ++ mpA l[i] i k), .box 45 (l[i].ds.map C.d), .box 115 [.d (.int .i64 l[i].kind), .d (.str (normF s1))]]])] (by kernel_rfl) (by kernel_rfl) rfl rfl rfl ?_ ?_
      · push_cast [tab80]
        exact ⟨rfl, rfl⟩
      push_cast
      have hnl : (normF s1).length ≤ 9223372036854775807 := by
        have := normF_len (s := s1) (by omega)
        omega
      refine ⟨⟨Tryz.mapT110, hkd, hnl⟩, fun e => ?_, fun e => ?_⟩
      · have hin : (normF s1, l[i].kind) ∈ ksA l l[i] i k := by
          have : mhas (mpOf (l.take i) ++ mpA l[i] i k) (kd (normF s1, l[i].kind)) = true := e
          rw [hhas] at this
          simpa using this
        have ht : twiceA l = true := by unfold twiceA; rw [decide_eq_false (hdup hin)]; rfl
        rw [ht]
        exact ⟨by unfold formsM; rw [if_pos ht], rfl⟩
      · have hno : (normF s1, l[i].kind) ∉ ksA l l[i] i k := fun hc => by
          have : mhas (mpOf (l.take i) ++ mpA l[i] i k) (kd (normF s1, l[i].kind)) = false := e
          rw [hhas, decide_eq_true hc] at this
          cases this
        refine ⟨⟨Tryz.mapT110, hkd, hnl⟩, by omega, ⟨hkt, ?_⟩, ?_⟩
        · rw [hnx, List.nodup_append]
          exact ⟨hnd2, by simp, fun a ha b hb => by
            have : b = (normF s1, l[i].kind) := by simpa using hb
            rw [this]
            exact fun z => hno (z ▸ ha)⟩
        · rw [show ([KD.int .i64 l[i].kind, KD.str (normF s1)] : List KD) = kd (normF s1, l[i].kind) from rfl, put_new (by rw [hhas, decide_eq_false hno]), hpx, List.append_assoc]
    · have e : keysA (l.take (i + 1)) = ksA l l[i] i k := by rw [keysA_next hlt, show k = (headsA l[i]).length by omega]; rfl
      exact ⟨by omega, ⟨hlt, by rw [e]; exact hnd2⟩, by rw [mpOf_next hlt, show k = (headsA l[i]).length by omega]⟩
  · obtain rfl : i = l.length := by omega
    rw [List.take_length] at hnd ⊢
    have ht : twiceA l = false := by unfold twiceA; rw [decide_eq_true hnd]; rfl
    rw [ht]
    have hf : formsM l = mpOf l := by unfold formsM; rw [ht]; rfl
    rw [hf]
    exact ⟨rfl, rfl⟩
end Go.Proofs

/- Right, checked and Find by the program. No condition. -/
namespace Go.Proofs
open Go Go.Ax Go.Tx Go.Lib Go.RowKit Go.Fc
set_option maxRecDepth 100000
set_option maxHeartbeats 0
variable {Γ : List (Nat × List D)} {M : Int}
def rightP (l : List Au) : Int := if 64 < l.length then 13 else if formsE none l = 0 then (if twiceA l = true then 7 else checkP l) else formsE none l
structure AuB (l : List Au) : Prop where
  len : l.length ≤ 2000000
  see : ∀ a ∈ l, a.see.length ≤ 2000000 ∧ ∀ s ∈ headsA a, s.length ≤ 100000
  ab : ∀ a ∈ l, a.above.length ≤ 2000000
  abi : ∀ x ∈ allUp l, -9223372036854775808 ≤ x ∧ x ≤ 9223372036854775807
theorem c33 (h2 : (2, firstD) ∈ Γ) (h3 : (3, acceptD) ∈ Γ) (hM : (0, [D.int .i64 M]) ∈ Γ) (l : List Au) (hb : AuB l) : AFn Tryz.prog Γ 33 [.c (.d (.lst 5 (l.map Au.ds)))] [.d (.int .i64 (rightP l))] := by
  refine AFn.vc [] Tryz.func33 rfl Tryz.mixed (by kernel_rfl) Tryz.ntmps33 Tryz.results33 (by simp) ?_
  push_cast
  unfold rightP
  refine ⟨fun e => by rw [if_pos (by omega)], fun e => ?_⟩
  rw [if_neg (by omega)]
  refine CallL.q (c82 h2 h3 hM l hb.len hb.see) ?_
  push_cast
  refine ⟨fun e1 => by rw [if_neg e1], fun e1 => ?_⟩
  rw [if_pos e1]
  have hok := formsE_ok e1
  refine CallL.q (c80 hM l hb.len fun a ha => ?_) ?_
  · obtain ⟨k1, k2, k3⟩ := shapeA_ok (hok a ha).1
    exact ⟨(hb.see a ha).1, ⟨by omega, by omega⟩, fun s hs => ⟨(hb.see a ha).2 s hs, (k3 s hs).1⟩⟩
  push_cast
  refine ⟨fun t => by rw [if_pos t], fun t => ?_⟩
  rw [if_neg (by simp [t])]
  refine CallL.q (c83 l (by omega) hb.ab hb.abi) ?_
  push_cast
theorem c86 (h2 : (2, firstD) ∈ Γ) (h3 : (3, acceptD) ∈ Γ) (hM : (0, [D.int .i64 M]) ∈ Γ) (l : List Au) (hb : AuB l) : AFn Tryz.prog Γ 86 [.c (.d (.lst 5 (l.map Au.ds)))] [.d (.lst 5 ((if rightP l = 0 then l else []).map Au.ds)), .d (.int .i64 (rightP l))] := by
  refine AFn.vc [] Tryz.func86 rfl Tryz.mixed (by kernel_rfl) Tryz.ntmps86 Tryz.results86 (by simp) ?_
  push_cast
  refine CallL.q (c33 h2 h3 hM l hb) ?_
  push_cast
  refine ⟨fun e => ?_, fun e => ?_⟩
  · first | (rw [if_neg e]; done) | (rw [if_neg e]; exact ⟨rfl, rfl⟩)
  · first | (rw [if_pos e]; exact ⟨rfl, e.symm⟩) | (rw [if_pos e]; exact e.symm) | (rw [if_pos e]; done)
theorem mget_mem : ∀ (m : Mp) (k : List KD), mhas m k = true → (k, mget m k) ∈ m
  | [], k, h => by simp [mhas] at h
  | kv :: m, k, h => by
    unfold mget
    by_cases e : kv.1 = k
    · rw [if_pos e, ← e]; exact List.mem_cons_self
    · rw [if_neg e]
      refine List.mem_cons_of_mem _ (mget_mem m k ?_)
      unfold mhas at *
      rw [List.any_cons, decide_eq_false e, Bool.false_or] at h
      exact h
theorem mpOf_mem {l : List Au} {p : Str × Int} {v : Int} (h : (kd p, v) ∈ mpOf l) : ∃ i : Nat, ∃ hi : i < l.length, v = i ∧ l[i].kind = p.2 ∧ ∃ s ∈ headsA l[i], normF s = p.1 := by
  unfold mpOf at h
  obtain ⟨⟨a, i⟩, hx, hm⟩ := List.mem_flatMap.1 h
  obtain ⟨s, hs, e⟩ := List.mem_map.1 hm
  rw [List.take_length] at hs
  injection e with e1 e2
  have e3 := kd_inj e1
  have hz := List.mem_zipIdx' hx
  refine ⟨i, hz.1, e2.symm, ?_, s, ?_, ?_⟩
  · rw [← hz.2]; exact congrArg Prod.snd e3
  · rw [← hz.2]; exact hs
  · exact congrArg Prod.fst e3
def findP (l : List Au) (kind : Int) (s : Str) : Int × Bool × Bool :=
  if normF s = [] ∨ mhas (mpOf l) (kd (normF s, kind)) = false then (0, false, false)
  else match l[(mget (mpOf l) (kd (normF s, kind))).toNat]? with
    | some a => (a.id, decide (normF a.hd = normF s), true)
    | none => (0, false, false)
theorem c30 (hM : (0, [D.int .i64 M]) ∈ Γ) (l : List Au) (hl : l.length ≤ 2000000) (ht : twiceA l = false) (hs : ∀ a ∈ l, a.see.length ≤ 2000000 ∧ (-9223372036854775808 ≤ a.kind ∧ a.kind ≤ 9223372036854775807) ∧ ∀ s ∈ headsA a, s.length ≤ 100000 ∧ validF s = true)
    (kind : Int) (hk : -9223372036854775808 ≤ kind ∧ kind ≤ 9223372036854775807) (s : Str) (h1 : s.length ≤ 100000) (hv : validF s = true) : AFn Tryz.prog Γ 30 [.c (.d (.lst 5 (l.map Au.ds))), .c (.d (.int .i64 kind)), .c (.d (.str s))] [.d (.int .i64 (findP l kind s).1), .d (.bool (findP l kind s).2.1), .d (.bool (findP l kind s).2.2)] := by
  refine AFn.vc [] Tryz.func30 rfl Tryz.mixed (by kernel_rfl) Tryz.ntmps30 Tryz.results30 (by simp) ?_
  push_cast
  refine CallL.q (c79 hM s h1 hv) ?_
  push_cast
  refine CallL.q (c80 hM l hl hs) ?_
  push_cast
  have hf : formsM l = mpOf l := by unfold formsM; rw [ht]; rfl
  rw [hf]
  have hnl : (normF s).length ≤ 9223372036854775807 := by
    have := normF_len (s := s) (by omega)
    omega
  refine ⟨⟨Tryz.mapT110, hk, hnl⟩, ?_⟩
  have key : ([KD.int .i64 kind, KD.str (normF s)] : List KD) = kd (normF s, kind) := rfl
  rw [key]
  refine ⟨fun n0 => ⟨fun e => ?_, fun e => ?_⟩, fun n0 => ?_⟩
  · have : findP l kind s = (0, false, false) := by unfold findP; rw [if_pos (.inr e)]
    rw [this]
    exact ⟨rfl, rfl, rfl⟩
  · obtain ⟨i, hi, hv0, _, _⟩ := mpOf_mem (mget_mem _ _ e)
    have hfp : findP l kind s = (l[i].id, decide (normF l[i].hd = normF s), true) := by
      unfold findP
      rw [if_neg (by simp [n0, e]), hv0, Int.toNat_natCast, List.getElem?_eq_getElem hi]
    obtain ⟨_, _, hhd⟩ := hs _ (List.getElem_mem hi)
    obtain ⟨b1, b2⟩ := hhd l[i].hd (by simp [headsA])
    generalize mget (mpOf l) (kd (normF s, kind)) = v at *
    subst hv0
    refine ⟨by omega, by simpa using hi, by omega, by simpa using hi, ?_⟩
    refine CallX.q (c79 hM l[i].hd b1 b2) ?_
    push_cast
    rw [hfp]
    exact ⟨rfl, rfl, rfl⟩
  · have : findP l kind s = (0, false, false) := by unfold findP; rw [if_pos (.inl n0)]
    rw [this]
    exact ⟨rfl, rfl, rfl⟩
end Go.Proofs

/- The reference's Find and Same; in. No condition. -/
namespace Go.Proofs
open Go Go.Ax Go.Tx Go.Lib Go.RowKit Go.Fc
set_option maxRecDepth 100000
set_option maxHeartbeats 0
variable {Γ : List (Nat × List D)} {M : Int}
theorem c36 (l : List Int) (n : Int) (hl : l.length ≤ 1000000000) : AFn Tryz.prog Γ 36 [.c (.d (.lst 1 (l.map iD))), .c (.d (.int .i64 n))] [.d (.bool (decide (n ∈ l)))] := by
  refine AFn.vc [] Tryz.func36 rfl Tryz.mixed (by kernel_rfl) Tryz.ntmps36 Tryz.results36 (by simp) ?_
  push_cast
  refine LoopV.cnt Tryz.mixed [0, 1] l.length (fun k => [(5, .c (.d (.int .i64 k)))]) (fun k => n ∈ l ↔ n ∈ l.drop k) (by simp) ?_
  intro k hk hinv
  push_cast
  refine ⟨fun h => ?_, fun h => ?_⟩
  · have hlt : k < l.length := by omega
    rw [mem_step hlt] at hinv
    refine ⟨hlt, fun e => (decide_eq_true (hinv.2 (.inl e))).symm, fun e => ⟨by omega, hlt, ?_⟩⟩
    rw [hinv]; exact ⟨fun h => h.resolve_left e, .inr⟩
  · exact (decide_eq_false fun hm => mem_end (by omega) (hinv.1 hm)).symm
theorem same_step {a b : List Au} {k : Nat} (h : k < a.length) (h2 : k < b.length) : (a.drop k = b.drop k) ↔ (a[k] = b[k] ∧ a.drop (k + 1) = b.drop (k + 1)) := by
  rw [Fc.drop_cons h, Fc.drop_cons h2, List.cons.injEq]
theorem c32 (a b : List Au) (ha : a.length ≤ 2000000) (hsa : ∀ x ∈ a, x.see.length ≤ 2000000 ∧ x.above.length ≤ 2000000) (hsb : ∀ x ∈ b, x.see.length ≤ 2000000 ∧ x.above.length ≤ 2000000) : AFn Tryz.prog Γ 32 [.c (.d (.lst 5 (a.map Au.ds))), .c (.d (.lst 5 (b.map Au.ds)))] [.d (.bool (decide (a = b)))] := by
  refine AFn.vc [] Tryz.func32 rfl Tryz.mixed (by kernel_rfl) Tryz.ntmps32 Tryz.results32 (by simp) ?_
  push_cast
  refine ⟨fun e => ?_, fun e => ?_⟩
  · exact (decide_eq_false (fun h => e (by rw [h]))).symm
  have hlen : a.length = b.length := by omega
  refine LoopV.cnt Tryz.mixed [0, 1] a.length (fun k => [(5, .c (.d (.int .i64 k)))]) (fun k => (a = b) ↔ (a.drop k = b.drop k)) (by simp) ?_
  intro k hk hinv
  push_cast
  refine ⟨fun h => ?_, fun h => ?_⟩
  · have hlt : k < a.length := by omega
    have hlt2 : k < b.length := by omega
    rw [same_step hlt hlt2] at hinv
    simp only [List.append_eq]
    push_cast
    have ne : a[k] ≠ b[k] → false = decide (a = b) := fun h => (decide_eq_false fun e => h (hinv.1 e).1).symm
    refine ⟨hlt, hlt2, fun e1 => ⟨hlt, hlt2, fun e2 => ⟨hlt, hlt2, fun e3 => ⟨hlt, hlt2, ?_⟩, fun e3 => ne fun z => e3 (by rw [z])⟩, fun e2 => ne fun z => e2 (by rw [z])⟩, fun e1 => ne fun z => e1 (by rw [z])⟩
    refine CallX.q (c45 a[k].see b[k].see (hsa _ (List.getElem_mem hlt)).1) ?_
    push_cast
    refine ⟨fun e4 => ⟨hlt, hlt2, ?_⟩, fun e4 => ne fun z => e4 (by rw [z])⟩
    refine CallX.q (c51 a[k].above b[k].above (hsa _ (List.getElem_mem hlt)).2) ?_
    push_cast
    refine ⟨fun e5 => ne fun z => e5 (by rw [z]), fun e5 => ⟨by omega, hlt, ?_⟩⟩
    have heq : a[k] = b[k] := by
      cases ha : a[k]; cases hb : b[k]
      rw [ha, hb] at e1 e2 e3 e4 e5
      simp only at e1 e2 e3 e4 e5
      subst e1 e2 e3 e4 e5
      rfl
    rw [hinv]
    exact ⟨fun z => z.2, fun z => ⟨heq, z⟩⟩
  · rw [List.drop_eq_nil_of_le (by omega), List.drop_eq_nil_of_le (by omega)] at hinv
    exact (decide_eq_true (hinv.2 rfl)).symm
def findK (kind : Int) (n : Str) (a : Au) : Nat → List Str → Option (Int × Bool × Bool)
  | _, [] => none
  | k, s :: r => if a.kind = kind ∧ normF s = n then some (a.id, decide (k = 0), true) else findK kind n a (k + 1) r
def findS (kind : Int) (n : Str) : List Au → Int × Bool × Bool
  | [] => (0, false, false)
  | a :: r => match findK kind n a 0 (headsA a) with
    | some x => x
    | none => findS kind n r
def findR (l : List Au) (kind : Int) (s : Str) : Int × Bool × Bool := if normF s = [] then (0, false, false) else findS kind (normF s) l
theorem findK_step {kind : Int} {n : Str} {a : Au} {hs : List Str} {k : Nat} (h : k < hs.length) : findK kind n a k (hs.drop k) = if a.kind = kind ∧ normF hs[k] = n then some (a.id, decide (k = 0), true) else findK kind n a (k + 1) (hs.drop (k + 1)) := by
  rw [Fc.drop_cons h]; rfl
theorem findS_step {kind : Int} {n : Str} {l : List Au} {i : Nat} (h : i < l.length) : findS kind n (l.drop i) = match findK kind n l[i] 0 (headsA l[i]) with | some x => x | none => findS kind n (l.drop (i + 1)) := by
  rw [Fc.drop_cons h]; rfl
theorem c31 (l : List Au) (hl : l.length ≤ 2000000) (hs : ∀ a ∈ l, a.see.length ≤ 2000000 ∧ ∀ s ∈ headsA a, s.length ≤ 2000000) (kind : Int) (s : Str) (h1 : s.length ≤ 2000000) : AFn Tryz.prog Γ 31 [.c (.d (.lst 5 (l.map Au.ds))), .c (.d (.int .i64 kind)), .c (.d (.str s))] [.d (.int .i64 (findR l kind s).1), .d (.bool (findR l kind s).2.1), .d (.bool (findR l kind s).2.2)] := by
  generalize hR : findR l kind s = R
  unfold findR at hR
  refine AFn.vc [] Tryz.func31 rfl Tryz.mixed (by kernel_rfl) Tryz.ntmps31 Tryz.results31 (by simp) ?_
  push_cast
  refine CallL.q (c81 s h1) ?_
  push_cast
  refine ⟨fun e => ?_, fun e => ?_⟩
  · rw [if_pos e] at hR
    rw [← hR]
    exact ⟨rfl, rfl, rfl⟩
  rw [if_neg e] at hR
  generalize normF s = n at *
  refine LoopV.cnt Tryz.mixed [0, 1, 9] l.length (fun i => [(10, .c (.d (.int .i64 i)))]) (fun i => findS kind n (l.drop i) = R) hR ?_
  intro i hi hinv
  push_cast
  refine ⟨fun h => ?_, fun h => ?_⟩
  · have hlt : i < l.length := by omega
    obtain ⟨q1, q2⟩ := hs _ (List.getElem_mem hlt)
    rw [findS_step hlt] at hinv
    refine ⟨hlt, ?_⟩
    refine CallL.q (c73 l[i] q1) ?_
    push_cast
    have hhl : (headsA l[i]).length = l[i].see.length + 1 := rfl
    refine LoopV.cnt Tryz.mixed [0, 1, 9, 10, 11] (headsA l[i]).length (fun k => [(12, .c (.d (.int .i64 k)))]) (fun k => findK kind n l[i] 0 (headsA l[i]) = findK kind n l[i] k ((headsA l[i]).drop k)) (by simp) ?_
    intro k hk hinv2
    push_cast
    refine ⟨fun h2 => ?_, fun h2 => ?_⟩
    · have hkt : k < (headsA l[i]).length := by omega
      rw [findK_step hkt] at hinv2
      refine ⟨hlt, fun e1 => ⟨hkt, ?_⟩, fun e1 => ?_⟩
      · refine CallL.q (c81 (headsA l[i])[k] (q2 _ (List.getElem_mem hkt))) ?_
        push_cast
        refine ⟨fun e2 => ?_, fun e2 => ?_⟩
        · rw [if_pos ⟨e1, e2⟩] at hinv2
          rw [hinv2] at hinv
          refine ⟨hlt, ?_⟩
          rw [← hinv]
          exact ⟨rfl, by simp, rfl⟩
        · rw [if_neg fun z => e2 z.2] at hinv2
          exact ⟨by omega, hkt, hinv2⟩
      · rw [if_neg fun z => e1 z.1] at hinv2
        exact ⟨by omega, hkt, hinv2⟩
    · rw [List.drop_eq_nil_of_le (by omega)] at hinv2
      rw [hinv2] at hinv
      exact ⟨by omega, hlt, hinv⟩
  · rw [List.drop_eq_nil_of_le (by omega)] at hinv
    rw [← hinv]
    exact ⟨rfl, rfl, rfl⟩
end Go.Proofs

/- Clones. No condition. -/
namespace Go.Proofs
open Go Go.Ax Go.Tx Go.Lib Go.RowKit Go.Fc
set_option maxRecDepth 100000
set_option maxHeartbeats 0
variable {Γ : List (Nat × List D)} {M : Int}
theorem c88 (l : List Au) (hl : l.length ≤ 2000000) : AFn Tryz.prog Γ 88 [.c (.d (.lst 5 (l.map Au.ds)))] [.fresh 45 5 (l.map Au.ds)] := by
  refine AFn.vc [] Tryz.func88 rfl Tryz.mixed (by kernel_rfl) Tryz.ntmps88 Tryz.results88 (by simp) ?_
  push_cast
  exact ⟨fun h => ⟨by omega, by omega⟩, fun h b => ⟨fun _ => h, fun _ => ⟨by omega, by omega⟩⟩⟩
theorem c91 (l : List Str) (hl : l.length ≤ 2000000) : AFn Tryz.prog Γ 91 [.c (.d (.lst 1 (l.map Fc.sD)))] [.fresh 9 1 (l.map Fc.sD)] := by
  refine AFn.vc [] Tryz.func91 rfl Tryz.mixed (by kernel_rfl) Tryz.ntmps91 Tryz.results91 (by simp) ?_
  push_cast
  exact ⟨fun h => ⟨by omega, by omega⟩, fun h b => ⟨fun _ => h, fun _ => ⟨by omega, by omega⟩⟩⟩
theorem c93 (l : List Int) (hl : l.length ≤ 2000000) : AFn Tryz.prog Γ 93 [.c (.d (.lst 1 (l.map Fc.iD)))] [.fresh 3 1 (l.map Fc.iD)] := by
  refine AFn.vc [] Tryz.func93 rfl Tryz.mixed (by kernel_rfl) Tryz.ntmps93 Tryz.results93 (by simp) ?_
  push_cast
  exact ⟨fun h => ⟨by omega, by omega⟩, fun h b => ⟨fun _ => h, fun _ => ⟨by omega, by omega⟩⟩⟩
end Go.Proofs
