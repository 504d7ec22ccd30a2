/- Walks of the chapter on formats, twelfth part: there and back. -/
import Derived.Test.YtimehiamdikinaaFWk
set_option linter.all false
namespace Go.Proofs
open Go Go.Ax Go.Fm
set_option maxRecDepth 100000
variable {Γ : List (Nat × List D)}
theorem pre_app (m d : List UInt8) : preB (m ++ d) m = true := by
  unfold preB
  simp
theorem conv_app (f t : Fmt) (d : List UInt8) : convF f t (f.magic ++ d) = t.magic ++ d := by
  unfold convF
  rw [if_pos (pre_app _ _)]; simp
theorem convE_app (f : Fmt) (d : List UInt8) : convE f (f.magic ++ d) = 0 := by
  unfold convE
  rw [if_pos (pre_app _ _)]
theorem ident_lt (m : List UInt8) : ∀ (l : List Fmt) (b : Int × Nat), b.2 < m.length → (∀ g ∈ l, g.magic ≠ m) → (l.foldl (idStep m) b).2 < m.length
  | [], b, h, _ => h
  | g :: l, b, h, hg => by
    refine ident_lt m l _ ?_ fun x hx => hg x (by simp [hx])
    unfold idStep
    cases e : decide (b.2 < g.magic.length) && preB m g.magic with
    | false => exact h
    | true =>
      simp only [Bool.and_eq_true, decide_eq_true_eq, preB] at e
      obtain ⟨e1, e2, e3⟩ := e
      show g.magic.length < m.length
      rcases Nat.lt_or_ge g.magic.length m.length with z | z
      · exact z
      · rw [List.take_of_length_le z] at e3
        exact absurd e3.symm (hg g (by simp))
theorem ident_same (m : List UInt8) : ∀ (l : List Fmt) (b : Int × Nat), m.length ≤ b.2 → l.foldl (idStep m) b = b
  | [], b, _ => rfl
  | g :: l, b, h => by
    have e : idStep m b g = b := by
      unfold idStep
      cases e : decide (b.2 < g.magic.length) && preB m g.magic with
      | false => rfl
      | true =>
        simp only [Bool.and_eq_true, decide_eq_true_eq, preB] at e
        omega
    rw [List.foldl_cons, e]
    exact ident_same m l b h
theorem ident_self {l : List Fmt} (hg : Good l) (i : Nat) (hi : i < l.length) : identF l l[i].magic = l[i].id := by
  have hm := (check_ok (hg.chk _ (List.getElem_mem hi))).2
  have e : l = l.take i ++ l[i] :: l.drop (i + 1) := by rw [← drop_cons hi, List.take_append_drop]
  unfold identF
  have h1 : (l.foldl (idStep l[i].magic) (0, 0)) = ((l.take i ++ l[i] :: l.drop (i + 1)).foldl (idStep l[i].magic) (0, 0)) := congrArg (fun z => z.foldl (idStep l[i].magic) (0, 0)) e
  rw [h1, List.foldl_append, List.foldl_cons]
  have h2 := ident_lt l[i].magic (l.take i) (0, 0) (by show 0 < _; omega) fun g hg2 => by
    obtain ⟨a, ha, rfl⟩ := List.mem_take_iff_getElem.1 hg2
    have := hg.dup a i (by omega) hi (by omega)
    unfold dupB at this
    simp only [Bool.or_eq_false_iff, decide_eq_false_iff_not] at this
    exact this.2
  have h3 : idStep l[i].magic ((l.take i).foldl (idStep l[i].magic) (0, 0)) l[i] = (l[i].id, l[i].magic.length) := by
    generalize (l.take i).foldl (idStep l[i].magic) (0, 0) = b at *
    unfold idStep
    rw [decide_eq_true h2]
    have : preB l[i].magic l[i].magic = true := by simp [preB]
    rw [this]; rfl
  rw [h3, ident_same _ _ _ (Nat.le_refl _)]
theorem risk_bnd {f : Fmt} (h : checkF f = 0) (y : Int) : 0 ≤ riskF f y ∧ riskF f y ≤ 100 := by
  have := (check_ok h).1
  unfold riskF imin
  repeat' split
  all_goals omega
theorem risk_mono {f : Fmt} (h : checkF f = 0) (y e : Int) (he : 0 ≤ e) (hs : f.since ≤ y) : riskF f y ≤ riskF f (y + e) := by
  have := (check_ok h).1
  unfold riskF imin
  repeat' split
  all_goals omega
theorem c19s (l : List Fmt) (m : List UInt8) (id : Int) (hl : l.length ≤ 1000000) (h : identF l m = id) : AFn Try.prog Γ 19 [.c (.d (.lst 7 (l.map Fmt.ds))), .c (.d (.str m))] [.d (.int .i64 id)] := h ▸ c19 l m hl
theorem c16s (f t : Fmt) (d : List UInt8) (hf : f.magic.length ≤ 50) (ht : t.magic.length ≤ 50) (hd : d.length ≤ 300) : AFn Try.prog Γ 16 [.agg (f.ds.map C.d), .agg (t.ds.map C.d), .c (.d (.str (f.magic ++ d)))] [.d (.str (t.magic ++ d)), .d (.int .i64 0)] := by
  have := c16 (Γ := Γ) f t (f.magic ++ d) (by omega) (by rw [List.length_append]; omega)
  rwa [conv_app, convE_app] at this
theorem c6 (l : List Fmt) (data : List UInt8) (year : Int) (e : UInt8) : AFn Try.prog Γ 6 [.c (.d (.lst 7 (l.map Fmt.ds))), .c (.d (.str data)), .c (.d (.int .i64 year)), .c (.d (.int .u8 e.toNat))] [.d (.bool true)] := by
  refine AFn.vc [] Try.func6 rfl Try.mixed (by kernel_rfl) Try.ntmps6 Try.results6 (by simp) ?_
  push_cast
  refine CallL.q c9 ?_
  push_cast
  refine CallL.q (c10 l) ?_
  push_cast
  intro h hd
  have hn := fun f hf => (small_ok h).2 f hf
  refine CallL.q (c11 l fun f hf => by have := hn f hf; omega) ?_
  push_cast
  intro hr hy hy2
  have hg := good_of hr
  have hlen := hg.len
  refine LoopV.cnt Try.mixed [0, 1, 2, 3] l.length (fun k => [(9, .c (.d (.int .i64 k)))]) (fun _ => True) trivial ?_ (by push_cast)
  intro k hk _
  push_cast
  intro hk2
  have hk' : k < l.length := by omega
  have hc := hg.chk _ (List.getElem_mem hk')
  have v := hg.okF h _ (List.getElem_mem hk')
  have b1 := risk_bnd hc year
  have b2 := risk_bnd hc (year + e.toNat)
  have he := e.toNat_lt
  refine ⟨hk', ?_⟩
  refine CallL.q (c18 l[k] year v.u0 v.b0 v.b1 v.u1 (by omega) (by omega)) ?_
  push_cast
  refine ⟨⟨by omega, by omega⟩, ⟨by omega, by omega⟩, ?_⟩
  refine CallL.q (c18 l[k] (year + e.toNat) v.u0 v.b0 v.b1 v.u1 (by omega) (by omega)) ?_
  push_cast
  have b3 := fun hs : l[k].since ≤ year => risk_mono hc year e.toNat (by omega) hs
  have hid := ident_self hg k hk'
  repeat' (first | apply And.intro | intro _)
  all_goals try (exfalso; omega)
  all_goals
    refine CallX.q (c19s l _ _ (by omega) hid) ?_
    push_cast
  all_goals
    have hq : ((k : Int) + 1) % (l.length : Int) = (((k + 1) % l.length : Nat) : Int) := by rw [Int.natCast_emod]; rfl
    have hql : (k + 1) % l.length < l.length := Nat.mod_lt _ (by omega)
    rw [hq]
    generalize (k + 1) % l.length = q at *
    have m1 := hn _ (List.getElem_mem hk')
    have m2 := hn _ (List.getElem_mem hql)
    refine ⟨⟨by omega, by omega⟩, ⟨by omega, by omega⟩, by omega, hql, by omega, ?_⟩
    refine CallL.q (c16s l[k] l[q] data m1.2.1 m2.2.1 (by omega)) ?_
    push_cast
    refine CallL.q (c16s l[q] l[k] data m2.2.1 m1.2.1 (by omega)) ?_
    push_cast
    exact ⟨by omega, ⟨by omega, by omega⟩, hk'⟩
end Go.Proofs
