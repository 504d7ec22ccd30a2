/- Part of a proof about this program; no condition of its own. -/
import Derived.Test.YtglonmggpbajgaaDoorSPb
import Derived.Test.YtglonmggpbajgaaDoorGyF
set_option linter.all false
/- The range over slices.Chunk in the program's Print: its rounds are given. -/
namespace Go.Proofs
open Go Go.Ax Go.Sd
variable {Γ : List (Nat × List D)}
def prEnv : Env := pute 4 (.c (.loc 1 0)) []
def prH {R : Nat} (rows : Nat → List Int) (pre : List (Fin R)) : List LB := [.dead, .box 42 [.own 4 pre.length], .dead, .dead, .row 9 1 (pre.map fun i => [.str (lineF (rows i.val))]) pre.length]
theorem prH_flat {R : Nat} (rows : Nat → List Int) (pre : List (Fin R)) : flatH (prH rows pre) := by
  refine ⟨fun c hc => ?_, fun e he d hd => ?_, trivial⟩
  · rw [List.mem_singleton.1 hc]; trivial
  · obtain ⟨i, _, rfl⟩ := List.mem_map.1 he
    rw [List.mem_singleton.1 hd]; rfl
theorem g1_flat : ∀ (r : List AV) (n : Nat), (∀ α ∈ r, flatA α) → flatA (g1 r n)
  | [], _, _ => trivial
  | a :: _, 0, h => h a (List.mem_cons_self ..)
  | _ :: r, n + 1, h => g1_flat r n fun α hα => h α (List.mem_cons_of_mem _ hα)
theorem g2_flat : ∀ (e : Env) (n : Nat), (∀ r ∈ e, ∀ α ∈ r, flatA α) → ∀ α ∈ g2 e n, flatA α
  | [], _, _ => fun α h => by cases h
  | c :: _, 0, h => h c (List.mem_cons_self ..)
  | _ :: r, n + 1, h => g2_flat r n fun q hq => h q (List.mem_cons_of_mem _ hq)
theorem flatE_of (e : Env) (h : ∀ r ∈ e, ∀ α ∈ r, flatA α) : flatE e := fun t => g1_flat _ _ (g2_flat _ _ h)
theorem c23k {cx : Cx} {G5 : Gh} {a5 : Act} {w5 : World} {env : Env} {cs0 : List C} {cells : List Int} {R K : Nat} (hpm : cx.pm = ⟨0, 70, Γ⟩) (hdf : cx.df = [])
    (s5 : Sat cx G5 ⟨env, [.box 35 cs0, .box 42 [.d (.raw (.slice none 0 0))], .box 33 [.d (.lst 1 (cells.map iD))], .box 3 [.d (.int .i64 K)]]⟩ a5 w5) (h45 : lk 45 env = .c (.clo 51 [2, 3])) (h4 : lk 4 env = .c (.loc 1 0))
    (hRK : R * K = cells.length) (hR : 1 ≤ R) (hK : 1 ≤ K) (hl : cells.length ≤ 1000) {id : Nat} {ty : TypeId} {ps : String} {af : Array Edge} (body : Code) (hnd : nodC body = true)
    (hbody : ∀ (pre : List (Fin R)) (x : Fin R), pre.length < R → AXc Tryd.prog ⟨5, 70, Γ⟩ body ⟨pute 5 (.c (.d (.lst 1 (((cells.drop (x.val * K)).take K).map iD)))) (pute 46 (.c (.d (.lst 1 (((cells.drop (x.val * K)).take K).map iD)))) prEnv), prH (fun i => (cells.drop (i * K)).take K) pre⟩ (RoundQ ⟨5, 70, Γ⟩ ⟨[], prH (fun i => (cells.drop (i * K)).take K) (pre ++ [x])⟩))
    (Q : Exit → Act → World → Prop)
    (hdone : ∀ (D : Nat) (W : World) (g : List (Value × Nat)) (V2 : Vw), w5.heap.size ≤ D → G5.V.Le V2 → Sat { cx with df := [coll D], G0 := ⟨collV V2 D, []⟩ } ⟨collV V2 D, g⟩ ⟨prEnv, prH (fun i => (cells.drop (i * K)).take K) (List.finRange R)⟩ { a5 with defers := [coll D] } W → V2.H D = none → Q .normal { a5 with defers := [coll D] } W) :
    (Code.rangeFunc (.tmp 45) #[46] (.region id #[⟨some 5, .assign (.tmp 46), ty, ps, af, none⟩] false) body).wp Tryd.prog Q a5 w5 := by
  obtain ⟨bs, e45, hcl⟩ := (h45 ▸ s5.ev (.tmp 45) : Ar G5 (.c (.clo 51 [2, 3])) (a5.eval (.tmp 45)))
  cases hcl with | cons hc1 hcl =>
  cases hcl with | cons hc2 hcl =>
  cases hcl
  rename_i Bs Bn
  obtain ⟨n1, hc1⟩ := hc1
  obtain ⟨n2, hc2⟩ := hc2
  obtain ⟨V1, b1, v1, hG1, sH1, ⟨m1, hg1⟩, hV1, hd1, hlt1⟩ := s5.h.freezeBox1 (i := 2) rfl
  rw [hc1] at hg1
  cases hg1
  have s6 := s5.step hG1 sH1
  obtain ⟨V2, b2, v2, hG2, sH2, ⟨m2, hg2⟩, hV2, hd2, hlt2⟩ := s6.h.freezeBox1 (i := 3) rfl
  rw [hc2] at hg2
  cases hg2
  have s7 := s6.step hG2 sH2
  have s8 := s7.nilbox 1 0 9 1 rfl rfl
  have sH9 := s8.h.relabel (i := 0) (lb' := .dead) rfl (fun h => h.elim) (fun _ _ _ => trivial)
  have hv2 := dr_int hd2
  subst hv2
  have hRKp : 0 < R * K := Nat.mul_pos (by omega) (by omega)
  obtain ⟨b, off, cap, rfl, hcap, hpart⟩ := dr_parts hd1 hRK.symm hRKp
  have hV1' := hG2.V.H _ _ hV1
  have s9 : Sat cx ⟨V2, G5.g ++ [(.slice none 0 0, 0)]⟩ ⟨prEnv, prH (R := R) (fun i => (cells.drop (i * K)).take K) []⟩ a5 w5 := by
    refine ⟨sH9, fun t => ?_, s8.N, s8.defers⟩
    show Ar _ (lk t (pute 4 _ [])) _
    rw [lk_put]
    by_cases ht : 4 = t
    · subst ht
      rw [if_pos rfl]
      have := s8.env 4
      rw [h4] at this
      exact this
    · rw [if_neg ht]
      trivial
  have hle : G5.V.Le V2 := hG1.V.trans hG2.V
  have cBs : w5.cell? ⟨Bs, 0, none⟩ = some (.slice (some ⟨b, off, none⟩) (R * K) cap) := by
    have := s9.h.view _ _ hV1'
    simp [World.cell?, this]
  have cBn : w5.cell? ⟨Bn, 0, none⟩ = some (.int .i64 K) := by
    have := s9.h.view _ _ hV2
    simp [World.cell?, this]
  have hHn : ∀ D, w5.heap.size ≤ D → V2.H D = none := fun D hD => by
    cases e : V2.H D with
    | none => rfl
    | some o => have := heap_lt (s9.h.view D o e); omega
  refine wpIn_wide (n := 5).1 ?_
  refine range_ok (α := Fin R) (lb := #[.pointer (some ⟨Bs, 0, none⟩), .pointer (some ⟨Bn, 0, none⟩)]) (encs := fun x => .slice (some ⟨b, off + x.val * K, none⟩) K K) (xav := fun x => .c (.d (.lst 1 (((cells.drop (x.val * K)).take K).map iD)))) (Kp := KpB Bs Bn) (S := fun xs => xs = List.finRange R) (Sp := fun _ => True) (N := R)
    (prH fun i => (cells.drop (i * K)).take K) (by decide) (by rw [hpm]) hdf s9 rfl (fun pre => prH_flat _ pre) (fun pre => rfl) ?_ ?_ s9.h.ext.V e45 ?_
    (chunk_seq (R := R) (K := K) (b := b) (off := off) (cap := cap) hK (by omega) hcap hlt1 hlt2 cBs cBn) ?_ ?_ ?_ ?_ ?_ ?_ hnd ?_ ?_
  · intro t
    show flatA (lk t (pute 4 _ []))
    rw [lk_put]
    by_cases ht : 4 = t
    · rw [if_pos ht]; trivial
    · rw [if_neg ht]; trivial
  · intro t
    show (lk t (pute 4 _ [])).low 5
    rw [lk_put]
    by_cases ht : 4 = t
    · rw [if_pos ht]; exact (by decide : (1 : Nat) < 5)
    · rw [if_neg ht]; trivial
  · exact fun args w => run_callFunc ⟨⟨_, Tryd.func51, by kernel_rfl, by kernel_rfl⟩⟩ args w
  · exact fun h1 h2 => ⟨h2.1.trans h1.1, h2.2.trans h1.2⟩
  · intro W l o o' hl' ho _ _
    have hlt := heap_lt ho
    have hg := grownBy_putObj' W l o'
    exact ⟨World.cell?_of_block (hg.block Bs (by omega) fun e => by cases e; omega), World.cell?_of_block (hg.block Bn (by omega) fun e => by cases e; omega)⟩
  · intro W W' h1 h2
    exact ⟨World.cell?_of_block ((h2 _ _ hV1').trans (h1 _ _ hV1').symm), World.cell?_of_block ((h2 _ _ hV2).trans (h1 _ _ hV2).symm)⟩
  · exact fun x G' h => hpart G'.V (hle.trans h) x.val x.isLt
  · rw [hpm]; exact (Nat.le_of_ble_eq_true rfl : 46 < 70)
  · rw [hpm]; exact (Nat.le_of_ble_eq_true rfl : 5 < 70)
  · rw [hpm]; exact hbody
  · intro D xs W g hD hS s
    subst hS
    exact hdone D W g V2 hD hle s (hHn D hD)
end Go.Proofs
