/- Walks of the chapter on formats, eleventh part: the functions of the statements, first part. -/
import Derived.Test.YtimehiamdikinaaFWj
set_option linter.all false
namespace Go.Proofs
open Go Go.Ax Go.Fm
set_option maxRecDepth 100000
variable {Γ : List (Nat × List D)}
theorem c3 (l : List Fmt) : AFn Try.prog Γ 3 [.c (.d (.lst 7 (l.map Fmt.ds)))] [.d (.bool true)] := by
  refine AFn.vc [] Try.func3 rfl Try.mixed (by kernel_rfl) Try.ntmps3 Try.results3 (by simp) ?_
  push_cast
  refine CallL.q c9 ?_
  push_cast
  refine CallL.q (c10 l) ?_
  push_cast
  intro h
  have hn := fun f hf => (small_ok h).2 f hf
  refine CallL.q (c11 l fun f hf => by have := hn f hf; omega) ?_
  push_cast
  refine CallL.q (c12 l fun f hf => by have := hn f hf; omega) ?_
  push_cast
theorem path_len (l : List Fmt) (start year : Int) (ho : OkL l) : (pathF l start year).length ≤ 1001 := by
  unfold pathF
  split
  · simp
  · next h =>
    have hfl : findF l start < l.length := fI_lt _ _
    have hi : (findF l start).toNat < l.length := by omega
    have hg := bestF_lt l _ year hi
    have := dist_lt (distF_ok l ho.uniq _ hg) _ hi
    have := ho.len
    unfold goF
    rw [List.length_cons, walkF_len]; omega
theorem c13s (a : List Int) (ha : a.length ≤ 1001) : AFn Try.prog Γ 13 [.c (.bor 1 (a.map iD)), .c (.bor 1 (a.map iD))] [.d (.bool true)] := by
  have := c13 (Γ := Γ) a a (by omega) (by omega)
  rwa [beq_self_eq_true] at this
theorem c4 (l : List Fmt) (start year : Int) (h5 : -9223372036854775808 ≤ year) (h6 : year ≤ 9223372036854775807) : AFn Try.prog Γ 4 [.c (.d (.lst 7 (l.map Fmt.ds))), .c (.d (.int .i64 start)), .c (.d (.int .i64 year))] [.d (.bool true)] := by
  refine AFn.vc [] Try.func4 rfl Try.mixed (by kernel_rfl) Try.ntmps4 Try.results4 (by simp) ?_
  push_cast
  refine CallL.q c9 ?_
  push_cast
  refine CallL.q (c10 l) ?_
  push_cast
  intro h
  have hn := fun f hf => (small_ok h).2 f hf
  refine CallL.q (c12 l fun f hf => by have := hn f hf; omega) ?_
  push_cast
  intro hr
  have ho := (good_of hr).okL h
  refine CallL.q (c14 l start year ho h5 h6) ?_
  push_cast
  refine CallL.q (c15 l start year ho h5 h6) ?_
  push_cast
  refine CallL.q (c13s _ (path_len l start year ho)) ?_
  push_cast
theorem c5 (f t : Fmt) (s : List UInt8) : AFn Try.prog Γ 5 [.agg (f.ds.map C.d), .agg (t.ds.map C.d), .c (.d (.str s))] [.d (.bool true)] := by
  refine AFn.vc [] Try.func5 rfl Try.mixed (by kernel_rfl) Try.ntmps5 Try.results5 (by simp) ?_
  push_cast
  refine CallL.q c9 ?_
  push_cast
  intro h1 h2 h3
  refine CallL.q (c16 f t s (by omega) (by omega)) ?_
  push_cast
  refine CallL.q (c17 f t s (by omega) (by omega)) ?_
  push_cast
theorem c22s (a : Fmt) (ha : a.to.length ≤ 1000000) : AFn Try.prog Γ 22 [.agg (a.ds.map C.d), .agg (a.ds.map C.d)] [.d (.bool true)] := by
  have := c22 (Γ := Γ) a a ha ha
  rw [beq_self_eq_true, Bool.and_true, decide_eq_true ⟨rfl, rfl, rfl, rfl, rfl, rfl⟩] at this
  exact this
theorem get_to (l : List Fmt) (id : Int) (hs : smallB l = true) : (getF l id).to.length ≤ 1000000 := by
  unfold getF
  split
  · next h =>
    obtain ⟨hk, _⟩ := find_id l id h
    rw [getD_at hk]
    have := (small_ok hs).2 _ (List.getElem_mem hk); omega
  · simp [noFmt]
theorem c7 (l : List Fmt) (id : Int) (data : List UInt8) (year : Int) (h5 : -9223372036854775808 ≤ year) (h6 : year ≤ 9223372036854775807) : AFn Try.prog Γ 7 [.c (.d (.lst 7 (l.map Fmt.ds))), .c (.d (.int .i64 id)), .c (.d (.str data)), .c (.d (.int .i64 year))] [.d (.bool true)] := by
  refine AFn.vc [] Try.func7 rfl Try.mixed (by kernel_rfl) Try.ntmps7 Try.results7 (by simp) ?_
  push_cast
  refine CallL.q c9 ?_
  push_cast
  refine CallL.q (c10 l) ?_
  push_cast
  intro h hd
  have hn := fun f hf => (small_ok h).2 f hf
  refine CallL.q (c12 l fun f hf => by have := hn f hf; omega) ?_
  push_cast
  intro hr
  have hg := good_of hr
  have hlen := hg.len
  refine CallL.q (c20 l id (by omega)) ?_
  push_cast
  refine CallL.q (c21 l id (by omega)) ?_
  push_cast
  intro _
  refine CallL.q (c22s (getF l id) (get_to l id h)) ?_
  push_cast
  refine CallL.q (c19 l data (by omega)) ?_
  push_cast
  refine CallL.q (c23 l data (by omega)) ?_
  push_cast
  refine LoopV.cnt Try.mixed [0, 3] l.length (fun k => [(13, .c (.d (.int .i64 k)))]) (fun _ => True) trivial ?_ (by push_cast)
  intro k hk _
  push_cast
  intro hk2
  have hk' : k < l.length := by omega
  have v := hg.okF h _ (List.getElem_mem hk')
  refine ⟨hk', ?_⟩
  refine CallX.q (c18 l[k] year v.u0 v.b0 v.b1 v.u1 h5 h6) ?_
  push_cast
  refine ⟨hk', ?_⟩
  refine CallX.q (c24 l[k] year v.u0 v.b0 v.b1 v.u1 h5 h6) ?_
  push_cast
  exact ⟨⟨by omega, by omega⟩, hk'⟩
end Go.Proofs
