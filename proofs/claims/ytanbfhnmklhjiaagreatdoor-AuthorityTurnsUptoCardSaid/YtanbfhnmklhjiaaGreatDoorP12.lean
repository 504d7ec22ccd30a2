/- Part of a proof about this program; no condition of its own. -/
import Derived.Test.YtanbfhnmklhjiaaGreatDoorP11
import Derived.Lib.OthersKept
import Derived.Lib.TrimUEq
set_option linter.all false
/- Maps that are read as data from here on; ranging over them. No condition. -/
namespace Go.Ax
open Go Go.RowKit
open Go.ChangeMaps (setBlock)
variable {P : Program} {pm : Pm} {ops : Array Oper} {rest : List Oper} {st : St} {K : St → Prop} {dst : Option Tmp} {ty : TypeId} {p : String} {af : Array Edge}
theorem freeze_map {cx : Cx} {G : Gh} {h : List LB} {w : World} (s : SatH cx G h w) {i : Nat} {sh : List Kc} {m : Mp} (hi : h[i]? = some (.mp sh m)) :
    ∃ V', GLe G.g.length G ⟨V', G.g⟩ ∧ SatH cx ⟨V', G.g⟩ (h.set i .dead) w ∧ ∀ v, Cr G (.own i 0) v → Dr V' (.mp sh m) v := by
  obtain ⟨b0, es, clock, hg, hbase, hH, hheap, hrep⟩ := map_at s hi
  let V' : Vw := ⟨fun b => if b0 = b then w.heap[b]? else G.V.H b, fun b => G.V.I b ∨ b0 = b⟩
  have hle : G.V.Le V' := ⟨fun b o ho => by
    have hne : ¬ (b0 = b) := fun e => by subst e; rw [hH] at ho; cases ho
    simp only [V', if_neg hne]; exact ho, fun b hb => .inl hb⟩
  have hG : GLe G.g.length G ⟨V', G.g⟩ := ⟨hle, fun j v n _ e => ⟨v, n, e, Nat.le_refl _, fun _ => rfl, fun _ => ⟨rfl, rfl⟩⟩⟩
  refine ⟨V', hG, ⟨by rw [List.length_set]; exact s.len, fun j b e hb he => ?_, fun j k bj bk ej ek q h1 h2 l1 l2 g1 g2 => ?_, fun b o ho => ?_, fun b hb => ?_, s.below, s.ext.trans (hG.all _), fun q hq => (s.glob q hq).grow hG, s.sz⟩, fun v hv => ?_⟩
  · rw [List.getElem?_set] at hb
    by_cases e1 : i = j
    · subst e1
      rw [if_pos rfl, if_pos (getElem?_lt hi)] at hb
      cases hb
      trivial
    · rw [if_neg e1] at hb
      have hL := s.ent j b e hb he
      refine Lr.mono' hG (fun k hlive hk => ?_) hL
      have hne : ¬ (b0 = k) := fun e2 => e1 (s.sep i j _ b _ e k hi hb trivial hlive hg he (by rw [← e2]; rfl) hk)
      simp only [V', if_neg hne]
      exact (hL.blk hlive hk).2.2
  · have back : ∀ (j : Nat) (b : LB), (h.set i .dead)[j]? = some b → b.live → h[j]? = some b := fun j b hb hlive => by
      rw [List.getElem?_set] at hb
      by_cases e1 : i = j
      · subst e1
        rw [if_pos rfl, if_pos (getElem?_lt hi)] at hb
        cases hb
        exact hlive.elim
      · rwa [if_neg e1] at hb
    exact s.sep j k bj bk ej ek q (back j bj h1 l1) (back k bk h2 l2) l1 l2 g1 g2
  · simp only [V'] at ho
    split at ho
    · exact ho
    · exact s.view b o ho
  · rcases hb with hb | hb
    · obtain ⟨⟨o, ho⟩, h2⟩ := s.imm b hb
      exact ⟨⟨o, hle.H b o ho⟩, h2⟩
    · subst hb
      exact ⟨⟨_, by simp only [V', if_true]; exact hheap⟩, .inr hbase⟩
  · obtain ⟨_, v1, n1, hg', _, hxx⟩ := hv
    rw [hg] at hg'
    cases hg'
    have := hxx rfl
    subst this
    exact .mp sh m b0 es clock (.inr rfl) (by simp only [V', if_true]; exact hheap) hrep
/-! ### what is left of a range -/
theorem filter_ne_erase {α : Type} (f : α → Nat) : ∀ (l : List α), (l.map f).Nodup → ∀ (i : Nat) (e : α), l[i]? = some e → (l.filter fun x => !(f x == f e)) = l.eraseIdx i
  | [], _, i, e, h => by simp at h
  | x :: r, hn, 0, e, h => by
    simp at h; subst h
    simp only [List.map_cons, List.nodup_cons] at hn
    rw [List.filter_cons_of_neg (by simp), List.eraseIdx_cons_zero]
    refine List.filter_eq_self.2 fun y hy => ?_
    have : f y ≠ f x := fun e => hn.1 (by rw [← e]; exact List.mem_map.2 ⟨y, hy, rfl⟩)
    simp [this]
  | x :: r, hn, i + 1, e, h => by
    simp at h
    simp only [List.map_cons, List.nodup_cons] at hn
    have hne : f x ≠ f e := fun e' => hn.1 (by rw [e']; exact List.mem_map.2 ⟨e, List.mem_of_getElem? h, rfl⟩)
    rw [List.filter_cons_of_pos (by simp [hne]), filter_ne_erase f r hn.2 i e h, List.eraseIdx_cons_succ]
theorem left_push {es : Array MapEntry} {seen : Array Nat} (hn : (es.toList.map (·.born)).Nodup) {i : Nat} {e : MapEntry} (he : (leftOf es seen).toList[i]? = some e) : (leftOf es (seen.push e.born)).toList = (leftOf es seen).toList.eraseIdx i := by
  have hl : (leftOf es seen).toList = es.toList.filter fun x => !seen.contains x.born := by unfold leftOf; rw [← Array.toList_filter]
  have hl' : (leftOf es (seen.push e.born)).toList = es.toList.filter fun x => !(seen.push e.born).contains x.born := by unfold leftOf; rw [← Array.toList_filter]
  rw [← filter_ne_erase (fun x : MapEntry => x.born) (leftOf es seen).toList (by rw [hl]; exact (List.filter_sublist.map _).nodup hn) i e he, hl, hl', List.filter_filter]
  congr 1
  funext x
  rw [contains_push, Bool.not_or, Bool.and_comm]
theorem run_range_rep {sh : List Kc} {t : TypeId} (hT : MapT P t sh) {b : Nat} {es : Array MapEntry} {clock : Nat} {w : World} (hb : w.heap[b]? = some (.map es clock)) :
    (Instr.range t (.map (some b))).run P w = .ok (.pointer (some ⟨w.heap.size, 0, none⟩)) (w.alloc (.mapIter (some b) clock #[] clock)) := by
  obtain ⟨K, E, ht, _⟩ := hT.ex
  exact run_range_map w t K E b es clock ht hb
theorem itRep_start {H : Nat → Option Obj} {sh : List Kc} {m : Mp} {b : Nat} {es : Array MapEntry} {clock : Nat} (hb : H b = some (.map es clock)) (hr : MapRep sh m es clock) : ItRep H (.mapIter (some b) clock #[] clock) m none :=
  .inr ⟨b, es, clock, #[], rfl, hb, hr.st, by
    have : leftOf es #[] = es := by unfold leftOf; simp
    rw [this]; exact hr.ent, fun kv h => by cases h⟩
theorem Sat.pushIt {cx : Cx} {G : Gh} {a : Act} {w : World} (s : Sat cx G st a w) {dst : Option Tmp} (hd : dstOk cx.pm.N dst) {o : Obj} {todo : Mp} (hr : ItRep G.V.H o todo none) :
    ∃ G', Sat cx G' (St.put ⟨st.env, st.heap ++ [.it todo none]⟩ dst (.c (.loc st.heap.length 0))) (a.put dst (.pointer (some ⟨w.heap.size, 0, none⟩))) (w.alloc o) :=
  ⟨_, s.pushed (α := .c (.loc st.heap.length 0)) (s.h.pushO o (.pointer (some ⟨w.heap.size, 0, none⟩)) (.it todo none) rfl ⟨rfl, w.heap.size, o, rfl, s.h.below.size, H_new s.h, heap_alloc_at _ _, hr⟩) ⟨w.heap.size, 0, get_last _ _ s.h.len.symm, rfl⟩ hd⟩
theorem AXl.range {t : TypeId} {x : Operand} {sh : List Kc} {m : Mp} (hT : MapT P t sh) (hx : ev pm.Γ st.env x = .c (.d (.mp sh m))) (hd : dstOk pm.N dst)
    (hn : AXl P pm ops rest (St.put ⟨st.env, st.heap ++ [.it m none]⟩ dst (.c (.loc st.heap.length 0))) K) : AXl P pm ops (⟨dst, .range t x, ty, p, af, none⟩ :: rest) st K := by
  refine AXl.eff rfl fun cx G a w hp s => ?_
  subst hp
  rcases dr_mp (hx ▸ s.ev x) with ⟨e1, rfl⟩ | ⟨b, es, clock, e1, _, hh, hr⟩
  · obtain ⟨G', hS⟩ := s.pushIt hd (o := .mapIter none 0 #[] 0) (todo := []) (.inl ⟨rfl, rfl, rfl⟩)
    refine ⟨_, _, G', _, .inl ?_, hS, hn⟩
    obtain ⟨K, E, ht, _⟩ := hT.ex
    simp [execOp, e1, run_range_nilMap w t K E ht]
  · obtain ⟨G', hS⟩ := s.pushIt hd (itRep_start hh hr)
    refine ⟨_, _, G', _, .inl ?_, hS, hn⟩
    simp [execOp, e1, run_range_rep hT (s.h.view _ _ hh)]
theorem AXl.range_own {t : TypeId} {x : Operand} {i : Nat} {sh : List Kc} {m : Mp} (hT : MapT P t sh) (hx : ev pm.Γ st.env x = .c (.own i 0)) (hi : st.heap[i]? = some (.mp sh m)) (hd : dstOk pm.N dst)
    (hn : AXl P pm ops rest (St.put ⟨st.env, st.heap.set i .dead ++ [.it m none]⟩ dst (.c (.loc st.heap.length 0))) K) : AXl P pm ops (⟨dst, .range t x, ty, p, af, none⟩ :: rest) st K := by
  refine AXl.eff rfl fun cx G a w hp s => ?_
  subst hp
  have hv := hx ▸ s.ev x
  obtain ⟨V', hG, s1, hd1⟩ := freeze_map s.h hi
  have hS1 : Sat cx ⟨V', G.g⟩ ⟨st.env, st.heap.set i .dead⟩ a w := s.step hG s1
  rcases dr_mp (hd1 _ hv) with ⟨e1, rfl⟩ | ⟨b, es, clock, e1, _, hh, hr⟩
  · obtain ⟨G', hS⟩ := hS1.pushIt hd (o := .mapIter none 0 #[] 0) (todo := []) (.inl ⟨rfl, rfl, rfl⟩)
    rw [List.length_set] at hS
    refine ⟨_, _, G', _, .inl ?_, hS, hn⟩
    obtain ⟨K, E, ht, _⟩ := hT.ex
    simp [execOp, e1, run_range_nilMap w t K E ht]
  · obtain ⟨G', hS⟩ := hS1.pushIt hd (itRep_start hh hr)
    rw [List.length_set] at hS
    refine ⟨_, _, G', _, .inl ?_, hS, hn⟩
    simp [execOp, e1, run_range_rep hT (hS1.h.view _ _ hh)]
theorem Sat.itSet {cx : Cx} {G : Gh} {a : Act} {w w1 : World} (s : Sat cx G st a w) {j r : Nat} {todo todo' : Mp} {last last' : Option (List KD × Int)} (hj : st.heap[j]? = some (.it todo last)) (hg : G.g[j]? = some (.pointer (some ⟨r, 0, none⟩), 0)) {o o' : Obj} (hr : w.heap[r]? = some o) (hw : w1 = w ∨ w1 = w.drew)
    (hrep : ItRep G.V.H o' todo' last') : Sat cx G ⟨st.env, st.heap.set j (.it todo' last')⟩ a (setBlock w1 r o') := by
  have hent := s.h.ent j _ _ hj hg
  obtain ⟨_, b', _, e1, h3, h4, _⟩ := hent
  cases e1
  have key : ∀ w2 : World, w2 = w ∨ w2 = w.drew → (setBlock w2 r o').os = w.os ∧ (setBlock w2 r o').tape = w.tape ∧ (setBlock w2 r o').output = w.output ∧ (setBlock w2 r o').heap.size = w.heap.size ∧ (∀ k, k ≠ r → (setBlock w2 r o').heap[k]? = w.heap[k]?) ∧ (setBlock w2 r o').heap[r]? = some o' := fun w2 h2 => by
    have hlt := heap_lt hr
    rcases h2 with rfl | rfl
    · exact ⟨rfl, rfl, rfl, by simp [setBlock], fun k hk => by simp [setBlock, Array.getElem?_setIfInBounds, Ne.symm hk], by simp [setBlock, hlt]⟩
    · refine ⟨rfl, rfl, rfl, (show (w.heap.setIfInBounds r o').size = _ by simp), fun k hk => ?_, ?_⟩
      · show (w.heap.setIfInBounds r o')[k]? = _
        simp [Array.getElem?_setIfInBounds, Ne.symm hk]
      · show (w.heap.setIfInBounds r o')[r]? = _
        simp [hlt]
  obtain ⟨k1, k2, k3, k4, k5, k6⟩ := key w1 hw
  exact ⟨s.h.upd hj trivial hg (b := r) rfl k1 k2 k3 k4 k5 ⟨rfl, r, o', rfl, h3, h4, k6, hrep⟩, s.env, s.N, s.defers⟩
theorem AXl.next {x : Operand} {j : Nat} {todo : Mp} {last : Option (List KD × Int)} (hx : ev pm.Γ st.env x = .c (.loc j 0)) (hj : st.heap[j]? = some (.it todo last)) (hd : dstOk pm.N dst)
    (h0 : todo = [] → AXl P pm ops rest (st.put dst (.tup [.c (.d (.bool false))])) K)
    (h1 : ∀ (i : Nat) (hi : i < todo.length), AXl P pm ops rest (St.put ⟨st.env, st.heap.set j (.it (todo.eraseIdx i) (some todo[i]))⟩ dst (.tup [.c (.d (.bool true)), keyAV todo[i].1, .c (.d (.int .i64 todo[i].2))])) K) :
    AXl P pm ops (⟨dst, .next x false, ty, p, af, none⟩ :: rest) st K := by
  refine AXl.eff rfl fun cx G a w hp s => ?_
  subst hp
  have hv := hx ▸ s.ev x
  obtain ⟨b0, n, hg, ev⟩ := hv
  obtain ⟨r, o, hg', h3, h4, h5, h6⟩ := it_at s.h hj
  rw [hg] at hg'
  cases hg'
  have over : todo = [] → (Instr.next (.pointer (some ⟨b0, 0, none⟩)) false ty).run P w = .ok (.tuple #[.bool false]) w →
      ∃ v w' G' st', ((execOp a.eval ⟨dst, .next x false, ty, p, af, none⟩).run P w = .ok (.value v) w' ∨ ((execOp a.eval ⟨dst, .next x false, ty, p, af, none⟩).run P w = .ok .skip w' ∧ v = undef)) ∧ Sat cx G' st' (a.put dst v) w' ∧ AXl P cx.pm ops rest st' K := fun he hrun => by
    refine ⟨.tuple #[.bool false], w, G, _, .inl ?_, s.put (α := .tup [.c (.d (.bool false))]) ⟨[_], rfl, .cons (Dr.bool _) .nil⟩ hd, h0 he⟩
    simp only [execOp, ev, Sem.run_bind, hrun, Result.andThen_ok, Sem.run_pure]
  rcases h6 with ⟨rfl, rfl, rfl⟩ | ⟨b, es, clock, seen, rfl, hb, hst, hent, hlast⟩
  · refine over rfl ?_
    simp only [Instr.next, getObj, Sem.run_bind, Sem.run, h5, Result.andThen]
    rfl
  have hbw := s.h.view _ _ hb
  have hlen : (leftOf es seen).size = todo.length := by simpa using congrArg List.length hent
  rcases run_next_at (P := P) w ty b0 b clock clock seen es clock h5 hbw hst.1 (Nat.le_refl _) with ⟨hz, hrun⟩ | ⟨e, hem, w1, hw1, hrun⟩
  · exact over (List.length_eq_zero_iff.1 (by omega)) hrun
  · obtain ⟨i, hi⟩ := List.getElem?_of_mem hem
    have hlt : i < todo.length := by rw [← hlen]; have := getElem?_lt hi; simpa using this
    have hkv : (e.key, e.val) = (keyV todo[i].1, Value.int .i64 todo[i].2) := by
      have := congrArg (·[i]?) hent
      simp only [List.getElem?_map, hi, List.getElem?_eq_getElem hlt, Option.map_some, Option.some.injEq] at this
      exact this
    injection hkv with hk1 hk2
    have hmem := (mem_left hem).1
    have hrep : ItRep G.V.H (.mapIter (some b) clock (seen.push e.born) clock) (todo.eraseIdx i) (some todo[i]) :=
      .inr ⟨b, es, clock, seen.push e.born, rfl, hb, hst, by
        rw [left_push hst.2.1 hi]
        rw [ChangeMaps.map_eraseIdx, ChangeMaps.map_eraseIdx, hent], fun kv hkv => by
        cases hkv
        exact ⟨e, hmem, by simp, hk1, hk2⟩⟩
    have hS := s.itSet (o' := .mapIter (some b) clock (seen.push e.born) clock) hj hg h5 hw1 hrep
    refine ⟨.tuple #[.bool true, e.key, e.val], _, G, _, .inl ?_, hS.put (α := .tup [.c (.d (.bool true)), keyAV todo[i].1, .c (.d (.int .i64 todo[i].2))]) ⟨[_, _, _], rfl, .cons (Dr.bool _) (.cons (hk1 ▸ keyAV_ok G _) (.cons ?_ .nil))⟩ hd, h1 i hlt⟩
    · simp only [execOp, ev, Sem.run_bind, hrun, Result.andThen_ok, Sem.run_pure]
    · show Dr G.V _ _
      rw [hk2]; exact .int _ _
end Go.Ax

/- Ranging over a string in the abstract state. No condition. -/
namespace Go.Ax
open Go Go.RowKit
open Go.ChangeMaps (setBlock)
variable {P : Program} {pm : Pm} {ops : Array Oper} {rest : List Oper} {st : St} {K : St → Prop} {dst : Option Tmp} {ty : TypeId} {p : String} {af : Array Edge}
theorem run_range_str {t : TypeId} (ht : P.underlying t = some .string) (s : ByteArray) (w : World) : (Instr.range t (.string s)).run P w = .ok (.pointer (some ⟨w.heap.size, 0, none⟩)) (w.alloc (.stringIter s 0)) := by
  simp only [Instr.range, Sem.run_bind, run_underlying ht, Result.andThen_ok, Sem.run_pure, newObj, Sem.run]
  rfl
theorem AXl.rangeS {t : TypeId} {x : Operand} {s : List UInt8} (ht : P.underlying t = some .string) (hx : ev pm.Γ st.env x = .c (.d (.str s))) (hd : dstOk pm.N dst)
    (hn : AXl P pm ops rest (St.put ⟨st.env, st.heap ++ [.sit s 0]⟩ dst (.c (.loc st.heap.length 0))) K) : AXl P pm ops (⟨dst, .range t x, ty, p, af, none⟩ :: rest) st K := by
  refine AXl.eff rfl fun cx G a w hp sa => ?_
  subst hp
  have e1 := ar_str (hx ▸ sa.ev x)
  have hS := sa.pushed (α := .c (.loc st.heap.length 0)) (sa.h.pushO (.stringIter ⟨s.toArray⟩ 0) (.pointer (some ⟨w.heap.size, 0, none⟩)) (.sit s 0) rfl ⟨rfl, w.heap.size, rfl, sa.h.below.size, H_new sa.h, heap_alloc_at _ _⟩) ⟨w.heap.size, 0, get_last _ _ sa.h.len.symm, rfl⟩ hd
  refine ⟨_, _, _, _, .inl ?_, hS, hn⟩
  simp [execOp, e1, run_range_str ht]
theorem AXl.nextS {x : Operand} {j pos : Nat} {s : List UInt8} (hx : ev pm.Γ st.env x = .c (.loc j 0)) (hj : st.heap[j]? = some (.sit s pos)) (hd : dstOk pm.N dst)
    (h0 : s.length ≤ pos → AXl P pm ops rest (st.put dst (.tup [.c (.d (.bool false))])) K)
    (h1 : pos < s.length → AXl P pm ops rest (St.put ⟨st.env, st.heap.set j (.sit s (pos + (Lib.decodeL (s.drop pos)).2))⟩ dst (.tup [.c (.d (.bool true)), .c (.d (.int .i64 pos)), .c (.d (.int .i32 (Lib.decodeL (s.drop pos)).1))])) K) :
    AXl P pm ops (⟨dst, .next x true, ty, p, af, none⟩ :: rest) st K := by
  refine AXl.eff rfl fun cx G a w hp sa => ?_
  subst hp
  have hv := hx ▸ sa.ev x
  obtain ⟨b0, n, hg, ev⟩ := hv
  obtain ⟨e0, hg', hL0⟩ := sa.h.entry hj
  obtain ⟨hz, b, hb1, hb2, hb3, hb4⟩ := hL0
  rw [hg] at hg'
  cases hg'
  cases hb1
  have hdec : Lib.decodeL (s.drop pos) = Utf8.decode ⟨s.toArray⟩ pos := by
    have := Lib.decodeL_drop ⟨s.toArray⟩ pos
    rwa [show (⟨s.toArray⟩ : ByteArray).data.toList = s by simp] at this
  have hsz : (⟨s.toArray⟩ : ByteArray).size = s.length := by simp [ByteArray.size]
  by_cases hlt : pos < s.length
  · have hrun := Lib.run_next_any_at (P := P) w b0 ⟨s.toArray⟩ pos ty hb4 (by rw [hsz]; exact hlt)
    have hent := sa.h.ent j _ _ hj hg
    have hup := sa.h.upd (w' := w.iterAt b0 ⟨s.toArray⟩ (pos + (Utf8.decode ⟨s.toArray⟩ pos).2)) (lb' := .sit s (pos + (Lib.decodeL (s.drop pos)).2)) hj trivial hg (b := b0) rfl rfl rfl rfl (Lib.iterAt_size ..) (fun k hk => Lib.iterAt_other w b0 k _ _ hk)
      ⟨hz, b0, rfl, hb2, hb3, by rw [hdec]; exact Lib.iterAt_heap w b0 _ pos _ hb4⟩
    have hS : Sat cx G ⟨st.env, st.heap.set j (.sit s (pos + (Lib.decodeL (s.drop pos)).2))⟩ a (w.iterAt b0 ⟨s.toArray⟩ (pos + (Utf8.decode ⟨s.toArray⟩ pos).2)) := ⟨hup, sa.env, sa.N, sa.defers⟩
    refine ⟨_, _, G, _, .inl ?_, hS.put (α := .tup [.c (.d (.bool true)), .c (.d (.int .i64 pos)), .c (.d (.int .i32 (Lib.decodeL (s.drop pos)).1))]) ⟨[_, _, _], rfl, .cons (Dr.bool _) (.cons (Dr.int _ _) (.cons (Dr.int _ _) .nil))⟩ hd, h1 hlt⟩
    rw [hdec]
    simp only [execOp, ev, Sem.run_bind, hrun, Result.andThen_ok, Sem.run_pure]
  · have hrun := Lib.run_next_end_at (P := P) w b0 ⟨s.toArray⟩ pos ty hb4 (by rw [hsz]; exact hlt)
    refine ⟨.tuple #[.bool false], w, G, _, .inl ?_, sa.put (α := .tup [.c (.d (.bool false))]) ⟨[_], rfl, .cons (Dr.bool _) .nil⟩ hd, h0 (by omega)⟩
    simp only [execOp, ev, Sem.run_bind, hrun, Result.andThen_ok, Sem.run_pure]
end Go.Ax
