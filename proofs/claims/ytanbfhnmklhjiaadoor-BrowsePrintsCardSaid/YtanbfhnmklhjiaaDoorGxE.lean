/- Part of a proof about this program; no condition of its own. -/
import Derived.Calls
import Derived.StepT
import Derived.Below
import Derived.Sort.Grow
import Derived.Deep.Draws
set_option linter.all false
/- What was drawn stays drawn: no step of the machine takes a draw back. No condition. -/
namespace Go
def Result.dg {α : Type} (n : Nat) : Result α → Prop
  | .ok _ w => n ≤ w.drawn
  | .halt _ w => n ≤ w.drawn
theorem freeze_drawn (w : World) (a : Addr) (k : Nat) : (w.freeze a k).drawn = w.drawn := by
  unfold World.freeze
  split <;> rfl
theorem ask_drawn {α : Type} : ∀ (k : Ask α) (w : World), w.drawn ≤ (w.ask k).2.drawn
  | .done a, w => Nat.le_refl _
  | .ask what range k, w => by
    simp only [World.ask]
    split
    · exact ask_drawn _ _
    · exact Nat.le_trans (Nat.le_succ _) (ask_drawn _ { w with drawn := w.drawn + 1 })
theorem sys_drawn (w : World) (c : Sys) : w.drawn ≤ (w.sys c).2.drawn := by
  unfold World.sys
  have h := ask_drawn (Kernel.perform c w.os) w
  split
  · exact Nat.le_refl _
  · next e => rw [e] at h; exact h
theorem viewStore_drawn {p : Program} {w w' : World} {b : Addr} {u : TypeId} {k : Addr} {v : Value} {q : Bool} {l : List Addr} (h : w.viewStore p b u k v q = .ok (w', l)) : w'.drawn = w.drawn := by
  unfold World.viewStore at h
  simp only [bind, Except.bind, pure, Except.pure, throw, throwThe, MonadExceptOf.throw] at h
  repeat' (split at h)
  all_goals first | (cases h; rfl) | cases h
theorem farStore_drawn {p : Program} {w w' : World} {a : Addr} {v : Value} {q : Bool} {l : List Addr} (h : w.farStore p a v q = .ok (w', l)) : w'.drawn = w.drawn := by
  unfold World.farStore at h
  split at h
  · split at h
    · next e => cases h; exact viewStore_drawn e
    · cases h
  · cases h
theorem run_dg {α : Type} (p : Program) (n : Nat) : ∀ (s : Sem α) (w : World), n ≤ w.drawn → (s.run p w).dg n
  | .pure a, w, h => h
  | .load m a k, w, h => by
    simp only [Sem.run]
    split
    · exact run_dg p n _ w h
    · split
      · exact run_dg p n _ w h
      · exact h
  | .store m a v k, w, h => by
    cases v <;> simp only [Sem.run] <;> first
      | exact h
      | (split
         · split
           · exact h
           · exact run_dg p n k _ h
         · split
           · next e => exact run_dg p n k _ (by rw [farStore_drawn e]; exact h)
           · exact h)
  | .new o k, w, h => by simp only [Sem.run]; exact run_dg p n _ _ h
  | .shape r k, w, h => by simp only [Sem.run]; exact run_dg p n _ _ h
  | .freeze a c k, w, h => by simp only [Sem.run]; exact run_dg p n _ _ (by rw [freeze_drawn]; exact h)
  | .frozen a k, w, h => by simp only [Sem.run]; exact run_dg p n _ _ h
  | .getObj r k, w, h => by
    simp only [Sem.run]
    split
    · exact h
    · exact run_dg p n _ _ h
    · exact h
  | .setObj r o k, w, h => by
    simp only [Sem.run]
    split
    · exact h
    · exact run_dg p n k _ h
    · exact h
  | .choose q k, w, h => by
    simp only [Sem.run]
    split
    · exact run_dg p n _ _ h
    · exact run_dg p n _ _ (Nat.le_trans h (Nat.le_succ _))
  | .sys c k, w, h => by simp only [Sem.run]; exact run_dg p n _ _ (Nat.le_trans h (sys_drawn w c))
  | .program k, w, h => by simp only [Sem.run]; exact run_dg p n _ _ h
  | .mark m k, w, h => by simp only [Sem.run]; exact run_dg p n _ _ h
  | .halt e, w, h => h
theorem run_ok {α : Type} {p : Program} {n : Nat} {s : Sem α} {w w' : World} {a : α} (h : n ≤ w.drawn) (e : s.run p w = .ok a w') : n ≤ w'.drawn := by
  have := run_dg p n s w h; rw [e] at this; exact this
theorem run_halt {α : Type} {p : Program} {n : Nat} {s : Sem α} {w w' : World} {a : Halt} (h : n ≤ w.drawn) (e : s.run p w = .halt a w') : n ≤ w'.drawn := by
  have := run_dg p n s w h; rw [e] at this; exact this
/-! ### one step of a goroutine -/
def GStep.dg (n : Nat) : GStep → Prop
  | .go _ w _ => n ≤ w.drawn
  | .comm _ _ _ _ w _ => n ≤ w.drawn
  | .spawn _ _ w _ => n ≤ w.drawn
  | .count _ w _ => n ≤ w.drawn
  | .timer _ _ w _ => n ≤ w.drawn
  | .alone _ _ w _ => n ≤ w.drawn
  | .newcoro _ _ _ w _ => n ≤ w.drawn
  | .coroswitch _ _ _ w _ => n ≤ w.drawn
  | .collect _ w _ => n ≤ w.drawn
  | .watch _ w _ => n ≤ w.drawn
  | .ended .. => True
theorem GStep.dg_after (n : Nat) (es : Array Event) (s : GStep) : (GStep.after es s).dg n = s.dg n := by cases s <;> rfl
theorem endWith_dg (n : Nat) (w : World) (fd : Nat) (t : ByteArray) (o : Outcome) : (endWith w fd t o).dg n := by
  unfold endWith
  dsimp only
  repeat' split
  all_goals trivial
theorem dieOf_dg {n : Nat} {w : World} (h : n ≤ w.drawn) (fr : Frame) (l : List ByteArray) (m : String) (b : Bool) : (dieOf fr l m b w).dg n := h
theorem endThrow_dg {n : Nat} {w : World} (h : n ≤ w.drawn) (fr : Frame) (m : String) : (endThrow fr m w).dg n := h
theorem endPrinting_dg {n : Nat} {w : World} (h : n ≤ w.drawn) (p : Program) (fr : Frame) (v : Value) : (endPrinting p fr v w).dg n := by
  unfold endPrinting
  dsimp only
  split
  · exact h
  · trivial
theorem endFatal_dg {n : Nat} {w : World} (h : n ≤ w.drawn) (p : Program) (fr : Frame) (cs : List Frame) (d : Option Dying) (m : String) : (endFatal p fr cs d m w).dg n := by
  unfold endFatal
  dsimp only
  split
  · next e => exact run_ok h e
  · trivial
  · trivial
theorem writeOn_dg {n : Nat} {w : World} (h : n ≤ w.drawn) (p : Program) (fr : Frame) (d : Dying) (f : Fatal) : (writeOn p fr d f w).dg n := by
  unfold writeOn
  dsimp only
  split
  · trivial
  · simp only [Sem.runT_eq]
    split
    · next e => exact run_ok h (congrArg Prod.fst e)
    · next e => exact run_halt h (congrArg Prod.fst e)
    · trivial
    · trivial
theorem die_dg {n : Nat} {w : World} (h : n ≤ w.drawn) (p : Program) (fr : Frame) (d : Dying) : (die p fr d w).dg n := by
  unfold die
  split
  · exact writeOn_dg h _ _ _ _
  · split
    · split
      · exact h
      · exact endWith_dg _ _ _ _ _
    · dsimp only
      split
      · exact h
      · split
        · next e => exact run_ok h e
        · trivial
      · simp only [Sem.runT_eq, GStep.dg_after]
        split
        · next e => exact run_ok h e
        · next e => exact run_ok h e
        · trivial
        · next e => exact endPrinting_dg (run_halt h e) _ _ _
        · trivial
      · trivial
theorem doReturn_dg {n : Nat} {w : World} (h : n ≤ w.drawn) (p : Program) (main : Bool) (fr : Frame) (cs : List Frame) (d : Option Dying) (v : Value) : (doReturn p main fr cs d v w).dg n := by
  unfold doReturn
  repeat' split
  all_goals first | exact h | trivial
theorem callDeferred_dg {n : Nat} {w : World} (h : n ≤ w.drawn) (p : Program) (fr : Frame) (cs : List Frame) (dy : Option Dying) (d : Deferred) : (callDeferred p fr cs dy d w).dg n := by
  unfold callDeferred
  simp only [Sem.runT_eq, apply_ite (GStep.dg n), GStep.dg_after]
  repeat' split
  all_goals first | trivial | exact run_ok h ‹_› | exact run_halt h ‹_› | exact endFatal_dg (run_halt h ‹_›) _ _ _ _ _ | exact endThrow_dg (run_halt h ‹_›) _ _
theorem unwind_dg {n : Nat} {w : World} (h : n ≤ w.drawn) (p : Program) (main : Bool) (fr : Frame) (cs : List Frame) (dy : Option Dying) : (unwind p main fr cs dy w).dg n := by
  unfold unwind
  split
  · simp only [Sem.runT_eq, GStep.dg_after]
    split
    · next e => exact run_ok h e
    · trivial
  · exact callDeferred_dg h _ _ _ _ _
  · split
    · trivial
    · repeat' split
      all_goals first | trivial | exact h | exact run_ok h ‹_› | exact endPrinting_dg h _ _ _
    · split
      · exact doReturn_dg h _ _ _ _ _ _
      · simp only [Sem.runT_eq, GStep.dg_after]
        split
        · next e => exact doReturn_dg (run_ok h e) _ _ _ _ _ _
        · trivial
        · trivial
theorem early_dg {n : Nat} {w : World} (h : n ≤ w.drawn) (p : Program) (fr : Frame) (cs : List Frame) (dy : Option Dying) (g : Nat) : (early p fr cs dy g w).dg n := by
  unfold early
  dsimp only
  repeat' split
  all_goals first | trivial | exact h | exact run_ok h ‹_› | (have q := run_ok h ‹Sem.run p _ w = Result.ok _ _›; exact q)
end Go

/- What was drawn stays drawn: a whole step, and every call. No condition. -/
namespace Go
theorem apply_dg {n : Nat} {w : World} (h : n ≤ w.drawn) (p : Program) (listen : Bool) (fr : Frame) (cs : List Frame) (dy : Option Dying) (s : Sem Next) : (stepG.apply p listen fr cs dy s w).dg n := by
  unfold stepG.apply
  cases listen
  · simp only [Bool.false_eq_true, if_false, GStep.dg_after]
    repeat' split
    all_goals first | trivial | exact run_ok h ‹_› | exact run_halt h ‹_› | exact endFatal_dg (run_halt h ‹_›) _ _ _ _ _ | exact endThrow_dg (run_halt h ‹_›) _ _ | exact endThrow_dg (run_ok h ‹_›) _ _ | exact early_dg (run_halt h ‹_›) _ _ _ _ _
  · simp only [if_true, Sem.runT_eq, GStep.dg_after]
    repeat' split
    all_goals first | trivial | exact run_ok h ‹_› | exact run_halt h ‹_› | exact endFatal_dg (run_halt h ‹_›) _ _ _ _ _ | exact endThrow_dg (run_halt h ‹_›) _ _ | exact endThrow_dg (run_ok h ‹_›) _ _ | exact early_dg (run_halt h ‹_›) _ _ _ _ _
theorem oper_dg {n : Nat} {w : World} (h : n ≤ w.drawn) (p : Program) (listen : Bool) (fr : Frame) (cs : List Frame) (dy : Option Dying) : (stepG.oper p listen fr cs dy w).dg n := by
  unfold stepG.oper
  repeat' split
  all_goals first | trivial | exact apply_dg h _ _ _ _ _ _
theorem elim_dg {α : Type} {n : Nat} {o : Option α} {a : GStep} {f : α → GStep} (h1 : a.dg n) (h2 : ∀ x, (f x).dg n) : (o.elim a f).dg n := by cases o; exact h1; exact h2 _
theorem exec_dg {n : Nat} {w : World} (h : n ≤ w.drawn) (p : Program) (main listen : Bool) (fr : Frame) (cs : List Frame) (dy : Option Dying) : (stepG.exec p main listen fr cs dy w).dg n := by
  unfold stepG.exec
  dsimp only
  split
  all_goals try simp only [Sem.runT_eq, GStep.dg_after]
  all_goals try (first | trivial | exact h)
  all_goals try (refine elim_dg ?_ fun _ => h)
  all_goals repeat' split
  all_goals try (simp only [GStep.dg_after])
  all_goals try (first | trivial | exact h | exact run_ok h ‹_› | exact run_halt h ‹_› | exact apply_dg h _ _ _ _ _ _ | exact apply_dg (run_ok h ‹_›) _ _ _ _ _ _ | exact oper_dg h _ _ _ _ _ | exact elim_dg trivial fun _ => apply_dg h _ _ _ _ _ _)
  all_goals repeat' split
  all_goals first | trivial | exact h | exact run_ok h ‹_› | exact doReturn_dg (run_ok h ‹_›) _ _ _ _ _ _
theorem stepG_dg {n : Nat} {w : World} (h : n ≤ w.drawn) (p : Program) (main : Bool) (g : Goroutine) (listen : Bool) : (stepG p main g w listen).dg n := by
  unfold stepG
  dsimp only
  split
  · exact die_dg h _ _ _
  · exact exec_dg h _ _ _ _ _ _
  · exact unwind_dg h _ _ _ _ _
/-! ### a step of the machine -/
def Stepped.dg (n : Nat) : Stepped → Prop
  | .next m => n ≤ m.world.drawn
  | .ended .. => True
theorem communicate_dg {n : Nat} {w : World} (h : n ≤ w.drawn) (p : Program) (rest : Rest) (gs : Array Goroutine) (i : Nat) (g : Goroutine) (cases : Array CommCase) (b : Bool) (shape : CommShape) : (communicate p rest gs i g cases b shape w).1.dg n := by
  unfold communicate
  dsimp only
  have hw : ∀ w', waitingAt rest cases w = some w' → n ≤ w'.drawn := by
    intro w' e
    unfold waitingAt at e
    repeat' (split at e)
    all_goals cases e
    all_goals exact h
  repeat' split
  all_goals first | trivial | exact h | exact hw _ ‹_› | (have q := run_ok h ‹Sem.run p _ w = Result.ok _ _›; first | exact q | exact run_halt q ‹_› | (have q2 := run_ok q ‹Sem.run p _ _ = Result.ok _ _›; exact q2))
theorem look_dg {n : Nat} {w : World} (h : n ≤ w.drawn) (p : Program) (gs : Array Goroutine) (rest : Rest) : (look p gs rest w).dg n := by
  unfold look
  dsimp only
  repeat' split
  all_goals first | trivial | exact h | (have q := run_ok h ‹Sem.run p _ w = Result.ok _ _›; exact q)
theorem retime_dg {n : Nat} {m : Machine} (h : n ≤ m.world.drawn) (k : Nat) (t : Timer) (a b : Nat) : n ≤ (retime m k t a b).2.world.drawn := by
  unfold retime drain
  dsimp only
  repeat' split
  all_goals (try exact h)
theorem timerOp_dg {n : Nat} {m m' : Machine} {v : Value} (h : n ≤ m.world.drawn) (op : TimerOp) (e : timerOp m op = .ok (v, m')) : n ≤ m'.world.drawn := by
  have hn : ∀ (m : Machine) (var : Addr) (f : Nat → Timer → Value × Machine), (∀ k t, n ≤ (f k t).2.world.drawn) → timerOp.named m var f = .ok (v, m') → n ≤ m'.world.drawn := by
    intro m var f hf e
    unfold timerOp.named at e
    split at e
    · next k _ =>
      injection e with e1
      have q := hf k (m.rest.timers.getD k default)
      rw [e1] at q
      exact q
    · cases e
  unfold timerOp at e
  split at e
  · split at e
    · cases e; exact h
    · split at e
      · split at e
        · cases e
        · cases e; exact h
      · cases e
  · exact hn _ _ _ (fun k t => retime_dg h _ _ _ _) e
  · split at e
    · next m1 e1 =>
      have h1 : n ≤ m1.world.drawn := by
        unfold timerOp.opened at e1
        split at e1
        · split at e1
          · cases e1; exact h
          · cases e1
        · cases e1; exact h
      exact hn _ _ _ (fun k t => retime_dg h1 _ _ _ _) e
    · cases e
  · cases e; exact h
theorem endThrow_go {n : Nat} {w w' : World} {fr : Frame} {m : String} {g : Goroutine} {es : Array Event} (h : n ≤ w.drawn) (e : endThrow fr m w = .go g w' es) : n ≤ w'.drawn := by
  have := endThrow_dg h fr m
  rw [e] at this
  exact this
theorem runT_dg {n : Nat} {m : Machine} (h : n ≤ m.world.drawn) (p : Program) (i : Nat) (listen : Bool) : (runT p m i listen).1.dg n := by
  unfold runT
  dsimp only
  have hs := stepG_dg h p (i == 0) (m.gs.swapAt! i { (default : Goroutine) with status := .finished }).1 listen
  split
  all_goals (rename_i e; rw [e] at hs)
  all_goals first | trivial | exact hs | exact communicate_dg hs _ _ _ _ _ _ _ _ | exact look_dg hs _ _ _ | skip
  all_goals (dsimp only; repeat' split)
  all_goals first | trivial | exact hs | (have q := timerOp_dg (m := ⟨_, _, _⟩) hs _ ‹timerOp _ _ = Except.ok _›; exact q) | exact endThrow_go hs ‹_›
/-! ### which move -/
def Move.dg (n : Nat) : Move → Prop
  | .goroutine m _ => n ≤ m.world.drawn
  | .machine s _ => s.dg n
theorem serve_dg {n : Nat} {m : Machine} (h : n ≤ m.world.drawn) (p : Program) (k : Nat) : (serve p m k).dg n := by
  unfold serve
  dsimp only
  repeat' split
  all_goals first | trivial | exact h
theorem askOn_dg {n : Nat} {m : Machine} (h : n ≤ m.world.drawn) (p : Program) : (askOn p m).dg n := by
  have pick : ∀ m : Machine, n ≤ m.world.drawn → ∀ rs : List Nat, Move.dg n (match (choose (.sched rs.length)).run p m.world with
      | .halt _ w => .machine (.ended (.stuck "sched" "") w)
      | .ok k world =>
        if rs.length ≤ 1 then .goroutine { m with world } (rs.getD k 0) else
        match (choose (.extern "sched.slice" 65536)).run p world with
        | .halt _ w => .machine (.ended (.stuck "sched.slice" "") w)
        | .ok n world => .goroutine { m with world, rest := { m.rest with slice := if n = 0 then none else some (rs.getD k 0, n) } } (rs.getD k 0)) := by
    intro m h rs
    repeat' split
    all_goals first | trivial | exact run_ok h ‹_› | exact run_ok (run_ok h ‹Sem.run p _ m.world = Result.ok _ _›) ‹_›
  unfold askOn
  dsimp only
  split
  · trivial
  · next k world e =>
    have h1 : n ≤ world.drawn := run_ok h e
    repeat' split
    all_goals first | trivial | exact serve_dg (m := ⟨_, _, _⟩) h1 _ _ | exact h1 | exact h | exact run_ok h1 ‹_› | exact run_ok (run_ok h1 ‹Sem.run p _ world = Result.ok _ _›) ‹_› | (have q := run_ok h1 ‹Sem.run p _ world = Result.ok _ _›; exact q) | (have q := run_ok h1 ‹Sem.run p _ world = Result.ok _ _›; have q2 := run_ok q ‹Sem.run p _ _ = Result.ok _ _›; first | exact q2 | exact run_ok q2 ‹_›) | (have q := run_ok h1 ‹Sem.run p _ world = Result.ok _ _›; have q2 := run_ok (w := (Machine.advanceTo _ _).world) q ‹_›; first | exact q2 | exact run_ok q2 ‹_›) | skip
theorem ask_dg {n : Nat} {m : Machine} (h : n ≤ m.world.drawn) (p : Program) : (ask p m).dg n := by
  unfold ask
  split
  · split
    · trivial
    · next e =>
      have h1 := run_ok h e
      have h2 := look_dg h1 p m.gs m.rest
      split
      · next e2 => rw [e2] at h2; exact askOn_dg h2 p
      · exact h2
    · next e _ => exact askOn_dg (m := ⟨_, _, _⟩) (run_ok h ‹_›) p
  · exact askOn_dg h p
theorem move_dg {n : Nat} {m : Machine} (h : n ≤ m.world.drawn) (p : Program) : (move p m).dg n := by
  unfold move
  repeat' split
  all_goals first | trivial | exact h | exact ask_dg h p | (refine ask_dg ?_ p; exact h)
theorem stepT_dg {n : Nat} {m : Machine} (h : n ≤ m.world.drawn) (p : Program) (listen : Bool) : (stepT p m listen).1.dg n := by
  unfold stepT
  have h1 := move_dg h p
  split
  · next e => rw [e] at h1; exact runT_dg h1 p _ _
  · next e => rw [e] at h1; exact h1
theorem runN_dg {n : Nat} (p : Program) : ∀ (k : Nat) {m : Machine}, n ≤ m.world.drawn → (runN p k m).dg n
  | 0, m, h => h
  | k + 1, m, h => by
    have h1 : (step p m).dg n := stepT_dg h p true
    unfold runN
    split
    · next e => rw [e] at h1; exact runN_dg p k h1
    · exact h1
theorem Steps.drawn {P : Program} {m m' : Machine} (h : Steps P m m') : m.world.drawn ≤ m'.world.drawn := by
  obtain ⟨k, hk⟩ := h
  have := runN_dg P k (Nat.le_refl m.world.drawn)
  rw [hk] at this
  exact this
/-- WHAT WAS DRAWN STAYS DRAWN, over a whole call that returns. -/
theorem Calls.drawn {P : Program} {f : FuncId} {args : Array Value} {w : World} {R : Ending → World → Prop} (h : Calls P f args w R) (hR : ∀ e w', R e w' → ∃ v, e = .returned v) : Calls P f args w fun e w' => R e w' ∧ w.drawn ≤ w'.drawn := by
  intro cs
  obtain ⟨e, w', fr, hr, hc, h1, h2⟩ := h cs
  obtain ⟨v, rfl⟩ := hR e w' hr
  exact ⟨_, w', fr, ⟨hr, Steps.drawn hc⟩, hc, h1, h2⟩
end Go

/- A world that has kept all of another's memory has grown out of it. No condition. -/
namespace Go.Ax
open Go Go.RowKit Go.Sort
theorem grow_of_below {w w' : World} (h : Below w.heap.size w w') (hd : w.drawn ≤ w'.drawn) : ∃ (q : Nat) (os : Array Obj), w' = grow (w.drewN q) os := by
  refine ⟨w'.drawn - w.drawn, w'.heap.extract w.heap.size w'.heap.size, ?_⟩
  obtain ⟨h1, h2, h3, h4, h5⟩ := h
  have e : w'.heap = w.heap ++ w'.heap.extract w.heap.size w'.heap.size := by
    apply Array.ext_getElem?
    intro i
    by_cases hi : i < w.heap.size
    · rw [Array.getElem?_append_left hi]; exact h5 i hi
    · rw [Array.getElem?_append_right (by omega), Array.getElem?_extract]
      split
      · rw [show w.heap.size + (i - w.heap.size) = i by omega]
      · rw [Array.getElem?_eq_none (by omega)]
  obtain ⟨hp, tp, dr, os, out⟩ := w
  obtain ⟨hp', tp', dr', os', out'⟩ := w'
  simp only at h1 h2 h3 h4 h5 hd e
  subst h1 h2 h3
  simp only [grow, World.drewN, World.mk.injEq, true_and, and_true]
  exact ⟨e, by omega⟩
end Go.Ax
