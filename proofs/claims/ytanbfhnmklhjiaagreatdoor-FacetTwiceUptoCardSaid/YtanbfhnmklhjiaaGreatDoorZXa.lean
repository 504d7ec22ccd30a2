/- Part of a proof about this program; no condition of its own. -/
import Derived.Test.YtanbfhnmklhjiaaGreatDoorZWy
import Derived.Test.YtanbfhnmklhjiaaGreatDoorGzB
set_option linter.all false
/- symMerge: the ways through its end: what is common. No condition. -/
namespace Go.Proofs
open Go Go.Ax Go.Tx Go.Lib Go.Shelf Go.RowKit Go.Fc
set_option maxRecDepth 100000
set_option maxHeartbeats 0
variable {Γ : List (Nat × List D)}
/-- The rotation over a row given by an equation. -/
theorem c270L (cf : Bk → Bk → Int) (P X Y S L T : List Bk) (a m b : Int) (eL : L = P ++ X ++ Y ++ S) (eT : T = P ++ Y ++ X ++ S) (hx : 0 < X.length) (hy : 0 < Y.length) (ea : a = P.length) (em : m = (P.length + X.length : Nat)) (eb : b = (P.length + X.length + Y.length : Nat)) (hd : (P ++ X ++ Y ++ S).length ≤ 1000000) :
    RFn Tryz.prog Γ 270 79 2 (L.map Bk.ds) (T.map Bk.ds) [.c (.d (.int .i64 a)), .c (.d (.int .i64 m)), .c (.d (.int .i64 b)), .c (.fn (FnSpec Tryz.prog Γ (cmpBk cf)))] [] := by
  subst eL; subst eT; exact c270 cf P X Y S a m b hx hy ea em eb hd
/-- What symMerge is known to do at fewer elements. -/
def SmIH (Γ : List (Nat × List D)) (N : Nat) : Prop := ∀ (P A B S L T : List Bk) (a m b : Int), L = P ++ A ++ B ++ S → T = P ++ sortT (A ++ B) ++ S → A.length + B.length ≤ N → 0 < A.length → 0 < B.length → SrtT A → SrtT B → a = P.length → m = (P.length + A.length : Nat) → b = (P.length + A.length + B.length : Nat) → (P ++ A ++ B ++ S).length ≤ 1000000 →
        RFn Tryz.prog Γ 238 79 2 (L.map Bk.ds) (T.map Bk.ds) [.c (.d (.int .i64 a)), .c (.d (.int .i64 m)), .c (.d (.int .i64 b)), .c (.fn (FnSpec Tryz.prog Γ (cmpBk cfT)))] []
end Go.Proofs
