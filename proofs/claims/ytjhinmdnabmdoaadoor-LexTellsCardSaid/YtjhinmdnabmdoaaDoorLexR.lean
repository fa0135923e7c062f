/- A range over a function: the statement's law and one round's law, in a form that names the loop's record. -/
import Derived.RangeFuncNested
import Derived.RangeFuncCalls
import Derived.RangeFuncLeaves
import Derived.WalkKit
import Derived.KernelRfl
set_option linter.unusedVariables false
namespace Go.Proofs.YtjhinmdnabmdoaaDoor.Lex
open Go Go.RowKit

section
variable {F : Fence} {n : Nat} {P : Program}

/-- What is asked where the body of a round is left. -/
def roundEnds (l : Nat) (rc : LoopState → Option Code → Loop) (R : Ending → World → Prop) : Exit → Act → World → Prop
  | .normal, _, W => W.heap[l]? = some (.loop (rc .busy none)) ∧ R (.returned (.bool true)) (W.putObj l (.loop (rc .ready none)))
  | .ret, _, W => W.heap[l]? = some (.loop (rc .busy none)) ∧ R (.returned (.bool false)) (W.putObj l (.loop (rc .done (some .ret))))
  | _, _, _ => False

theorem round_law {l fn : Nat} {tmps : Array Value} {ps : Array Tmp} {assign body : Code} {d : Nat} {rc : LoopState → Option Code → Loop}
    (hrc : rc = fun st pe => { state := st, pending := pe, fn := fn, tmps := tmps, params := ps, assign := assign, body := body, defers := d })
    (hfn : F.fn fn) {W : World} (hl : W.heap[l]? = some (.loop (rc .ready none))) {args : Array Value} (hsz : args.size = ps.size) {R : Ending → World → Prop}
    (h : assign.wpIn (F.inRound l) n P (Exit.then (fun a₁ W₁ => W₁.heap[l]? = some (.loop (rc .ready none)) ∧ body.wpIn (F.inRound l) n P (roundEnds l rc R) a₁ (W₁.putObj l (.loop (rc .busy none)))) (fun _ _ _ => False))
      { tmps := (ps.zip args).foldl (fun t (p, v) => t.setIfInBounds p v) tmps, defers := [] } W) :
    YieldAt F n P l args W R := by
  have hy := run_yield (P := P) (args := args) hl (by rw [hrc]; exact hsz)
  rw [hrc] at hy
  refine ⟨fn, _, assign, body, hy, roundIn_of_wpIn hfn (wpIn_mono h ?_)⟩
  intro e a₁ W₁ hx
  cases e with
  | normal =>
    obtain ⟨hl1, hb⟩ := hx
    have hlt : l < W₁.heap.size := (Array.getElem?_eq_some_iff.1 hl1).1
    refine ⟨_, run_beginRound hl1 (by rw [hrc]), ?_⟩
    have e1 : ({ rc .ready none with state := .busy } : Loop) = rc .busy none := by rw [hrc]
    rw [e1]
    refine wpIn_mono hb ?_
    intro e2 a2 W2 h2
    cases e2 with
    | normal =>
      obtain ⟨hb2, hR⟩ := h2
      have := run_endRound (P := P) none hb2
      refine ⟨_, _, this, ?_⟩
      have e2 : ({ rc .busy none with state := if (none : Option Code).isNone then .ready else .done, pending := none } : Loop) = rc .ready none := by rw [hrc]; rfl
      rw [e2]; exact hR
    | ret =>
      obtain ⟨hb2, hR⟩ := h2
      have := run_endRound (P := P) (some .ret) hb2
      refine ⟨_, _, this, ?_⟩
      have e2 : ({ rc .busy none with state := if (some Code.ret : Option Code).isNone then .ready else .done, pending := some .ret } : Loop) = rc .done (some .ret) := by rw [hrc]; rfl
      rw [e2]; exact hR
    | exit _ => exact h2.elim
    | goto _ => exact h2.elim
    | panic _ => exact h2.elim
    | outgrown => exact h2.elim
  | ret => exact hx.elim
  | exit _ => exact hx.elim
  | goto _ => exact hx.elim
  | panic _ => exact hx.elim
  | outgrown => exact hx.elim

theorem range_law {g : Operand} {ps : Array Tmp} {assign body : Code} {Q : Exit → Act → World → Prop} {a : Act} {w : World}
    (hro : F.round = none) (h1 : 1 ≤ n) {gf : Nat} {lb : Array Value} (hg : a.eval g = .func (.func gf) #[] lb) (hFg : F.fn gf) (eg : ∀ args w, (callFunc gf args).run P w = .ok (.enter gf args) w)
    (h : ∀ fn, F.fn fn → ∀ rc : LoopState → Option Code → Loop, (rc = fun st pe => { state := st, pending := pe, fn := fn, tmps := a.tmps, params := ps, assign := assign, body := body, defers := w.heap.size }) →
      CallsIn F (n - 1) P gf (#[.func (.yield (w.heap.size + 1)) #[] #[]] ++ lb) ((w.alloc (.deferred (some []))).alloc (.loop (rc .ready none))) fun e W => (∃ v, e = .returned v) ∧
        ((W.heap[w.heap.size + 1]? = some (.loop (rc .ready none)) ∧ Q .normal { a with defers := { target := .collected w.heap.size, args := #[] } :: a.defers } (W.putObj (w.heap.size + 1) (.loop (rc .exhausted none)))) ∨
         (∃ c, W.heap[w.heap.size + 1]? = some (.loop (rc .done (some c))) ∧ c.wpIn F n P Q { a with defers := { target := .collected w.heap.size, args := #[] } :: a.defers } (W.putObj (w.heap.size + 1) (.loop (rc .exhausted (some c))))))) :
    (Code.rangeFunc g ps assign body).wpIn F n P Q a w := by
  refine wpIn_rangeFunc ?_
  intro fn hfn
  rw [hro]
  obtain ⟨rc, hrc⟩ : ∃ rc : LoopState → Option Code → Loop, rc = fun st pe => { state := st, pending := pe, fn := fn, tmps := a.tmps, params := ps, assign := assign, body := body, defers := w.heap.size } := ⟨_, rfl⟩
  refine ⟨w.heap.size + 1, [{ target := .collected w.heap.size, args := #[] }], (w.alloc (.deferred (some []))).alloc (.loop (rc .ready none)), { target := .fn (.func gf) lb, args := #[.func (.yield (w.heap.size + 1)) #[] #[]] }, (w.alloc (.deferred (some []))).alloc (.loop (rc .ready none)), gf,
    #[.func (.yield (w.heap.size + 1)) #[] #[]] ++ lb, (w.alloc (.deferred (some []))).alloc (.loop (rc .ready none)), ?_, ?_, ?_, ?_, fun _ => h1, ?_⟩
  · rw [hrc]; exact run_enterLoop_outer _ _ _ _ _
  · simp only [resolve, hg]
    simp [go_sem]
  · intro f' hf'; simp [Target.leads] at hf'; subst hf'; exact hFg
  · simp [invoke, go_sem, eg]
  · refine (h fn hfn rc hrc).mono ?_
    rintro e W ⟨⟨v, rfl⟩, (⟨hl, hq⟩ | ⟨c, hl, hq⟩)⟩
    · refine ⟨none, _, by have := run_endLoop (P := P) hl (by rw [hrc]; simp); rw [hrc] at this; exact this, ?_⟩
      rw [hrc] at hq; exact hq
    · refine ⟨some c, _, by have := run_endLoop (P := P) hl (by rw [hrc]; simp); rw [hrc] at this; exact this, ?_⟩
      rw [hrc] at hq; exact hq
end
end Go.Proofs.YtjhinmdnabmdoaaDoor.Lex
