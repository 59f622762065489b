/- A law of one's own for a range over a function: the rounds are counted, and the iterator says of the world in which it hands a value over. -/
import Derived.Test.YtaocjjocncoahaaMem
import Derived.RangeFuncNested
import Derived.RangeFuncBound
import Derived.RangeFuncCalls
import Derived.RangeFuncLeaves
namespace Go.Proofs.Ytaocjjocncoahaa
open Go.RowKit

/-- How a round's body ends: it goes on; what is no cells lies as it lay. -/
def goesOn (Kp : World → World → Prop) (J : World → Prop) (X : World) : Exit → Act → World → Prop
  | .normal, _, W' => KeepsOthers X W' ∧ Kp X W' ∧ J W'
  | _, _, _ => False
/-- What an iterator that hands over N values, and says Y of the k-th and its world, keeps to. -/
def HandsOver (F : Fence) (n : Nat) (P : Program) (g : Nat) (lb : Array Value) (Y : Nat → Array Value → World → Prop) (Kp : World → World → Prop) (N : Nat) (w : World) : Prop :=
  ∀ (l : Nat) (J : Nat → World → Prop) (W : World), Below w.heap.size w W → (∀ k A B, J k A → Below A.heap.size A B → J k B) →
    (∀ k vs W1, J k W1 → k < N → Y k vs W1 → YieldAt F (n - 1) P l vs W1 fun e W' => e = .returned (.bool true) ∧ J (k + 1) W' ∧ Kp W1 W') →
    J 0 W → CallsIn F n P g (#[.func (.yield l) #[] #[]] ++ lb) W fun e W' => (∃ v, e = .returned v) ∧ J N W'
theorem keepsOthers_below {A B : World} (h : Below A.heap.size A B) : KeepsOthers A B :=
  ⟨h.size, fun k _ hk _ => (h.block k (Array.getElem?_eq_some_iff.1 hk).1).trans hk⟩
theorem wpIn_hands {F : Fence} {n : Nat} {P : Program} {g : Operand} {ps : Array Tmp} {assign body : Code} {Q : Exit → Act → World → Prop} {a : Act} {w : World}
    (hro : F.round = none) (h1 : 1 ≤ n) {gf : Nat} {lb : Array Value} (hg : a.eval g = .func (.func gf) #[] lb) (hFg : F.fn gf) (eg : ∀ args w, (callFunc gf args).run P w = .ok (.enter gf args) w)
    {Y : Nat → Array Value → World → Prop} {Kp : World → World → Prop} {N : Nat} {w0 : World} (hseq : HandsOver F (n - 1) P gf lb Y Kp N w0) (hb0 : Below w0.heap.size w0 w)
    (hYs : ∀ k vs W, Y k vs W → vs.size = ps.size)
    (hKt : ∀ {A B C : World}, Kp A B → Kp B C → Kp A C) (hKb : ∀ (W : World) (l : Nat) (o o' : Obj), w.heap.size ≤ l → W.heap[l]? = some o → o.isCells = false → Kp W (W.putObj l o'))
    (I : Nat → World → Prop) (hIb : ∀ k A B, I k A → Below A.heap.size A B → I k B)
    (hIp : ∀ (k : Nat) (W : World) (l : Nat) (o o' : Obj), w.heap.size ≤ l → W.heap[l]? = some o → o.isCells = false → I k W → I k (W.putObj l o')) (h0 : I 0 w)
    (hround : ∀ (l k : Nat) (vs : Array Value) (W : World) (o : Obj), w.heap.size ≤ l → W.heap[l]? = some o → o.isCells = false → I k W → Y k vs W → k < N →
      assign.wpIn (F.inRound l) (n - 1 - 1) P (Exit.then (fun a1 W1 => KeepsOthers W W1 ∧ Kp W W1 ∧ ∀ X, W1.grownBy X (some l) → X.heap.size = W1.heap.size →
        body.wpIn (F.inRound l) (n - 1 - 1) P (goesOn Kp (I (k + 1)) X) a1 X) (fun _ _ _ => False))
        { tmps := (ps.zip vs).foldl (fun t (p, v) => t.setIfInBounds p v) a.tmps, defers := [] } W)
    (hdone : ∀ (D : Nat) (W : World), w.heap.size ≤ D → I N W → W.heap[D]? = some (.deferred (some [])) → Q .normal { a with defers := { target := .collected D, args := #[] } :: a.defers } W) :
    (Code.rangeFunc g ps assign body).wpIn F n P Q a w := by
  refine wpIn_rangeFunc fun fn hfn => ?_
  rw [hro]
  obtain ⟨rec, hrec⟩ : ∃ rec : LoopState → Loop, rec = fun st => { state := st, pending := none, fn, tmps := a.tmps, params := ps, assign, body, defers := w.heap.size } := ⟨_, rfl⟩
  obtain ⟨W1, hW1⟩ : ∃ W1, (w.alloc (.deferred (some []))).alloc (.loop (rec .ready)) = W1 := ⟨_, rfl⟩
  have hbW : Below w.heap.size w W1 := by rw [← hW1]; exact ((Below.refl _ w).alloc (Nat.le_refl _) _).alloc (by simp) _
  have hL : W1.heap[w.heap.size + 1]? = some (.loop (rec .ready)) := by
    rw [← hW1]; have := World.alloc_heap_new (w.alloc (.deferred (some []))) (.loop (rec .ready)); rwa [World.size_alloc] at this
  have hD : W1.heap[w.heap.size]? = some (.deferred (some [])) := by
    rw [← hW1]; exact (Below.heap_alloc _ _ _ (by simp)).trans (World.alloc_heap_new w _)
  obtain ⟨J, hJ⟩ : ∃ J : Nat → World → Prop, J = fun k W => I k W ∧ W.heap[w.heap.size + 1]? = some (.loop (rec .ready)) ∧ W.heap[w.heap.size]? = some (.deferred (some [])) := ⟨_, rfl⟩
  refine ⟨w.heap.size + 1, [{ target := .collected w.heap.size, args := #[] }], W1, { target := .fn (.func gf) lb, args := #[.func (.yield (w.heap.size + 1)) #[] #[]] }, W1, gf,
    #[.func (.yield (w.heap.size + 1)) #[] #[]] ++ lb, W1, ?_, ?_, ?_, ?_, fun _ => h1, ?_⟩
  · rw [← hW1, hrec]; exact run_enterLoop_outer _ _ _ _ _
  · simp only [resolve, hg]
    simp [go_sem]
  · intro f' hf'; simp [Target.leads] at hf'; subst hf'; exact hFg
  · simp [invoke, go_sem, eg]
  refine (hseq (w.heap.size + 1) J W1 (hb0.trans (hbW.mono hb0.size)) ?_ ?_ ?_).mono ?_
  · subst hJ
    rintro k A B ⟨i1, i2, i3⟩ hb
    exact ⟨hIb k A B i1 hb, (hb.block _ (Array.getElem?_eq_some_iff.1 i2).1).trans i2, (hb.block _ (Array.getElem?_eq_some_iff.1 i3).1).trans i3⟩
  · subst hJ
    rintro k vs W ⟨i1, i2, i3⟩ hk hy
    have hrun := run_yield (P := P) (args := vs) i2 (by rw [hrec]; exact hYs k vs W hy)
    rw [hrec] at hrun
    refine ⟨fn, _, assign, body, hrun, roundIn_of_wpIn hfn ?_⟩
    refine wpIn_mono (hround (w.heap.size + 1) k vs W _ (by omega) i2 rfl i1 hy hk) ?_
    rintro e a1 W2 he
    cases e with
    | normal =>
      obtain ⟨ko, kp, hbody⟩ := he
      have j2 := ko.same _ _ i2 rfl
      have j3 := ko.same _ _ i3 rfl
      have hlt := (Array.getElem?_eq_some_iff.1 j2).1
      refine ⟨_, run_beginRound j2 (by rw [hrec]), ?_⟩
      have b2 : (W2.putObj (w.heap.size + 1) (.loop { rec .ready with state := .busy })).heap[w.heap.size + 1]? = some (.loop { rec .ready with state := .busy }) := World.putObj_heap_same hlt
      have b3 : (W2.putObj (w.heap.size + 1) (.loop { rec .ready with state := .busy })).heap[w.heap.size]? = some (.deferred (some [])) := (World.putObj_heap_other (by omega)).trans j3
      have kb := hKb W2 _ _ (.loop { rec .ready with state := .busy }) (by omega) j2 rfl
      refine wpIn_mono (hbody (W2.putObj (w.heap.size + 1) (.loop { rec .ready with state := .busy })) (grownBy_putObj' _ _ _) (by simp)) ?_
      rintro e2 a2 W3 he2
      cases e2 with
      | normal =>
        obtain ⟨ko3, kp3, i4⟩ := he2
        have c2 := ko3.same _ _ b2 rfl
        have c3 := ko3.same _ _ b3 rfl
        have hend := run_endRound (P := P) none c2
        refine ⟨_, _, hend, rfl, ⟨hIp _ _ _ _ _ (by omega) c2 rfl i4, ?_, (World.putObj_heap_other (by omega)).trans c3⟩, hKt (hKt kp kb) (hKt kp3 (hKb _ _ _ _ (by omega) c2 rfl))⟩
        rw [World.putObj_heap_same (Array.getElem?_eq_some_iff.1 c2).1, hrec]
        rfl
      | ret => exact he2.elim
      | exit id => exact he2.elim
      | goto t => exact he2.elim
      | panic c => exact he2.elim
      | outgrown => exact he2.elim
    | ret => exact he.elim
    | exit id => exact he.elim
    | goto t => exact he.elim
    | panic c => exact he.elim
    | outgrown => exact he.elim
  · subst hJ
    exact ⟨hIb _ _ _ h0 hbW, hL, hD⟩
  · subst hJ
    rintro e W2 ⟨⟨v, rfl⟩, i1, i2, i3⟩
    have hend := run_endLoop (P := P) i2 (by rw [hrec]; simp)
    rw [show (rec .ready).pending = none by rw [hrec]] at hend
    refine ⟨none, _, hend, hdone _ _ (Nat.le_refl _) (hIp _ _ _ _ _ (by omega) i2 rfl i1) ((World.putObj_heap_other (by omega)).trans i3)⟩
end Go.Proofs.Ytaocjjocncoahaa
