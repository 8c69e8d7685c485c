/- 'for x := range seq { .. }' whose body leaves in its first round: a law of one round. -/
import Derived.RangeFuncNested
import Derived.RangeFuncBound
import Derived.RangeFuncBox
import Derived.RangeFuncCalls
import Derived.RangeFuncLeaves
import Derived.Shelf.Abstract
import Derived.Shelf.RegionOpen
import Derived.WalkKit
import Derived.OwnWalkIn
import Derived.TacticsInMore
import Derived.LoopNIn
import Derived.LoopIn
import Derived.Test.YtdnigbbfiklaoaaDoorLaws
namespace Go.Proofs.YtdnigbbfiklaoaaDoor
open Go.RowKit
/-- The loop's record and the block of its deferred calls lie where the loop was entered. -/
structure RecAt (w0 : World) (r : Loop) (W : World) : Prop where
  mark : W.heap[w0.heap.size]? = some (.deferred (some []))
  loop : W.heap[w0.heap.size + 1]? = some (.loop r)
theorem wpIn_rangeFunc_once {P : Program} {n : Nat} {g : Operand} {ps : Array Tmp} {assign body : Code} {Q : Exit → Act → World → Prop} {a : Act} {w : World}
    (h1 : 1 ≤ n) {gf : Nat} {lb : Array Value} (hg : a.eval g = .func (.func gf) #[] lb) (eg : ∀ args w, (callFunc gf args).run P w = .ok (.enter gf args) w) (x : Value) (hps : ps.size = 1) (id : Nat)
    (hseq : ∀ (l : Nat) (W : World) (Jx : World → Prop), Below w.heap.size w W → w.heap.size ≤ W.heap.size →
      (∀ W1, Below W.heap.size W W1 → YieldAt Fence.wide (n - 1 - 1) P l #[x] W1 fun e W' => e = .returned (.bool false) ∧ Jx W') →
      CallsIn Fence.wide (n - 1) P gf (#[.func (.yield l) #[] #[]] ++ lb) W fun e W' => (∃ v, e = .returned v) ∧ Jx W')
    (Ix : World → Prop) (hIx : ∀ (r : Loop) (W : World) (o : Obj), Ix W → RecAt w r W → Ix (W.putObj (w.heap.size + 1) o))
    (a₁ : Act) (hassign : ∀ (l : Nat) (W : World) (K : Act → World → Prop), K a₁ W →
      assign.wpIn (Fence.inRound Fence.wide l) (n - 1 - 1) P (Exit.then K (fun _ _ _ => False)) { tmps := (ps.zip #[x]).foldl (fun t (p, v) => t.setIfInBounds p v) a.tmps, defers := [] } W)
    (hbody : ∀ (l : Nat) (r : Loop) (W : World), Below w.heap.size w W → RecAt w r W → body.wpIn (Fence.inRound Fence.wide l) (n - 1 - 1) P (fun e _ W' => e = .exit id ∧ RecAt w r W' ∧ Ix W') a₁ W)
    (hstop : ∀ (W : World), Ix W → W.heap[w.heap.size]? = some (.deferred (some [])) → (Code.exit id).wpIn Fence.wide n P Q { a with defers := { target := .collected w.heap.size, args := #[] } :: a.defers } W) :
    (Code.rangeFunc g ps assign body).wpIn Fence.wide n P Q a w := by
  refine wpIn_rangeFunc ?_
  intro fn hfn
  obtain ⟨rec, hrec⟩ : ∃ rec : LoopState → Option Code → Loop, rec = fun st pe => { state := st, pending := pe, fn, tmps := a.tmps, params := ps, assign, body, defers := w.heap.size } := ⟨_, rfl⟩
  obtain ⟨W1, hW1⟩ : ∃ W1, (w.alloc (.deferred (some []))).alloc (.loop (rec .ready none)) = W1 := ⟨_, rfl⟩
  have hs1 : W1.heap.size = w.heap.size + 2 := by rw [← hW1]; simp
  have hR1 : RecAt w (rec .ready none) W1 := by
    constructor
    · rw [← hW1, heap_lt _ _ _ (by simp), heap_eq _ _ _ rfl]
    · rw [← hW1, heap_eq _ _ _ (by simp)]
  have hb1 : Below w.heap.size w W1 := by rw [← hW1]; exact ((Below.refl _ w).alloc (Nat.le_refl _) _).alloc (by simp) _
  refine ⟨w.heap.size + 1, [{ target := .collected w.heap.size, args := #[] }], W1, { target := .fn (.func gf) lb, args := #[.func (.yield (w.heap.size + 1)) #[] #[]] }, W1, gf,
    #[.func (.yield (w.heap.size + 1)) #[] #[]] ++ lb, W1, ?_, ?_, ?_, ?_, fun _ => h1, ?_⟩
  · rw [← hW1, hrec]; exact run_enterLoop_outer _ _ _ _ _
  · simp only [resolve, hg]
    simp [go_sem]
  · intro f' _; trivial
  · simp [invoke, go_sem, eg]
  · refine (hseq (w.heap.size + 1) W1 (fun W => Ix W ∧ RecAt w (rec .done (some (.exit id))) W) hb1 (by omega) ?_).mono ?_
    · intro W2 hb2
      have hR2 : RecAt w (rec .ready none) W2 := ⟨(hb2.block _ (by omega)).trans hR1.mark, (hb2.block _ (by omega)).trans hR1.loop⟩
      have hb02 : Below w.heap.size w W2 := hb1.trans (hb2.mono (by omega))
      have hlt : w.heap.size + 1 < W2.heap.size := lt_of_block hR2.loop
      have hy := run_yield (P := P) (args := #[x]) hR2.loop (by rw [hrec]; simp [hps])
      rw [hrec] at hy
      refine ⟨fn, _, assign, body, hy, roundIn_of_wpIn hfn (hassign _ W2 _ ⟨_, run_beginRound hR2.loop (by rw [hrec]), ?_⟩)⟩
      have hR3 : RecAt w { rec .ready none with state := .busy } (W2.putObj (w.heap.size + 1) (.loop { rec .ready none with state := .busy })) :=
        ⟨(World.putObj_heap_other (by omega)).trans hR2.mark, World.putObj_heap_same hlt⟩
      have hb03 : Below w.heap.size w (W2.putObj (w.heap.size + 1) (.loop { rec .ready none with state := .busy })) :=
        hb02.trans ⟨rfl, rfl, rfl, by simp, fun k hk => World.putObj_heap_other (by omega)⟩
      refine wpIn_mono (hbody _ _ _ hb03 hR3) ?_
      rintro e a3 W3 ⟨rfl, hR4, hi4⟩
      have hen := run_endRound (P := P) (some (.exit id)) hR4.loop
      refine ⟨_, _, hen, rfl, hIx _ _ _ hi4 hR4, ?_⟩
      constructor
      · exact (World.putObj_heap_other (by omega)).trans hR4.mark
      · rw [World.putObj_heap_same (lt_of_block hR4.loop), hrec]; rfl
    · rintro e W2 ⟨⟨v, rfl⟩, hi, hR⟩
      have hend := run_endLoop (P := P) hR.loop (by rw [hrec]; simp)
      rw [hrec] at hend
      exact ⟨some (.exit id), _, hend, hstop _ (hIx _ _ _ hi hR) ((World.putObj_heap_other (by omega)).trans hR.mark)⟩
end Go.Proofs.YtdnigbbfiklaoaaDoor
