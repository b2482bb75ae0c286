/- A range over a method value: the contract of such an iterator, and the loop over it. No condition. -/
import Derived.Test.YtibmnkdeepmabaaBuilder
import Derived.RangeFuncFrom
import Derived.RangeFuncLeaves
import Derived.Shelf.Abstract
import Derived.OwnWalkIn
import Derived.TacticsInMore
import Derived.LoopNIn
import Derived.LoopIn
namespace Go.Proofs.Ytibmnkdeepmabaa
open Go.RowKit Go.Shelf

/-- what a round may change: the caller's own blocks, and new ones -/
def betw (n m : Nat) (k : Nat) : Prop := n ≤ k ∧ k < m

/-- an iterator that is a method (its receiver stands first): it hands over the elements of xs in order, until a round says 'no more'; it writes into new blocks alone -/
def MIter {α : Type} (P : Program) (g : Nat) (fb : Array Value) (encs : α → Array Value) (n₀ : Nat) (xs : List α) (w : World) : Prop :=
  ∀ (n l : Nat) (J : Nat → World → Prop) (Jx : World → Prop) (W : World), Below w.heap.size w W →
    (∀ k A B, J k A → Below W.heap.size A B → J k B) → (∀ A B, Jx A → Below W.heap.size A B → Jx B) → (∀ k A, J k A → Below n₀ w A ∧ W.heap.size ≤ A.heap.size) →
    (∀ (k : Nat) (x : α) (A : World), xs[k]? = some x → J k A → YieldAt Fence.wide (n - 1) P l (encs x) A fun e B =>
      (e = .returned (.bool true) ∧ J (k + 1) B ∧ Fr (betw n₀ W.heap.size) A B) ∨ (e = .returned (.bool false) ∧ Jx B)) →
    J 0 W → CallsIn Fence.wide n P g (fb ++ #[.func (.yield l) #[] #[]]) W fun e B => (∃ v, e = .returned v) ∧ (J xs.length B ∨ Jx B)

/-- how a round's body may be left -/
def roundLeft (n₀ m : Nat) (I : Nat → World → Prop) (Ix : Code → World → Prop) (k : Nat) (A : World) : Exit → Act → World → Prop
  | .normal, _, B => Fr (betw n₀ m) A B ∧ I (k + 1) B
  | .ret, _, B => Fr (betw n₀ m) A B ∧ Ix .ret B
  | .exit id, _, B => Fr (betw n₀ m) A B ∧ Ix (.exit id) B
  | .goto _, _, _ => False
  | .panic _, _, _ => False
  | .outgrown, _, _ => False

theorem below_putObj {m : Nat} (A : World) (l : Nat) (o : Obj) (h : m ≤ l) (hl : m ≤ A.heap.size) : Below m A (A.putObj l o) :=
  (Below.refl m A).grown (grownBy_putObj' A l o) hl (fun k e => by cases e; exact h)

/-- the loop over such an iterator -/
theorem wpIn_rangeMethod {α : Type} {P : Program} {n : Nat} {g : Operand} {ps : Array Tmp} {assign body : Code} {Q : Exit → Act → World → Prop} {a : Act} {w : World}
    {gf : Nat} {fb : Array Value} (hg : a.eval g = .func (.func gf) fb #[]) (eg : Enters P gf)
    {encs : α → Array Value} {n₀ : Nat} {xs : List α} (hit : MIter P gf fb encs n₀ xs w) (hps : ∀ x, (encs x).size = ps.size)
    (I : Nat → World → Prop) (Ix : Code → World → Prop)
    (hI : ∀ k A B, I k A → Below w.heap.size A B → w.heap.size ≤ A.heap.size → I k B) (hIx : ∀ c A B, Ix c A → Below w.heap.size A B → w.heap.size ≤ A.heap.size → Ix c B) (hIb : ∀ k A, I k A → Below n₀ w A) (h0 : I 0 w)
    (hround : ∀ (l k : Nat) (x : α) (W : World), xs[k]? = some x → I k W → w.heap.size + 1 + 1 ≤ W.heap.size →
      assign.wpIn (Fence.wide.inRound l) (n - 1 - 1) P (Exit.then (fun a₁ W1 => Below W.heap.size W W1 ∧ ∀ W2, Fr (fun j => j = w.heap.size + 1) W1 W2 → W2.heap.size = W1.heap.size → I k W2 → body.wpIn (Fence.wide.inRound l) (n - 1 - 1) P (roundLeft n₀ w.heap.size I Ix k W2) a₁ W2) (fun _ _ _ => False))
        { tmps := (ps.zip (encs x)).foldl (fun t (p, v) => t.setIfInBounds p v) a.tmps, defers := [] } W)
    (hdone : ∀ (D : Nat) (W : World), w.heap.size ≤ D → I xs.length W → W.heap[D]? = some (.deferred (some [])) → Q .normal { a with defers := { target := .collected D, args := #[] } :: a.defers } W)
    (hstop : ∀ (D : Nat) (c : Code) (W : World), w.heap.size ≤ D → Ix c W → W.heap[D]? = some (.deferred (some [])) → c.wpIn Fence.wide n P Q { a with defers := { target := .collected D, args := #[] } :: a.defers } W) :
    (Code.rangeFunc g ps assign body).wpIn Fence.wide n P Q a w := by
  refine wpIn_rangeFunc ?_
  intro fn hfn
  obtain ⟨rec, hrec⟩ : ∃ rec : LoopState → Option Code → Loop, rec = fun st pe => { state := st, pending := pe, fn, tmps := a.tmps, params := ps, assign, body, defers := w.heap.size } := ⟨_, rfl⟩
  obtain ⟨W1, hW1⟩ : ∃ W1, (w.alloc (.deferred (some []))).alloc (.loop (rec .ready none)) = W1 := ⟨_, rfl⟩
  have hz1 : W1.heap.size = w.heap.size + 1 + 1 := by rw [← hW1]; simp
  have hL1 : W1.heap[w.heap.size + 1]? = some (.loop (rec .ready none)) := by
    rw [← hW1]; have := World.alloc_heap_new (w.alloc (.deferred (some []))) (.loop (rec .ready none)); rwa [World.size_alloc] at this
  have hK1 : W1.heap[w.heap.size]? = some (.deferred (some [])) := by
    rw [← hW1]; exact (Below.heap_alloc _ _ _ (by simp)).trans (World.alloc_heap_new w _)
  have hb1 : Below w.heap.size w W1 := by
    rw [← hW1]; exact ((Below.refl _ w).alloc (Nat.le_refl _) _).alloc (by simp) _
  refine ⟨w.heap.size + 1, [{ target := .collected w.heap.size, args := #[] }], W1, { target := .fn (.func gf) #[], args := fb ++ #[.func (.yield (w.heap.size + 1)) #[] #[]] }, W1, gf,
    fb ++ #[.func (.yield (w.heap.size + 1)) #[] #[]], W1, ?_, ?_, ?_, ?_, fun h => by simp [Fence.wide] at h, ?_⟩
  · rw [← hW1, hrec]; exact run_enterLoop_outer _ _ _ _ _
  · simp only [resolve, hg]
    simp [go_sem]
  · intro f' _; trivial
  · simp [invoke, go_sem, eg _ _]
  · -- between two rounds the record is ready; where a round has said 'no more' it bears the jump
    refine (hit (n - 1) (w.heap.size + 1)
      (fun k W => (I k W ∧ w.heap.size + 1 + 1 ≤ W.heap.size) ∧ W.heap[w.heap.size + 1]? = some (.loop (rec .ready none)) ∧ W.heap[w.heap.size]? = some (.deferred (some [])))
      (fun W => ∃ c, (Ix c W ∧ w.heap.size + 1 + 1 ≤ W.heap.size) ∧ W.heap[w.heap.size + 1]? = some (.loop (rec .done (some c))) ∧ W.heap[w.heap.size]? = some (.deferred (some [])))
      W1 hb1 ?_ ?_ ?_ ?_ ?_).mono ?_
    · rintro k A B ⟨⟨h1, h2⟩, h3, h4⟩ hb
      rw [hz1] at hb
      exact ⟨⟨hI k A B h1 (hb.mono (by omega)) (by omega), Nat.le_trans h2 hb.size⟩, (hb.block _ (by omega)).trans h3, (hb.block _ (by omega)).trans h4⟩
    · rintro A B ⟨c, ⟨h1, h2⟩, h3, h4⟩ hb
      rw [hz1] at hb
      exact ⟨c, ⟨hIx c A B h1 (hb.mono (by omega)) (by omega), Nat.le_trans h2 hb.size⟩, (hb.block _ (by omega)).trans h3, (hb.block _ (by omega)).trans h4⟩
    · rintro k A ⟨⟨h1, h2⟩, -, -⟩
      exact ⟨hIb k A h1, by omega⟩
    · -- one round
      rintro k x A hx ⟨⟨hi, hlt⟩, hl, hk⟩
      have hy := run_yield (P := P) (args := encs x) hl (by rw [hrec]; exact hps x)
      rw [hrec] at hy
      refine ⟨fn, _, assign, body, hy, roundIn_of_wpIn hfn (wpIn_mono (hround (w.heap.size + 1) k x A hx hi hlt) ?_)⟩
      rintro e0 a1 A1 hp0
      cases e0 with
      | normal => ?_
      | _ => exact hp0.elim
      obtain ⟨hb1', hp1⟩ := hp0
      have hz1' := hb1'.size
      have hl1 := (hb1'.block (w.heap.size + 1) (by omega)).trans hl
      have hk1 := (hb1'.block w.heap.size (by omega)).trans hk
      refine ⟨_, run_beginRound hl1 (by rw [hrec]), ?_⟩
      obtain ⟨A2, hA2⟩ : ∃ A2, A1.putObj (w.heap.size + 1) (.loop { rec .ready none with state := .busy }) = A2 := ⟨_, rfl⟩
      rw [hA2]
      have hz2 : A2.heap.size = A1.heap.size := by rw [← hA2]; simp
      have hl2 : A2.heap[w.heap.size + 1]? = some (.loop { rec .ready none with state := .busy }) := by rw [← hA2]; exact World.putObj_heap_same (by omega)
      have hk2 : A2.heap[w.heap.size]? = some (.deferred (some [])) := by rw [← hA2]; exact (World.putObj_heap_other (by omega)).trans hk1
      have hb2 : Below w.heap.size A A2 := by rw [← hA2]; exact (hb1'.mono (by omega)).trans (below_putObj _ _ _ (by omega) (by omega))
      have hf2' : Fr (fun j => j = w.heap.size + 1) A1 A2 := by
        rw [← hA2]
        exact ⟨rfl, rfl, rfl, by simp, fun j _ hj => World.putObj_heap_other hj⟩
      have hf2 : Fr (fun j => j = w.heap.size + 1) A A2 := (Fr.of_below hb1').trans hf2'
      refine wpIn_mono (hp1 A2 hf2' hz2 (hI k A A2 hi hb2 (by omega))) ?_
      have fin : ∀ (jump : Option Code) (B : World), Fr (betw n₀ w.heap.size) A2 B →
          (Instr.endRound (w.heap.size + 1) jump).run P B = .ok (.bool jump.isNone) (B.putObj (w.heap.size + 1) (.loop (rec (if jump.isNone then .ready else .done) jump))) ∧
          (B.putObj (w.heap.size + 1) (.loop (rec (if jump.isNone then .ready else .done) jump))).heap[w.heap.size + 1]? = some (.loop (rec (if jump.isNone then .ready else .done) jump)) ∧
          (B.putObj (w.heap.size + 1) (.loop (rec (if jump.isNone then .ready else .done) jump))).heap[w.heap.size]? = some (.deferred (some [])) ∧
          Below w.heap.size B (B.putObj (w.heap.size + 1) (.loop (rec (if jump.isNone then .ready else .done) jump))) ∧ w.heap.size + 1 + 1 ≤ B.heap.size ∧
          Fr (betw n₀ (w.heap.size + 1 + 1)) A (B.putObj (w.heap.size + 1) (.loop (rec (if jump.isNone then .ready else .done) jump))) := fun jump B hf => by
        have hzB := hf.size
        have hl3 : B.heap[w.heap.size + 1]? = some (.loop { rec .ready none with state := .busy }) := (hf.block _ (by omega) (by unfold betw; omega)).trans hl2
        have hk3 : B.heap[w.heap.size]? = some (.deferred (some [])) := (hf.block _ (by omega) (by unfold betw; omega)).trans hk2
        have hr := run_endRound (P := P) jump hl3
        rw [hrec] at hr ⊢
        have hnw : n₀ ≤ w.heap.size + 1 := by
          have := (hIb k A hi).size
          have h9 := (hIb 0 w h0)
          exact Classical.byContradiction fun hc => by
            have e1 := (hIb k A hi).block (w.heap.size + 1) (by omega)
            rw [hl] at e1
            have e2 : w.heap[w.heap.size + 1]? = none := Array.getElem?_eq_none (by omega)
            rw [e2] at e1
            cases e1
        refine ⟨hr, World.putObj_heap_same (by omega), (World.putObj_heap_other (by omega)).trans hk3, below_putObj _ _ _ (by omega) (by omega), by omega, ?_⟩
        refine ((hf2.mono (U := betw n₀ (w.heap.size + 1 + 1)) (fun i _ hi => by unfold betw; omega)).trans (hf.mono (U := betw n₀ (w.heap.size + 1 + 1)) (fun i _ hi => by unfold betw at hi ⊢; omega))).trans ⟨rfl, rfl, rfl, by simp, fun j _ hj => World.putObj_heap_other (fun e => hj (by unfold betw; omega))⟩
      rintro e a3 B hp
      cases e with
      | normal =>
        obtain ⟨hf, hi3⟩ := hp
        obtain ⟨hr, h1, h2, h3, h4, h5⟩ := fin none B hf
        exact ⟨_, _, hr, .inl ⟨rfl, ⟨⟨hI _ _ _ hi3 h3 (by omega), by simp; omega⟩, h1, h2⟩, by rw [hz1]; exact h5⟩⟩
      | ret =>
        obtain ⟨hf, hi3⟩ := hp
        obtain ⟨hr, h1, h2, h3, h4, h5⟩ := fin (some .ret) B hf
        exact ⟨_, _, hr, .inr ⟨rfl, .ret, ⟨hIx _ _ _ hi3 h3 (by omega), by simp; omega⟩, h1, h2⟩⟩
      | exit id =>
        obtain ⟨hf, hi3⟩ := hp
        obtain ⟨hr, h1, h2, h3, h4, h5⟩ := fin (some (.exit id)) B hf
        exact ⟨_, _, hr, .inr ⟨rfl, .exit id, ⟨hIx _ _ _ hi3 h3 (by omega), by simp; omega⟩, h1, h2⟩⟩
      | goto t => exact hp.elim
      | panic ch => exact hp.elim
      | outgrown => exact hp.elim
    · exact ⟨⟨hI 0 w W1 h0 hb1 (Nat.le_refl _), by omega⟩, hL1, hK1⟩
    · -- behind the iterator
      rintro e B ⟨⟨v, rfl⟩, (⟨⟨hi, hz⟩, hl, hk⟩ | ⟨c, ⟨hi, hz⟩, hl, hk⟩)⟩
      · exact ⟨none, _, by have := run_endLoop (P := P) hl (by rw [hrec]; simp); rw [hrec] at this; exact this, hdone _ _ (Nat.le_refl _) (hI _ _ _ hi (below_putObj _ _ _ (by omega) (by omega)) (by omega)) ((World.putObj_heap_other (by omega)).trans hk)⟩
      · exact ⟨some c, _, by have := run_endLoop (P := P) hl (by rw [hrec]; simp); rw [hrec] at this; exact this, hstop _ c _ (Nat.le_refl _) (hIx _ _ _ hi (below_putObj _ _ _ (by omega) (by omega)) (by omega)) ((World.putObj_heap_other (by omega)).trans hk)⟩

end Go.Proofs.Ytibmnkdeepmabaa
