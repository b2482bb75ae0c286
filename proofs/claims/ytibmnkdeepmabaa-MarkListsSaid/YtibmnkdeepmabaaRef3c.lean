/- quartoref03.Form returns the same list as delta.form, in memory of its own. Condition: valid pieces, at most 100000, none longer than 2^20. -/
import Derived.Test.YtibmnkdeepmabaaRef3b
import Derived.Deep.CutBlock
namespace Go.Proofs.Ytibmnkdeepmabaa
open Go.RowKit

theorem formSt_snoc (l : List Pc) (k : Nat) (h : k < l.length) : formSt (l.take (k + 1)) = formStep (formSt (l.take k)) l[k] := by
  unfold formSt
  rw [List.take_succ_eq_append_getElem h, List.foldl_append]
  rfl

/-- at the head of Form's outer loop -/
def OutI (l : List Pc) (k : Nat) (out : List Pc) : Prop :=
  (formSt (l.take k) = ⟨out, [], 0⟩ ∧ (k = 0 ∨ k = l.length ∨ ∃ h : k < l.length, l[k].k ≠ 1)) ∨ (k = l.length ∧ out = formS l)
/-- at the head of the loop over a gap that began at k -/
def In1 (l : List Pc) (k : Nat) (out : List Pc) (j : Nat) (text : List UInt8) (n : Int) : Prop :=
  formSt (l.take j) = ⟨out, text, n⟩ ∧ k ≤ j ∧ (k < j → text ≠ [] ∨ 0 < n) ∧ (k = 0 ∨ ∃ h : k < l.length, l[k].k ≠ 1)
/-- at the head of the loop over the pieces behind it that retain -/
def In2 (l : List Pc) (k j0 : Nat) (out : List Pc) (text : List UInt8) (n : Int) (j : Nat) (m : Int) : Prop :=
  In1 l k out j0 text n ∧ j0 ≤ j ∧ (j0 = l.length ∨ ∃ h : j0 < l.length, l[j0].k = 1) ∧ (j = j0 → m = 0) ∧ (j0 < j → 0 < m ∧ formSt (l.take j) = ⟨flushed out text n ++ [⟨1, m, []⟩], [], 0⟩)

theorem OutI.start (l : List Pc) : OutI l 0 [] := .inl ⟨rfl, .inl rfl⟩
theorem OutI.in1 {l : List Pc} {k : Nat} {out : List Pc} (h : OutI l k out) (hk : k < l.length) : In1 l k out k [] 0 := by
  rcases h with ⟨h1, h2⟩ | ⟨h1, _⟩
  · refine ⟨h1, Nat.le_refl _, fun h => by omega, ?_⟩
    rcases h2 with h2 | h2 | h2
    · exact .inl h2
    · omega
    · exact .inr h2
  · omega
theorem OutI.done {l : List Pc} {out : List Pc} (h : OutI l l.length out) : out = formS l := by
  rcases h with ⟨h1, _⟩ | ⟨_, h1⟩
  · rw [List.take_length] at h1
    unfold formS
    rw [h1]
    simp [flushed]
  · exact h1
theorem In1.step {l : List Pc} {k j : Nat} {out : List Pc} {text : List UInt8} {n : Int} (h : In1 l k out j text n) (hn : 0 ≤ n) (hj : j < l.length) (hv : l[j].valid = true) (h1 : l[j].k ≠ 1) : In1 l k out (j + 1) (text ++ l[j].t) (n + l[j].n) := by
  obtain ⟨a, b, c, d⟩ := h
  refine ⟨?_, by omega, fun _ => ?_, d⟩
  · rw [formSt_snoc l j hj, a]
    rcases Pc.valid_cases hv with ⟨x, _, _⟩ | ⟨x, y, z⟩ | ⟨x, y, z⟩
    · exact absurd x h1
    · simp [formStep, x, z]
    · simp [formStep, x, y]
  · rcases Pc.valid_cases hv with ⟨x, _, _⟩ | ⟨x, y, z⟩ | ⟨x, y, z⟩
    · exact absurd x h1
    · exact .inr (by omega)
    · exact .inl (by simp [z])
theorem In1.out {l : List Pc} {k j : Nat} {out : List Pc} {text : List UInt8} {n : Int} (h : In1 l k out j text n) (hj : j = l.length ∨ ∃ h : j < l.length, l[j].k = 1) : In2 l k j out text n j 0 :=
  ⟨h, Nat.le_refl _, hj, fun _ => rfl, fun h => by omega⟩

theorem addRetain_flushed {out : List Pc} {text : List UInt8} {n : Int} {p : Pc} (h : (text ≠ [] ∨ 0 < n) ∨ out = [] ∧ text = [] ∧ n = 0) : addRetain (flushed out text n) p = flushed out text n ++ [p] := by
  unfold addRetain flushed
  rcases h with h | ⟨rfl, rfl, rfl⟩
  · by_cases hn : 0 < n
    · simp [hn]
    · have ht : text ≠ [] := by rcases h with h | h; exact h; exact absurd h hn
      simp [hn, ht]
  · simp

theorem In2.step {l : List Pc} {k j0 j : Nat} {out : List Pc} {text : List UInt8} {n m : Int} (h : In2 l k j0 out text n j m) (hj : j < l.length) (hv : l[j].valid = true) (h1 : l[j].k = 1) : In2 l k j0 out text n (j + 1) (m + l[j].n) := by
  obtain ⟨a, b, c, d, e⟩ := h
  have hp : 1 ≤ l[j].n ∧ l[j].t = [] := by
    rcases Pc.valid_cases hv with ⟨_, y, z⟩ | ⟨x, _, _⟩ | ⟨x, _, _⟩
    · exact ⟨y, z⟩
    · omega
    · omega
  have hpe : l[j] = ⟨1, l[j].n, []⟩ := by
    rw [← hp.2, ← h1]
  refine ⟨a, by omega, c, fun h => by omega, fun _ => ?_⟩
  rw [formSt_snoc l j hj]
  by_cases hjj : j = j0
  · subst hjj
    rw [d rfl]
    refine ⟨by omega, ?_⟩
    obtain ⟨a1, a2, a3, a4⟩ := a
    rw [a1]
    have hl : (text ≠ [] ∨ 0 < n) ∨ out = [] ∧ text = [] ∧ n = 0 := by
      by_cases hkj : k < j
      · exact .inl (a3 hkj)
      · obtain rfl : k = j := by omega
        rcases a4 with a4 | ⟨_, a4⟩
        · subst a4
          have e0 : formSt (l.take 0) = ⟨[], [], 0⟩ := rfl
          rw [e0] at a1
          injection a1 with b1 b2 b3
          exact .inr ⟨b1.symm, b2.symm, b3.symm⟩
        · exact absurd h1 a4
    simp only [formStep]
    rw [if_neg (by omega), if_neg (by omega), addRetain_flushed hl, Int.zero_add, ← hpe]
  · obtain ⟨e1, e2⟩ := e (by omega)
    refine ⟨by omega, ?_⟩
    rw [e2]
    simp only [formStep]
    rw [if_neg (by omega), if_neg (by omega)]
    simp [flushed, addRetain]

theorem In2.last {l : List Pc} {k j0 j : Nat} {out : List Pc} {text : List UInt8} {n m : Int} (h : In2 l k j0 out text n j m) (hk : k < l.length) (hj : j = l.length ∨ ∃ h : j < l.length, l[j].k ≠ 1) :
    k < j ∧ 0 ≤ m ∧ (0 < m → OutI l j (flushed out text n ++ [⟨1, m, []⟩])) ∧ (¬ 0 < m → OutI l j (flushed out text n)) := by
  obtain ⟨a, b, c, d, e⟩ := h
  by_cases hjj : j = j0
  · have hm := d hjj
    subst hm hjj
    have hl : j = l.length := by
      rcases hj with hj | ⟨h1, hj⟩
      · exact hj
      · rcases c with c | ⟨_, c⟩
        · exact c
        · exact absurd c hj
    refine ⟨by omega, Int.le_refl _, fun h => by omega, fun _ => .inr ⟨hl, ?_⟩⟩
    have a1 := a.1
    rw [hl, List.take_length] at a1
    unfold formS
    rw [a1]
  · obtain ⟨e1, e2⟩ := e (by omega)
    refine ⟨by have := a.2.1; omega, by omega, fun _ => .inl ⟨e2, ?_⟩, fun h => absurd e1 h⟩
    rcases hj with hj | hj
    · exact .inr (.inl hj)
    · exact .inr (.inr hj)

/-- the cells of a piece of a slice that was there at w, in every later world -/
theorem Sl.pcB {w : World} {v : Value} {l : List Pc} (h : Sl pcE w v l) {k : Nat} (hk : k < l.length) :
    ∃ b off cap, v = .slice (some ⟨b, off, none⟩) l.length cap ∧ b < w.heap.size ∧ ∀ w', Below w.heap.size w w' → w'.cell? ⟨b, off + k * 3, none⟩ = some (.int .u8 l[k].k) ∧ w'.cell? ⟨b, off + k * 3 + 1, none⟩ = some (.int .i64 l[k].n) ∧ w'.cell? ⟨b, off + k * 3 + 2, none⟩ = some (.string ⟨l[k].t.toArray⟩) := by
  obtain ⟨b, off, cap, hv, hb, c0, c1, c2⟩ := h.pc hk
  exact ⟨b, off, cap, hv, hb, fun w' hb' => ⟨(hb'.cell (p := ⟨b, _, none⟩) hb).trans c0, (hb'.cell (p := ⟨b, _, none⟩) hb).trans c1, (hb'.cell (p := ⟨b, _, none⟩) hb).trans c2⟩⟩

end Go.Proofs.Ytibmnkdeepmabaa
