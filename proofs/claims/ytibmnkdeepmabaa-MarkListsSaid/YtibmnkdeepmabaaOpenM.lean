/- What the arguments of a law give the walk: a slice of marks reads as a list of marks, a mark as a mark. -/
import Derived.Test.YtibmnkdeepmabaaOpen
import Derived.Test.YtibmnkdeepmabaaMark1
import Derived.WideShapes
namespace Go.Proofs.Ytibmnkdeepmabaa
open Go.RowKit Go.WideShapes Go.ChangeShapes Go.ChangeAt Go.ChangeMaps Go.Deep

theorem cellsMark : Try.prog.cellsOf 32 = 3 := by kernel_rfl
theorem bytesMark : Try.prog.bytesOf 32 = 24 := by kernel_rfl
theorem cellsU32 : Try.prog.cellsOf 30 = 1 := by kernel_rfl
theorem wf_u32 {n : Int} (h : (Lit.int .u32 n).wf = true) : 0 ≤ n ∧ n ≤ 4294967295 := by
  simpa [Lit.wf, IntKind.min, IntKind.max, IntKind.signed, IntKind.bits] using h

section
variable {H : Type} {enc : TypeId × Value → H} {w : World} {base : Nat} {spare : Nat → Bool} {held : Bool}

set_option maxRecDepth 100000 in
/-- three cells that read as a mark -/
theorem open_mark {n : Nat} {cs : List Value} {x : DataW H × List MemPlace} (h : DataW.trod enc Try.prog w base spare held n 32 cs = some x) : ∃ p : Mk, cs = p.cells ∧ p.wf := by
  obtain ⟨xs, m, -, -, hlen, hxl, hf⟩ := DataW.trod_struct Try.underlying32 h
  rw [cellsMark] at hlen
  match cs, hlen with
  | [c0, c1, c2], _ =>
    have h0 : DataW.trod enc Try.prog w base spare held m 30 (List.take (Try.prog.cellsOf 30) [c0, c1, c2]) = xs[0]? := hf 0 _ rfl
    have h1 : DataW.trod enc Try.prog w base spare held m 3 (List.take (Try.prog.cellsOf 3) [c1, c2]) = xs[1]? := hf 1 _ rfl
    have h2 : DataW.trod enc Try.prog w base spare held m 5 (List.take (Try.prog.cellsOf 5) [c2]) = xs[2]? := hf 2 _ rfl
    rw [cellsU32] at h0
    rw [cellsInt] at h1
    rw [cellsU8] at h2
    have l0 : xs[0]? = some (xs[0]'(by rw [hxl]; decide)) := List.getElem?_eq_getElem _
    have l1 : xs[1]? = some (xs[1]'(by rw [hxl]; decide)) := List.getElem?_eq_getElem _
    have l2 : xs[2]? = some (xs[2]'(by rw [hxl]; decide)) := List.getElem?_eq_getElem _
    obtain ⟨k, e0, -, w0⟩ := DataW.trod_int Try.underlying30 (h0.trans l0)
    obtain ⟨n, e1, -, w1⟩ := DataW.trod_int Try.underlying3 (h1.trans l1)
    obtain ⟨s, e2, -, w2⟩ := DataW.trod_int Try.underlying5 (h2.trans l2)
    simp only [List.take_succ_cons, List.take_zero, List.cons.injEq, and_true] at e0 e1 e2
    subst e0 e1 e2
    obtain ⟨a, b⟩ := wf_u32 w0
    obtain ⟨c, d⟩ := wf_i64 w1
    obtain ⟨e, f⟩ := wf_u8 w2
    exact ⟨⟨k, n, s⟩, by simp [Mk.cells], a, b, c, d, e, f⟩

set_option maxRecDepth 100000 in
/-- a slice of marks -/
theorem open_marks {v : Value} {d : DataW H} {ps : List MemPlace} (hs : ∀ b, spare b = true) (hval : Value.okWide Try.prog w .any base 22 v) (h : DataW.Trod enc Try.prog w 0 spare held 22 v d ps) :
    ∃ l : List Mk, Sl mkE w v l ∧ (∀ p ∈ l, p.wf) ∧ ((d = .nil ∧ l = []) ∨ ∃ elems sp, d = .slice elems sp ∧ elems.length = l.length) := by
  obtain ⟨a0, len0, cap0, rfl⟩ := okWide_slice Try.underlying22 hval
  obtain ⟨fuel, hf⟩ := h
  rcases open_slice Try.underlying22 hf with ⟨hcs, hx⟩ | ⟨a, len, cap, m, n, D, Pl, hcs, hb, hl, hm, hmm, hx, hi⟩
  · simp [Value.cells] at hcs
    obtain ⟨rfl, rfl, rfl⟩ := hcs
    simp only [Prod.mk.injEq] at hx
    exact ⟨[], Sl.nil mkE w, by simp, .inl ⟨hx.1, rfl⟩⟩
  · simp [Value.cells] at hcs
    obtain ⟨rfl, rfl, rfl⟩ := hcs
    rw [cellsMark] at hx hi
    rw [if_pos (hs _)] at hmm
    subst hmm
    simp only [Prod.mk.injEq] at hx
    have hmk : ∀ i, i < len0 → ∃ p : Mk, p.wf ∧ ∀ j u, p.cells[j]? = some u → w.cell? ((a.add (i * 3)).add j) = some u := by
      intro i hlt
      obtain ⟨cs', hc, ht⟩ := hi i (by omega)
      obtain ⟨-, hcl, hat⟩ := World.cells?_some hc
      obtain ⟨p, rfl, hp⟩ := open_mark ht
      refine ⟨p, hp, fun j u hj => ?_⟩
      have hj3 : j < 3 := by
        have := (List.getElem?_eq_some_iff.1 hj).1
        simpa [Mk.cells] using this
      rw [hat j hj3]; exact hj
    have hch : ∃ l : List Mk, l.length = len0 ∧ ∀ i p, l[i]? = some p → p.wf ∧ ∀ j u, p.cells[j]? = some u → w.cell? ((a.add (i * 3)).add j) = some u := by
      clear hx hi hl hf hval hb
      induction len0 with
      | zero => exact ⟨[], rfl, fun i p h => by simp at h⟩
      | succ k ih =>
        obtain ⟨l, hll, hlp⟩ := ih (fun i hi => hmk i (by omega))
        obtain ⟨p, hp⟩ := hmk k (by omega)
        refine ⟨l ++ [p], by simp [hll], fun i q hq => ?_⟩
        rcases Nat.lt_or_ge i l.length with hlt | hge
        · rw [List.getElem?_append_left hlt] at hq
          exact hlp i q hq
        · rw [List.getElem?_append_right hge] at hq
          have hi0 : i - l.length = 0 := by
            have := (List.getElem?_eq_some_iff.1 hq).1
            simp at this
            omega
          rw [hi0] at hq
          simp at hq
          subst hq
          have : i = k := by omega
          subst this
          exact hp
    obtain ⟨l, hll, hlp⟩ := hch
    subst hll
    refine ⟨l, ⟨some a, _, rfl, hl, hm, fun h0 => ?_⟩, fun p hp => ?_, .inr ⟨_, _, hx.1, by simp⟩⟩
    · have hp0 := (hlp 0 l[0] (List.getElem?_eq_getElem h0)).2 0 _ rfl
      rw [Nat.zero_mul, addr_zero, addr_zero] at hp0
      obtain ⟨b, off, sp⟩ := a
      cases sp with
      | some y =>
        unfold World.cell? at hp0
        split at hp0
        · simp at hp0
        · cases hp0
      | none =>
        refine ⟨b, off, rfl, ?_, fun i j x u hx' hu => ?_⟩
        · apply Classical.byContradiction
          intro hn
          unfold World.cell? at hp0
          rw [Array.getElem?_eq_none (by show w.heap.size ≤ b; omega)] at hp0
          cases hp0
        · have := (hlp i x hx').2 j u hu
          rw [add_of_add, add_flat] at this
          exact this
    · obtain ⟨i, hi', e⟩ := List.mem_iff_getElem.1 hp
      subst e
      exact (hlp i _ (List.getElem?_eq_getElem hi')).1
set_option maxRecDepth 100000 in
/-- a mark by value -/
theorem open_markV {v : Value} {d : DataW H} {ps : List MemPlace} (hval : Value.okWide Try.prog w .any base 32 v) (h : DataW.Trod enc Try.prog w 0 spare held 32 v d ps) : ∃ m : Mk, v = m.v ∧ m.wf := by
  obtain ⟨cs, rfl, -⟩ := okWide_struct Try.underlying32 hval
  obtain ⟨fuel, hf⟩ := h
  obtain ⟨m, hc, hw⟩ := open_mark hf
  refine ⟨m, ?_, hw⟩
  unfold Mk.v
  have : cs = m.cells.toArray := by
    rw [← hc]
    simp [Value.cells]
  rw [this]; rfl
end
end Go.Proofs.Ytibmnkdeepmabaa
