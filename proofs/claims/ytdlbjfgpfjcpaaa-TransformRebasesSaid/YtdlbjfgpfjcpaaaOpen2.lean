/- What the arguments of a law give the walk: pieces with bounds on their texts; a slice of slices of pieces. -/
import Derived.Test.YtdlbjfgpfjcpaaaOpen
import Derived.Test.YtdlbjfgpfjcpaaaJoin
namespace Go.Proofs.Ytdlbjfgpfjcpaaa
open Go.RowKit Go.WideShapes Go.ChangeShapes Go.ChangeAt Go.ChangeMaps Go.Deep

theorem list_of {α : Type} {n : Nat} {Q : Nat → α → Prop} (h : ∀ i, i < n → ∃ p, Q i p) : ∃ l : List α, l.length = n ∧ ∀ i p, l[i]? = some p → Q i p := by
  induction n with
  | zero => exact ⟨[], rfl, fun i p h => by simp at h⟩
  | succ k ih =>
    obtain ⟨l, hll, hlp⟩ := ih (fun i hi => h i (by omega))
    obtain ⟨p, hp⟩ := h k (by omega)
    refine ⟨l ++ [p], by simp [hll], fun i q hq => ?_⟩
    rcases Nat.lt_or_ge i l.length with hlt | hge
    · rw [List.getElem?_append_left hlt] at hq
      exact hlp i q hq
    · rw [List.getElem?_append_right hge] at hq
      have hi0 : i - l.length = 0 := by
        have := (List.getElem?_eq_some_iff.1 hq).1
        simp at this
        omega
      rw [hi0] at hq
      simp at hq
      subst hq
      have : i = k := by omega
      subst this
      exact hp

section
variable {H : Type} {enc : TypeId × Value → H} {w : World} {base : Nat} {spare : Nat → Bool} {held : Bool}

theorem weights_all {P : Program} {e : TypeId} : ∀ {l : List (DataW H)} {d : DataW H} {n : Nat}, d ∈ l → n ∈ d.weights P e → n ∈ DataW.weightsAll P e l := by
  intro l
  induction l with
  | nil => intro d n h; cases h
  | cons x r ih =>
    intro d n h hn
    rw [DataW.weightsAll, List.mem_append]
    rcases List.mem_cons.1 h with rfl | h
    · exact .inl hn
    · exact .inr (ih h hn)

theorem weights_slice {P : Program} {t e : TypeId} (ht : P.underlying t = some (.slice e)) (es rs : List (DataW H)) : DataW.weights P t (.slice es rs) = (es.length + rs.length) * P.bytesOf e :: (DataW.weightsAll P e es ++ DataW.weightsAll P e rs) := by
  rw [DataW.weights, ht]
theorem weights_elem {P : Program} {t e : TypeId} (ht : P.underlying t = some (.slice e)) {es rs : List (DataW H × List MemPlace)} (hw : ∀ k ∈ DataW.weights P t (.slice (es.map (·.1)) (rs.map (·.1))), k ≤ reachBytes) :
    (es.length + rs.length) * P.bytesOf e ≤ reachBytes ∧ ∀ x ∈ es, ∀ k ∈ x.1.weights P e, k ≤ reachBytes := by
  rw [weights_slice ht] at hw
  refine ⟨?_, fun x hx k hk => hw k (List.mem_cons_of_mem _ (List.mem_append_left _ (weights_all (List.mem_map.2 ⟨x, hx, rfl⟩) hk)))⟩
  have := hw _ (List.mem_cons_self ..)
  simpa using this

set_option maxRecDepth 100000 in
theorem open_piece2 {n : Nat} {cs : List Value} {x : DataW H × List MemPlace} (h : DataW.trod enc Try.prog w base spare held n 31 cs = some x) : ∃ p : Pc, cs = p.cells ∧ p.wf ∧ p.t.length ∈ x.1.weights Try.prog 31 := by
  obtain ⟨xs, m, -, rfl, hlen, hxl, hf⟩ := DataW.trod_struct Try.underlying31 h
  rw [cellsPiece] at hlen
  match cs, hlen with
  | [c0, c1, c2], _ =>
    have h0 : DataW.trod enc Try.prog w base spare held m 5 (List.take (Try.prog.cellsOf 5) [c0, c1, c2]) = xs[0]? := hf 0 _ rfl
    have h1 : DataW.trod enc Try.prog w base spare held m 3 (List.take (Try.prog.cellsOf 3) [c1, c2]) = xs[1]? := hf 1 _ rfl
    have h2 : DataW.trod enc Try.prog w base spare held m 9 (List.take (Try.prog.cellsOf 9) [c2]) = xs[2]? := hf 2 _ rfl
    rw [cellsU8] at h0
    rw [cellsInt] at h1
    rw [cellsStr] at h2
    have hx3 : xs.length = 3 := hxl
    match xs, hx3 with
    | [x0, x1, x2], _ =>
      obtain ⟨k, e0, -, w0⟩ := DataW.trod_int Try.underlying5 h0
      obtain ⟨n, e1, -, w1⟩ := DataW.trod_int Try.underlying3 h1
      obtain ⟨s, e2, e3, w2⟩ := DataW.trod_string Try.underlying9 h2
      simp only [List.take_succ_cons, List.take_zero, List.cons.injEq, and_true] at e0 e1 e2
      subst e0 e1 e2 e3
      obtain ⟨a, b⟩ := wf_u8 w0
      obtain ⟨c, d⟩ := wf_i64 w1
      have e : s.data.toList.length = s.size := by simp only [Array.length_toList]; rfl
      refine ⟨⟨k, n, s.data.toList⟩, by simp [Pc.cells], ⟨a, b, c, d, ?_⟩, ?_⟩
      · show s.data.toList.length ≤ _
        unfold maxLen at w2
        omega
      · show s.data.toList.length ∈ DataW.weights Try.prog 31 (.agg _)
        rw [DataW.weights, Try.underlying31]
        simp [DataW.weightsEach, DataW.weights]

set_option maxRecDepth 100000 in
/-- a slice of pieces, in a cell -/
theorem open_pcs {n : Nat} {cs : List Value} {x : DataW H × List MemPlace} (h : DataW.trod enc Try.prog w base spare held n 22 cs = some x) (hw : ∀ k ∈ x.1.weights Try.prog 22, k ≤ reachBytes) :
    ∃ (A : Option Addr) (c : Nat) (l : List Pc), cs = [.slice A l.length c] ∧ Sl pcE w (.slice A l.length c) l ∧ (∀ p ∈ l, p.wf) ∧ l.length * 32 ≤ 140737488355328 ∧ ∀ p ∈ l, p.t.length ≤ 140737488355328 := by
  rcases DataW.trod_slice Try.underlying22 h with ⟨rfl, rfl⟩ | ⟨a, len, cap, elems, rest, m, -, rfl, rfl, hb, hl, hm, hel, hi, -, -⟩
  · exact ⟨none, 0, [], rfl, Sl.nil pcE w, by simp, by simp, by simp⟩
  · obtain ⟨hw1, hw2⟩ := weights_elem Try.underlying22 hw
    rw [cellsPiece] at hi
    have hpc : ∀ i, i < len → ∃ p : Pc, (p.wf ∧ p.t.length ≤ 140737488355328) ∧ ∀ j u, p.cells[j]? = some u → w.cell? ((a.add (i * 3)).add j) = some u := by
      intro i hlt
      have hy : elems[i]? = some (elems[i]'(by omega)) := List.getElem?_eq_getElem _
      have h1 := hi i hlt
      rw [hy, Option.bind_eq_some_iff] at h1
      obtain ⟨cs', hc, ht⟩ := h1
      obtain ⟨-, hcl, hat⟩ := World.cells?_some hc
      obtain ⟨p, rfl, hp, hpt⟩ := open_piece2 ht
      refine ⟨p, ⟨hp, ?_⟩, fun j u hj => ?_⟩
      · have := hw2 _ (List.getElem_mem _) _ hpt
        unfold reachBytes at this
        omega
      · have hj3 : j < 3 := by
          have := (List.getElem?_eq_some_iff.1 hj).1
          simpa [Pc.cells] using this
        rw [hat j hj3]; exact hj
    obtain ⟨l, hll, hlp⟩ := list_of hpc
    have hml : ∀ p ∈ l, p.wf ∧ p.t.length ≤ 140737488355328 := fun p hp => by
      obtain ⟨i, hi', e⟩ := List.mem_iff_getElem.1 hp
      subst e
      exact (hlp i _ (List.getElem?_eq_getElem hi')).1
    subst hll
    refine ⟨some a, cap, l, rfl, ⟨some a, _, rfl, hl, hm, fun h0 => ?_⟩, fun p hp => (hml p hp).1, ?_, fun p hp => (hml p hp).2⟩
    · have hp0 := (hlp 0 l[0] (List.getElem?_eq_getElem h0)).2 0 _ rfl
      rw [Nat.zero_mul, addr_zero, addr_zero] at hp0
      obtain ⟨b, off, sp⟩ := a
      cases sp with
      | some y =>
        unfold World.cell? at hp0
        split at hp0
        · simp at hp0
        · cases hp0
      | none =>
        refine ⟨b, off, rfl, ?_, fun i j x u hx' hu => ?_⟩
        · apply Classical.byContradiction
          intro hn
          unfold World.cell? at hp0
          rw [Array.getElem?_eq_none (by show w.heap.size ≤ b; omega)] at hp0
          cases hp0
        · have := (hlp i x hx').2 j u hu
          rw [add_of_add, add_flat] at this
          exact this
    · have := hw1
      rw [bytesPiece, Nat.add_mul, hel] at this
      unfold reachBytes at this
      omega

theorem cellsPcs : Try.prog.cellsOf 22 = 1 := by kernel_rfl

set_option maxRecDepth 100000 in
/-- a slice of slices of pieces, in a cell -/
theorem open_pps {n : Nat} {cs : List Value} {x : DataW H × List MemPlace} (h : DataW.trod enc Try.prog w base spare held n 32 cs = some x) (hw : ∀ k ∈ x.1.weights Try.prog 32, k ≤ reachBytes) :
    ∃ (v : Value) (L : List (List Pc)), cs = [v] ∧ Sll w v L ∧ ∀ l ∈ L, (∀ p ∈ l, p.wf) ∧ l.length * 32 ≤ 140737488355328 ∧ ∀ p ∈ l, p.t.length ≤ 140737488355328 := by
  rcases DataW.trod_slice Try.underlying32 h with ⟨rfl, rfl⟩ | ⟨a, len, cap, elems, rest, m, -, rfl, rfl, hb, hl, hm, hel, hi, -, -⟩
  · exact ⟨_, [], rfl, ⟨[], Sl.nil svE w, rfl, fun i x l hx => by simp at hx⟩, by simp⟩
  · obtain ⟨-, hw2⟩ := weights_elem Try.underlying32 hw
    rw [cellsPcs] at hi
    have hpc : ∀ i, i < len → ∃ y : SV × List Pc, (Sl pcE w y.1.v y.2 ∧ (∀ p ∈ y.2, p.wf) ∧ y.2.length * 32 ≤ 140737488355328 ∧ ∀ p ∈ y.2, p.t.length ≤ 140737488355328) ∧ w.cell? ((a.add (i * 1)).add 0) = some y.1.v := by
      intro i hlt
      have hy : elems[i]? = some (elems[i]'(by omega)) := List.getElem?_eq_getElem _
      have h1 := hi i hlt
      rw [hy, Option.bind_eq_some_iff] at h1
      obtain ⟨cs', hc, ht⟩ := h1
      obtain ⟨-, hcl, hat⟩ := World.cells?_some hc
      obtain ⟨A, c, l, rfl, hs, q1, q2, q3⟩ := open_pcs ht (hw2 _ (List.getElem_mem _))
      refine ⟨(⟨A, l.length, c⟩, l), ⟨hs, q1, q2, q3⟩, ?_⟩
      rw [hat 0 (by omega)]
      rfl
    obtain ⟨Y, hll, hlp⟩ := list_of hpc
    have hml : ∀ y ∈ Y, Sl pcE w y.1.v y.2 ∧ (∀ p ∈ y.2, p.wf) ∧ y.2.length * 32 ≤ 140737488355328 ∧ ∀ p ∈ y.2, p.t.length ≤ 140737488355328 := fun y hy => by
      obtain ⟨i, hi', e⟩ := List.mem_iff_getElem.1 hy
      exact (e ▸ hlp i _ (List.getElem?_eq_getElem hi')).1
    subst hll
    refine ⟨_, Y.map (·.2), rfl, ⟨Y.map (·.1), ⟨some a, cap, by simp, by simpa using hl, hm, fun h0 => ?_⟩, by simp, fun i x l hx hl => ?_⟩, fun l hl => ?_⟩
    · rw [List.length_map] at h0
      have hp0 := (hlp 0 Y[0] (List.getElem?_eq_getElem h0)).2
      rw [Nat.zero_mul, addr_zero, addr_zero] at hp0
      obtain ⟨b, off, sp⟩ := a
      cases sp with
      | some y =>
        unfold World.cell? at hp0
        split at hp0
        · simp at hp0
        · cases hp0
      | none =>
        refine ⟨b, off, rfl, ?_, fun i j x u hx' hu => ?_⟩
        · apply Classical.byContradiction
          intro hn
          unfold World.cell? at hp0
          rw [Array.getElem?_eq_none (by show w.heap.size ≤ b; omega)] at hp0
          cases hp0
        · rw [List.getElem?_map, Option.map_eq_some_iff] at hx'
          obtain ⟨y, hy, rfl⟩ := hx'
          have := (hlp i y hy).2
          rw [add_of_add, add_flat] at this
          have hj : j = 0 := by
            have := (List.getElem?_eq_some_iff.1 hu).1
            simp [svE] at this
            omega
          subst hj
          simp only [svE, List.getElem?_cons_zero, Option.some.injEq] at hu
          subst hu
          exact this
    · rw [List.getElem?_map, Option.map_eq_some_iff] at hx hl
      obtain ⟨y, hy, rfl⟩ := hx
      obtain ⟨y', hy', rfl⟩ := hl
      rw [hy] at hy'
      injection hy' with e
      subst e
      exact (hml y (List.mem_of_getElem? hy)).1
    · obtain ⟨y, hy, rfl⟩ := List.mem_map.1 hl
      exact (hml y hy).2

theorem reach_weights {P : Program} {ts : List TypeId} {ds : List (DataW H)} (h : (DataW.weightsEach P ts ds).all (· ≤ reachBytes) = true) {j : Nat} {t : TypeId} {d : DataW H} (ht : ts[j]? = some t) (hd : ds[j]? = some d) : ∀ k ∈ d.weights P t, k ≤ reachBytes := fun k hk => by
  simpa using List.all_eq_true.1 h _ (DataW.weights_mem_each ht hd k hk)

set_option maxRecDepth 100000 in
theorem open_pieces2 {v : Value} {d : DataW H} {ps : List MemPlace} (hval : Value.okWide Try.prog w .any base 22 v) (h : DataW.Trod enc Try.prog w 0 spare held 22 v d ps) (hw : ∀ k ∈ d.weights Try.prog 22, k ≤ reachBytes) :
    ∃ l : List Pc, Sl pcE w v l ∧ (∀ p ∈ l, p.wf) ∧ l.length * 32 ≤ 140737488355328 ∧ ∀ p ∈ l, p.t.length ≤ 140737488355328 := by
  obtain ⟨a0, len0, cap0, rfl⟩ := okWide_slice Try.underlying22 hval
  obtain ⟨fuel, hf⟩ := h
  obtain ⟨A, c, l, e, h1, h2, h3, h4⟩ := open_pcs hf hw
  simp [Value.cells] at e
  obtain ⟨rfl, rfl, rfl⟩ := e
  exact ⟨l, h1, h2, h3, h4⟩

set_option maxRecDepth 100000 in
theorem open_pps2 {v : Value} {d : DataW H} {ps : List MemPlace} (hval : Value.okWide Try.prog w .any base 32 v) (h : DataW.Trod enc Try.prog w 0 spare held 32 v d ps) (hw : ∀ k ∈ d.weights Try.prog 32, k ≤ reachBytes) :
    ∃ L : List (List Pc), Sll w v L ∧ ∀ l ∈ L, (∀ p ∈ l, p.wf) ∧ l.length * 32 ≤ 140737488355328 ∧ ∀ p ∈ l, p.t.length ≤ 140737488355328 := by
  obtain ⟨a0, len0, cap0, rfl⟩ := okWide_slice Try.underlying32 hval
  obtain ⟨fuel, hf⟩ := h
  obtain ⟨v, L, e, h1, h2⟩ := open_pps hf hw
  simp [Value.cells] at e
  subst e
  exact ⟨L, h1, h2⟩
end

end Go.Proofs.Ytdlbjfgpfjcpaaa
