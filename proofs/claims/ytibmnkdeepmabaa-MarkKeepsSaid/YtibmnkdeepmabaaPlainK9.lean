/- Plain theory of sets of marks: what stands in a set with a mark, or without one; two marks set in either order. -/
import Derived.Test.YtibmnkdeepmabaaRef9c
namespace Go.Proofs.Ytibmnkdeepmabaa
open Go.RowKit

abbrev Asc (l : List Mk) : Prop := l.Pairwise (fun a b => a.id < b.id)
theorem asc_eq : ∀ (S T : List Mk), Asc S → Asc T → (∀ x, x ∈ S ↔ x ∈ T) → S = T
  | [], [], _, _, _ => rfl
  | [], y :: T, _, _, h => by have := (h y).2 (List.mem_cons_self ..); cases this
  | x :: S, [], _, _, h => by have := (h x).1 (List.mem_cons_self ..); cases this
  | x :: S, y :: T, hs, ht, h => by
    have hs' := List.pairwise_cons.1 hs
    have ht' := List.pairwise_cons.1 ht
    have hx := (h x).1 (List.mem_cons_self ..)
    have hy := (h y).2 (List.mem_cons_self ..)
    have hxy : x = y := by
      rcases List.mem_cons.1 hx with e | e
      · exact e
      · rcases List.mem_cons.1 hy with e2 | e2
        · exact e2.symm
        · have := ht'.1 x e
          have := hs'.1 y e2
          omega
    subst hxy
    congr 1
    refine asc_eq S T hs'.2 ht'.2 (fun z => ⟨fun hz => ?_, fun hz => ?_⟩)
    · rcases List.mem_cons.1 ((h z).1 (List.mem_cons_of_mem _ hz)) with e | e
      · subst e; have := hs'.1 z hz; omega
      · exact e
    · rcases List.mem_cons.1 ((h z).2 (List.mem_cons_of_mem _ hz)) with e | e
      · subst e; have := ht'.1 z hz; omega
      · exact e
theorem fnd_mem {l : List Mk} (h : Asc l) {x : Mk} (hx : x ∈ l) : fndM x.id l = some x := by
  rcases set_shape h x.id with ⟨L, y, R, h1, h2, h3, h4, h5, h6, h7, h8⟩ | ⟨L, R, h1, h2, h3, h4, h5, h6, h7⟩
  · rw [h5]
    rw [h1] at hx
    congr 1
    rcases List.mem_append.1 hx with q | q
    · have := h7 x q; omega
    · rcases List.mem_cons.1 q with q | q
      · exact q.symm
      · have := h8 x q; omega
  · rw [h1] at hx
    rcases List.mem_append.1 hx with q | q
    · have := h6 x q; omega
    · have := h7 x q; omega
theorem fnd_none {l : List Mk} {d : Int} (h : ∀ x, x ∈ l → x.id ≠ d) : fndM d l = none := List.find?_eq_none.2 (fun x hx => by simpa using h x hx)
theorem has_iff {l : List Mk} (h : Asc l) (d : Int) : hasB d l = true ↔ ∃ x, x ∈ l ∧ x.id = d := by
  rw [has_fnd h]
  constructor
  · intro q
    unfold fndB at q
    obtain ⟨x, hx⟩ := Option.isSome_iff_exists.1 q
    exact ⟨x, List.mem_of_find?_eq_some hx, by simpa using List.find?_some hx⟩
  · rintro ⟨x, hx, rfl⟩
    rw [fndB, fnd_mem h hx]; rfl

theorem set_cut {l : List Mk} (h : Asc l) (m : Mk) : ∃ L R, setR l m = L ++ m :: R ∧ wo9 m.id l = L ++ R ∧ (∀ x, x ∈ L → x.id < m.id) ∧ (∀ x, x ∈ R → m.id < x.id) ∧ Asc L ∧ Asc R ∧ l.length = (L ++ R).length + if hasB m.id l = true then 1 else 0 := by
  rcases set_shape h m.id with ⟨L, y, R, h1, h2, h3, h4, h5, h6, h7, h8⟩ | ⟨L, R, h1, h2, h3, h4, h5, h6, h7⟩
  · obtain ⟨e1, e2⟩ := takeWhile_all L R h7 (fun b hb => Int.le_of_lt (h8 b hb))
    rw [h1] at h
    obtain ⟨p1, p2, -⟩ := List.pairwise_append.1 h
    refine ⟨L, R, by rw [setR, h6, e1, e2], h6, h7, h8, p1, (List.pairwise_cons.1 p2).2, ?_⟩
    rw [h4, if_pos rfl, h1]; simp; omega
  · obtain ⟨e1, e2⟩ := takeWhile_all L R h6 (fun b hb => Int.le_of_lt (h7 b hb))
    have h' := h
    rw [h1] at h'
    obtain ⟨p1, p2, -⟩ := List.pairwise_append.1 h'
    refine ⟨L, R, by rw [setR, h5, h1, e1, e2], by rw [h5, h1], h6, h7, p1, p2, ?_⟩
    rw [h3, if_neg (by simp), h1]; simp
theorem set_mem {l : List Mk} (h : Asc l) (m x : Mk) : x ∈ setR l m ↔ x = m ∨ (x ∈ l ∧ x.id ≠ m.id) := by
  obtain ⟨L, R, e1, e2, h3, h4, -⟩ := set_cut h m
  have hw : ∀ x, x ∈ L ++ R ↔ (x ∈ l ∧ x.id ≠ m.id) := fun x => by
    rw [← e2, wo9, List.mem_filter]
    simp
  rw [e1, ← hw x, List.mem_append, List.mem_cons, List.mem_append]
  constructor
  · rintro (q | q | q)
    · exact .inr (.inl q)
    · exact .inl q
    · exact .inr (.inr q)
  · rintro (q | q | q)
    · exact .inr (.inl q)
    · exact .inl q
    · exact .inr (.inr q)
theorem set_asc {l : List Mk} (h : Asc l) (m : Mk) : Asc (setR l m) := by
  obtain ⟨L, R, e1, -, h3, h4, p1, p2, -⟩ := set_cut h m
  rw [e1]
  refine List.pairwise_append.2 ⟨p1, List.pairwise_cons.2 ⟨h4, p2⟩, fun a ha b hb => ?_⟩
  rcases List.mem_cons.1 hb with rfl | hb
  · exact h3 a ha
  · have := h3 a ha
    have := h4 b hb
    omega
theorem set_len {l : List Mk} (h : Asc l) (m : Mk) : (setR l m).length = l.length + if hasB m.id l = true then 0 else 1 := by
  obtain ⟨L, R, e1, -, -, -, -, -, e5⟩ := set_cut h m
  rw [e1, e5]
  split <;> simp <;> omega

theorem one_set {m : Mk} (h : chkM 9223372036854775807 [m] = 0) : 0 < m.id ∧ m.g ≤ 1 ∧ 0 ≤ m.a ∧ m.a ≤ 9223372036854775807 := ((chkM_zero _ _).1 h).all m (List.mem_singleton.2 rfl)
/-- what is known of a set with a mark -/
theorem set_ok {l : List Mk} {m : Mk} (h : setE l m = 0) : MSet 9223372036854775807 l ∧ chkM 9223372036854775807 [m] = 0 ∧ setV l m = setR l m ∧ MSet 9223372036854775807 (setR l m) ∧ ¬ (hasB m.id l = false ∧ l.length = 64) := by
  have h1 : ¬ (chkM 9223372036854775807 l ≠ 0 ∨ chkM 9223372036854775807 [m] ≠ 0) := fun q => by rw [(setE_bad q).1] at h; cases h
  have h2 : chkM 9223372036854775807 l = 0 := Classical.byContradiction fun q => h1 (.inl q)
  have h3 : chkM 9223372036854775807 [m] = 0 := Classical.byContradiction fun q => h1 (.inr q)
  have hM := (chkM_zero _ _).1 h2
  have h4 : ¬ (hasB m.id l = false ∧ l.length = 64) := fun q => by rw [(setE_full h2 h3 q.1 q.2).1] at h; cases h
  refine ⟨hM, h3, (setE_ok h2 h3 h4).2, ⟨hM.n0, ?_, set_asc hM.pw m, ?_⟩, h4⟩
  · have := set_len hM.pw m
    have := hM.len
    by_cases q : hasB m.id l = true
    · rw [if_pos q] at *; omega
    · have q' : hasB m.id l = false := by simpa using q
      have : ¬ l.length = 64 := fun e => h4 ⟨q', e⟩
      rw [if_neg q] at *
      omega
  · intro x hx
    rcases (set_mem hM.pw m x).1 hx with rfl | ⟨q, -⟩
    · exact one_set h3
    · exact hM.all x q
theorem set_keeps {l : List Mk} {m : Mk} (h : setE l m = 0) : fndM m.id (setR l m) = some m ∧ drpE (setR l m) m.id = 0 ∧ drpV (setR l m) m.id = wo9 m.id (setR l m) ∧ fndM m.id (wo9 m.id (setR l m)) = none ∧
    (∀ x, x ∈ l → x.id ≠ m.id → fndM x.id (setR l m) = some x ∧ fndM x.id (wo9 m.id (setR l m)) = some x) ∧ (wo9 m.id (setR l m)).length + 1 = (setR l m).length ∧ (setR l m).length ≤ l.length + 1 ∧ l.length ≤ (setR l m).length := by
  obtain ⟨h1, h2, h3, h4, h5⟩ := set_ok h
  have hmm : m ∈ setR l m := (set_mem h1.pw m m).2 (.inl rfl)
  have hh : hasB m.id (setR l m) = true := (has_iff h4.pw m.id).2 ⟨m, hmm, rfl⟩
  have hd : drpE (setR l m) m.id = 0 := by rw [drpE, if_neg (fun q => q ((chkM_zero _ _).2 h4)), if_neg (by rw [hh]; simp)]
  have hwa : Asc (wo9 m.id (setR l m)) := h4.pw.filter _
  have hwm : ∀ x, x ∈ wo9 m.id (setR l m) ↔ x ∈ setR l m ∧ x.id ≠ m.id := fun x => by rw [wo9, List.mem_filter]; simp
  have hlen := set_len h1.pw m
  refine ⟨fnd_mem h4.pw hmm, hd, by rw [drpV, if_pos hd], fnd_none (fun x hx => ((hwm x).1 hx).2), fun x hx hne => ?_, wo9_lt h4.pw hh, ?_, ?_⟩
  · have hxm := (set_mem h1.pw m x).2 (.inr ⟨hx, hne⟩)
    exact ⟨fnd_mem h4.pw hxm, fnd_mem hwa ((hwm x).2 ⟨hxm, hne⟩)⟩
  · rw [hlen]; split <;> omega
  · rw [hlen]; split <;> omega
/-- in either order -/
theorem set_two {l : List Mk} {m k : Mk} (h : setE l m = 0) (hk : setE l k = 0) (hmk : setE (setR l m) k = 0) (hne : m.id ≠ k.id) : setE (setR l k) m = 0 ∧ setR (setR l k) m = setR (setR l m) k := by
  obtain ⟨h1, h2, -, h4, h5⟩ := set_ok h
  obtain ⟨-, k2, -, k4, k5⟩ := set_ok hk
  obtain ⟨-, -, -, q4, q5⟩ := set_ok hmk
  have hA := set_len h1.pw m
  have hD := set_len h1.pw k
  have hmem : ∀ (d : Int) (x : Mk), x.id ≠ d → (hasB d (setR l x) = true ↔ hasB d l = true) := fun d x hx => by
    rw [has_iff (set_asc h1.pw x), has_iff h1.pw]
    constructor
    · rintro ⟨y, hy, e⟩
      rcases (set_mem h1.pw x y).1 hy with rfl | ⟨q, -⟩
      · exact absurd e hx
      · exact ⟨y, q, e⟩
    · rintro ⟨y, hy, e⟩
      exact ⟨y, (set_mem h1.pw x y).2 (.inr ⟨hy, by omega⟩), e⟩
  have hfull : ¬ (hasB m.id (setR l k) = false ∧ (setR l k).length = 64) := by
    rintro ⟨a1, a2⟩
    have b1 : ¬ hasB m.id l = true := fun q => by rw [(hmem m.id k (fun e => hne e.symm)).2 q] at a1; cases a1
    rw [if_neg b1] at hA
    have hAl := h4.len
    by_cases q : hasB k.id l = true
    · rw [if_pos q] at hD; omega
    · rw [if_neg q] at hD
      refine q5 ⟨?_, by omega⟩
      cases e : hasB k.id (setR l m) with
      | false => rfl
      | true => exact absurd ((hmem k.id m hne).1 e) q
  refine ⟨(setE_ok ((chkM_zero _ _).2 k4) h2 hfull).1, ?_⟩
  refine asc_eq _ _ (set_asc k4.pw m) (set_asc h4.pw k) (fun x => ?_)
  rw [set_mem k4.pw, set_mem h4.pw, set_mem h1.pw, set_mem h1.pw]
  constructor
  · rintro (rfl | ⟨rfl | ⟨q1, q2⟩, q3⟩)
    · exact .inr ⟨.inl rfl, hne⟩
    · exact .inl rfl
    · exact .inr ⟨.inr ⟨q1, q3⟩, q2⟩
  · rintro (rfl | ⟨rfl | ⟨q1, q2⟩, q3⟩)
    · exact .inr ⟨.inl rfl, fun e => hne e.symm⟩
    · exact .inl rfl
    · exact .inr ⟨.inr ⟨q1, q3⟩, q2⟩

end Go.Proofs.Ytibmnkdeepmabaa
