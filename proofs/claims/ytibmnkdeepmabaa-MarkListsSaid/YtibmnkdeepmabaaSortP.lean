/- Plain theory of stable sorting of marks by position and ID: what determines the result; the insertion sort has it. -/
import Derived.Test.YtibmnkdeepmabaaSort1
import Derived.Sort.LotA
namespace Go.Proofs.Ytibmnkdeepmabaa
open Go.RowKit Go.Sort

instance : Inhabited Mk := ⟨⟨0, 0, 0⟩⟩

def lt9 : Mk → Mk → Bool := ltOf cf9
theorem lt9_iff (x y : Mk) : lt9 x y = true ↔ x.a < y.a ∨ (x.a = y.a ∧ x.id < y.id) := by
  unfold lt9 ltOf cf9 cmpI
  rw [decide_eq_true_iff]
  repeat' split
  all_goals omega
theorem lt9_not (x y : Mk) : lt9 x y = false ↔ ¬ (x.a < y.a ∨ (x.a = y.a ∧ x.id < y.id)) := by
  rw [← lt9_iff]; simp
theorem swo9 : SWO lt9 := by
  refine ⟨fun x => ?_, fun x y z h1 h2 => ?_, fun x y z h1 h2 => ?_⟩
  · rw [lt9_not]; omega
  · rw [lt9_iff] at *; omega
  · rw [lt9_not] at *; omega

/-- the marks at a position, of an ID -/
def kf (a i : Int) (l : List Mk) : List Mk := l.filter (fun m => m.a == a && m.id == i)
theorem kf_append (a i : Int) (l r : List Mk) : kf a i (l ++ r) = kf a i l ++ kf a i r := List.filter_append ..
/-- in order, equal ones as they came -/
structure Stab (F S : List Mk) : Prop where
  up : S.Pairwise (fun x y => lt9 y x = false)
  eq : ∀ a i, kf a i S = kf a i F

theorem stab_uniq : ∀ (S T : List Mk), S.Pairwise (fun x y => lt9 y x = false) → T.Pairwise (fun x y => lt9 y x = false) → (∀ a i, kf a i S = kf a i T) → S = T
  | [], [], _, _, _ => rfl
  | [], y :: T, _, _, h => by
    have := h y.a y.id
    rw [kf, kf, List.filter_nil, List.filter_cons_of_pos (by simp)] at this
    cases this
  | x :: S, [], _, _, h => by
    have := h x.a x.id
    rw [kf, kf, List.filter_nil, List.filter_cons_of_pos (by simp)] at this
    cases this
  | x :: S, y :: T, hs, ht, h => by
    rw [List.pairwise_cons] at hs ht
    have hx : x ∈ y :: T := by
      have h2 : x ∈ kf x.a x.id (x :: S) := List.mem_filter.2 ⟨List.mem_cons_self .., by simp⟩
      rw [h] at h2
      exact (List.mem_filter.1 h2).1
    have hy : y ∈ x :: S := by
      have h2 : y ∈ kf y.a y.id (y :: T) := List.mem_filter.2 ⟨List.mem_cons_self .., by simp⟩
      rw [← h] at h2
      exact (List.mem_filter.1 h2).1
    have h1 : lt9 x y = false := by
      rcases List.mem_cons.1 hx with e | e
      · rw [e]; exact swo9.irrefl _
      · exact ht.1 x e
    have h2 : lt9 y x = false := by
      rcases List.mem_cons.1 hy with e | e
      · rw [e]; exact swo9.irrefl _
      · exact hs.1 y e
    rw [lt9_not] at h1 h2
    have ka : x.a = y.a ∧ x.id = y.id := by omega
    have hxy : x = y := by
      have := h x.a x.id
      rw [kf, kf, List.filter_cons_of_pos (by simp), List.filter_cons_of_pos (by simp [ka.1, ka.2])] at this
      injection this
    subst hxy
    congr 1
    refine stab_uniq S T hs.2 ht.2 (fun a i => ?_)
    have := h a i
    by_cases q : (x.a == a && x.id == i) = true
    · rw [kf, kf, List.filter_cons_of_pos (by exact q), List.filter_cons_of_pos (by exact q)] at this
      injection this
    · rw [kf, kf, List.filter_cons_of_neg (by exact q), List.filter_cons_of_neg (by exact q)] at this
      exact this
theorem Stab.uniq {F S T : List Mk} (h : Stab F S) (k : Stab F T) : S = T := stab_uniq S T h.up k.up (fun a i => (h.eq a i).trans (k.eq a i).symm)

/-- an exchange of neighbours of different places in the order -/
theorem kf_swap (a i : Int) (L R : List Mk) (x y : Mk) (h : lt9 y x = true) : kf a i (L ++ y :: x :: R) = kf a i (L ++ x :: y :: R) := by
  rw [lt9_iff] at h
  rw [kf_append, kf_append]
  congr 1
  unfold kf
  by_cases q1 : (x.a == a && x.id == i) = true
  · have q2 : ¬ (y.a == a && y.id == i) = true := by
      simp only [Bool.and_eq_true, beq_iff_eq] at q1 ⊢
      omega
    rw [List.filter_cons_of_neg (by exact q2), List.filter_cons_of_pos (by exact q1), List.filter_cons_of_pos (by exact q1), List.filter_cons_of_neg (by exact q2)]
  · by_cases q2 : (y.a == a && y.id == i) = true
    · rw [List.filter_cons_of_pos (by exact q2), List.filter_cons_of_neg (by exact q1), List.filter_cons_of_neg (by exact q1), List.filter_cons_of_pos (by exact q2)]
    · rw [List.filter_cons_of_neg (by exact q2), List.filter_cons_of_neg (by exact q1), List.filter_cons_of_neg (by exact q1), List.filter_cons_of_neg (by exact q2)]

/-- the same marks at each place in the order, as they came -/
def Same9 (d d' : Array Mk) : Prop := d'.size = d.size ∧ ∀ a i, kf a i d'.toList = kf a i d.toList
theorem Same9.refl (d : Array Mk) : Same9 d d := ⟨rfl, fun _ _ => rfl⟩
theorem Same9.trans {d e f : Array Mk} (h : Same9 d e) (k : Same9 e f) : Same9 d f := ⟨k.1.trans h.1, fun a i => (k.2 a i).trans (h.2 a i)⟩

theorem swp_list (d : Array Mk) (j : Nat) (hj : j + 1 < d.size) : ∃ L R, d.toList = L ++ d[j]! :: d[j + 1]! :: R ∧ (swp d (j + 1) j).toList = L ++ d[j + 1]! :: d[j]! :: R := by
  have hl : j + 1 < d.toList.length := by simpa using hj
  have e1 : d[j]! = d.toList[j] := by rw [getElem!_pos d j (by omega)]; rfl
  have e2 : d[j + 1]! = d.toList[j + 1] := by rw [getElem!_pos d (j + 1) (by omega)]; rfl
  refine ⟨d.toList.take j, d.toList.drop (j + 2), ?_, ?_⟩
  · rw [e1, e2]
    conv => lhs; rw [← List.take_append_drop j d.toList, List.drop_eq_getElem_cons (by omega), List.drop_eq_getElem_cons hl]
  · apply List.ext_getElem?
    intro k
    have hk : (swp d (j + 1) j).toList[k]? = if k < d.size then some ((swp d (j + 1) j)[k]!) else none := by
      by_cases q : k < d.size
      · rw [if_pos q, getElem!_pos (swp d (j + 1) j) k (by rw [swp_size]; exact q)]
        rw [Array.getElem?_toList, Array.getElem?_eq_getElem]
      · rw [if_neg q, Array.getElem?_toList, Array.getElem?_eq_none (by rw [swp_size]; omega)]
    rw [hk, swp_get d (by omega) (by omega)]
    have ht : (d.toList.take j).length = j := by simp; omega
    by_cases q : k < j
    · rw [if_pos (by omega), if_neg (by omega), if_neg (by omega), List.getElem?_append_left (by omega), List.getElem?_take, if_pos q, Array.getElem?_toList, Array.getElem?_eq_getElem (by omega), getElem!_pos d k (by omega)]
    · rw [List.getElem?_append_right (by omega), ht]
      by_cases q1 : k = j
      · subst q1
        rw [if_pos (by omega), if_pos rfl, Nat.sub_self]
        rfl
      · by_cases q2 : k = j + 1
        · subst q2
          rw [if_pos (by omega), if_neg (by omega), if_pos rfl, show j + 1 - j = 1 by omega]
          rfl
        · obtain ⟨t, rfl⟩ : ∃ t, k = j + 2 + t := ⟨k - j - 2, by omega⟩
          rw [show j + 2 + t - j = t + 2 by omega, List.getElem?_cons_succ, List.getElem?_cons_succ, List.getElem?_drop, Array.getElem?_toList]
          by_cases q3 : j + 2 + t < d.size
          · rw [if_pos q3, if_neg (by omega), if_neg (by omega), Array.getElem?_eq_getElem q3, getElem!_pos d _ q3]
          · rw [if_neg q3, Array.getElem?_eq_none (by omega)]

theorem swp_same (d : Array Mk) (j : Nat) (hj : j + 1 < d.size) (h : lt9 d[j + 1]! d[j]! = true) : Same9 d (swp d (j + 1) j) := by
  obtain ⟨L, R, e1, e2⟩ := swp_list d j hj
  refine ⟨swp_size _ _ _, fun a i => ?_⟩
  rw [e1, e2]
  exact kf_swap a i L R _ _ h
theorem insInner_same (a : Nat) : ∀ (j : Nat) (d : Array Mk), j < d.size → Same9 d (insInner lt9 a j d)
  | 0, d, _ => by rw [insInner_stop lt9 a 0 d (.inl (Nat.zero_le _))]; exact Same9.refl d
  | j + 1, d, hj => by
    by_cases h : a < j + 1 ∧ lt9 d[j + 1]! d[j]! = true
    · rw [insInner_go lt9 a (j + 1) d h.1 (by simpa using h.2)]
      have h1 := swp_same d j hj h.2
      exact h1.trans (insInner_same a j _ (by rw [h1.1]; omega))
    · rw [insInner_stop lt9 a (j + 1) d (by
        rcases Nat.lt_or_ge a (j + 1) with q | q
        · right
          cases e : lt9 d[j + 1]! d[j]! with
          | true => exact absurd ⟨q, e⟩ h
          | false => simpa using e
        · exact .inl q)]
      exact Same9.refl d
theorem insOuter_same (a b : Nat) : ∀ (n i : Nat) (d : Array Mk), b - i = n → b ≤ d.size → Same9 d (insOuter lt9 a b i d)
  | 0, i, d, h, _ => by rw [insOuter_stop lt9 a b i d (by omega)]; exact Same9.refl d
  | n + 1, i, d, h, hb => by
    rw [insOuter_go lt9 a b i d (by omega)]
    have h1 := insInner_same a i d (by omega)
    exact h1.trans (insOuter_same a b n (i + 1) _ (by omega) (by rw [h1.1]; exact hb))
theorem insertion_same (d : Array Mk) (a b : Nat) (hb : b ≤ d.size) : Same9 d (insertionSort lt9 d a b) := insOuter_same a b _ _ d rfl hb

theorem sorted_list {d : Array Mk} (h : SortedIn lt9 0 d.size d) : d.toList.Pairwise (fun x y => lt9 y x = false) := by
  rw [List.pairwise_iff_getElem]
  intro i j hi hj hij
  have := h i j (Nat.zero_le _) hij (by simpa using hj)
  rwa [getElem!_pos d i (by simpa using hi), getElem!_pos d j (by simpa using hj)] at this
theorem insertion_stab (l : List Mk) : Stab l (insertionSort lt9 l.toArray 0 l.length).toList := by
  have h1 := insertion_same l.toArray 0 l.length (by simp)
  have h2 := (insertionSort_holds (lt := lt9) swo9 l.toArray 0 l.length (Nat.zero_le _) (by simp)).2
  refine ⟨sorted_list (by rw [h1.1]; simpa using h2), fun a i => ?_⟩
  have := h1.2 a i
  simpa using this

end Go.Proofs.Ytibmnkdeepmabaa
