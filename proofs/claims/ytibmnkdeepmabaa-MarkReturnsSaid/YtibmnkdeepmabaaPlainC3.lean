/- Plain: compositions: results, inverses, positions. No program. No condition. -/
import Derived.Test.YtibmnkdeepmabaaPlainC2
import Derived.Test.YtibmnkdeepmabaaPlainI
namespace Go.Proofs.Ytibmnkdeepmabaa

theorem compA_at {A B : List Int} {k : Nat} {x : Int} : (compA A B)[k]? = some x ↔ ∃ y, B[k]? = some y ∧ x = if y < 0 then y else A.getD y.toNat 0 := by
  unfold compA
  rw [List.getElem?_map]
  constructor
  · intro h
    obtain ⟨y, hy, e⟩ := Option.map_eq_some_iff.1 h
    exact ⟨y, hy, e.symm⟩
  · rintro ⟨y, hy, rfl⟩
    rw [hy]; rfl
/-- what is kept by both -/
theorem kt_cmp {a b : List Pc} (h : cmpE a b = 0) {i j : Int} : KT false (cmpR a b) i j ↔ ∃ k, KT false a i k ∧ KT false b k j := by
  obtain ⟨h1, h2, h3, h4⟩ := cmpE_ok h
  have v := ((errL_iff a).1 h1).2.1
  have u := ((errL_iff b).1 h2).2.1
  obtain ⟨x1, x2, x3, x4, x5, x6, x7⟩ := cmpR_ok h
  rw [KT.atoms x3, x6]
  constructor
  · rintro ⟨hi, k, rfl, hk⟩
    obtain ⟨y, hy, e⟩ := compA_at.1 hk
    have hy0 : 0 ≤ y := by
      by_cases hn : y < 0
      · rw [if_pos hn] at e; omega
      · omega
    rw [if_neg (by omega)] at e
    have hlt : y < inL b := u.inB y (List.mem_of_getElem? hy)
    have hl := v.atoms_len 0
    have hl2 : y.toNat < (atoms 0 a).length := by omega
    rw [List.getD_eq_getElem?_getD, List.getElem?_eq_getElem hl2, Option.getD_some] at e
    exact ⟨y, (KT.atoms v).2 ⟨hi, y.toNat, by omega, by rw [List.getElem?_eq_getElem hl2, e]⟩, (KT.atoms u).2 ⟨hy0, k, rfl, hy⟩⟩
  · rintro ⟨k, ha, hb⟩
    obtain ⟨hi, n, rfl, hn⟩ := (KT.atoms v).1 ha
    obtain ⟨hk, m, rfl, hm⟩ := (KT.atoms u).1 hb
    refine ⟨hi, m, rfl, compA_at.2 ⟨_, hm, ?_⟩⟩
    rw [if_neg (by omega), List.getD_eq_getElem?_getD, show ((n : Nat) : Int).toNat = n by omega, hn, Option.getD_some]
/-- positions under a composition, step by step -/
theorem cmp_left {a b : List Pc} (h : cmpE a b = 0) (x : Int) : leftP x 0 (runsT false (cmpR a b)) ≤ leftP (leftP x 0 (runsT false a)) 0 (runsT false b) := by
  obtain ⟨h1, h2, h3, h4⟩ := cmpE_ok h
  have v := ((errL_iff a).1 h1).2.1
  have u := ((errL_iff b).1 h2).2.1
  obtain ⟨x1, x2, x3, x4, x5, x6, x7⟩ := cmpR_ok h
  rw [leftL x3]
  refine ⟨(left_bd u false _).1, fun i j hk hi => ?_⟩
  obtain ⟨k, k1, k2⟩ := (kt_cmp h).1 hk
  have e1 := ((leftL v false x _).1 (Int.le_refl _)).2 i k k1 hi
  exact ((leftL u false _ _).1 (Int.le_refl _)).2 k j k2 e1
theorem cmp_right {a b : List Pc} (h : cmpE a b = 0) (x : Int) : rightP (rightP x (outL a) (runsT false a)) (outL b) (runsT false b) ≤ rightP x (outL (cmpR a b)) (runsT false (cmpR a b)) := by
  obtain ⟨h1, h2, h3, h4⟩ := cmpE_ok h
  have v := ((errL_iff a).1 h1).2.1
  have u := ((errL_iff b).1 h2).2.1
  obtain ⟨x1, x2, x3, x4, x5, x6, x7⟩ := cmpR_ok h
  have e := rightL x3 false x (rightP (rightP x (outL a) (runsT false a)) (outL b) (runsT false b))
  simp only [ioL, Bool.false_eq_true, if_false] at e
  rw [e]
  refine ⟨by rw [x5]; have := (right_bd u false (rightP x (outL a) (runsT false a))).2; simpa [ioL] using this, fun i j hk hi => ?_⟩
  obtain ⟨k, k1, k2⟩ := (kt_cmp h).1 hk
  have e1 := rightL v false x (rightP x (outL a) (runsT false a))
  simp only [ioL, Bool.false_eq_true, if_false] at e1
  have e2 := (e1.1 (Int.le_refl _)).2 i k k1 hi
  have e3 := rightL u false (rightP x (outL a) (runsT false a)) (rightP (rightP x (outL a) (runsT false a)) (outL b) (runsT false b))
  simp only [ioL, Bool.false_eq_true, if_false] at e3
  exact (e3.1 (Int.le_refl _)).2 k j k2 e2
/-- a delta that inserts nothing: every byte of its result was kept -/
theorem all_kept {l : List Pc} (h : Val l) (hi : iN l = 0) {k : Int} (h0 : 0 ≤ k) (h1 : k < outL l) : ∃ i, KT false l i k := by
  have hl := h.atoms_len 0
  have key : ∀ x ∈ atoms 0 l, 0 ≤ x := by
    have e1 := kN_atoms h 0 (Int.le_refl _)
    have e2 := (kN_in h).2.1
    have e3 : ((atoms 0 l).filter (fun x => decide (0 ≤ x))).length = (atoms 0 l).length := by omega
    have e4 := (List.length_filter_eq_length_iff).1 e3
    intro x hx
    simpa using e4 x hx
  have hk : k.toNat < (atoms 0 l).length := by omega
  exact ⟨(atoms 0 l)[k.toNat], (KT.atoms h).2 ⟨key _ (List.getElem_mem hk), k.toNat, by omega, List.getElem?_eq_getElem hk⟩⟩
theorem KT.fun_ {l : List Pc} (h : Val l) {i i' j : Int} (k : KT false l i j) (k' : KT false l i' j) : i = i' := by
  have := KT.mono h k k'
  have := KT.mono h k' k
  omega
theorem kN_mem {l : List Pc} (h : Val l) (hr : rN l = 0) : ∀ a : Int, 0 ≤ a → ∀ i, a ≤ i → i < a + inL l → i ∈ atoms a l := by
  induction l with
  | nil => intro a _ i h1 h2; simp only [inL] at h2; omega
  | cons p l ih =>
    intro a ha i h1 h2
    obtain ⟨v1, v2⟩ := Val.cons.1 h
    have hn := Val.n v1
    have hk := kN_in v2
    simp only [rN] at hr
    simp only [inL] at h2
    simp only [atoms, List.mem_append]
    rcases Pc.valid_cases v1 with ⟨x, y, z⟩ | ⟨x, y, z⟩ | ⟨x, y, z⟩
    · rw [if_neg (by omega)] at hr
      rw [if_pos x]
      by_cases hi : i < a + p.n
      · exact .inr (.inl (mem_rng.2 ⟨h1, by omega⟩))
      · exact .inr (.inr (ih v2 (by omega) (a + p.n) (by omega) i (by omega) (by omega)))
    · rw [if_pos x] at hr; omega
    · rw [if_neg (by omega)] at hr
      exact .inr (.inr (ih v2 (by omega) (a + p.n) (by omega) i (by omega) (by omega)))
/-- a delta that removes nothing keeps every byte -/
theorem all_stay {l : List Pc} (h : Val l) (hr : rN l = 0) {i : Int} (h0 : 0 ≤ i) (h1 : i < inL l) : ∃ k, KT false l i k := by
  obtain ⟨n, hn, e⟩ := List.mem_iff_getElem.1 (kN_mem h hr 0 (Int.le_refl _) i h0 (by omega))
  exact ⟨n, (KT.atoms h).2 ⟨h0, n, rfl, by rw [List.getElem?_eq_getElem hn, e]⟩⟩
theorem cmp_left_eq {a b : List Pc} (h : cmpE a b = 0) (hz : iN a = 0 ∨ rN b = 0) (x : Int) : leftP x 0 (runsT false (cmpR a b)) = leftP (leftP x 0 (runsT false a)) 0 (runsT false b) := by
  have g := cmp_left h x
  obtain ⟨h1, h2, h3, h4⟩ := cmpE_ok h
  have v := ((errL_iff a).1 h1).2.1
  have u := ((errL_iff b).1 h2).2.1
  obtain ⟨x1, x2, x3, x4, x5, x6, x7⟩ := cmpR_ok h
  have hC := (leftL x3 false x _).1 (Int.le_refl _)
  have : leftP (leftP x 0 (runsT false a)) 0 (runsT false b) ≤ leftP x 0 (runsT false (cmpR a b)) := by
    rw [leftL u]
    refine ⟨hC.1, fun k j hk hkx => ?_⟩
    have hkb := KT.bd u hk
    simp only [ioL, Bool.false_eq_true, if_false] at hkb
    -- some byte before x that is kept lies at k or behind it
    have hex : ∃ i' k', KT false a i' k' ∧ i' < x ∧ k ≤ k' := by
      refine Classical.byContradiction fun hno => ?_
      have : leftP x 0 (runsT false a) ≤ k := (leftL v false x k).2 ⟨hkb.1, fun i' k' ha hi' => by
        refine Classical.byContradiction fun hh => hno ⟨i', k', ha, hi', by omega⟩⟩
      omega
    obtain ⟨i', k', ha, hi', hkk⟩ := hex
    rcases hz with hz | hz
    · obtain ⟨i, ki⟩ := all_kept v hz hkb.1 (by omega)
      have hm := KT.mono v ha ki
      exact hC.2 i j ((kt_cmp h).2 ⟨k, ki, hk⟩) (by omega)
    · have hab := KT.bd v ha
      simp only [ioL, Bool.false_eq_true, if_false] at hab
      obtain ⟨j', kj⟩ := all_stay u hz (i := k') (by omega) (by omega)
      have hm := KT.mono u kj hk
      have := hC.2 i' j' ((kt_cmp h).2 ⟨k', ha, kj⟩) hi'
      omega
  omega
theorem cmp_right_eq {a b : List Pc} (h : cmpE a b = 0) (hz : iN a = 0 ∨ rN b = 0) (x : Int) : rightP x (outL (cmpR a b)) (runsT false (cmpR a b)) = rightP (rightP x (outL a) (runsT false a)) (outL b) (runsT false b) := by
  have g := cmp_right h x
  obtain ⟨h1, h2, h3, h4⟩ := cmpE_ok h
  have v := ((errL_iff a).1 h1).2.1
  have u := ((errL_iff b).1 h2).2.1
  obtain ⟨x1, x2, x3, x4, x5, x6, x7⟩ := cmpR_ok h
  have rL : ∀ {l : List Pc}, Val l → ∀ x q, q ≤ rightP x (outL l) (runsT false l) ↔ q ≤ outL l ∧ ∀ i j, KT false l i j → x ≤ i → q ≤ j := fun hl x q => by
    have := rightL hl false x q
    simpa only [ioL, Bool.false_eq_true, if_false] using this
  have hC := (rL x3 x _).1 (Int.le_refl _)
  have : rightP x (outL (cmpR a b)) (runsT false (cmpR a b)) ≤ rightP (rightP x (outL a) (runsT false a)) (outL b) (runsT false b) := by
    rw [rL u]
    refine ⟨by rw [← x5]; exact hC.1, fun k j hk hkx => ?_⟩
    have hkb := KT.bd u hk
    simp only [ioL, Bool.false_eq_true, if_false] at hkb
    have hex : ∃ i' k', KT false a i' k' ∧ x ≤ i' ∧ k' ≤ k := by
      refine Classical.byContradiction fun hno => ?_
      have : k + 1 ≤ rightP x (outL a) (runsT false a) := (rL v x (k + 1)).2 ⟨by omega, fun i' k' ha hi' => by
        refine Classical.byContradiction fun hh => hno ⟨i', k', ha, hi', by omega⟩⟩
      omega
    obtain ⟨i', k', ha, hi', hkk⟩ := hex
    rcases hz with hz | hz
    · obtain ⟨i, ki⟩ := all_kept v hz hkb.1 (by omega)
      have hm := KT.mono v ki ha
      exact hC.2 i j ((kt_cmp h).2 ⟨k, ki, hk⟩) (by omega)
    · have hab := KT.bd v ha
      simp only [ioL, Bool.false_eq_true, if_false] at hab
      obtain ⟨j', kj⟩ := all_stay u hz (i := k') (by omega) (by omega)
      have hm := KT.mono u hk kj
      have := hC.2 i' j' ((kt_cmp h).2 ⟨k', ha, kj⟩) hi'
      omega
  omega
/-- the result of a composition -/
theorem valA_comp {s : List UInt8} {A B : List Int} (h : InB A.length B) : (compA A B).map (valA s) = B.map (valA (A.map (valA s))) := by
  unfold compA
  rw [List.map_map]
  refine List.map_congr_left fun x hx => ?_
  have hx' := h x hx
  simp only [Function.comp_apply]
  by_cases hn : x < 0
  · rw [if_pos hn]; simp [valA, hn]
  · rw [if_neg hn]
    have hl : x.toNat < A.length := by omega
    conv => rhs; rw [valA, if_neg hn]
    simp only [List.getD_eq_getElem?_getD, List.getElem?_map, List.getElem?_eq_getElem hl, Option.map_some, Option.getD_some]
theorem cmp_applies {s : List UInt8} {a b : List Pc} (h : fitE s a = 0) (hc : cmpE a b = 0) : fitE s (cmpR a b) = 0 ∧ applyS s (cmpR a b) = applyS (applyS s a) b ∧ fitE (applyS s a) b = 0 := by
  obtain ⟨h1, h2, h3, h4⟩ := cmpE_ok hc
  obtain ⟨f1, f2, f3⟩ := fit_ok h
  obtain ⟨e1, e2⟩ := apply_eq h
  have u := ((errL_iff b).1 h2).2.1
  obtain ⟨x1, x2, x3, x4, x5, x6, x7⟩ := cmpR_ok hc
  have g1 : fitE s (cmpR a b) = 0 := fit_of x2 (by rw [x4, f3])
  have g2 : fitE (applyS s a) b = 0 := fit_of h2 (by rw [e2, h3])
  refine ⟨g1, ?_, g2⟩
  rw [(apply_eq g1).1, (apply_eq g2).1, x6, valA_comp, e1]
  intro x hx
  have := u.inB x hx
  have := f2.atoms_len 0
  omega
/-- the error of a composition after the first delta -/
theorem cmp_fits {s : List UInt8} {a b : List Pc} (h : fitE s a = 0) : (fitE (applyS s a) b = 0 → cmpE a b = 0 ∨ cmpE a b = 5) ∧ (fitE (applyS s a) b ≠ 0 → cmpE a b = fitE (applyS s a) b ∧ cmpR a b = []) := by
  obtain ⟨f1, f2, f3⟩ := fit_ok h
  obtain ⟨e1, e2⟩ := apply_eq h
  constructor
  · intro hb
    obtain ⟨b1, b2, b3⟩ := fit_ok hb
    rw [cmpE_eq f1 b1 (by omega)]
    split
    · exact .inl rfl
    · exact .inr rfl
  · intro hb
    have : cmpE a b = fitE (applyS s a) b := by
      unfold fitE at hb ⊢
      rw [cmpE, if_pos f1]
      by_cases hb0 : errL b = 0
      · rw [if_pos hb0] at hb ⊢
        rw [if_pos hb0, lens_of_err hb0] at *
        dsimp only at hb ⊢
        by_cases hl : inL b = ((applyS s a).length : Int)
        · rw [if_pos hl] at hb; exact absurd rfl hb
        · rw [if_neg hl, if_neg (by omega)]
      · rw [if_neg hb0, if_neg hb0]
    exact ⟨this, cmpR_none (by omega)⟩
/-- the atoms of a delta followed by its inverse -/
def bakA : Int → List UInt8 → List Pc → List Int
  | _, _, [] => []
  | a, s, p :: r => (if p.k = 1 then rng a p.n.toNat else if p.k = 3 then lets (s.take p.n.toNat) else []) ++ bakA (a + p.n) (s.drop p.n.toNat) r
theorem bakA_ok : ∀ (l : List Pc) (A : List Int) (s : List UInt8) (c : Nat) (a : Int), Val l → inL l ≤ s.length → atoms a l = A.drop c → c ≤ A.length → compA A (atoms c (invGo s l)) = bakA a s l := by
  intro l
  induction l with
  | nil => intro A s c a _ _ _ _; rfl
  | cons p l ih =>
    intro A s c a hl hs h hc
    obtain ⟨v1, v2⟩ := Val.cons.1 hl
    have hn := Val.n v1
    have hi := Val.inL v2
    simp only [inL] at hs
    have hlen : (s.take p.n.toNat).length = p.n.toNat := by rw [List.length_take]; omega
    have ih' := fun c a h hc => ih A (s.drop p.n.toNat) c a v2 (by rw [List.length_drop]; omega) h hc
    simp only [invGo, bakA]
    simp only [atoms] at h
    have hd : (A.drop c).length = A.length - c := List.length_drop
    rcases Pc.valid_cases v1 with ⟨x, y, z⟩ | ⟨x, y, z⟩ | ⟨x, y, z⟩
    · have eq : invP (s.take p.n.toNat) p = p := by simp [invP, x]
      rw [z, if_pos x, lets_nil, List.nil_append] at h
      have hk : c + p.n.toNat ≤ A.length := by
        rw [← h, List.length_append, rng_len] at hd; omega
      rw [eq]
      simp only [atoms, z, lets_nil, List.nil_append, if_pos x]
      rw [compA_append, compA_rng A c _ hk, ← h, List.take_append_of_le_length (by rw [rng_len]; omega), List.take_of_length_le (by rw [rng_len]; omega), show (c : Int) + p.n = ((c + p.n.toNat : Nat) : Int) by omega,
        ih' (c + p.n.toNat) (a + p.n) (by rw [← List.drop_drop, ← h, List.drop_append, rng_len]; simp [rng_len]) hk]
    · have eq : invP (s.take p.n.toNat) p = ⟨2, 0, s.take p.n.toNat⟩ := by simp [invP, x]
      rw [z, if_neg (by omega), lets_nil, List.nil_append, List.nil_append] at h
      rw [eq]
      simp only [atoms, show ¬ ((2 : Int) = 1) by omega, if_false, List.nil_append, Int.add_zero, if_neg (show ¬ p.k = 1 by omega), if_pos x]
      rw [compA_append, compA_lets, ih' c (a + p.n) h hc]
    · have eq : invP (s.take p.n.toNat) p = ⟨3, p.t.length, []⟩ := by simp [invP, x]
      rw [if_neg (by omega), List.nil_append] at h
      have hk : c + p.t.length ≤ A.length := by
        rw [← h, List.length_append, lets_len] at hd; omega
      rw [eq]
      simp only [atoms, show ¬ ((3 : Int) = 1) by omega, if_false, lets_nil, List.nil_append, if_neg (show ¬ p.k = 1 by omega), if_neg (show ¬ p.k = 3 by omega)]
      rw [show (c : Int) + (p.t.length : Int) = ((c + p.t.length : Nat) : Int) by omega,
        ih' (c + p.t.length) (a + p.n) (by rw [← List.drop_drop, ← h, List.drop_append, lets_len]; simp [lets_len]) hk]
theorem bakA_id : ∀ (l : List Pc) (s : List UInt8) (a : Int), Val l → 0 ≤ a → inL l ≤ s.length → (bakA a s l = rng a (inL l).toNat ↔ insS (invGo s l) = []) := by
  intro l
  induction l with
  | nil => intro s a _ _ _; simp [bakA, inL, rng_zero, insS, invGo]
  | cons p l ih =>
    intro s a hl ha hs
    obtain ⟨v1, v2⟩ := Val.cons.1 hl
    have hn := Val.n v1
    have hi := Val.inL v2
    simp only [inL] at hs
    have hlen : (s.take p.n.toNat).length = p.n.toNat := by rw [List.length_take]; omega
    have ih' := ih (s.drop p.n.toNat) (a + p.n) v2 (by omega) (by rw [List.length_drop]; omega)
    simp only [invGo, bakA, inL]
    have hins : insS (invP (s.take p.n.toNat) p :: invGo (s.drop p.n.toNat) l) = (invP (s.take p.n.toNat) p).t ++ insS (invGo (s.drop p.n.toNat) l) := by simp [insS]
    rw [hins]
    rcases Pc.valid_cases v1 with ⟨x, y, z⟩ | ⟨x, y, z⟩ | ⟨x, y, z⟩
    · have eq : invP (s.take p.n.toNat) p = p := by simp [invP, x]
      rw [eq, z, List.nil_append, ← ih', if_pos x, show (p.n + inL l).toNat = p.n.toNat + (inL l).toNat by omega, rng_add, show a + (p.n.toNat : Int) = a + p.n by omega, List.append_cancel_left_eq]
    · have eq : invP (s.take p.n.toNat) p = ⟨2, 0, s.take p.n.toNat⟩ := by simp [invP, x]
      rw [eq, if_neg (by omega), if_pos x]
      constructor
      · intro h
        exfalso
        have h1 : 0 < p.n.toNat := by omega
        have h2 : 0 < (lets (s.take p.n.toNat)).length := by rw [lets_len, hlen]; exact h1
        have h3 : (lets (s.take p.n.toNat))[0] ∈ rng a (p.n + inL l).toNat := by
          rw [← h]; exact List.mem_append_left _ (List.getElem_mem h2)
        have h4 := mem_lets (List.getElem_mem h2)
        have h5 := mem_rng.1 h3
        omega
      · intro h
        have h1 := congrArg List.length h
        rw [List.length_append, hlen] at h1
        simp at h1
        omega
    · have eq : invP (s.take p.n.toNat) p = ⟨3, p.t.length, []⟩ := by simp [invP, x]
      rw [eq, if_neg (by omega), if_neg (by omega), List.nil_append, List.nil_append, ← ih', y]
      simp
/-- a delta, and then its inverse -/
theorem cmp_back {s : List UInt8} {a : List Pc} (h : fitE s a = 0) : (cmpE a (inverseS s a) = 0 ∨ cmpE a (inverseS s a) = 5) ∧ (cmpE a (inverseS s a) = 0 → fitE s (cmpR a (inverseS s a)) = 0 ∧ applyS s (cmpR a (inverseS s a)) = s ∧
    idE s.length = 0 ∧ (cmpR a (inverseS s a) = idS s.length ↔ removedS s a = [])) := by
  obtain ⟨f1, f2, f3⟩ := fit_ok h
  obtain ⟨b1, b2, b3, b4, b5, b6, b7⟩ := back h
  have hio := inv_io h
  refine ⟨(cmp_fits h).1 b1, fun hc => ?_⟩
  obtain ⟨g1, g2, g3⟩ := cmp_applies h hc
  obtain ⟨x1, x2, x3, x4, x5, x6, x7⟩ := cmpR_ok hc
  refine ⟨g1, by rw [g2, b2], by rw [← f3]; exact (idE_of f1).1, ?_⟩
  have e0 : idE s.length = 0 := by rw [← f3]; exact (idE_of f1).1
  obtain ⟨i1, i2, i3, i4, i5, i6, i7, i8⟩ := id_ok e0
  obtain ⟨v1, v2, v3⟩ := inv_ok f2 s (by omega)
  have key : atoms 0 (cmpR a (inverseS s a)) = bakA 0 s a := by
    rw [x6, inverseS, if_pos h, (formS_ok v1).2.1]
    exact bakA_ok a (atoms 0 a) s 0 0 f2 (by omega) (by rw [List.drop_zero]) (Nat.zero_le _)
  have r : removedS s a = insS (invGo s a) := by rw [removedS, if_pos h, (part_out f2 (by omega)).2]
  rw [r, ← bakA_id a s 0 f2 (Int.le_refl _) (by omega), ← key]
  conv => lhs; rw [← x7, ← i8]
  rw [formS_eq_iff x3 i4, x4, i5, i7, f3]
  exact ⟨fun hh => hh.2, fun hh => ⟨rfl, hh⟩⟩
/-- the atoms of an inverse -/
theorem inv_at {s : List UInt8} {l : List Pc} (h : fitE s l = 0) : ((atoms 0 (inverseS s l)).length = s.length) ∧ ∀ (i : Nat) (hi : i < (atoms 0 (inverseS s l)).length) (hs : i < s.length),
    (0 ≤ (atoms 0 (inverseS s l))[i] → (atoms 0 l)[(atoms 0 (inverseS s l))[i].toNat]? = some (i : Int)) ∧ ((atoms 0 (inverseS s l))[i] < 0 → (atoms 0 (inverseS s l))[i] = -1 - (s[i].toNat : Int) ∧ ∀ j : Nat, (atoms 0 l)[j]? ≠ some (i : Int)) := by
  obtain ⟨f1, f2, f3⟩ := fit_ok h
  obtain ⟨b1, b2, b3, b4, b5, b6, b7⟩ := back h
  obtain ⟨w1, w2, w3⟩ := inv_io h
  have hlen := w1.atoms_len 0
  refine ⟨by omega, fun i hi hs => ⟨fun h0 => ?_, fun h0 => ?_⟩⟩
  · have k1 : KT false (inverseS s l) (atoms 0 (inverseS s l))[i] i := (KT.atoms w1).2 ⟨h0, i, rfl, List.getElem?_eq_getElem hi⟩
    have k2 := (KT.inv h).1 k1
    obtain ⟨-, n, e, hn⟩ := (KT.atoms f2).1 (KT.turn.1 k2)
    rw [show (atoms 0 (inverseS s l))[i].toNat = n by omega]
    exact hn
  · constructor
    · have e1 := (apply_eq b1).1
      rw [b2] at e1
      have e2 : s[i] = valA (applyS s l) (atoms 0 (inverseS s l))[i] := by
        have : s[i]? = ((atoms 0 (inverseS s l)).map (valA (applyS s l)))[i]? := by rw [← e1]
        rw [List.getElem?_eq_getElem hs, List.getElem?_map, List.getElem?_eq_getElem hi] at this
        simpa using this
      rw [valA, if_pos h0] at e2
      have hm := Rising.mem (w1.rising (Int.le_refl 0)) _ (List.getElem_mem hi)
      have hb : -256 ≤ (atoms 0 (inverseS s l))[i] := by omega
      rw [e2]
      generalize (atoms 0 (inverseS s l))[i] = x at *
      have : (UInt8.ofNat (-1 - x).toNat).toNat = (-1 - x).toNat := by
        rw [UInt8.toNat_ofNat']
        exact Nat.mod_eq_of_lt (by omega)
      omega
    · intro j hj
      have k1 : KT false l i j := (KT.atoms f2).2 ⟨by omega, j, rfl, hj⟩
      have k2 := (KT.inv h).2 (KT.turn.2 k1)
      obtain ⟨h1, n, e, hn⟩ := (KT.atoms w1).1 k2
      have : n = i := by omega
      subst this
      rw [List.getElem?_eq_getElem hi] at hn
      injection hn with hn
      omega
/-- the inverse of a composition -/
theorem cmp_inverse {s : List UInt8} {a b : List Pc} (h : fitE s a = 0) (hb : fitE (applyS s a) b = 0) (hc : cmpE a b = 0) :
    cmpE (inverseS (applyS s a) b) (inverseS s a) = 0 ∧ cmpR (inverseS (applyS s a) b) (inverseS s a) = inverseS s (cmpR a b) := by
  obtain ⟨f1, f2, f3⟩ := fit_ok h
  obtain ⟨g1, g2, g3⟩ := fit_ok hb
  obtain ⟨c1, c2, c3⟩ := cmp_applies h hc
  obtain ⟨x1, x2, x3, x4, x5, x6, x7⟩ := cmpR_ok hc
  obtain ⟨e1, e2⟩ := apply_eq h
  have bA := back h
  have bB := back hb
  have bC := back c1
  obtain ⟨u1, u2, u3⟩ := inv_io h
  obtain ⟨v1, v2, v3⟩ := inv_io hb
  obtain ⟨w1, w2, w3⟩ := inv_io c1
  obtain ⟨la, pa⟩ := inv_at h
  obtain ⟨lb, pb⟩ := inv_at hb
  obtain ⟨lc, pc⟩ := inv_at c1
  have eA := bA.2.2.2.1
  have eB := bB.2.2.2.1
  have eC := bC.2.2.2.1
  have lA := f2.atoms_len 0
  have key : compA (atoms 0 (inverseS (applyS s a) b)) (atoms 0 (inverseS s a)) = atoms 0 (inverseS s (cmpR a b)) := by
    apply List.ext_getElem
    · rw [compA_len, la, lc]
    · intro i h1 h2
      rw [compA_len] at h1
      have hs : i < s.length := by omega
      obtain ⟨a1, a2⟩ := pa i h1 hs
      obtain ⟨z1, z2⟩ := pc i h2 hs
      have ed : (compA (atoms 0 (inverseS (applyS s a) b)) (atoms 0 (inverseS s a)))[i] = (if (atoms 0 (inverseS s a))[i] < 0 then (atoms 0 (inverseS s a))[i] else (atoms 0 (inverseS (applyS s a) b)).getD (atoms 0 (inverseS s a))[i].toNat 0) := by simp [compA]
      rw [ed]
      generalize (atoms 0 (inverseS s a))[i] = x at *
      -- what is kept in the composition
      have kc : ∀ j : Nat, (atoms 0 (cmpR a b))[j]? = some (i : Int) → ∃ k : Nat, (atoms 0 a)[k]? = some (i : Int) ∧ (atoms 0 b)[j]? = some (k : Int) := fun j hj => by
        rw [x6] at hj
        obtain ⟨y, hy, e⟩ := compA_at.1 hj
        have hy0 : 0 ≤ y := by
          by_cases hn : y < 0
          · rw [if_pos hn] at e; omega
          · omega
        rw [if_neg (by omega)] at e
        have hlt : y < inL b := g2.inB y (List.mem_of_getElem? hy)
        have hl2 : y.toNat < (atoms 0 a).length := by omega
        rw [List.getD_eq_getElem?_getD, List.getElem?_eq_getElem hl2, Option.getD_some] at e
        exact ⟨y.toNat, by rw [List.getElem?_eq_getElem hl2, e], by rw [hy]; congr 1; omega⟩
      have inj : ∀ k k' : Nat, (atoms 0 a)[k]? = some (i : Int) → (atoms 0 a)[k']? = some (i : Int) → k = k' := fun k k' hk hk' => by
        have q1 : KT false a i k := (KT.atoms f2).2 ⟨by omega, k, rfl, hk⟩
        have q2 : KT false a i k' := (KT.atoms f2).2 ⟨by omega, k', rfl, hk'⟩
        have m1 := KT.mono f2 q1 q2
        have m2 := KT.mono f2 q2 q1
        omega
      have none_ : (∀ j : Nat, (atoms 0 (cmpR a b))[j]? ≠ some (i : Int)) → (atoms 0 (inverseS s (cmpR a b)))[i] = -1 - (s[i].toNat : Int) := fun hno => by
        by_cases hz : (atoms 0 (inverseS s (cmpR a b)))[i] < 0
        · exact (z2 hz).1
        · exact absurd (z1 (by omega)) (hno _)
      by_cases hx : x < 0
      · rw [if_pos hx, (a2 hx).1, none_ fun j hj => by
          obtain ⟨k, k1, k2⟩ := kc j hj
          exact (a2 hx).2 k k1]
      · rw [if_neg hx]
        have a1' := a1 (by omega)
        have hxl : x.toNat < (atoms 0 a).length := by
          by_cases hh : x.toNat < (atoms 0 a).length
          · exact hh
          · rw [List.getElem?_eq_none (by omega)] at a1'; cases a1'
        have hxT : x.toNat < (applyS s a).length := by omega
        have hxW : x.toNat < (atoms 0 (inverseS (applyS s a) b)).length := by omega
        obtain ⟨b1, b2⟩ := pb x.toNat hxW hxT
        rw [List.getD_eq_getElem?_getD, List.getElem?_eq_getElem hxW, Option.getD_some]
        generalize (atoms 0 (inverseS (applyS s a) b))[x.toNat] = y at *
        by_cases hy : y < 0
        · rw [(b2 hy).1, none_ fun j hj => by
            obtain ⟨k, k1, k2⟩ := kc j hj
            have := inj k x.toNat k1 a1'
            subst this
            exact (b2 hy).2 j k2]
          have : (applyS s a)[x.toNat] = s[i] := by
            have q : (applyS s a)[x.toNat]? = ((atoms 0 a).map (valA s))[x.toNat]? := by rw [← e1]
            rw [List.getElem?_eq_getElem hxT, List.getElem?_map, a1'] at q
            simp [valA, hs] at q
            rw [if_neg (by omega)] at q
            exact q
          rw [this]
        · have b1' := b1 (by omega)
          have hj : (atoms 0 (cmpR a b))[y.toNat]? = some (i : Int) := by
            rw [x6]
            refine compA_at.2 ⟨_, b1', ?_⟩
            rw [if_neg (by omega), List.getD_eq_getElem?_getD, show ((x.toNat : Nat) : Int).toNat = x.toNat by omega, a1', Option.getD_some]
          have hz : ¬ (atoms 0 (inverseS s (cmpR a b)))[i] < 0 := fun hz => (z2 hz).2 _ hj
          have hz1 := z1 (by omega)
          have q1 : KT false (cmpR a b) i y.toNat := (KT.atoms x3).2 ⟨by omega, _, rfl, hj⟩
          have q2 : KT false (cmpR a b) i (atoms 0 (inverseS s (cmpR a b)))[i].toNat := (KT.atoms x3).2 ⟨by omega, _, rfl, hz1⟩
          have m1 := KT.mono x3 q1 q2
          have m2 := KT.mono x3 q2 q1
          omega
  have lB := g2.atoms_len 0
  have hE : cmpE (inverseS (applyS s a) b) (inverseS s a) = 0 := by
    rw [cmpE_eq eB eA (by omega), key, v2, show outL b = inL (inverseS s (cmpR a b)) by rw [w2, x5], ← formS_ofS w1]
    rw [if_pos (form4096 eC)]
  refine ⟨hE, ?_⟩
  rw [(cmpR_ok hE).1, key, v2, show outL b = inL (inverseS s (cmpR a b)) by rw [w2, x5], ← formS_ofS w1]
  rw [inverseS, if_pos c1]
  exact formS_idem (inv_ok x3 s (by omega)).1

end Go.Proofs.Ytibmnkdeepmabaa
