/- Plain: compositions: associative, neutral, what they count, several of them. No program. No condition. -/
import Derived.Test.YtibmnkdeepmabaaPlainC
import Derived.Test.YtibmnkdeepmabaaApply1
namespace Go.Proofs.Ytibmnkdeepmabaa

theorem cmpE_eq {a b : List Pc} (ha : errL a = 0) (hb : errL b = 0) (h : outL a = inL b) : cmpE a b = if (ofS (inL a) (compA (atoms 0 a) (atoms 0 b))).length ≤ 4096 then 0 else 5 := by
  have v := ((errL_iff a).1 ha).2.1
  have u := ((errL_iff b).1 hb).2.1
  rw [cmpE, if_pos ha, if_pos hb, if_pos h, cmpS_form v u h]
/-- a composition, if there is one -/
theorem cmpR_ok {a b : List Pc} (h : cmpE a b = 0) : cmpR a b = ofS (inL a) (compA (atoms 0 a) (atoms 0 b)) ∧ errL (cmpR a b) = 0 ∧ Val (cmpR a b) ∧ inL (cmpR a b) = inL a ∧ outL (cmpR a b) = outL b ∧
    atoms 0 (cmpR a b) = compA (atoms 0 a) (atoms 0 b) ∧ formS (cmpR a b) = cmpR a b := by
  obtain ⟨h1, h2, h3, h4⟩ := cmpE_ok h
  have v := ((errL_iff a).1 h1).2.1
  have u := ((errL_iff b).1 h2).2.1
  obtain ⟨c1, c2, c3, c4, c5⟩ := cmpS_ok v u h3
  obtain ⟨f1, f2, f3⟩ := formS_ok c1
  have e : cmpR a b = formS (cmpS a b) := by rw [cmpR, if_pos h]
  rw [e]
  refine ⟨cmpS_form v u h3, (cmp_err h1 h2 h3).2 h4, f1, by rw [f3, c2], by rw [outL_formS c1, c3], by rw [f2, c5], formS_idem c1⟩
theorem cmpR_none {a b : List Pc} (h : cmpE a b ≠ 0) : cmpR a b = [] := by rw [cmpR, if_neg h]
theorem cmpE_cases (a b : List Pc) : cmpE a b = 0 ∨ cmpE a b = 2 ∨ cmpE a b = 5 ∨ cmpE a b = 21 := by
  unfold cmpE
  have ha := errL_cases a
  have hb := errL_cases b
  split
  · split
    · split
      · split
        · exact .inl rfl
        · exact .inr (.inr (.inl rfl))
      · exact .inr (.inr (.inr rfl))
    · omega
  · omega
/-- compositions depend on what is kept and inserted only -/
theorem cmp_same {a b a' b' : List Pc} (ha : errL a = 0) (hb : errL b = 0) (ha' : errL a' = 0) (hb' : errL b' = 0) (h1 : inL a' = inL a) (h2 : outL a' = outL a) (h3 : inL b' = inL b)
    (h4 : compA (atoms 0 a') (atoms 0 b') = compA (atoms 0 a) (atoms 0 b)) : cmpE a' b' = cmpE a b ∧ cmpR a' b' = cmpR a b := by
  have key : cmpE a' b' = cmpE a b := by
    by_cases h : outL a = inL b
    · rw [cmpE_eq ha hb h, cmpE_eq ha' hb' (by omega), h1, h4]
    · rw [cmpE, cmpE, if_pos ha, if_pos hb, if_pos ha', if_pos hb', if_neg h, if_neg (by omega)]
  refine ⟨key, ?_⟩
  by_cases h : cmpE a b = 0
  · rw [(cmpR_ok h).1, (cmpR_ok (key.trans h)).1, h1, h4]
  · rw [cmpR_none h, cmpR_none (by omega)]
theorem norm_ok {a : List Pc} (h : errL a = 0) : normS a = formS a ∧ errL (normS a) = 0 ∧ inL (normS a) = inL a ∧ outL (normS a) = outL a ∧ (∀ c, atoms c (normS a) = atoms c a) ∧ Val (normS a) := by
  have v := ((errL_iff a).1 h).2.1
  have e : normS a = formS a := by rw [normS, if_pos h]
  rw [e]
  exact ⟨rfl, (lens_formS h).2, (formS_ok v).2.2, outL_formS v, (formS_ok v).2.1, (formS_ok v).1⟩
theorem cmp_norm {a b : List Pc} (ha : errL a = 0) (hb : errL b = 0) : cmpE (normS a) (normS b) = cmpE a b ∧ cmpR (normS a) (normS b) = cmpR a b := by
  obtain ⟨a1, a2, a3, a4, a5, -⟩ := norm_ok ha
  obtain ⟨b1, b2, b3, b4, b5, -⟩ := norm_ok hb
  exact cmp_same ha hb a2 b2 a3 a4 b3 (by rw [a5, b5])
/-- atoms that lie below a bound -/
def InB (n : Int) (A : List Int) : Prop := ∀ x ∈ A, x < n
theorem Val.inB {l : List Pc} (h : Val l) : InB (Ytibmnkdeepmabaa.inL l) (atoms 0 l) := fun x hx => by
  have := Rising.mem (h.rising (Int.le_refl 0)) x hx
  have := Val.inL h
  omega
theorem compA_assoc {A B C : List Int} (h : InB B.length C) : compA (compA A B) C = compA A (compA B C) := by
  unfold compA
  rw [List.map_map]
  refine List.map_congr_left fun x hx => ?_
  have hx' := h x hx
  simp only [Function.comp_apply]
  by_cases hn : x < 0
  · rw [if_pos hn, if_pos hn, if_pos hn]
  · rw [if_neg hn, if_neg hn]
    have hl : x.toNat < B.length := by omega
    simp only [List.getD_eq_getElem?_getD, List.getElem?_map, List.getElem?_eq_getElem hl, Option.map_some, Option.getD_some]
theorem cmp_assoc {a b c : List Pc} (h1 : cmpE a b = 0) (h2 : cmpE b c = 0) : cmpE (cmpR a b) c = cmpE a (cmpR b c) ∧ cmpR (cmpR a b) c = cmpR a (cmpR b c) := by
  obtain ⟨a1, a2, a3, a4⟩ := cmpE_ok h1
  obtain ⟨b1, b2, b3, b4⟩ := cmpE_ok h2
  obtain ⟨x1, x2, x3, x4, x5, x6, x7⟩ := cmpR_ok h1
  obtain ⟨y1, y2, y3, y4, y5, y6, y7⟩ := cmpR_ok h2
  have vb := ((errL_iff b).1 a2).2.1
  have vc := ((errL_iff c).1 b2).2.1
  have key : compA (atoms 0 (cmpR a b)) (atoms 0 c) = compA (atoms 0 a) (atoms 0 (cmpR b c)) := by
    rw [x6, y6, compA_assoc]
    intro x hx
    have := vc.inB x hx
    rw [vb.atoms_len]
    omega
  have e1 : cmpE (cmpR a b) c = cmpE a (cmpR b c) := by
    rw [cmpE_eq x2 b2 (by omega), cmpE_eq a1 y2 (by omega), x4, key]
  refine ⟨e1, ?_⟩
  by_cases h : cmpE a (cmpR b c) = 0
  · rw [(cmpR_ok h).1, (cmpR_ok (e1.trans h)).1, x4, key]
  · rw [cmpR_none h, cmpR_none (by omega)]
/-- the identity -/
def idE (n : Int) : Int := if n < 0 then 2 else if 1048576 < n then 5 else 0
def idS (n : Int) : List Pc := if idE n = 0 then (if n = 0 then [] else [⟨1, n, []⟩]) else []
theorem id_ok {n : Int} (h : idE n = 0) : 0 ≤ n ∧ n ≤ 1048576 ∧ errL (idS n) = 0 ∧ Val (idS n) ∧ inL (idS n) = n ∧ outL (idS n) = n ∧ atoms 0 (idS n) = rng 0 n.toNat ∧ formS (idS n) = idS n := by
  have hn : 0 ≤ n ∧ n ≤ 1048576 := by
    unfold idE at h
    split at h
    · cases h
    · split at h
      · cases h
      · omega
  have hs : idS n = if n = 0 then [] else [⟨1, n, []⟩] := by rw [idS, if_pos h]
  refine ⟨hn.1, hn.2, ?_⟩
  by_cases h0 : n = 0
  · subst h0
    rw [hs, if_pos rfl]
    exact ⟨by decide, Val.nil, rfl, rfl, rfl, rfl⟩
  · rw [hs, if_neg h0]
    have v : Val [(⟨1, n, []⟩ : Pc)] := Val.one.2 (Pc.valid1 rfl (by dsimp only; omega) rfl)
    refine ⟨(errL_iff _).2 ⟨by simp, v, by simp [inL]; omega, by simp [outL, Pc.out]; omega⟩, v, by simp [inL], by simp [outL, Pc.out], by simp [atoms, lets_nil], ?_⟩
    simp [formS, formSt, formStep, flushed, addRetain]
theorem compA_id_left {n : Nat} {B : List Int} (h : InB n B) : compA (rng 0 n) B = B := by
  unfold compA
  conv => rhs; rw [← List.map_id B]
  refine List.map_congr_left fun x hx => ?_
  have hx' := h x hx
  by_cases hn : x < 0
  · simp [hn]
  · rw [if_neg hn]
    have hl : x.toNat < n := by omega
    simp only [rng, List.getD_eq_getElem?_getD, List.getElem?_map, List.getElem?_range hl, Option.map_some, Option.getD_some, id]
    omega
theorem compA_id_right {A : List Int} : compA A (rng 0 A.length) = A := by
  have := compA_rng A 0 A.length (by omega)
  simpa using this
theorem idE_of {l : List Pc} (h : errL l = 0) : idE (inL l) = 0 ∧ idE (outL l) = 0 := by
  obtain ⟨h1, h2, h3, h4⟩ := (errL_iff l).1 h
  have := h2.inL
  have := h2.outL
  unfold idE
  exact ⟨by rw [if_neg (by omega), if_neg (by omega)], by rw [if_neg (by omega), if_neg (by omega)]⟩
theorem form4096 {l : List Pc} (h : errL l = 0) : (formS l).length ≤ 4096 := by
  obtain ⟨h1, h2, h3, h4⟩ := (errL_iff l).1 h
  have := formS_len h2
  omega
theorem cmp_id {l : List Pc} (h : errL l = 0) : cmpE (idS (inL l)) l = 0 ∧ cmpR (idS (inL l)) l = normS l ∧ cmpE l (idS (outL l)) = 0 ∧ cmpR l (idS (outL l)) = normS l := by
  obtain ⟨h1, h2, h3, h4⟩ := (errL_iff l).1 h
  obtain ⟨e1, e2⟩ := idE_of h
  obtain ⟨i1, i2, i3, i4, i5, i6, i7, i8⟩ := id_ok e1
  obtain ⟨o1, o2, o3, o4, o5, o6, o7, o8⟩ := id_ok e2
  have k1 : compA (atoms 0 (idS (inL l))) (atoms 0 l) = atoms 0 l := by
    rw [i7, compA_id_left]
    intro x hx
    have := h2.inB x hx
    omega
  have k2 : compA (atoms 0 l) (atoms 0 (idS (outL l))) = atoms 0 l := by
    rw [o7, show (outL l).toNat = (atoms 0 l).length by have := h2.atoms_len 0; omega, compA_id_right]
  have q1 : cmpE (idS (inL l)) l = 0 := by
    rw [cmpE_eq i3 h (by omega), i5, k1, ← formS_ofS h2, if_pos (form4096 h)]
  have q2 : cmpE l (idS (outL l)) = 0 := by
    rw [cmpE_eq h o3 (by omega), k2, ← formS_ofS h2, if_pos (form4096 h)]
  refine ⟨q1, ?_, q2, ?_⟩
  · rw [(cmpR_ok q1).1, i5, k1, ← formS_ofS h2, normS, if_pos h]
  · rw [(cmpR_ok q2).1, k2, ← formS_ofS h2, normS, if_pos h]
/-- how many bytes are kept, inserted and removed -/
def kN : List Pc → Int
  | [] => 0
  | p :: r => (if p.k = 1 then p.n else 0) + kN r
def iN : List Pc → Int
  | [] => 0
  | p :: r => (if p.k = 2 then (p.t.length : Int) else 0) + iN r
def rN : List Pc → Int
  | [] => 0
  | p :: r => (if p.k = 3 then p.n else 0) + rN r
theorem kN_in {l : List Pc} (h : Val l) : kN l + rN l = inL l ∧ kN l + iN l = outL l ∧ 0 ≤ kN l ∧ 0 ≤ iN l ∧ 0 ≤ rN l := by
  induction l with
  | nil => exact ⟨rfl, rfl, Int.le_refl _, Int.le_refl _, Int.le_refl _⟩
  | cons p l ih =>
    obtain ⟨v1, v2⟩ := Val.cons.1 h
    obtain ⟨h1, h2, h3, h4, h5⟩ := ih v2
    simp only [kN, rN, iN, inL, outL, Pc.out]
    rcases Pc.valid_cases v1 with ⟨x, y, z⟩ | ⟨x, y, z⟩ | ⟨x, y, z⟩
    · simp [x]; omega
    · simp [x]; omega
    · simp [x]; omega
theorem kN_atoms {l : List Pc} (h : Val l) : ∀ a : Int, 0 ≤ a → kN l = ((atoms a l).filter (fun x => decide (0 ≤ x))).length := by
  induction l with
  | nil => intro a _; rfl
  | cons p l ih =>
    intro a ha
    obtain ⟨v1, v2⟩ := Val.cons.1 h
    have hn := Val.n v1
    have := ih v2 (a + p.n) (by omega)
    have hl : (lets p.t).filter (fun x => decide (0 ≤ x)) = [] := by
      rw [List.filter_eq_nil_iff]
      intro x hx
      have := mem_lets hx
      simp; omega
    have hr : ∀ n : Nat, (rng a n).filter (fun x => decide (0 ≤ x)) = rng a n := fun n => by
      rw [List.filter_eq_self]
      intro x hx
      have := mem_rng.1 hx
      simp; omega
    simp only [kN, atoms, List.filter_append, hl, List.nil_append, List.length_append]
    rw [this]
    by_cases hk : p.k = 1
    · rw [if_pos hk, if_pos hk, hr, rng_len]; omega
    · rw [if_neg hk, if_neg hk]; simp
theorem tak_kN {p : Pc} (h : p.valid = true) {n : Int} (h1 : 1 ≤ n) (r : List Pc) :
    kN (takP n p :: takL n p r) = kN (p :: r) ∧ iN (takP n p :: takL n p r) = iN (p :: r) ∧ rN (takP n p :: takL n p r) = rN (p :: r) := by
  unfold takP takL
  by_cases hn : n < lg p
  · rw [if_pos hn, if_pos hn]
    unfold lg at hn
    rcases Pc.valid_cases h with ⟨x, y, z⟩ | ⟨x, y, z⟩ | ⟨x, y, z⟩
    · simp [kN, iN, rN, splA, splB, x, z]; omega
    · simp [kN, iN, rN, splA, splB, x, z]; omega
    · simp [kN, iN, rN, splA, splB, x, y]; omega
  · rw [if_neg hn, if_neg hn]
    exact ⟨rfl, rfl, rfl⟩
theorem cmp_counts : ∀ (f : Nat) (x y : List Pc), Val x → Val y → outL x = inL y → szL x + szL y ≤ f →
    kN (cmpF f x y) ≤ kN x ∧ kN (cmpF f x y) ≤ kN y ∧ iN (cmpF f x y) ≤ iN x + iN y ∧ rN (cmpF f x y) ≤ rN x + rN y := by
  intro f
  induction f with
  | zero =>
    intro x y hx hy ho hf
    have := kN_in hx
    have := kN_in hy
    simp only [cmpF, kN, iN, rN]
    omega
  | succ f ih =>
    intro x y hx hy ho hf
    cases x with
    | nil =>
      cases y with
      | nil => simp [cmpF, kN, iN, rN]
      | cons q y =>
        obtain ⟨v1, v2⟩ := Val.cons.1 hy
        have hg := lg_pos v1
        have hi := Val.inL v2
        simp only [outL, inL] at ho
        have hk : q.k = 2 := by rcases Pc.valid_cases v1 with ⟨x', y', z'⟩ | ⟨x', y', z'⟩ | ⟨x', y', z'⟩ <;> omega
        have hn : q.n = 0 := by rcases Pc.valid_cases v1 with ⟨x', y', z'⟩ | ⟨x', y', z'⟩ | ⟨x', y', z'⟩ <;> omega
        simp only [szL] at hf
        have := ih [] y hx v2 (by simp only [outL]; omega) (by simp only [szL]; omega)
        rw [cmpF, if_pos hk]
        simp only [kN, iN, rN, hk] at this ⊢
        simp
        omega
    | cons p x =>
      obtain ⟨u1, u2⟩ := Val.cons.1 hx
      have hgp := lg_pos u1
      by_cases hp : p.k = 3
      · have ho' : outL x = inL y := by simp only [outL, Pc.out, hp] at ho; simp at ho; exact ho
        have := ih x y u2 hy ho' (by simp only [szL] at hf; omega)
        have e : cmpF (f + 1) (p :: x) y = p :: cmpF f x y := by cases y <;> simp [cmpF, hp]
        rw [e]
        simp only [kN, iN, rN, hp]
        simp
        omega
      · cases y with
        | nil =>
          have := Val.outL u2
          have : 1 ≤ p.out := by
            unfold lg at hgp
            rcases Pc.valid_cases u1 with ⟨x', y', z'⟩ | ⟨x', y', z'⟩ | ⟨x', y', z'⟩
            · simp [Pc.out, x']; omega
            · omega
            · simp only [Pc.out, x']; simp; omega
          simp only [outL, inL] at ho
          omega
        | cons q y =>
          obtain ⟨v1, v2⟩ := Val.cons.1 hy
          have hgq := lg_pos v1
          by_cases hq : q.k = 2
          · have hn : q.n = 0 := by rcases Pc.valid_cases v1 with ⟨x', y', z'⟩ | ⟨x', y', z'⟩ | ⟨x', y', z'⟩ <;> omega
            have := ih (p :: x) y hx v2 (by rw [ho]; simp only [inL]; omega) (by simp only [szL] at hf ⊢; omega)
            rw [cmpF, if_neg hp, if_pos hq]
            simp only [kN, iN, rN, hq] at this ⊢
            simp
            omega
          · rw [cmpF, if_neg hp, if_neg hq]
            have hm1 : 1 ≤ min (lg p) (lg q) := by omega
            have hm2 : min (lg p) (lg q) ≤ lg p := by omega
            have hm3 : min (lg p) (lg q) ≤ lg q := by omega
            generalize min (lg p) (lg q) = n at *
            obtain ⟨a1, a2, a3, a4, a5, a6, a7, a8, a9, a10⟩ := tak_ok u1 hm1 hm2 x u2
            obtain ⟨b1, b2, b3, b4, b5, b6, b7, b8, b9, b10⟩ := tak_ok v1 hm1 hm3 y v2
            obtain ⟨c1, c2, c3⟩ := tak_kN u1 hm1 x
            obtain ⟨d1, d2, d3⟩ := tak_kN v1 hm1 y
            generalize takP n p = P at *
            generalize takP n q = Q at *
            generalize takL n p x = X at *
            generalize takL n q y = Y at *
            have hPn : (P.k = 1 ∧ P.n = n ∧ P.out = n) ∨ (P.k = 2 ∧ P.n = 0 ∧ P.out = n ∧ (P.t.length : Int) = n) := by
              unfold lg at a2
              rcases Pc.valid_cases a1 with ⟨x', y', z'⟩ | ⟨x', y', z'⟩ | ⟨x', y', z'⟩
              · rw [z'] at a2; simp only [List.length_nil] at a2; refine .inl ⟨x', by omega, ?_⟩; simp [Pc.out, x']; omega
              · omega
              · refine .inr ⟨x', y', ?_, by omega⟩; simp [Pc.out, x']; omega
            have hQn : (Q.k = 1 ∧ Q.n = n) ∨ (Q.k = 3 ∧ Q.n = n) := by
              unfold lg at b2
              rcases Pc.valid_cases b1 with ⟨x', y', z'⟩ | ⟨x', y', z'⟩ | ⟨x', y', z'⟩
              · rw [z'] at b2; exact .inl ⟨x', by simpa using b2⟩
              · rw [z'] at b2; exact .inr ⟨x', by simpa using b2⟩
              · omega
            have hI := ih X Y a4 b4 (by omega) (by omega)
            rw [← c1, ← c2, ← c3, ← d1, ← d2, ← d3]
            unfold cOut
            rcases hPn with ⟨p1, p2, p3⟩ | ⟨p1, p2, p3, p4⟩ <;> rcases hQn with ⟨q1, q2⟩ | ⟨q1, q2⟩ <;> simp [kN, iN, rN, p1, p2, q1, q2] <;> omega
theorem kN_form {l : List Pc} (h : Val l) : kN (formS l) = kN l ∧ iN (formS l) = iN l ∧ rN (formS l) = rN l := by
  obtain ⟨h1, h2, h3⟩ := formS_ok h
  have a := kN_in h
  have b := kN_in h1
  have e : kN (formS l) = kN l := by rw [kN_atoms h1 0 (Int.le_refl _), kN_atoms h 0 (Int.le_refl _), h2]
  have o := outL_formS h
  omega
theorem counts_ok {a b : List Pc} (h : cmpE a b = 0) : kN (cmpR a b) ≤ kN a ∧ kN (cmpR a b) ≤ kN b ∧ iN (cmpR a b) ≤ iN a + iN b ∧ rN (cmpR a b) ≤ rN a + rN b ∧
    kN (cmpR a b) + rN (cmpR a b) = kN a + rN a ∧ kN (cmpR a b) + iN (cmpR a b) = kN b + iN b := by
  obtain ⟨h1, h2, h3, h4⟩ := cmpE_ok h
  have v := ((errL_iff a).1 h1).2.1
  have u := ((errL_iff b).1 h2).2.1
  obtain ⟨c1, c2, c3, c4, c5⟩ := cmpS_ok v u h3
  obtain ⟨x1, x2, x3, x4, x5, x6, x7⟩ := cmpR_ok h
  have e : cmpR a b = formS (cmpS a b) := by rw [cmpR, if_pos h]
  obtain ⟨k1, k2, k3⟩ := kN_form c1
  have hc := cmp_counts (szL a + szL b) a b v u h3 (Nat.le_refl _)
  have i1 := kN_in x3
  have i2 := kN_in v
  have i3 := kN_in u
  rw [← e] at k1 k2 k3
  unfold cmpS at k1 k2 k3
  omega
/-- All, from a delta on -/
def allG : List Pc → Int → List (List Pc) → Int × List Pc
  | d, e, [] => if e = 0 then (0, d) else (e, [])
  | d, e, l :: L => if e = 0 then allG (cmpR d l) (cmpE d l) L else (e, [])
def allE (n : Int) (L : List (List Pc)) : Int := (allG (idS n) (idE n) L).1
def allR (n : Int) (L : List (List Pc)) : List Pc := (allG (idS n) (idE n) L).2
theorem allG_err {d : List Pc} {e : Int} (h : e ≠ 0) (L : List (List Pc)) : allG d e L = (e, []) := by
  cases L <;> simp [allG, h]
theorem allG_append : ∀ (L M : List (List Pc)) (d : List Pc) (e : Int), allG d e (L ++ M) = allG (allG d e L).2 (allG d e L).1 M := by
  intro L
  induction L with
  | nil =>
    intro M d e
    by_cases h : e = 0
    · subst h; simp [allG]
    · rw [List.nil_append, allG_err h, allG_err h, allG_err h]
  | cons l L ih =>
    intro M d e
    by_cases h : e = 0
    · simp only [List.cons_append, allG, if_pos h, ih]
    · rw [List.cons_append, allG_err h, allG_err h, allG_err h]
theorem allG_ok : ∀ (L : List (List Pc)) (d : List Pc) (e : Int), errL d = 0 → formS d = d → (allG d e L).1 = 0 → errL (allG d e L).2 = 0 ∧ formS (allG d e L).2 = (allG d e L).2 := by
  intro L
  induction L with
  | nil =>
    intro d e h1 h2 h3
    by_cases h : e = 0
    · subst h; exact ⟨h1, h2⟩
    · rw [allG_err h] at h3; exact absurd h3 h
  | cons l L ih =>
    intro d e h1 h2 h3
    by_cases h : e = 0
    · simp only [allG, if_pos h] at h3 ⊢
      by_cases hc : cmpE d l = 0
      · obtain ⟨x1, x2, x3, x4, x5, x6, x7⟩ := cmpR_ok hc
        exact ih _ _ x2 x7 h3
      · rw [allG_err hc] at h3; exact absurd h3 hc
    · rw [allG_err h] at h3; exact absurd h3 h
theorem allG_fold {a : List Pc} {D : List Pc} : ∀ (L : List (List Pc)) (x : List Pc), cmpE a x = 0 → allG (cmpR a x) 0 L = (0, D) →
    (allG x 0 L).1 = 5 ∨ ((allG x 0 L).1 = 0 ∧ cmpE a (allG x 0 L).2 = 0 ∧ cmpR a (allG x 0 L).2 = D) := by
  intro L
  induction L with
  | nil =>
    intro x h1 h2
    simp only [allG, if_true, Prod.mk.injEq, true_and] at h2 ⊢
    exact .inr ⟨h1, h2⟩
  | cons l L ih =>
    intro x h1 h2
    simp only [allG, if_true] at h2 ⊢
    by_cases hc : cmpE (cmpR a x) l = 0
    · obtain ⟨c1, c2, c3, c4⟩ := cmpE_ok hc
      obtain ⟨x1, x2, x3, x4, x5, x6, x7⟩ := cmpR_ok h1
      obtain ⟨d1, d2, d3, d4⟩ := cmpE_ok h1
      by_cases hx : cmpE x l = 0
      · obtain ⟨e1, e2⟩ := cmp_assoc h1 hx
        rw [hx]
        rw [hc, e2] at h2
        exact ih _ (e1.symm.trans hc) h2
      · left
        have : cmpE x l = 5 := by
          rw [cmpE_eq d2 c2 (by omega)] at hx ⊢
          split at hx
          · exact absurd rfl hx
          · rename_i hh; rw [if_neg hh]
        rw [this, allG_err (by decide)]
    · rw [allG_err hc] at h2
      injection h2 with h2
      exact absurd h2 hc
theorem idS_ok (n : Int) : errL (idS n) = 0 ∧ formS (idS n) = idS n := by
  by_cases h : idE n = 0
  · obtain ⟨-, -, h1, -, -, -, -, h2⟩ := id_ok h
    exact ⟨h1, h2⟩
  · rw [idS, if_neg h]; exact ⟨by decide, rfl⟩
/-- All of the first ones, and of the rest -/
theorem all_folds (n : Int) (L M : List (List Pc)) (h : allE n (L ++ M) = 0) : allE n L = 0 ∧ errL (allR n L) = 0 ∧
    (allE (outL (allR n L)) M = 5 ∨ (allE (outL (allR n L)) M = 0 ∧ cmpE (allR n L) (allR (outL (allR n L)) M) = 0 ∧ cmpR (allR n L) (allR (outL (allR n L)) M) = allR n (L ++ M))) := by
  unfold allE allR at *
  rw [allG_append] at h ⊢
  by_cases h1 : (allG (idS n) (idE n) L).1 = 0
  · obtain ⟨i1, i2⟩ := idS_ok n
    obtain ⟨a1, a2⟩ := allG_ok L _ _ i1 i2 h1
    refine ⟨h1, a1, ?_⟩
    rw [h1] at h ⊢
    generalize (allG (idS n) (idE n) L).2 = a at *
    obtain ⟨-, -, c3, c4⟩ := cmp_id a1
    have en : normS a = a := by rw [normS, if_pos a1, a2]
    rw [(idE_of a1).2]
    rw [en] at c4
    refine allG_fold M (idS (outL a)) c3 ?_
    rw [c4]
    exact Prod.ext h rfl
  · rw [allG_err h1] at h; exact absurd h h1

end Go.Proofs.Ytibmnkdeepmabaa
