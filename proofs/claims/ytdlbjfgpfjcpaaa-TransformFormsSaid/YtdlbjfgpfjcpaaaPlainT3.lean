/- Plain: deltas transformed against several ones. No program. No condition. -/
import Derived.Test.YtdlbjfgpfjcpaaaPlainT2
namespace Go.Proofs.Ytdlbjfgpfjcpaaa

/-- what a delta that only removes keeps of another one's result -/
def passB (A D : List Int) (j : Int) : Bool := decide (A.getD j.toNat 0 < 0 ∨ A.getD j.toNat 0 ∈ D)
theorem filter_all {P : Int → Bool} {L : List Int} (h : ∀ j ∈ L, P j = true) : L.filter P = L := List.filter_eq_self.2 h
theorem filter_none {P : Int → Bool} {L : List Int} (h : ∀ j ∈ L, P j = false) : L.filter P = [] := by
  apply List.filter_eq_nil_iff.2
  intro a ha
  simp [h a ha]
theorem at_drop {A B C : List Int} {c : Nat} (h : B ++ C = A.drop c) {j : Nat} (hj : j < B.length) : A.getD (c + j) 0 = B.getD j 0 := by
  have e : A[c + j]? = B[j]? := by
    rw [← List.getElem?_drop, ← h, List.getElem?_append_left hj]
  rw [List.getD_eq_getElem?_getD, List.getD_eq_getElem?_getD, e]
theorem Tr.filter {f : Bool} {x y T S : List Pc} (h : Tr f x y T S) : (∀ q ∈ y, q.k ≠ 2) → Val x → Val y → ∀ (A D : List Int) (c : Nat) (p : Int), 0 ≤ p → Ytdlbjfgpfjcpaaa.atoms p x = A.drop c → c ≤ A.length →
    (∀ i, p ≤ i → (i ∈ D ↔ i ∈ Ytdlbjfgpfjcpaaa.atoms p y)) → Ytdlbjfgpfjcpaaa.atoms c T = (rng c (Ytdlbjfgpfjcpaaa.outL x).toNat).filter (passB A D) := by
  induction h with
  | nil => intros; rfl
  | @insA t x y T S ht hf _ ih =>
    intro hn hx hy A D c p h0 h1 h3 hD
    have v := (Val.cons.1 hx).2
    have vo := Val.outL v
    have eo : Ytdlbjfgpfjcpaaa.outL (⟨2, 0, t⟩ :: x) = t.length + Ytdlbjfgpfjcpaaa.outL x := rfl
    rw [eo, show ((t.length : Int) + Ytdlbjfgpfjcpaaa.outL x).toNat = t.length + (Ytdlbjfgpfjcpaaa.outL x).toNat by omega, rng_add, List.filter_append]
    have h1' : lets t ++ Ytdlbjfgpfjcpaaa.atoms p x = A.drop c := by
      rw [← h1]; simp only [Ytdlbjfgpfjcpaaa.atoms, show ¬ ((2 : Int) = 1) by omega, if_false, List.nil_append, Int.add_zero]
    have hl : c + t.length ≤ A.length := by
      have := congrArg List.length h1'
      rw [List.length_append, lets_len, List.length_drop] at this
      omega
    have e : Ytdlbjfgpfjcpaaa.atoms c (⟨1, t.length, []⟩ :: T) = rng c t.length ++ Ytdlbjfgpfjcpaaa.atoms (c + t.length) T := by
      simp only [Ytdlbjfgpfjcpaaa.atoms, lets_nil, List.nil_append, if_true]
      rfl
    rw [e, filter_all ?_, show (c : Int) + (t.length : Int) = ((c + t.length : Nat) : Int) by omega,
      ih hn v hy A D (c + t.length) p h0 (by rw [← List.drop_drop, ← h1', ← lets_len t, List.drop_left]) hl hD]
    intro j hj
    have hj' := mem_rng.1 hj
    have g := at_drop h1' (j := (j - c).toNat) (by rw [lets_len]; omega)
    rw [show c + (j - c).toNat = j.toNat by omega] at g
    have hlt : (lets t).getD (j - c).toNat 0 < 0 := by
      apply mem_lets (t := t)
      rw [List.getD_eq_getElem?_getD, List.getElem?_eq_getElem (by rw [lets_len]; omega)]
      exact List.getElem_mem _
    unfold passB
    rw [g]
    exact decide_eq_true (.inl hlt)
  | @insB t x y T S ht hf _ ih =>
    intro hn
    exact absurd rfl (hn _ (List.mem_cons_self ..))
  | @byte k l n x y x' y' T S hk hl h1 cx cy hlen _ ih =>
    intro hn hx hy A D c p h0 e1 h3 hD
    have vx := cx.val hk hx
    have vy := cy.val hl hy
    have vo := Val.outL vx
    have hn' : ∀ q ∈ y', q.k ≠ 2 := by
      rcases cy with rfl | ⟨m, r, hm, rfl, rfl⟩
      · exact fun q hq => hn q (List.mem_cons_of_mem _ hq)
      · intro q hq
        rcases List.mem_cons.1 hq with rfl | hq
        · dsimp only; omega
        · exact hn q (List.mem_cons_of_mem _ hq)
    have hD' : ∀ i, p + n ≤ i → (i ∈ D ↔ i ∈ Ytdlbjfgpfjcpaaa.atoms (p + n) y') := by
      intro i hi
      rw [hD i (by omega), cy.atoms h1, List.mem_append]
      constructor
      · rintro (h | h)
        · split at h
          · have := mem_rng.1 h; omega
          · cases h
        · exact h
      · exact .inr
    have hin : ∀ i, p ≤ i → i < p + n → (i ∈ D ↔ l = 1) := by
      intro i hi hi'
      rw [hD i hi, cy.atoms h1, List.mem_append]
      have ng : i ∉ Ytdlbjfgpfjcpaaa.atoms (p + n) y' := fun hh => by have := vy.ge (a := p + n) (by omega) hh (by omega); omega
      constructor
      · rintro (h | h)
        · split at h
          · assumption
          · cases h
        · exact absurd h ng
      · intro h
        left
        rw [if_pos h]
        exact mem_rng.2 ⟨hi, by omega⟩
    rw [(cx.io hk h1).2]
    rw [cx.atoms h1] at e1
    rcases hk with rfl | rfl
    · simp only [if_true] at e1 ⊢
      have hA : c + n.toNat ≤ A.length := by
        have := congrArg List.length e1
        rw [List.length_append, rng_len, List.length_drop] at this
        omega
      have stepA : Ytdlbjfgpfjcpaaa.atoms (p + n) x' = A.drop (c + n.toNat) := by
        rw [← List.drop_drop, ← e1]
        exact (rng_drop p n.toNat _).symm
      have ii := ih hn' vx vy A D (c + n.toNat) (p + n) (by omega) stepA hA hD'
      rw [show (n + Ytdlbjfgpfjcpaaa.outL x').toNat = n.toNat + (Ytdlbjfgpfjcpaaa.outL x').toNat by omega, rng_add, List.filter_append, show (c : Int) + (n.toNat : Int) = ((c + n.toNat : Nat) : Int) by omega, ← ii]
      have val : ∀ j ∈ rng c n.toNat, A.getD j.toNat 0 = p + (j - c) := by
        intro j hj
        have hj' := mem_rng.1 hj
        have g := at_drop e1 (j := (j - c).toNat) (by rw [rng_len]; omega)
        rw [show c + (j - c).toNat = j.toNat by omega] at g
        rw [g, List.getD_eq_getElem?_getD, List.getElem?_eq_getElem (by rw [rng_len]; omega)]
        simp only [rng, List.getElem_map, List.getElem_range, Option.getD_some]
        omega
      rcases hl with rfl | rfl
      · rw [filter_all ?_]
        · simp only [List.cons_append, List.nil_append, Ytdlbjfgpfjcpaaa.atoms, lets_nil, if_true]
          rw [show (c : Int) + n = ((c + n.toNat : Nat) : Int) by omega]
        · intro j hj
          have hj' := mem_rng.1 hj
          unfold passB
          rw [val j hj]
          simp only [decide_eq_true_eq]
          right
          exact (hin _ (by omega) (by omega)).2 rfl
      · rw [filter_none ?_]
        · simp only [List.cons_append, List.nil_append, Ytdlbjfgpfjcpaaa.atoms, lets_nil, show ¬ ((3 : Int) = 1) by omega, if_false]
          rw [show (c : Int) + n = ((c + n.toNat : Nat) : Int) by omega]
        · intro j hj
          have hj' := mem_rng.1 hj
          unfold passB
          rw [val j hj]
          simp only [decide_eq_false_iff_not]
          rintro (h | h)
          · omega
          · have := (hin _ (by omega) (by omega)).1 h
            omega
    · simp only [show ¬ ((3 : Int) = 1) by omega, if_false, List.nil_append, Int.zero_add] at e1 ⊢
      exact ih hn' vx vy A D c (p + n) (by omega) e1 h3 hD'
/-- where a delta that only inserts lands -/
def segG (G : Int → Int) (i : Int) : List Int := if i < 0 then [i] else rng (G i) (G (i + 1) - G i).toNat
/-- nothing is inserted directly behind what is removed -/
def ndF : Bool → List Pc → Prop
  | _, [] => True
  | d, p :: r => (p.k = 2 → d = false) ∧ ndF (if p.k = 3 then true else if p.k = 1 then false else d) r
theorem ndF.weak : ∀ {l : List Pc} {d : Bool}, ndF true l → ndF d l
  | [], _, _ => trivial
  | p :: r, d, h => by
    refine ⟨fun h2 => absurd (h.1 h2) (by simp), ?_⟩
    have h2 := h.2
    split
    · rename_i e; rwa [if_pos e] at h2
    · rename_i e
      rw [if_neg e] at h2
      split
      · rename_i e'; rwa [if_pos e'] at h2
      · rename_i e'
        rw [if_neg e'] at h2
        exact ndF.weak h2
theorem nd_right : ∀ (x : List Pc) (p a c : Int), Val x → ndF true x → p ≤ a → rightP p (c + outL x) (runsS a c x) = c := by
  intro x
  induction x with
  | nil => intro p a c _ _ _; simp [runsS, rightP, outL]
  | cons q x ih =>
    intro p a c h hd hp
    obtain ⟨v1, v2⟩ := Val.cons.1 h
    rcases Pc.valid_cases v1 with ⟨u, v, z⟩ | ⟨u, v, z⟩ | ⟨u, v, z⟩
    · rw [runsS, if_pos u, rightP]
      dsimp only
      rw [if_pos (by omega)]
      omega
    · have h2 := hd.2
      rw [if_pos u] at h2
      rw [runsS, if_neg (by omega), if_pos u]
      have := ih p (a + q.n) c v2 h2 (by omega)
      rw [show outL (q :: x) = outL x by simp [outL, Pc.out, u]]
      exact this
    · exact absurd (hd.1 u) (by simp)
theorem right_ge : ∀ (xs : List Rn) (i e c : Int), c ≤ e → (∀ r ∈ xs, c ≤ r.o ∧ 0 ≤ r.n) → c ≤ rightP i e xs := by
  intro xs
  induction xs with
  | nil => intro i e c h _; exact h
  | cons r l ih =>
    intro i e c h hr
    rw [rightP]
    split
    · have := (hr r (List.mem_cons_self ..)).1; omega
    · exact ih i e c h fun q hq => hr q (List.mem_cons_of_mem _ hq)
theorem right_up : ∀ (xs : List Rn) (i j e : Int), xs.Pairwise upR → (∀ r ∈ xs, 1 ≤ r.n ∧ r.o + r.n ≤ e) → i ≤ j → rightP i e xs ≤ rightP j e xs := by
  intro xs i j e hp hr hij
  refine (le_right xs _ hp hr).2 ?_
  have := (le_right xs (rightP i e xs) hp hr).1 (Int.le_refl _)
  exact ⟨this.1, fun a b h k => this.2 a b h (by omega)⟩
theorem flat_lets (G : Int → Int) (t : List UInt8) : (lets t).flatMap (segG G) = lets t := by
  induction t with
  | nil => rfl
  | cons b t ih =>
    have e : lets (b :: t) = (-1 - (b.toNat : Int)) :: lets t := rfl
    rw [e, List.flatMap_cons, ih, segG, if_pos (by omega)]
    rfl
theorem flat_rng (G : Int → Int) (n : Nat) : ∀ a : Int, 0 ≤ a → (∀ i j, a ≤ i → i ≤ j → G i ≤ G j) → (rng a n).flatMap (segG G) = rng (G a) (G (a + n) - G a).toNat := by
  induction n with
  | zero => intro a _ _; simp [rng_zero]
  | succ n ih =>
    intro a h0 hm
    have m1 := hm a (a + 1) (by omega) (by omega)
    have m2 := hm (a + 1) (a + 1 + n) (by omega) (by omega)
    rw [rng_succ, List.flatMap_cons, ih (a + 1) (by omega) (fun i j h h' => hm i j (by omega) h'), segG, if_neg (by omega)]
    rw [show a + ((n + 1 : Nat) : Int) = a + 1 + n by omega, show (G (a + 1 + n) - G a).toNat = (G (a + 1) - G a).toNat + (G (a + 1 + n) - G (a + 1)).toNat by omega, rng_add,
      show G a + ((G (a + 1) - G a).toNat : Int) = G (a + 1) by omega]
theorem Cut.nd {k n : Int} {x x' : List Pc} (h : Cut k n x x') (hk : k = 1 ∨ k = 3) {d : Bool} (hd : ndF d x) : ndF (if k = 3 then true else false) x' := by
  rcases h with rfl | ⟨m, r, hm, rfl, rfl⟩
  · have := hd.2
    rcases hk with rfl | rfl
    · simpa using this
    · simpa using this
  · have := hd.2
    refine ⟨fun h2 => ?_, ?_⟩
    · dsimp only at h2; omega
    · rcases hk with rfl | rfl
      · simpa using this
      · simpa using this
theorem rightP_cut {i e a o n m : Int} {xs : List Rn} (h : a + n ≤ i) (_hn : 1 ≤ n) (_hm : 1 ≤ m) : rightP i e (⟨a, o, n + m⟩ :: xs) = rightP i e (⟨a + n, o + n, m⟩ :: xs) := by
  rw [rightP, rightP]
  dsimp only
  by_cases hi : i < a + n + m
  · rw [if_pos (by omega), if_pos hi]; omega
  · rw [if_neg (by omega), if_neg hi]
/-- behind a cut the positions are the same -/
theorem Cut.right {k n : Int} {x x' : List Pc} (h : Cut k n x x') (hk : k = 1 ∨ k = 3) (h1 : 1 ≤ n) (a o e i : Int) (hi : a + n ≤ i) : rightP i e (runsS a o x) = rightP i e (runsS (a + n) (if k = 1 then o + n else o) x') := by
  rcases h with rfl | ⟨m, r, hm, rfl, rfl⟩
  · rcases hk with rfl | rfl
    · rw [runsS, if_pos rfl, rightP, if_neg (by dsimp only; omega)]
      rfl
    · rw [runsS]
      simp
  · rcases hk with rfl | rfl
    · rw [runsS, if_pos rfl, runsS, if_pos rfl]
      dsimp only
      rw [rightP_cut hi h1 hm]
      simp only [if_true]
      rw [show a + (n + m) = a + n + m by omega, show o + (n + m) = o + n + m by omega]
    · rw [runsS, runsS]
      simp only [show ¬ ((3 : Int) = 1) by omega, if_false, if_true]
      rw [show a + (n + m) = a + n + m by omega]
theorem Tr.psi {f : Bool} {x y T S : List Pc} (h : Tr f x y T S) : f = true → (∀ q ∈ y, q.k ≠ 3) → Val x → Val y → ∀ (d : Bool), ndF d x → ∀ (G : Int → Int) (c p : Int), 0 ≤ p →
    (∀ i, p ≤ i → G i = rightP i (c + Ytdlbjfgpfjcpaaa.outL x) (runsS p c x)) → Ytdlbjfgpfjcpaaa.atoms c T = rng c (G p - c).toNat ++ (Ytdlbjfgpfjcpaaa.atoms p y).flatMap (segG G) := by
  induction h with
  | nil =>
    intro _ _ _ _ d _ G c p h0 hG
    have := hG p (Int.le_refl _)
    simp only [runsS, rightP, Ytdlbjfgpfjcpaaa.outL] at this
    rw [this]
    simp [Ytdlbjfgpfjcpaaa.atoms, rng_zero]
  | @insA t x y T S ht hf _ ih =>
    intro ef hn hx hy d hd G c p h0 hG
    have v := (Val.cons.1 hx).2
    have eo : Ytdlbjfgpfjcpaaa.outL (⟨2, 0, t⟩ :: x) = t.length + Ytdlbjfgpfjcpaaa.outL x := rfl
    have er : runsS p c (⟨2, 0, t⟩ :: x) = runsS p (c + t.length) x := by rw [runsS]; simp
    rw [eo, er] at hG
    have hd' : ndF d x := by have := hd.2; simpa using this
    have ii := ih ef hn v hy d hd' G (c + t.length) p h0 (fun i hi => by rw [hG i hi]; congr 1; omega)
    have e : Ytdlbjfgpfjcpaaa.atoms c (⟨1, t.length, []⟩ :: T) = rng c t.length ++ Ytdlbjfgpfjcpaaa.atoms (c + t.length) T := by
      simp only [Ytdlbjfgpfjcpaaa.atoms, lets_nil, List.nil_append, if_true]
      rfl
    have g : c + t.length ≤ G p := by
      rw [hG p (Int.le_refl _)]
      refine right_ge _ _ _ _ (by have := Val.outL v; omega) fun r hr => ?_
      have := runs_in x p (c + t.length) v r hr
      omega
    rw [e, ii, ← List.append_assoc]
    congr 1
    rw [show (G p - c).toNat = t.length + (G p - (c + t.length)).toNat by omega, rng_add]
  | @insB t x y T S ht hf _ ih =>
    intro ef hn hx hy d hd G c p h0 hG
    have v := (Val.cons.1 hy).2
    have kx : kd x ≠ 2 := by
      rcases hf with h | h
      · rw [ef] at h; cases h
      · exact h
    have ii := ih ef (fun q hq => hn q (List.mem_cons_of_mem _ hq)) hx v d hd G c p h0 hG
    have gp : G p = c := by
      rw [hG p (Int.le_refl _)]
      refine nd_right x p p c hx ?_ (Int.le_refl _)
      cases x with
      | nil => trivial
      | cons q x =>
        refine ⟨fun h2 => absurd h2 kx, ?_⟩
        have := hd.2
        rcases Pc.valid_cases (Val.cons.1 hx).1 with ⟨u, v, z⟩ | ⟨u, v, z⟩ | ⟨u, v, z⟩
        · simpa [u] using this
        · simpa [u] using this
        · exact absurd u kx
    have e : Ytdlbjfgpfjcpaaa.atoms c (⟨2, 0, t⟩ :: T) = lets t ++ Ytdlbjfgpfjcpaaa.atoms c T := by
      simp only [Ytdlbjfgpfjcpaaa.atoms, show ¬ ((2 : Int) = 1) by omega, if_false, List.nil_append, Int.add_zero]
    have e' : Ytdlbjfgpfjcpaaa.atoms p (⟨2, 0, t⟩ :: y) = lets t ++ Ytdlbjfgpfjcpaaa.atoms p y := by
      simp only [Ytdlbjfgpfjcpaaa.atoms, show ¬ ((2 : Int) = 1) by omega, if_false, List.nil_append, Int.add_zero]
    rw [e, e', List.flatMap_append, flat_lets, ii, gp]
    simp [rng_zero]
  | @byte k l n x y x' y' T S hk hl h1 cx cy hlen _ ih =>
    intro ef hn hx hy d hd G c p h0 hG
    have vx := cx.val hk hx
    have vy := cy.val hl hy
    have vo := Val.outL vx
    have hl1 : l = 1 := by
      rcases cy with rfl | ⟨m, r, hm, rfl, rfl⟩
      · have := hn _ (List.mem_cons_self ..); dsimp only at this; omega
      · have := hn _ (List.mem_cons_self ..); dsimp only at this; omega
    subst hl1
    have hn' : ∀ q ∈ y', q.k ≠ 3 := by
      rcases cy with rfl | ⟨m, r, hm, rfl, rfl⟩
      · exact fun q hq => hn q (List.mem_cons_of_mem _ hq)
      · intro q hq
        rcases List.mem_cons.1 hq with rfl | hq
        · dsimp only; omega
        · exact hn q (List.mem_cons_of_mem _ hq)
    have up := (runs_up x p c hx).1
    have inn := runs_in x p c hx
    have mono : ∀ i j, p ≤ i → i ≤ j → G i ≤ G j := by
      intro i j hi hj
      rw [hG i hi, hG j (by omega)]
      exact right_up _ _ _ _ up (fun r hr => by have := inn r hr; omega) hj
    have eo := (cx.io hk h1).2
    have g0 : c ≤ G p := by
      rw [hG p (Int.le_refl _)]
      exact right_ge _ _ _ _ (by have := Val.outL hx; omega) fun r hr => by have := inn r hr; omega
    have hG' : ∀ i, p + n ≤ i → G i = rightP i ((if k = 1 then c + n else c) + Ytdlbjfgpfjcpaaa.outL x') (runsS (p + n) (if k = 1 then c + n else c) x') := by
      intro i hi
      rw [hG i (by omega), cx.right hk h1 p c _ i hi]
      congr 1
      rw [eo]
      split <;> omega
    have g1 : (if k = 1 then c + n else c) ≤ G (p + n) := by
      rw [hG' _ (Int.le_refl _)]
      refine right_ge _ _ _ _ (by omega) fun r hr => ?_
      have := runs_in x' _ _ vx r hr
      omega
    have ii := ih ef hn' vx vy _ (cx.nd hk hd) G (if k = 1 then c + n else c) (p + n) (by omega) hG'
    have gm := mono p (p + n) (Int.le_refl _) (by omega)
    have e : Ytdlbjfgpfjcpaaa.atoms c ((if k = 1 then [⟨1, n, []⟩] else []) ++ T) = (if k = 1 then rng c n.toNat else []) ++ Ytdlbjfgpfjcpaaa.atoms (if k = 1 then c + n else c) T := by
      rcases hk with rfl | rfl
      · simp only [if_true, List.cons_append, List.nil_append, Ytdlbjfgpfjcpaaa.atoms, lets_nil]
      · simp
    rw [e, ii, cy.atoms h1]
    simp only [if_true]
    rw [List.flatMap_append, flat_rng G n.toNat p h0 mono, show p + (n.toNat : Int) = p + n by omega, ← List.append_assoc, ← List.append_assoc]
    congr 1
    have r1 : rng c (G p - c).toNat ++ rng (G p) (G (p + n) - G p).toNat = rng c (G (p + n) - c).toNat := by
      rw [show (G (p + n) - c).toNat = (G p - c).toNat + (G (p + n) - G p).toNat by omega, rng_add, show c + ((G p - c).toNat : Int) = G p by omega]
    rw [r1]
    rcases hk with rfl | rfl
    · simp only [if_true] at g1 ⊢
      rw [show (G (p + n) - c).toNat = n.toNat + (G (p + n) - (c + n)).toNat by omega, rng_add, show c + (n.toNat : Int) = c + n by omega]
    · simp
def endF : Bool → List Pc → Bool
  | d, [] => d
  | d, p :: r => endF (if p.k = 3 then true else if p.k = 1 then false else d) r
theorem ndF_append : ∀ (l m : List Pc) (d : Bool), ndF d (l ++ m) ↔ ndF d l ∧ ndF (endF d l) m := by
  intro l
  induction l with
  | nil => intro m d; simp [ndF, endF]
  | cons p r ih =>
    intro m d
    simp only [List.cons_append, ndF, endF, ih, and_assoc]
theorem endF_append : ∀ (l m : List Pc) (d : Bool), endF d (l ++ m) = endF (endF d l) m := by
  intro l
  induction l with
  | nil => intro m d; rfl
  | cons p r ih => intro m d; simp only [List.cons_append, endF, ih]
def NdS (s : FSt) : Prop := ndF false s.out ∧ endF false s.out = false
theorem flushed_nd {o : List Pc} {text : List UInt8} {gone : Int} (h : ndF false o) (he : endF false o = false) : ndF false (flushed o text gone) := by
  unfold flushed
  have h1 : ndF false (if text = [] then o else o ++ [⟨2, 0, text⟩]) := by
    split
    · exact h
    · exact (ndF_append _ _ _).2 ⟨h, fun _ => he, trivial⟩
  dsimp only
  split
  · exact (ndF_append _ _ _).2 ⟨h1, fun h2 => by dsimp only at h2; omega, trivial⟩
  · exact h1
theorem addRetain_nd {o : List Pc} {p : Pc} (h : ndF false o) (hp : p.k = 1) : ndF false (addRetain o p) ∧ endF false (addRetain o p) = false := by
  have one : ∀ {o : List Pc} {q : Pc}, ndF false o → q.k = 1 → ndF false (o ++ [q]) ∧ endF false (o ++ [q]) = false := by
    intro o q h hq
    refine ⟨(ndF_append _ _ _).2 ⟨h, fun h2 => by omega, trivial⟩, ?_⟩
    rw [endF_append]
    simp [endF, hq]
  unfold addRetain
  split
  · rename_i q hq
    split
    · rename_i h1
      refine one ?_ h1
      have hne : o ≠ [] := by intro hh; rw [hh] at hq; cases hq
      have := List.dropLast_concat_getLast hne
      rw [← this] at h
      exact ((ndF_append _ _ _).1 h).1
    · exact one h hp
  · have := one (o := []) (q := p) trivial hp
    simpa using this
theorem formStep_nd {s : FSt} (h : NdS s) {p : Pc} (hp : p.valid = true) : NdS (formStep s p) := by
  unfold formStep
  split
  · exact h
  · split
    · exact h
    · have hk : p.k = 1 := by rcases Pc.valid_cases hp with ⟨u, v, z⟩ | ⟨u, v, z⟩ | ⟨u, v, z⟩ <;> first | exact u | contradiction
      exact addRetain_nd (flushed_nd h.1 h.2) hk
theorem formS_nd {l : List Pc} (h : Val l) : ndF false (formS l) := by
  have key : ∀ (l : List Pc) (s : FSt), Val l → NdS s → NdS (l.foldl formStep s) := by
    intro l
    induction l with
    | nil => intro s _ h; exact h
    | cons p r ih =>
      intro s h hs
      obtain ⟨v1, v2⟩ := Val.cons.1 h
      exact ih _ v2 (formStep_nd hs v1)
  have := key l ⟨[], [], 0⟩ h ⟨trivial, rfl⟩
  exact flushed_nd this.1 this.2
theorem iN_zero : ∀ {l : List Pc}, Val l → (iN l = 0 ↔ ∀ q ∈ l, q.k ≠ 2) := by
  intro l
  induction l with
  | nil => intro _; simp [iN]
  | cons p r ih =>
    intro h
    obtain ⟨v1, v2⟩ := Val.cons.1 h
    have := (kN_in v2).2.2.2.1
    simp only [iN, List.mem_cons, forall_eq_or_imp]
    rw [← ih v2]
    split
    · rename_i h2
      have : 1 ≤ p.t.length := by
        rcases Pc.valid_cases v1 with ⟨u, v, z⟩ | ⟨u, v, z⟩ | ⟨u, v, z⟩
        · omega
        · omega
        · exact List.length_pos_iff.2 z
      constructor
      · intro hh; omega
      · rintro ⟨a, _⟩; exact absurd h2 a
    · rename_i h2
      constructor
      · intro hh; exact ⟨h2, by omega⟩
      · rintro ⟨_, a⟩; omega
theorem rN_zero : ∀ {l : List Pc}, Val l → (rN l = 0 ↔ ∀ q ∈ l, q.k ≠ 3) := by
  intro l
  induction l with
  | nil => intro _; simp [rN]
  | cons p r ih =>
    intro h
    obtain ⟨v1, v2⟩ := Val.cons.1 h
    have := (kN_in v2).2.2.2.2
    simp only [rN, List.mem_cons, forall_eq_or_imp]
    rw [← ih v2]
    split
    · rename_i h2
      have : 1 ≤ p.n := by rcases Pc.valid_cases v1 with ⟨u, v, z⟩ | ⟨u, v, z⟩ | ⟨u, v, z⟩ <;> omega
      constructor
      · intro hh; omega
      · rintro ⟨a, _⟩; exact absurd h2 a
    · rename_i h2
      constructor
      · intro hh; exact ⟨h2, by omega⟩
      · rintro ⟨_, a⟩; omega
theorem Cut.all {k n : Int} {x x' : List Pc} (h : Cut k n x x') {P : Int → Prop} (hp : ∀ q ∈ x, P q.k) : P k ∧ ∀ q ∈ x', P q.k := by
  rcases h with rfl | ⟨m, r, hm, rfl, rfl⟩
  · exact ⟨hp _ (List.mem_cons_self ..), fun q hq => hp q (List.mem_cons_of_mem _ hq)⟩
  · have h1 := hp _ (List.mem_cons_self ..)
    refine ⟨h1, fun q hq => ?_⟩
    rcases List.mem_cons.1 hq with rfl | hq
    · exact h1
    · exact hp q (List.mem_cons_of_mem _ hq)
/-- a kind other than Retain that y lacks, the transformed delta lacks -/
theorem Tr.lacks {f : Bool} {x y T S : List Pc} (h : Tr f x y T S) {k₀ : Int} (h0 : k₀ ≠ 1) : (∀ q ∈ y, q.k ≠ k₀) → ∀ q ∈ T, q.k ≠ k₀ := by
  induction h with
  | nil => intro _ q hq; cases hq
  | insA ht hf _ ih =>
    intro hy q hq
    rcases List.mem_cons.1 hq with rfl | hq
    · exact fun hh => h0 hh.symm
    · exact ih hy q hq
  | insB ht hf _ ih =>
    intro hy q hq
    rcases List.mem_cons.1 hq with rfl | hq
    · exact hy _ (List.mem_cons_self ..)
    · exact ih (fun q hq => hy q (List.mem_cons_of_mem _ hq)) q hq
  | @byte k l n x y x' y' T S hk hl h1 cx cy hlen _ ih =>
    intro hy q hq
    obtain ⟨a, b⟩ := cy.all (P := fun k => k ≠ k₀) hy
    rcases List.mem_append.1 hq with hq | hq
    · split at hq
      · rw [List.mem_singleton.1 hq]; exact a
      · cases hq
    · exact ih b q hq
theorem tr_filter {f : Bool} {a b : List Pc} (ha : errL a = 0) (hb : errL b = 0) (h : inL a = inL b) (hi : iN b = 0) :
    atoms 0 (trS f a b) = (rng 0 (outL a).toNat).filter (passB (atoms 0 a) (atoms 0 b)) ∧ iN (trS f a b) = 0 := by
  have va := ((errL_iff a).1 ha).2.1
  have vb := ((errL_iff b).1 hb).2.1
  obtain ⟨a1, a2, a3⟩ := formS_ok va
  obtain ⟨b1, b2, b3⟩ := formS_ok vb
  have r := trS_rel f ha hb h
  have ni := (iN_zero b1).1 (by rw [(kN_form vb).2.1, hi])
  have := r.filter ni a1 b1 (atoms 0 a) (atoms 0 b) 0 0 (Int.le_refl _) (by rw [a2]; rfl) (Nat.zero_le _) (fun i _ => by rw [b2])
  rw [outL_formS va] at this
  exact ⟨this, (iN_zero (trS_ok f ha hb h).1.val).2 (r.lacks (by omega) ni)⟩
def rightG (l : List Pc) (i : Int) : Int := rightP i (outL l) (runsT false l)
theorem rightG_form {l : List Pc} (h : Val l) (i : Int) : rightG (formS l) i = rightG l i := by
  have := right_congr (formS_ok h).1 h false false (fun i j => KT.form h) (by rw [ioL_form h]) i
  simp only [ioL] at this
  exact this
theorem rightG_mono {l : List Pc} (h : Val l) {i j : Int} (hij : i ≤ j) : rightG l i ≤ rightG l j := right_mono h false hij
theorem rightG_bd {l : List Pc} (h : Val l) (i : Int) : 0 ≤ rightG l i ∧ rightG l i ≤ outL l := right_bd h false i
theorem tr_psi {a b : List Pc} (ha : errL a = 0) (hb : errL b = 0) (h : inL a = inL b) (hr : rN b = 0) :
    atoms 0 (trS true a b) = rng 0 (rightG a 0).toNat ++ (atoms 0 b).flatMap (segG (rightG a)) ∧ rN (trS true a b) = 0 := by
  have va := ((errL_iff a).1 ha).2.1
  have vb := ((errL_iff b).1 hb).2.1
  obtain ⟨a1, a2, a3⟩ := formS_ok va
  obtain ⟨b1, b2, b3⟩ := formS_ok vb
  have r := trS_rel true ha hb h
  have nr := (rN_zero b1).1 (by rw [(kN_form vb).2.2, hr])
  have := r.psi rfl nr a1 b1 false (formS_nd va) (rightG a) 0 0 (Int.le_refl _) (fun i _ => by
    rw [← rightG_form va, rightG, Int.zero_add]; rfl)
  rw [b2, Int.sub_zero] at this
  exact ⟨this, (rN_zero (trS_ok true ha hb h).1.val).2 (r.lacks (by omega) nr)⟩
theorem psi_comp (P Q : Int → Int) (hP : ∀ i j, 0 ≤ i → i ≤ j → P i ≤ P j) (hQ : ∀ i j, 0 ≤ i → i ≤ j → Q i ≤ Q j) (p0 : ∀ i, 0 ≤ P i) (q0 : ∀ i, 0 ≤ Q i) (L : List Int) :
    rng 0 (Q 0).toNat ++ (rng 0 (P 0).toNat ++ L.flatMap (segG P)).flatMap (segG Q) = rng 0 (Q (P 0)).toNat ++ L.flatMap (segG fun i => Q (P i)) := by
  have h0 := p0 0
  have hq := hQ 0 (P 0) (Int.le_refl _) h0
  have hq0 := q0 0
  rw [List.flatMap_append, flat_rng Q _ 0 (Int.le_refl _) hQ, ← List.append_assoc, show (0 : Int) + ((P 0).toNat : Int) = P 0 by omega]
  congr 1
  · rw [show (Q (P 0)).toNat = (Q 0).toNat + (Q (P 0) - Q 0).toNat by omega, rng_add, show (0 : Int) + ((Q 0).toNat : Int) = Q 0 by omega]
  · rw [List.flatMap_assoc]
    congr 1
    funext i
    by_cases hi : i < 0
    · simp [segG, hi]
    · have m := hP i (i + 1) (by omega) (by omega)
      have pi := p0 i
      rw [segG, if_neg hi, flat_rng Q _ (P i) pi (fun a b h h' => hQ a b (by omega) h'), show P i + ((P (i + 1) - P i).toNat : Int) = P (i + 1) by omega, segG, if_neg hi]
theorem bases_del {x y d : List Pc} (h1 : trE true x d = 0) (h2 : trE true y (trR true x d) = 0) (hc : cmpE x y = 0) (hi : iN d = 0) :
    trE true (cmpR x y) d = 0 ∧ trR true (cmpR x y) d = trR true y (trR true x d) := by
  obtain ⟨hx, hd, he, hf⟩ := trE_ok h1
  obtain ⟨hy, hr, he', hf'⟩ := trE_ok h2
  obtain ⟨r1, r2, r3, r4, r5, r6, r7⟩ := trR_ok h1
  obtain ⟨c1, c2, c3, c4, c5, c6, c7⟩ := cmpR_ok hc
  have vx := ((errL_iff x).1 hx).2.1
  have vy := ((errL_iff y).1 hy).2.1
  obtain ⟨f1, f2⟩ := tr_filter (f := true) hx hd he hi
  have ir : iN (trR true x d) = 0 := by rw [r1, (kN_form (trS_ok true hx hd he).1.val).2.1, f2]
  obtain ⟨g1, g2⟩ := tr_filter (f := true) hy hr he' ir
  obtain ⟨k1, k2⟩ := tr_filter (f := true) c2 hd (by rw [c4, he]) hi
  have e : formS (trS true (cmpR x y) d) = formS (trS true y (trR true x d)) := by
    have t1 := trS_ok true c2 hd (by rw [c4, he])
    have t2 := trS_ok true hy hr he'
    refine formS_congr t1.1.val t2.1.val (by rw [t1.2.2, t2.2.2, c5]) ?_
    rw [k1, g1, c5, c6, r6, f1]
    apply List.filter_congr
    intro j hj
    have hj' := mem_rng.1 hj
    have oy := Val.outL vy
    have ly := Val.atoms_len vy 0
    unfold passB
    apply decide_eq_decide.2
    have hb : ∀ z, (atoms 0 y)[j.toNat]? = some z → z < outL x := fun z hz => by
      have := Val.inB vy z (List.mem_of_getElem? hz)
      rw [← r4, ← he']; exact this
    obtain ⟨z, hz⟩ : ∃ z, (atoms 0 y)[j.toNat]? = some z := ⟨_, List.getElem?_eq_getElem (by omega)⟩
    have e1 : (atoms 0 y).getD j.toNat 0 = z := by rw [List.getD_eq_getElem?_getD, hz]; rfl
    have e2 : (compA (atoms 0 x) (atoms 0 y)).getD j.toNat 0 = if z < 0 then z else (atoms 0 x).getD z.toNat 0 := by
      rw [List.getD_eq_getElem?_getD, compA_at.2 ⟨z, hz, rfl⟩]; rfl
    rw [e1, e2]
    have hz' := hb z hz
    by_cases z0 : z < 0
    · simp [z0]
    · rw [if_neg z0, List.mem_filter]
      have mz : z ∈ rng 0 (outL x).toNat := mem_rng.2 ⟨by omega, by omega⟩
      simp only [z0, mz, false_or, true_and, decide_eq_true_eq]
  have e0 : trE true (cmpR x y) d = 0 := by rw [trE, if_pos c2, if_pos hd, if_pos (by rw [c4, he]), e, if_pos hf']
  exact ⟨e0, by rw [trR, if_pos e0, trR, if_pos h2, e]⟩
theorem bases_ins {x y d : List Pc} (h1 : trE true x d = 0) (h2 : trE true y (trR true x d) = 0) (hc : cmpE x y = 0) (hr0 : rN d = 0) (hz : iN x = 0 ∨ rN y = 0) :
    trE true (cmpR x y) d = 0 ∧ trR true (cmpR x y) d = trR true y (trR true x d) := by
  obtain ⟨hx, hd, he, hf⟩ := trE_ok h1
  obtain ⟨hy, hr, he', hf'⟩ := trE_ok h2
  obtain ⟨r1, r2, r3, r4, r5, r6, r7⟩ := trR_ok h1
  obtain ⟨c1, c2, c3, c4, c5, c6, c7⟩ := cmpR_ok hc
  have vx := ((errL_iff x).1 hx).2.1
  have vy := ((errL_iff y).1 hy).2.1
  obtain ⟨f1, f2⟩ := tr_psi hx hd he hr0
  have ir : rN (trR true x d) = 0 := by rw [r1, (kN_form (trS_ok true hx hd he).1.val).2.2, f2]
  obtain ⟨g1, g2⟩ := tr_psi hy hr he' ir
  obtain ⟨k1, k2⟩ := tr_psi c2 hd (by rw [c4, he]) hr0
  have ez : ∀ i, rightG (cmpR x y) i = rightG y (rightG x i) := fun i => cmp_right_eq hc hz i
  have e : formS (trS true (cmpR x y) d) = formS (trS true y (trR true x d)) := by
    have t1 := trS_ok true c2 hd (by rw [c4, he])
    have t2 := trS_ok true hy hr he'
    refine formS_congr t1.1.val t2.1.val (by rw [t1.2.2, t2.2.2, c5]) ?_
    rw [k1, g1, r6, f1, psi_comp (rightG x) (rightG y) (fun i j _ h => rightG_mono vx h) (fun i j _ h => rightG_mono vy h) (fun i => (rightG_bd vx i).1) (fun i => (rightG_bd vy i).1), ez,
      show rightG (cmpR x y) = fun i => rightG y (rightG x i) from funext ez]
  have e0 : trE true (cmpR x y) d = 0 := by rw [trE, if_pos c2, if_pos hd, if_pos (by rw [c4, he]), e, if_pos hf']
  exact ⟨e0, by rw [trR, if_pos e0, trR, if_pos h2, e]⟩
/-- a delta transformed against several ones -/
def rebG : List Pc → Int → List (List Pc) → Int × List Pc
  | d, e, [] => (e, if e = 0 then d else [])
  | d, e, b :: r => if e = 0 then rebG (trR true b d) (trE true b d) r else (e, [])
def rebE (d : List Pc) (L : List (List Pc)) : Int := (rebG (normS d) (errL d) L).1
def rebR (d : List Pc) (L : List (List Pc)) : List Pc := (rebG (normS d) (errL d) L).2
theorem rebG_err {d : List Pc} {e : Int} (h : e ≠ 0) (L : List (List Pc)) : rebG d e L = (e, []) := by
  cases L <;> simp [rebG, h]
theorem rebG_append : ∀ (L M : List (List Pc)) (d : List Pc) (e : Int), rebG d e (L ++ M) = rebG (rebG d e L).2 (rebG d e L).1 M := by
  intro L
  induction L with
  | nil =>
    intro M d e
    by_cases h : e = 0
    · simp [rebG, h]
    · rw [List.nil_append, rebG_err h, rebG_err h, rebG_err h]
  | cons b r ih =>
    intro M d e
    by_cases h : e = 0
    · rw [List.cons_append, rebG, if_pos h, ih, rebG, if_pos h]
    · rw [rebG_err h, rebG_err h, rebG_err h]
theorem rebG_ok : ∀ (L : List (List Pc)) (d : List Pc) (e : Int), errL d = 0 → formS d = d → (rebG d e L).1 = 0 → errL (rebG d e L).2 = 0 ∧ formS (rebG d e L).2 = (rebG d e L).2 := by
  intro L
  induction L with
  | nil =>
    intro d e h1 h2 h
    have : e = 0 := h
    simp only [rebG, if_pos this]
    exact ⟨h1, h2⟩
  | cons b r ih =>
    intro d e h1 h2 h
    by_cases he : e = 0
    · rw [rebG, if_pos he] at h ⊢
      by_cases ht : trE true b d = 0
      · obtain ⟨r1, r2, r3, r4, r5, r6, r7⟩ := trR_ok ht
        exact ih _ _ r2 r5 h
      · rw [rebG_err ht] at h
        exact absurd h ht
    · rw [rebG_err he] at h
      exact absurd h he
theorem normS_fine (d : List Pc) : errL (normS d) = 0 ∧ formS (normS d) = normS d := by
  by_cases h : errL d = 0
  · obtain ⟨a1, a2, a3, a4, a5, a6⟩ := norm_ok h
    exact ⟨a2, by rw [a1, formS_idem ((errL_iff d).1 h).2.1]⟩
  · have e : normS d = [] := by rw [normS, if_neg h]
    rw [e]
    exact ⟨rfl, rfl⟩
theorem reb_fine {d : List Pc} {L : List (List Pc)} (h : rebE d L = 0) : errL (rebR d L) = 0 ∧ normS (rebR d L) = rebR d L := by
  obtain ⟨a, b⟩ := rebG_ok L (normS d) (errL d) (normS_fine d).1 (normS_fine d).2 h
  refine ⟨a, ?_⟩
  show normS (rebG (normS d) (errL d) L).2 = _
  rw [normS, if_pos a, b]
  rfl
theorem reb_bad {d : List Pc} {L : List (List Pc)} (M : List (List Pc)) (h : rebE d L ≠ 0) : rebE d (L ++ M) = rebE d L ∧ rebR d (L ++ M) = [] := by
  have : (rebG (normS d) (errL d) L).1 ≠ 0 := h
  unfold rebE rebR
  rw [rebG_append, rebG_err this]
  exact ⟨rfl, rfl⟩
/-- in one call or in two -/
theorem reb_step {d : List Pc} {L : List (List Pc)} (M : List (List Pc)) (h : rebE d L = 0) : rebE d (L ++ M) = rebE (rebR d L) M ∧ rebR d (L ++ M) = rebR (rebR d L) M := by
  obtain ⟨a, b⟩ := reb_fine h
  have h' : (rebG (normS d) (errL d) L).1 = 0 := h
  unfold rebE rebR at *
  rw [rebG_append, a, b, h']
  exact ⟨rfl, rfl⟩
theorem reb_one {d x : List Pc} (hd : errL d = 0) : rebE d [x] = trE true x d ∧ rebR d [x] = trR true x d := by
  have key : trE true x (normS d) = trE true x d ∧ trR true x (normS d) = trR true x d := by
    obtain ⟨a1, a2, a3, a4, a5, a6⟩ := norm_ok hd
    have vd := ((errL_iff d).1 hd).2.1
    have e : trS true x (normS d) = trS true x d := by unfold trS; rw [a1, formS_idem vd]
    have e2 : trE true x (normS d) = trE true x d := by unfold trE; rw [e, a2, a3, if_pos hd]; simp
    exact ⟨e2, by unfold trR; rw [e, e2]⟩
  unfold rebE rebR
  rw [hd]
  simp only [rebG, if_true, key]
  refine ⟨trivial, ?_⟩
  split
  · rfl
  · rename_i h; rw [trR_none h]
theorem reb_err {d : List Pc} {L : List (List Pc)} (h : rebE d L = 0) : errL d = 0 := Classical.byContradiction fun hh => by
  unfold rebE at h
  rw [rebG_err hh] at h
  exact hh h
/-- and the same as against the composition -/
theorem reb_bases {d x y : List Pc} (h : rebE d [x, y] = 0) (hc : cmpE x y = 0) (hz : iN d = 0 ∨ (rN d = 0 ∧ (iN x = 0 ∨ rN y = 0))) : rebE d [cmpR x y] = 0 ∧ rebR d [cmpR x y] = rebR d [x, y] := by
  have hd := reb_err h
  obtain ⟨o1, o2⟩ := reb_one (x := x) hd
  have hx : rebE d [x] = 0 := Classical.byContradiction fun hh => by
    have := (reb_bad [y] hh).1
    rw [show [x] ++ [y] = [x, y] from rfl, h] at this
    exact hh this.symm
  obtain ⟨s1, s2⟩ := reb_step [y] hx
  rw [show [x] ++ [y] = [x, y] from rfl] at s1 s2
  obtain ⟨b1, b2⟩ := reb_fine hx
  obtain ⟨p1, p2⟩ := reb_one (x := y) b1
  rw [s2, p2, o2]
  rw [s1, p1, o2] at h
  rw [o1] at hx
  obtain ⟨q1, q2⟩ := reb_one (x := cmpR x y) hd
  rw [q1, q2]
  rcases hz with hz | ⟨h0, hz⟩
  · exact bases_del hx h hc hz
  · exact bases_ins hx h hc h0 hz

end Go.Proofs.Ytdlbjfgpfjcpaaa
