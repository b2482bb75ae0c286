/- Plain: a delta transformed against another one: both ways lead to the same. No program. No condition. -/
import Derived.Test.YtdlbjfgpfjcpaaaPlainC3
import Derived.Test.YtdlbjfgpfjcpaaaComposed
namespace Go.Proofs.Ytdlbjfgpfjcpaaa

/-- the kind of the next piece -/
def kd : List Pc → Int
  | [] => 0
  | p :: _ => p.k
/-- the pieces of a transformed delta, with enough fuel -/
def trF : Nat → Bool → List Pc → List Pc → List Pc
  | 0, _, _, _ => []
  | _ + 1, _, [], [] => []
  | n + 1, f, [], q :: y => if q.k = 2 then ⟨2, 0, q.t⟩ :: trF n f [] y else []
  | n + 1, f, p :: x, [] => if p.k = 2 then ⟨1, p.t.length, []⟩ :: trF n f x [] else []
  | n + 1, f, p :: x, q :: y =>
    if p.k = 2 ∧ (f = true ∨ q.k ≠ 2) then ⟨1, p.t.length, []⟩ :: trF n f x (q :: y)
    else if q.k = 2 then ⟨2, 0, q.t⟩ :: trF n f (p :: x) y
    else (if p.k = 1 then [⟨q.k, min p.n q.n, []⟩] else []) ++ trF n f (takL (min p.n q.n) p x) (takL (min p.n q.n) q y)
/-- a list begins with n bytes of a kind -/
def Cut (k n : Int) (x x' : List Pc) : Prop := x = ⟨k, n, []⟩ :: x' ∨ ∃ m r, 1 ≤ m ∧ x' = ⟨k, m, []⟩ :: r ∧ x = ⟨k, n + m, []⟩ :: r
/-- both transformed deltas -/
inductive Tr : Bool → List Pc → List Pc → List Pc → List Pc → Prop
  | nil {f : Bool} : Tr f [] [] [] []
  | insA {f : Bool} {t : List UInt8} {x y T S : List Pc} : t ≠ [] → (f = true ∨ kd y ≠ 2) → Tr f x y T S → Tr f (⟨2, 0, t⟩ :: x) y (⟨1, t.length, []⟩ :: T) (⟨2, 0, t⟩ :: S)
  | insB {f : Bool} {t : List UInt8} {x y T S : List Pc} : t ≠ [] → (f = false ∨ kd x ≠ 2) → Tr f x y T S → Tr f x (⟨2, 0, t⟩ :: y) (⟨2, 0, t⟩ :: T) (⟨1, t.length, []⟩ :: S)
  | byte {f : Bool} {k l n : Int} {x y x' y' T S : List Pc} : (k = 1 ∨ k = 3) → (l = 1 ∨ l = 3) → 1 ≤ n → Cut k n x x' → Cut l n y y' → x'.length + y'.length + 1 ≤ x.length + y.length → Tr f x' y' T S →
      Tr f x y ((if k = 1 then [⟨l, n, []⟩] else []) ++ T) ((if l = 1 then [⟨k, n, []⟩] else []) ++ S)
theorem Cut.of {p : Pc} (h : p.valid = true) (h2 : p.k ≠ 2) {n : Int} (_h1 : 1 ≤ n) (hn : n ≤ p.n) (r : List Pc) : Cut p.k n (p :: r) (takL n p r) := by
  obtain ⟨k, m, t⟩ := p
  have ht : t = [] := by rcases Pc.valid_cases h with ⟨x, y, z⟩ | ⟨x, y, z⟩ | ⟨x, y, z⟩ <;> first | exact z | exact absurd x h2
  subst ht
  dsimp only at h2 hn ⊢
  by_cases e : n < m
  · right
    refine ⟨m - n, r, by omega, ?_, by rw [show n + (m - n) = m by omega]⟩
    rw [takL, if_pos (by simp only [lg, List.length_nil]; omega)]
    simp [splB, h2]
  · left
    rw [takL, if_neg (by simp only [lg, List.length_nil]; omega), show n = m by omega]
theorem tr_rel : ∀ (n : Nat) (f : Bool) (x y : List Pc), Val x → Val y → inL x = inL y → szL x + szL y ≤ n → Tr f x y (trF n f x y) (trF n (!f) y x) := by
  intro n
  induction n with
  | zero =>
    intro f x y hx hy hi hs
    have ex : x = [] := Classical.byContradiction fun hh => by have := Val.szL hx hh; omega
    have ey : y = [] := Classical.byContradiction fun hh => by have := Val.szL hy hh; omega
    subst ex ey
    exact .nil
  | succ n ih =>
    intro f x y hx hy hi hs
    have two : ∀ {p : Pc}, p.valid = true → p.k = 2 → p = ⟨2, 0, p.t⟩ ∧ p.t ≠ [] := by
      intro p hp h2
      rcases Pc.valid_cases hp with ⟨u, v, z⟩ | ⟨u, v, z⟩ | ⟨u, v, z⟩
      · omega
      · omega
      · refine ⟨?_, z⟩
        obtain ⟨k, m, t⟩ := p
        dsimp only at u v
        rw [u, v]
    have one : ∀ {p : Pc}, p.valid = true → p.k ≠ 2 → 1 ≤ p.n ∧ (p.k = 1 ∨ p.k = 3) ∧ lg p = p.n := by
      intro p hp h2
      rcases Pc.valid_cases hp with ⟨u, v, z⟩ | ⟨u, v, z⟩ | ⟨u, v, z⟩
      · exact ⟨v, .inl u, by simp [lg, z]⟩
      · exact ⟨v, .inr u, by simp [lg, z]⟩
      · exact absurd u h2
    cases x with
    | nil =>
      cases y with
      | nil => exact .nil
      | cons q y =>
        obtain ⟨v1, v2⟩ := Val.cons.1 hy
        have hin := Val.inL v2
        have hg := lg_pos v1
        have hq : q.k = 2 := Classical.byContradiction fun hh => by have := (one v1 hh).1; simp only [inL] at hi; omega
        obtain ⟨e, ht⟩ := two v1 hq
        have e1 : trF (n + 1) f [] (q :: y) = ⟨2, 0, q.t⟩ :: trF n f [] y := by rw [trF, if_pos hq]
        have e2 : trF (n + 1) (!f) (q :: y) [] = ⟨1, q.t.length, []⟩ :: trF n (!f) y [] := by rw [trF, if_pos hq]
        rw [e1, e2]
        have := Tr.insB ht (f := f) (.inr (by simp [kd])) (ih f [] y hx v2 (by rw [e] at hi; simpa [inL] using hi) (by simp only [szL] at hs ⊢; omega))
        rw [← e] at this
        rw [e] at this ⊢
        exact this
    | cons p x =>
      obtain ⟨u1, u2⟩ := Val.cons.1 hx
      have hgp := lg_pos u1
      cases y with
      | nil =>
        have hin := Val.inL u2
        have hp : p.k = 2 := Classical.byContradiction fun hh => by have := (one u1 hh).1; simp only [inL] at hi; omega
        obtain ⟨e, ht⟩ := two u1 hp
        have e1 : trF (n + 1) f (p :: x) [] = ⟨1, p.t.length, []⟩ :: trF n f x [] := by rw [trF, if_pos hp]
        have e2 : trF (n + 1) (!f) [] (p :: x) = ⟨2, 0, p.t⟩ :: trF n (!f) [] x := by rw [trF, if_pos hp]
        rw [e1, e2]
        have := Tr.insA ht (f := f) (.inr (by simp [kd])) (ih f x [] u2 hy (by rw [e] at hi; simpa [inL] using hi) (by simp only [szL] at hs ⊢; omega))
        rw [e] at this ⊢
        exact this
      | cons q y =>
        obtain ⟨v1, v2⟩ := Val.cons.1 hy
        have hgq := lg_pos v1
        by_cases hA : p.k = 2 ∧ (f = true ∨ q.k ≠ 2)
        · obtain ⟨e, ht⟩ := two u1 hA.1
          have e1 : trF (n + 1) f (p :: x) (q :: y) = ⟨1, p.t.length, []⟩ :: trF n f x (q :: y) := by rw [trF, if_pos hA]
          have e2 : trF (n + 1) (!f) (q :: y) (p :: x) = ⟨2, 0, p.t⟩ :: trF n (!f) (q :: y) x := by
            rw [trF, if_neg (fun hh => by rcases hA.2 with h | h; · rw [h] at hh; rcases hh.2 with h' | h'; · cases h'
                                                                    · exact h' hA.1
                                          · exact h hh.1), if_pos hA.1]
          rw [e1, e2]
          have := Tr.insA ht (f := f) (y := q :: y) hA.2 (ih f x (q :: y) u2 hy (by rw [e] at hi; simpa [inL] using hi) (by simp only [szL] at hs ⊢; omega))
          rw [e] at this ⊢
          exact this
        · by_cases hB : q.k = 2
          · obtain ⟨e, ht⟩ := two v1 hB
            have e1 : trF (n + 1) f (p :: x) (q :: y) = ⟨2, 0, q.t⟩ :: trF n f (p :: x) y := by rw [trF, if_neg hA, if_pos hB]
            have hf : f = false ∨ p.k ≠ 2 := by
              by_cases h2 : p.k = 2
              · left
                cases f with
                | false => rfl
                | true => exact absurd ⟨h2, .inl rfl⟩ hA
              · exact .inr h2
            have e2 : trF (n + 1) (!f) (q :: y) (p :: x) = ⟨1, q.t.length, []⟩ :: trF n (!f) y (p :: x) := by
              rw [trF, if_pos ⟨hB, by rcases hf with h | h; · left; rw [h]; rfl
                                      · exact .inr h⟩]
            rw [e1, e2]
            have := Tr.insB ht (f := f) (x := p :: x) hf (ih f (p :: x) y hx v2 (by rw [e] at hi; simpa [inL] using hi) (by simp only [szL] at hs ⊢; omega))
            rw [e] at this ⊢
            exact this
          · have hA' : p.k ≠ 2 := fun hh => hA ⟨hh, .inr hB⟩
            obtain ⟨p1, pk, pl⟩ := one u1 hA'
            obtain ⟨q1, qk, ql⟩ := one v1 hB
            have m1 : 1 ≤ min p.n q.n := by omega
            have a := tak_ok u1 m1 (by rw [pl]; omega) x u2
            have b := tak_ok v1 m1 (by rw [ql]; omega) y v2
            have e1 : trF (n + 1) f (p :: x) (q :: y) = (if p.k = 1 then [⟨q.k, min p.n q.n, []⟩] else []) ++ trF n f (takL (min p.n q.n) p x) (takL (min p.n q.n) q y) := by rw [trF, if_neg hA, if_neg hB]
            have e2 : trF (n + 1) (!f) (q :: y) (p :: x) = (if q.k = 1 then [⟨p.k, min p.n q.n, []⟩] else []) ++ trF n (!f) (takL (min p.n q.n) q y) (takL (min p.n q.n) p x) := by
              rw [trF, if_neg (fun hh => hB hh.1), if_neg hA', Int.min_comm q.n p.n]
            rw [e1, e2]
            have c1 := Cut.of u1 hA' m1 (by omega) x
            have c2 := Cut.of v1 hB m1 (by omega) y
            have tn : ∀ {p : Pc} {r : List Pc} {n : Int}, p.valid = true → p.k ≠ 2 → 1 ≤ n → n ≤ p.n → inL (takL n p r) + n = inL (p :: r) := by
              intro p r n hv h2 h1 hn
              rcases Cut.of hv h2 h1 hn r with e | ⟨m, r', h, e, e'⟩
              · rw [e]; simp only [inL]; omega
              · rw [e, e']; simp only [inL]; omega
            refine Tr.byte pk qk m1 c1 c2 ?_ (ih f _ _ a.2.2.2.1 b.2.2.2.1 ?_ ?_)
            · have l1 := a.2.2.2.2.1
              have l2 := b.2.2.2.2.1
              have l3 := a.2.2.2.2.2.1
              have l4 := b.2.2.2.2.2.1
              simp only [List.length_cons]
              by_cases h : p.n ≤ q.n
              · have := l3 (by rw [pl]; omega); omega
              · have := l4 (by rw [ql]; omega); omega
            · have := tn (r := x) u1 hA' m1 (by omega)
              have := tn (r := y) v1 hB m1 (by omega)
              omega
            · have := a.2.2.2.2.2.2.1
              have := b.2.2.2.2.2.2.1
              omega
theorem rng_drop (p : Int) (n : Nat) (z : List Int) : (rng p n ++ z).drop n = z := List.drop_left' (rng_len p n)
theorem rng_take (p : Int) (n : Nat) (z : List Int) : (rng p n ++ z).take n = rng p n := List.take_left' (rng_len p n)
theorem Cut.atoms {k n : Int} {x x' : List Pc} (h : Cut k n x x') (h1 : 1 ≤ n) (a : Int) : Ytdlbjfgpfjcpaaa.atoms a x = (if k = 1 then rng a n.toNat else []) ++ Ytdlbjfgpfjcpaaa.atoms (a + n) x' := by
  rcases h with rfl | ⟨m, r, hm, rfl, rfl⟩
  · simp only [Ytdlbjfgpfjcpaaa.atoms, lets_nil, List.nil_append]
  · simp only [Ytdlbjfgpfjcpaaa.atoms, lets_nil, List.nil_append]
    rw [show (n + m).toNat = n.toNat + m.toNat by omega, show a + (n + m) = a + n + m by omega]
    by_cases hk : k = 1
    · simp only [if_pos hk]
      rw [rng_add, List.append_assoc, show a + (n.toNat : Int) = a + n by omega]
    · simp only [if_neg hk, List.nil_append]
theorem Cut.io {k n : Int} {x x' : List Pc} (h : Cut k n x x') (hk : k = 1 ∨ k = 3) (_h1 : 1 ≤ n) : Ytdlbjfgpfjcpaaa.inL x = n + Ytdlbjfgpfjcpaaa.inL x' ∧ Ytdlbjfgpfjcpaaa.outL x = (if k = 1 then n else 0) + Ytdlbjfgpfjcpaaa.outL x' := by
  rcases h with rfl | ⟨m, r, hm, rfl, rfl⟩
  · refine ⟨rfl, ?_⟩
    simp only [Ytdlbjfgpfjcpaaa.outL, Pc.out]
    rcases hk with rfl | rfl <;> simp
  · refine ⟨by simp only [Ytdlbjfgpfjcpaaa.inL]; omega, ?_⟩
    simp only [Ytdlbjfgpfjcpaaa.outL, Pc.out]
    rcases hk with rfl | rfl
    · simp; omega
    · simp
theorem Cut.smp {k n : Int} {x x' : List Pc} (h : Cut k n x x') (hk : k = 1 ∨ k = 3) (h1 : 1 ≤ n) (hs : SmP x) : SmP x' ∧ n ≤ 1048576 := by
  rcases h with rfl | ⟨m, r, hm, rfl, rfl⟩
  · have := SmP.cons.1 hs
    exact ⟨this.2, this.1.2.1⟩
  · obtain ⟨⟨a, b, c⟩, d⟩ := SmP.cons.1 hs
    dsimp only at b
    refine ⟨SmP.cons.2 ⟨⟨?_, by dsimp only; omega, by simp⟩, d⟩, by omega⟩
    rcases hk with rfl | rfl
    · exact Pc.valid1 rfl hm rfl
    · exact Pc.valid3 rfl hm rfl
theorem Tr.smp {f : Bool} {x y T S : List Pc} (h : Tr f x y T S) (hx : SmP x) (hy : SmP y) : SmP T ∧ SmP S ∧ T.length ≤ x.length + y.length ∧ S.length ≤ x.length + y.length := by
  induction h with
  | nil => exact ⟨hx, hx, by simp, by simp⟩
  | insA ht hf _ ih =>
    obtain ⟨⟨a, b, c⟩, d⟩ := SmP.cons.1 hx
    dsimp only at c
    obtain ⟨i1, i2, i3, i4⟩ := ih d hy
    have : 1 ≤ List.length _ := List.length_pos_iff.2 ht
    exact ⟨SmP.cons.2 ⟨⟨Pc.valid1 rfl (by dsimp only; omega) rfl, by dsimp only; omega, by simp⟩, i1⟩, SmP.cons.2 ⟨⟨a, b, c⟩, i2⟩, by simp only [List.length_cons]; omega, by simp only [List.length_cons]; omega⟩
  | insB ht hf _ ih =>
    obtain ⟨⟨a, b, c⟩, d⟩ := SmP.cons.1 hy
    dsimp only at c
    obtain ⟨i1, i2, i3, i4⟩ := ih hx d
    have : 1 ≤ List.length _ := List.length_pos_iff.2 ht
    exact ⟨SmP.cons.2 ⟨⟨a, b, c⟩, i1⟩, SmP.cons.2 ⟨⟨Pc.valid1 rfl (by dsimp only; omega) rfl, by dsimp only; omega, by simp⟩, i2⟩, by simp only [List.length_cons]; omega, by simp only [List.length_cons]; omega⟩
  | @byte k l n x y x' y' T S hk hl h1 cx cy hlen _ ih =>
    obtain ⟨a1, a2⟩ := cx.smp hk h1 hx
    obtain ⟨b1, b2⟩ := cy.smp hl h1 hy
    obtain ⟨i1, i2, i3, i4⟩ := ih a1 b1
    have va : ∀ {k : Int}, (k = 1 ∨ k = 3) → (⟨k, n, []⟩ : Pc).valid = true := by
      rintro k (rfl | rfl)
      · exact Pc.valid1 rfl h1 rfl
      · exact Pc.valid3 rfl h1 rfl
    refine ⟨?_, ?_, ?_, ?_⟩
    · split
      · exact SmP.cons.2 ⟨⟨va hl, a2, by simp⟩, i1⟩
      · exact i1
    · split
      · exact SmP.cons.2 ⟨⟨va hk, a2, by simp⟩, i2⟩
      · exact i2
    · rw [List.length_append]; split <;> simp only [List.length_cons, List.length_nil] <;> omega
    · rw [List.length_append]; split <;> simp only [List.length_cons, List.length_nil] <;> omega
/-- it fits the result of the other one -/
theorem Tr.inn {f : Bool} {x y T S : List Pc} (h : Tr f x y T S) : Ytdlbjfgpfjcpaaa.inL T = Ytdlbjfgpfjcpaaa.outL x ∧ Ytdlbjfgpfjcpaaa.inL S = Ytdlbjfgpfjcpaaa.outL y ∧ Ytdlbjfgpfjcpaaa.outL T = Ytdlbjfgpfjcpaaa.outL S := by
  induction h with
  | nil => exact ⟨rfl, rfl, rfl⟩
  | insA ht hf _ ih => simp only [Ytdlbjfgpfjcpaaa.inL, Ytdlbjfgpfjcpaaa.outL, Pc.out]; simp; omega
  | insB ht hf _ ih => simp only [Ytdlbjfgpfjcpaaa.inL, Ytdlbjfgpfjcpaaa.outL, Pc.out]; simp; omega
  | @byte k l n x y x' y' T S hk hl h1 cx cy hlen _ ih =>
    rw [inL_append, inL_append, outL_append, outL_append, (cx.io hk h1).2, (cy.io hl h1).2]
    rcases hk with rfl | rfl <;> rcases hl with rfl | rfl <;> simp [Ytdlbjfgpfjcpaaa.inL, Ytdlbjfgpfjcpaaa.outL, Pc.out] <;> omega
/-- THE STAGE'S THEOREM: both ways lead to the same -/
theorem Tr.conv {f : Bool} {x y T S : List Pc} (h : Tr f x y T S) : ∀ (A B : List Int) (c d : Nat) (p : Int), Ytdlbjfgpfjcpaaa.atoms p x = A.drop c → Ytdlbjfgpfjcpaaa.atoms p y = B.drop d → c ≤ A.length → d ≤ B.length →
    compA A (Ytdlbjfgpfjcpaaa.atoms c T) = compA B (Ytdlbjfgpfjcpaaa.atoms d S) := by
  induction h with
  | nil => intros; rfl
  | @insA t x y T S ht hf _ ih =>
    intro A B c d p h1 h2 h3 h4
    simp only [Ytdlbjfgpfjcpaaa.atoms, show ¬ ((2 : Int) = 1) by omega, if_false, if_true, lets_nil, List.nil_append, Int.add_zero] at h1 ⊢
    have hl : c + t.length ≤ A.length := by
      have := congrArg List.length h1
      rw [List.length_append, lets_len, List.length_drop] at this
      omega
    rw [compA_append, compA_append, compA_lets, show ((t.length : Int)).toNat = t.length by omega, compA_rng A c t.length hl, ← h1, show lets t ++ Ytdlbjfgpfjcpaaa.atoms p x = lets t ++ Ytdlbjfgpfjcpaaa.atoms p x from rfl,
      show (lets t ++ Ytdlbjfgpfjcpaaa.atoms p x).take t.length = lets t by rw [← lets_len t, List.take_left], show (c : Int) + (t.length : Int) = ((c + t.length : Nat) : Int) by omega]
    rw [ih A B (c + t.length) d p (by rw [← List.drop_drop, ← h1, ← lets_len t, List.drop_left]) h2 hl h4]
  | @insB t x y T S ht hf _ ih =>
    intro A B c d p h1 h2 h3 h4
    simp only [Ytdlbjfgpfjcpaaa.atoms, show ¬ ((2 : Int) = 1) by omega, if_false, if_true, lets_nil, List.nil_append, Int.add_zero] at h2 ⊢
    have hl : d + t.length ≤ B.length := by
      have := congrArg List.length h2
      rw [List.length_append, lets_len, List.length_drop] at this
      omega
    rw [compA_append, compA_append, compA_lets, show ((t.length : Int)).toNat = t.length by omega, compA_rng B d t.length hl, ← h2,
      show (lets t ++ Ytdlbjfgpfjcpaaa.atoms p y).take t.length = lets t by rw [← lets_len t, List.take_left], show (d : Int) + (t.length : Int) = ((d + t.length : Nat) : Int) by omega]
    rw [ih A B c (d + t.length) p h1 (by rw [← List.drop_drop, ← h2, ← lets_len t, List.drop_left]) h3 hl]
  | @byte k l n x y x' y' T S hk hl h1 cx cy hlen _ ih =>
    intro A B c d p e1 e2 h3 h4
    rw [cx.atoms h1] at e1
    rw [cy.atoms h1] at e2
    have hA : k = 1 → c + n.toNat ≤ A.length := fun hh => by
      have := congrArg List.length e1
      rw [if_pos hh, List.length_append, rng_len, List.length_drop] at this
      omega
    have hB : l = 1 → d + n.toNat ≤ B.length := fun hh => by
      have := congrArg List.length e2
      rw [if_pos hh, List.length_append, rng_len, List.length_drop] at this
      omega
    have stepA : k = 1 → Ytdlbjfgpfjcpaaa.atoms (p + n) x' = A.drop (c + n.toNat) := fun hh => by
      rw [← List.drop_drop, ← e1, if_pos hh]
      exact (rng_drop p n.toNat _).symm
    have stepB : l = 1 → Ytdlbjfgpfjcpaaa.atoms (p + n) y' = B.drop (d + n.toNat) := fun hh => by
      rw [← List.drop_drop, ← e2, if_pos hh]
      exact (rng_drop p n.toNat _).symm
    have cast : ∀ c : Nat, (c : Int) + n = ((c + n.toNat : Nat) : Int) := fun c => by omega
    rcases hk with rfl | rfl <;> rcases hl with rfl | rfl
    · simp only [if_true, List.cons_append, List.nil_append, Ytdlbjfgpfjcpaaa.atoms, lets_nil]
      rw [compA_append, compA_append, compA_rng A c _ (hA rfl), compA_rng B d _ (hB rfl), ← e1, ← e2]
      simp only [if_true]
      have r1 := rng_take p n.toNat
      rw [r1, r1, cast, cast, ih A B _ _ (p + n) (stepA rfl) (stepB rfl) (hA rfl) (hB rfl)]
    · simp only [if_true, show ¬ ((3 : Int) = 1) by omega, if_false, List.cons_append, List.nil_append, Ytdlbjfgpfjcpaaa.atoms, lets_nil] at e2 ⊢
      rw [cast, ih A B _ d (p + n) (stepA rfl) e2 (hA rfl) h4]
    · simp only [if_true, show ¬ ((3 : Int) = 1) by omega, if_false, List.cons_append, List.nil_append, Ytdlbjfgpfjcpaaa.atoms, lets_nil] at e1 ⊢
      rw [cast, ih A B c _ (p + n) e1 (stepB rfl) h3 (hB rfl)]
    · simp only [show ¬ ((3 : Int) = 1) by omega, if_false, List.nil_append] at e1 e2 ⊢
      exact ih A B c d (p + n) e1 e2 h3 h4
theorem Cut.val {k n : Int} {x x' : List Pc} (h : Cut k n x x') (hk : k = 1 ∨ k = 3) (hx : Val x) : Val x' := by
  rcases h with rfl | ⟨m, r, hm, rfl, rfl⟩
  · exact (Val.cons.1 hx).2
  · refine Val.cons.2 ⟨?_, (Val.cons.1 hx).2⟩
    rcases hk with rfl | rfl
    · exact Pc.valid1 rfl hm rfl
    · exact Pc.valid3 rfl hm rfl
theorem Val.ge {l : List Pc} (h : Val l) {a : Int} (ha : 0 ≤ a) {i : Int} (hi : i ∈ Ytdlbjfgpfjcpaaa.atoms a l) (h0 : 0 ≤ i) : a ≤ i ∧ i < a + Ytdlbjfgpfjcpaaa.inL l := by
  have := (h.rising ha).mem i hi
  omega
/-- and keep what both keep -/
theorem Tr.kept {f : Bool} {x y T S : List Pc} (h : Tr f x y T S) : ∀ (A : List Int) (c : Nat) (p : Int), 0 ≤ p → Val x → Val y → Ytdlbjfgpfjcpaaa.atoms p x = A.drop c → c ≤ A.length →
    ∀ i : Int, 0 ≤ i → (i ∈ compA A (Ytdlbjfgpfjcpaaa.atoms c T) ↔ i ∈ Ytdlbjfgpfjcpaaa.atoms p x ∧ i ∈ Ytdlbjfgpfjcpaaa.atoms p y) := by
  induction h with
  | nil => intro A c p _ _ _ _ _ i _; simp [Ytdlbjfgpfjcpaaa.atoms, compA]
  | @insA t x y T S ht hf _ ih =>
    intro A c p h0 hx hy h1 h3 i hi
    have v := (Val.cons.1 hx).2
    simp only [Ytdlbjfgpfjcpaaa.atoms, show ¬ ((2 : Int) = 1) by omega, if_false, if_true, lets_nil, List.nil_append, Int.add_zero] at h1 ⊢
    have hl : c + t.length ≤ A.length := by
      have := congrArg List.length h1
      rw [List.length_append, lets_len, List.length_drop] at this
      omega
    rw [compA_append, show ((t.length : Int)).toNat = t.length by omega, compA_rng A c t.length hl, ← h1,
      show (lets t ++ Ytdlbjfgpfjcpaaa.atoms p x).take t.length = lets t by rw [← lets_len t, List.take_left], show (c : Int) + (t.length : Int) = ((c + t.length : Nat) : Int) by omega]
    have := ih A (c + t.length) p h0 v hy (by rw [← List.drop_drop, ← h1, ← lets_len t, List.drop_left]) hl i hi
    have nl : i ∉ lets t := fun hh => by have := mem_lets hh; omega
    simp only [List.mem_append, nl, false_or]
    exact this
  | @insB t x y T S ht hf _ ih =>
    intro A c p h0 hx hy h1 h3 i hi
    have v := (Val.cons.1 hy).2
    simp only [Ytdlbjfgpfjcpaaa.atoms, show ¬ ((2 : Int) = 1) by omega, if_false, List.nil_append, Int.add_zero]
    have nl : i ∉ lets t := fun hh => by have := mem_lets hh; omega
    rw [compA_append, compA_lets]
    simp only [List.mem_append, nl, false_or]
    exact ih A c p h0 hx v h1 h3 i hi
  | @byte k l n x y x' y' T S hk hl h1 cx cy hlen _ ih =>
    intro A c p h0 hx hy e1 h3 i hi
    have vx := cx.val hk hx
    have vy := cy.val hl hy
    rw [cx.atoms h1] at e1 ⊢
    rw [cy.atoms h1]
    have hA : k = 1 → c + n.toNat ≤ A.length := fun hh => by
      have := congrArg List.length e1
      rw [if_pos hh, List.length_append, rng_len, List.length_drop] at this
      omega
    have stepA : k = 1 → Ytdlbjfgpfjcpaaa.atoms (p + n) x' = A.drop (c + n.toNat) := fun hh => by
      rw [← List.drop_drop, ← e1, if_pos hh]
      exact (rng_drop p n.toNat _).symm
    have cast : ∀ c : Nat, (c : Int) + n = ((c + n.toNat : Nat) : Int) := fun c => by omega
    have gx := fun hh => vx.ge (a := p + n) (by omega) (i := i) hh hi
    have gy := fun hh => vy.ge (a := p + n) (by omega) (i := i) hh hi
    have mr : i ∈ rng p n.toNat ↔ p ≤ i ∧ i < p + n := by rw [mem_rng]; omega
    rcases hk with rfl | rfl <;> rcases hl with rfl | rfl
    · simp only [if_true, List.cons_append, List.nil_append, Ytdlbjfgpfjcpaaa.atoms, lets_nil]
      rw [compA_append, compA_rng A c _ (hA rfl), ← e1]
      simp only [if_true]
      have r1 := rng_take p n.toNat
      rw [r1, cast]
      have := ih A _ (p + n) (by omega) vx vy (stepA rfl) (hA rfl) i hi
      simp only [List.mem_append, this]
      constructor
      · rintro (a | ⟨a, b⟩)
        · exact ⟨.inl a, .inl a⟩
        · exact ⟨.inr a, .inr b⟩
      · rintro ⟨a | a, b | b⟩
        · exact .inl a
        · exact .inl a
        · exact .inl b
        · exact .inr ⟨a, b⟩
    · simp only [if_true, show ¬ ((3 : Int) = 1) by omega, if_false, List.cons_append, List.nil_append, Ytdlbjfgpfjcpaaa.atoms, lets_nil]
      rw [cast, ih A _ (p + n) (by omega) vx vy (stepA rfl) (hA rfl) i hi]
      simp only [List.mem_append]
      constructor
      · rintro ⟨a, b⟩; exact ⟨.inr a, b⟩
      · rintro ⟨a | a, b⟩
        · have := gy b; have := mr.1 a; omega
        · exact ⟨a, b⟩
    · simp only [if_true, show ¬ ((3 : Int) = 1) by omega, if_false, List.nil_append] at e1 ⊢
      rw [ih A c (p + n) (by omega) vx vy e1 h3 i hi]
      simp only [List.mem_append]
      constructor
      · rintro ⟨a, b⟩; exact ⟨a, .inr b⟩
      · rintro ⟨a, b | b⟩
        · have := gx a; have := mr.1 b; omega
        · exact ⟨a, b⟩
    · simp only [show ¬ ((3 : Int) = 1) by omega, if_false, List.nil_append] at e1 ⊢
      exact ih A c (p + n) (by omega) vx vy e1 h3 i hi
/-- the texts that are inserted at each offset, and whether each byte is kept -/
def consT (t : List UInt8) (L : List (List UInt8)) : List (List UInt8) := (t ++ L.headD []) :: L.tail
def textsL : List Pc → List (List UInt8)
  | [] => [[]]
  | p :: r => if p.k = 2 then consT p.t (textsL r) else List.replicate p.n.toNat [] ++ textsL r
def keepsL : List Pc → List Bool
  | [] => []
  | p :: r => List.replicate p.n.toNat (p.k == 1) ++ keepsL r
def ordA (f : Bool) (c : Int) (t u : List UInt8) : List Int := if f = true then rng c t.length ++ lets u else lets u ++ rng c t.length
/-- the merged result, offset by offset -/
def agL (f : Bool) : Int → List (List UInt8) → List (List UInt8) → List Bool → List Bool → List Int
  | _, [], _, _, _ => []
  | c, t :: X, Y, K, L => ordA f c t (Y.headD []) ++ ((if K.headD false = true ∧ L.headD false = true then [c + t.length] else []) ++ agL f (c + t.length + if K.headD false = true then 1 else 0) X Y.tail K.tail L.tail)
theorem textsL_ne (l : List Pc) : textsL l ≠ [] := by
  induction l with
  | nil => simp [textsL]
  | cons p r ih =>
    rw [textsL]
    split
    · simp [consT]
    · simp [ih]
theorem Cut.texts {k n : Int} {x x' : List Pc} (h : Cut k n x x') (hk : k = 1 ∨ k = 3) (h1 : 1 ≤ n) : textsL x = List.replicate n.toNat [] ++ textsL x' ∧ keepsL x = List.replicate n.toNat (k == 1) ++ keepsL x' := by
  have h2 : ¬ k = 2 := by omega
  rcases h with rfl | ⟨m, r, hm, rfl, rfl⟩
  · simp only [textsL, keepsL, if_neg h2, and_self]
  · simp only [textsL, keepsL, if_neg h2]
    rw [show (n + m).toNat = n.toNat + m.toNat by omega, ← List.replicate_append_replicate, ← List.replicate_append_replicate, List.append_assoc, List.append_assoc]
    exact ⟨rfl, rfl⟩
theorem texts_head {l : List Pc} (h : Val l) (hk : kd l ≠ 2) : (textsL l).headD [] = [] := by
  cases l with
  | nil => rfl
  | cons p r =>
    have v := (Val.cons.1 h).1
    have : p.k ≠ 2 := hk
    rw [textsL, if_neg this]
    have h1 : 1 ≤ p.n := by rcases Pc.valid_cases v with ⟨u, v, z⟩ | ⟨u, v, z⟩ | ⟨u, v, z⟩ <;> first | exact v | exact absurd u this
    rw [show p.n.toNat = (p.n - 1).toNat + 1 by omega, List.replicate_succ]
    rfl
theorem agL_insA {f : Bool} {c : Int} {t : List UInt8} {X Y : List (List UInt8)} {K L : List Bool} (hX : X ≠ []) (h : f = true ∨ Y.headD [] = []) :
    agL f c (consT t X) Y K L = rng c t.length ++ agL f (c + t.length) X Y K L := by
  cases X with
  | nil => exact absurd rfl hX
  | cons g X =>
    simp only [consT, List.headD_cons, List.tail_cons, agL]
    have e : ordA f c (t ++ g) (Y.headD []) = rng c t.length ++ ordA f (c + t.length) g (Y.headD []) := by
      unfold ordA
      rcases h with h | h
      · simp only [h, if_true, List.length_append, rng_add, List.append_assoc]
      · rw [h]
        split <;> simp [rng_add, lets_nil]
    rw [e, List.append_assoc, List.length_append, show c + ((t.length + g.length : Nat) : Int) = c + t.length + g.length by omega]
theorem agL_insB {f : Bool} {c : Int} {t : List UInt8} {X Y : List (List UInt8)} {K L : List Bool} (hX : X ≠ []) (h : f = false ∨ X.headD [] = []) :
    agL f c X (consT t Y) K L = lets t ++ agL f c X Y K L := by
  cases X with
  | nil => exact absurd rfl hX
  | cons g X =>
    simp only [consT, List.headD_cons, List.tail_cons, agL] at h ⊢
    have e : ordA f c g (t ++ Y.headD []) = lets t ++ ordA f c g (Y.headD []) := by
      unfold ordA
      rcases h with h | h
      · simp [h, lets_append]
      · rw [h]
        split <;> simp [rng_zero, lets_append]
    rw [e, List.append_assoc]
theorem agL_byte {f k l : Bool} {X Y : List (List UInt8)} {K L : List Bool} (m : Nat) : ∀ c : Int,
    agL f c (List.replicate m [] ++ X) (List.replicate m [] ++ Y) (List.replicate m k ++ K) (List.replicate m l ++ L) = (if k = true ∧ l = true then rng c m else []) ++ agL f (c + if k = true then (m : Int) else 0) X Y K L := by
  induction m with
  | zero => intro c; simp [rng_zero]
  | succ m ih =>
    intro c
    simp only [List.replicate_succ, List.cons_append, agL, List.headD_cons, List.tail_cons, List.length_nil]
    rw [ih]
    have e : ordA f c [] [] = [] := by unfold ordA; split <;> simp [rng_zero, lets_nil]
    rw [e]
    cases k <;> cases l <;> simp [rng_succ] <;> congr 1 <;> omega
theorem Tr.ag {f : Bool} {x y T S : List Pc} (h : Tr f x y T S) : Val x → Val y → ∀ c : Int, Ytdlbjfgpfjcpaaa.atoms c T = agL f c (textsL x) (textsL y) (keepsL x) (keepsL y) := by
  induction h with
  | nil => intro _ _ c; simp [Ytdlbjfgpfjcpaaa.atoms, textsL, keepsL, agL, ordA, rng_zero, lets_nil]
  | @insA t x y T S ht hf _ ih =>
    intro hx hy c
    simp only [textsL, keepsL, if_true, Ytdlbjfgpfjcpaaa.atoms, lets_nil, List.nil_append]
    rw [agL_insA (textsL_ne x) (by rcases hf with h | h; · exact .inl h
                                   · exact .inr (texts_head hy h)), ih (Val.cons.1 hx).2 hy]
    simp
  | @insB t x y T S ht hf _ ih =>
    intro hx hy c
    simp only [textsL, keepsL, if_true, Ytdlbjfgpfjcpaaa.atoms, show ¬ ((2 : Int) = 1) by omega, if_false, List.nil_append, Int.add_zero]
    rw [agL_insB (textsL_ne x) (by rcases hf with h | h; · exact .inl h
                                   · exact .inr (texts_head hx h)), ih hx (Val.cons.1 hy).2]
    simp
  | @byte k l n x y x' y' T S hk hl h1 cx cy hlen _ ih =>
    intro hx hy c
    obtain ⟨a1, a2⟩ := cx.texts hk h1
    obtain ⟨b1, b2⟩ := cy.texts hl h1
    rw [a1, a2, b1, b2, agL_byte, ← ih (cx.val hk hx) (cy.val hl hy)]
    have e : (n.toNat : Int) = n := by omega
    rcases hk with rfl | rfl <;> rcases hl with rfl | rfl <;> simp [Ytdlbjfgpfjcpaaa.atoms, lets_nil, e]
theorem texts_len {l : List Pc} (h : Val l) : ((textsL l).length : Int) = Ytdlbjfgpfjcpaaa.inL l + 1 ∧ ((keepsL l).length : Int) = Ytdlbjfgpfjcpaaa.inL l := by
  induction l with
  | nil => exact ⟨rfl, rfl⟩
  | cons p r ih =>
    obtain ⟨v1, v2⟩ := Val.cons.1 h
    obtain ⟨i1, i2⟩ := ih v2
    simp only [textsL, keepsL, Ytdlbjfgpfjcpaaa.inL, List.length_append, List.length_replicate]
    have hn := Val.n v1
    by_cases hk : p.k = 2
    · have h0 : p.n = 0 := by rcases Pc.valid_cases v1 with ⟨u, v, z⟩ | ⟨u, v, z⟩ | ⟨u, v, z⟩ <;> omega
      have hne := textsL_ne r
      have : ((textsL r).tail.length + 1 : Nat) = (textsL r).length := by
        cases e : textsL r with
        | nil => exact absurd e hne
        | cons a b => simp
      rw [if_pos hk]
      simp only [consT, List.length_cons]
      omega
    · rw [if_neg hk, List.length_append, List.length_replicate]
      omega
/-- what is kept, by the atoms -/
theorem keeps_mem {l : List Pc} (h : Val l) : ∀ a : Int, 0 ≤ a → keepsL l = (rng a (Ytdlbjfgpfjcpaaa.inL l).toNat).map fun i => decide (i ∈ Ytdlbjfgpfjcpaaa.atoms a l) := by
  induction l with
  | nil => intro a _; rfl
  | cons p r ih =>
    intro a ha
    obtain ⟨v1, v2⟩ := Val.cons.1 h
    have hn := Val.n v1
    have hr := Val.inL v2
    have me : ∀ i : Int, i ∈ Ytdlbjfgpfjcpaaa.atoms a (p :: r) ↔ i ∈ lets p.t ∨ i ∈ (if p.k = 1 then rng a p.n.toNat else []) ∨ i ∈ Ytdlbjfgpfjcpaaa.atoms (a + p.n) r := fun i => by simp only [Ytdlbjfgpfjcpaaa.atoms, List.mem_append]
    simp only [keepsL, Ytdlbjfgpfjcpaaa.inL]
    rw [show (p.n + Ytdlbjfgpfjcpaaa.inL r).toNat = p.n.toNat + (Ytdlbjfgpfjcpaaa.inL r).toNat by omega, rng_add, List.map_append, show a + (p.n.toNat : Int) = a + p.n by omega, ih v2 (a + p.n) (by omega)]
    congr 1
    · refine (List.eq_replicate_iff.2 ⟨by simp [rng_len], fun b hb => ?_⟩).symm
      obtain ⟨i, hi, rfl⟩ := List.mem_map.1 hb
      have hi' := mem_rng.1 hi
      have nl : i ∉ lets p.t := fun hh => by have := mem_lets hh; omega
      have ng : i ∉ Ytdlbjfgpfjcpaaa.atoms (a + p.n) r := fun hh => by have := v2.ge (a := a + p.n) (by omega) hh (by omega); omega
      by_cases hk : p.k = 1
      · have : i ∈ Ytdlbjfgpfjcpaaa.atoms a (p :: r) := (me i).2 (.inr (.inl (by rw [if_pos hk]; exact hi)))
        simp [hk, this]
      · have : ¬ i ∈ Ytdlbjfgpfjcpaaa.atoms a (p :: r) := fun hh => by
          rcases (me i).1 hh with h | h | h
          · exact nl h
          · rw [if_neg hk] at h; cases h
          · exact ng h
        simp [hk, this]
    · apply List.map_congr_left
      intro i hi
      have hi' := mem_rng.1 hi
      have nl : i ∉ lets p.t := fun hh => by have := mem_lets hh; omega
      have nr : i ∉ (if p.k = 1 then rng a p.n.toNat else []) := fun hh => by
        split at hh
        · have := mem_rng.1 hh; omega
        · cases hh
      exact decide_eq_decide.2 ((me i).trans (by simp only [nl, nr, false_or])).symm
theorem keeps_form {l : List Pc} (h : Val l) : keepsL (formS l) = keepsL l := by
  obtain ⟨h1, h2, h3⟩ := formS_ok h
  rw [keeps_mem h1 0 (Int.le_refl _), keeps_mem h 0 (Int.le_refl _), h2, h3]
/-- the transformed delta, its error, and its pieces before they are joined -/
def trS (f : Bool) (a b : List Pc) : List Pc := trF (szL (formS a) + szL (formS b)) f (formS a) (formS b)
def trE (f : Bool) (a b : List Pc) : Int := if errL a = 0 then (if errL b = 0 then (if inL a = inL b then (if errL (formS (trS f a b)) = 0 then 0 else 5) else 21) else errL b) else errL a
def trR (f : Bool) (a b : List Pc) : List Pc := if trE f a b = 0 then formS (trS f a b) else []
theorem trS_rel (f : Bool) {a b : List Pc} (ha : errL a = 0) (hb : errL b = 0) (h : inL a = inL b) : Tr f (formS a) (formS b) (trS f a b) (trS (!f) b a) := by
  have va := ((errL_iff a).1 ha).2.1
  have vb := ((errL_iff b).1 hb).2.1
  obtain ⟨a1, a2, a3⟩ := formS_ok va
  obtain ⟨b1, b2, b3⟩ := formS_ok vb
  have := tr_rel (szL (formS a) + szL (formS b)) f (formS a) (formS b) a1 b1 (by rw [a3, b3, h]) (Nat.le_refl _)
  rw [trS, trS, Nat.add_comm (szL (formS b))]
  exact this
theorem smp_of {l : List Pc} (h : errL l = 0) : SmP l := by
  obtain ⟨h1, h2, h3, h4⟩ := (errL_iff l).1 h
  clear h h1
  induction l with
  | nil => intro p hp; cases hp
  | cons p r ih =>
    obtain ⟨v1, v2⟩ := Val.cons.1 h2
    have i1 := Val.inL v2
    have o1 := Val.outL v2
    have n1 := Val.n v1
    have k1 := Val.out v1
    simp only [inL] at h3
    simp only [outL] at h4
    refine SmP.cons.2 ⟨⟨v1, by omega, ?_⟩, ih v2 (by omega) (by omega)⟩
    simp only [Pc.out] at h4 k1
    rcases Pc.valid_cases v1 with ⟨x, y, z⟩ | ⟨x, y, z⟩ | ⟨x, y, z⟩
    · simp [z]
    · simp [z]
    · simp [x] at h4; omega
theorem form_err {l : List Pc} (h : errL l = 0) : errL (formS l) = 0 := (lens_formS h).2
theorem trS_ok (f : Bool) {a b : List Pc} (ha : errL a = 0) (hb : errL b = 0) (h : inL a = inL b) : SmP (trS f a b) ∧ (trS f a b).length ≤ 8192 ∧ inL (trS f a b) = outL a := by
  have va := ((errL_iff a).1 ha).2.1
  have vb := ((errL_iff b).1 hb).2.1
  have r := trS_rel f ha hb h
  have s := r.smp (smp_of (form_err ha)) (smp_of (form_err hb))
  have l1 := form4096 ha
  have l2 := form4096 hb
  refine ⟨s.1, by omega, ?_⟩
  rw [r.inn.1, outL_formS va]
theorem trE_ok {f : Bool} {a b : List Pc} (h : trE f a b = 0) : errL a = 0 ∧ errL b = 0 ∧ inL a = inL b ∧ errL (formS (trS f a b)) = 0 := by
  unfold trE at h
  split at h
  · split at h
    · split at h
      · split at h
        · exact ⟨by assumption, by assumption, by assumption, by assumption⟩
        · cases h
      · cases h
    · contradiction
  · contradiction
theorem trR_ok {f : Bool} {a b : List Pc} (h : trE f a b = 0) : trR f a b = formS (trS f a b) ∧ errL (trR f a b) = 0 ∧ Val (trR f a b) ∧ inL (trR f a b) = outL a ∧ formS (trR f a b) = trR f a b ∧
    atoms 0 (trR f a b) = atoms 0 (trS f a b) ∧ outL (trR f a b) = outL (trS f a b) := by
  obtain ⟨ha, hb, he, hf⟩ := trE_ok h
  obtain ⟨s1, s2, s3⟩ := trS_ok f ha hb he
  obtain ⟨f1, f2, f3⟩ := formS_ok s1.val
  have e : trR f a b = formS (trS f a b) := by rw [trR, if_pos h]
  rw [e]
  exact ⟨rfl, hf, f1, by rw [f3, s3], formS_idem s1.val, f2 0, outL_formS s1.val⟩
theorem trR_none {f : Bool} {a b : List Pc} (h : trE f a b ≠ 0) : trR f a b = [] := by rw [trR, if_neg h]
theorem trE_cases (f : Bool) (a b : List Pc) : trE f a b = 0 ∨ trE f a b = 2 ∨ trE f a b = 5 ∨ trE f a b = 21 := by
  have e : ∀ l : List Pc, errL l = 0 ∨ errL l = 2 ∨ errL l = 5 := fun l => errL_cases l
  unfold trE
  split
  · split
    · split
      · split <;> simp
      · simp
    · rcases e b with h | h | h <;> simp [h]
  · rcases e a with h | h | h <;> simp [h]
/-- the reference's answer -/
theorem tr_ref (f : Bool) {a b : List Pc} (ha : errL a = 0) (hb : errL b = 0) (h : inL a = inL b) :
    formS (trS f a b) = ofS (outL a) (agL f 0 (textsL (formS a)) (textsL (formS b)) (keepsL a) (keepsL b)) := by
  have va := ((errL_iff a).1 ha).2.1
  have vb := ((errL_iff b).1 hb).2.1
  obtain ⟨s1, s2, s3⟩ := trS_ok f ha hb h
  rw [formS_ofS s1.val, s3, (trS_rel f ha hb h).ag (formS_ok va).1 (formS_ok vb).1 0, keeps_form va, keeps_form vb]
/-- equivalent deltas are transformed in the same way -/
theorem tr_forms {f : Bool} {a b : List Pc} (ha : errL a = 0) (hb : errL b = 0) : trE f (normS a) (normS b) = trE f a b ∧ trR f (normS a) (normS b) = trR f a b := by
  have va := ((errL_iff a).1 ha).2.1
  have vb := ((errL_iff b).1 hb).2.1
  obtain ⟨a1, a2, a3, a4, a5, a6⟩ := norm_ok ha
  obtain ⟨b1, b2, b3, b4, b5, b6⟩ := norm_ok hb
  have e : trS f (normS a) (normS b) = trS f a b := by unfold trS; rw [a1, b1, formS_idem va, formS_idem vb]
  have e2 : trE f (normS a) (normS b) = trE f a b := by unfold trE; rw [e, a2, b2, a3, b3, if_pos ha, if_pos hb]; simp
  refine ⟨e2, ?_⟩
  unfold trR
  rw [e, e2]
/-- THE STAGE'S THEOREM, for what Compose returns -/
theorem tr_conv (f : Bool) {a b : List Pc} (h1 : trE f a b = 0) (h2 : trE (!f) b a = 0) :
    cmpE a (trR f a b) = cmpE b (trR (!f) b a) ∧ cmpR a (trR f a b) = cmpR b (trR (!f) b a) ∧ compA (atoms 0 a) (atoms 0 (trR f a b)) = compA (atoms 0 b) (atoms 0 (trR (!f) b a)) := by
  obtain ⟨ha, hb, he, hf⟩ := trE_ok h1
  have va := ((errL_iff a).1 ha).2.1
  have vb := ((errL_iff b).1 hb).2.1
  obtain ⟨a1, a2, a3⟩ := formS_ok va
  obtain ⟨b1, b2, b3⟩ := formS_ok vb
  obtain ⟨r1, r2, r3, r4, r5, r6, r7⟩ := trR_ok h1
  obtain ⟨q1, q2, q3, q4, q5, q6, q7⟩ := trR_ok h2
  have key : compA (atoms 0 a) (atoms 0 (trR f a b)) = compA (atoms 0 b) (atoms 0 (trR (!f) b a)) := by
    rw [r6, q6]
    exact (trS_rel f ha hb he).conv (atoms 0 a) (atoms 0 b) 0 0 0 (by rw [a2]; rfl) (by rw [b2]; rfl) (Nat.zero_le _) (Nat.zero_le _)
  have e1 : cmpE a (trR f a b) = cmpE b (trR (!f) b a) := by
    rw [cmpE_eq ha r2 r4.symm, cmpE_eq hb q2 q4.symm, key, he]
  refine ⟨e1, ?_, key⟩
  by_cases hc : cmpE a (trR f a b) = 0
  · rw [(cmpR_ok hc).1, (cmpR_ok (e1 ▸ hc)).1, key, he]
  · rw [cmpR_none hc, cmpR_none (e1 ▸ hc)]
theorem tr_apply {s : List UInt8} (f : Bool) {a b : List Pc} (hs : fitE s a = 0) (hs' : fitE s b = 0) (h1 : trE f a b = 0) (h2 : trE (!f) b a = 0) :
    fitE (applyS s a) (trR f a b) = 0 ∧ fitE (applyS s b) (trR (!f) b a) = 0 ∧ applyS (applyS s a) (trR f a b) = applyS (applyS s b) (trR (!f) b a) := by
  obtain ⟨r1, r2, r3, r4, r5, r6, r7⟩ := trR_ok h1
  obtain ⟨q1, q2, q3, q4, q5, q6, q7⟩ := trR_ok h2
  obtain ⟨a1, a2⟩ := apply_eq hs
  obtain ⟨b1, b2⟩ := apply_eq hs'
  obtain ⟨ha, va, la⟩ := fit_ok hs
  obtain ⟨hb, vb, lb⟩ := fit_ok hs'
  have f1 : fitE (applyS s a) (trR f a b) = 0 := fit_of r2 (by rw [r4, a2])
  have f2 : fitE (applyS s b) (trR (!f) b a) = 0 := fit_of q2 (by rw [q4, b2])
  have i1 : InB (atoms 0 a).length (atoms 0 (trR f a b)) := by
    have := Val.inB r3
    rw [r4, ← Val.atoms_len va 0] at this
    exact this
  have i2 : InB (atoms 0 b).length (atoms 0 (trR (!f) b a)) := by
    have := Val.inB q3
    rw [q4, ← Val.atoms_len vb 0] at this
    exact this
  refine ⟨f1, f2, ?_⟩
  rw [(apply_eq f1).1, (apply_eq f2).1, a1, b1, ← valA_comp i1, ← valA_comp i2, (tr_conv f h1 h2).2.2]
/-- the merge keeps what both keep -/
theorem tr_kept (f : Bool) {a b : List Pc} (h1 : trE f a b = 0) (hc : cmpE a (trR f a b) = 0) {i : Int} (hi : 0 ≤ i) : i ∈ atoms 0 (cmpR a (trR f a b)) ↔ i ∈ atoms 0 a ∧ i ∈ atoms 0 b := by
  obtain ⟨ha, hb, he, hf⟩ := trE_ok h1
  have va := ((errL_iff a).1 ha).2.1
  have vb := ((errL_iff b).1 hb).2.1
  obtain ⟨a1, a2, a3⟩ := formS_ok va
  obtain ⟨b1, b2, b3⟩ := formS_ok vb
  obtain ⟨r1, r2, r3, r4, r5, r6, r7⟩ := trR_ok h1
  obtain ⟨c1, c2, c3, c4, c5, c6, c7⟩ := cmpR_ok hc
  rw [c6, r6]
  have := (trS_rel f ha hb he).kept (atoms 0 a) 0 0 (Int.le_refl _) a1 b1 (by rw [a2]; rfl) (Nat.zero_le _) i hi
  rw [a2, b2] at this
  exact this
/-- against the identity -/
theorem Tr.neutral {f : Bool} {x y T S : List Pc} (h : Tr f x y T S) : (∀ q ∈ x, q.k = 1) → (∀ p, Ytdlbjfgpfjcpaaa.atoms p T = Ytdlbjfgpfjcpaaa.atoms p y) ∧ ∀ c, Ytdlbjfgpfjcpaaa.atoms c S = rng c (Ytdlbjfgpfjcpaaa.outL S).toNat ∧ 0 ≤ Ytdlbjfgpfjcpaaa.outL S := by
  induction h with
  | nil => intro _; exact ⟨fun p => rfl, fun c => ⟨rfl, Int.le_refl _⟩⟩
  | insA ht hf _ ih =>
    intro hx
    have := hx _ (List.mem_cons_self ..)
    cases this
  | @insB t x y T S ht hf _ ih =>
    intro hx
    obtain ⟨i1, i2⟩ := ih hx
    refine ⟨fun p => by simp only [Ytdlbjfgpfjcpaaa.atoms, i1], fun c => ?_⟩
    obtain ⟨j1, j2⟩ := i2 (c + t.length)
    have eo : Ytdlbjfgpfjcpaaa.outL (⟨1, t.length, []⟩ :: S) = t.length + Ytdlbjfgpfjcpaaa.outL S := rfl
    rw [eo]
    simp only [Ytdlbjfgpfjcpaaa.atoms, lets_nil, List.nil_append, if_true]
    refine ⟨?_, by omega⟩
    rw [j1, show ((t.length : Int) + Ytdlbjfgpfjcpaaa.outL S).toNat = t.length + (Ytdlbjfgpfjcpaaa.outL S).toNat by omega, rng_add]
    simp
  | @byte k l n x y x' y' T S hk hl h1 cx cy hlen _ ih =>
    intro hx
    have hk1 : k = 1 := by
      rcases cx with rfl | ⟨m, r, hm, rfl, rfl⟩
      · exact hx ⟨k, n, []⟩ (List.mem_cons_self ..)
      · exact hx ⟨k, n + m, []⟩ (List.mem_cons_self ..)
    have hx' : ∀ q ∈ x', q.k = 1 := by
      rcases cx with rfl | ⟨m, r, hm, rfl, rfl⟩
      · exact fun q hq => hx q (List.mem_cons_of_mem _ hq)
      · intro q hq
        rcases List.mem_cons.1 hq with rfl | hq
        · exact hk1
        · exact hx q (List.mem_cons_of_mem _ hq)
    obtain ⟨i1, i2⟩ := ih hx'
    subst hk1
    refine ⟨fun p => ?_, fun c => ?_⟩
    · rw [cy.atoms h1]
      simp only [if_true, List.cons_append, List.nil_append, Ytdlbjfgpfjcpaaa.atoms, lets_nil, i1]
    · rcases hl with rfl | rfl
      · have eo : Ytdlbjfgpfjcpaaa.outL (⟨1, n, []⟩ :: S) = n + Ytdlbjfgpfjcpaaa.outL S := rfl
        simp only [if_true, List.cons_append, List.nil_append]
        rw [eo]
        simp only [Ytdlbjfgpfjcpaaa.atoms, lets_nil, List.nil_append, if_true]
        obtain ⟨j1, j2⟩ := i2 (c + n)
        refine ⟨?_, by omega⟩
        rw [j1, show (n + Ytdlbjfgpfjcpaaa.outL S).toNat = n.toNat + (Ytdlbjfgpfjcpaaa.outL S).toNat by omega, rng_add, show c + (n.toNat : Int) = c + n by omega]
      · simp only [show ¬ ((3 : Int) = 1) by omega, if_false, List.nil_append]
        exact i2 c
theorem idS_ret (n : Int) : ∀ q ∈ idS n, q.k = 1 := by
  intro q hq
  unfold idS at hq
  split at hq
  · split at hq
    · cases hq
    · rw [List.mem_singleton.1 hq]
  · cases hq
/-- against the identity a delta is its normal form, and the identity against a delta is the identity of its result -/
theorem tr_neutral (f : Bool) {d : List Pc} (h : errL d = 0) : trE f (idS (inL d)) d = 0 ∧ trR f (idS (inL d)) d = normS d ∧ trE f d (idS (inL d)) = 0 ∧ trR f d (idS (inL d)) = idS (outL d) := by
  have vd := ((errL_iff d).1 h).2.1
  obtain ⟨d1, d2, d3⟩ := formS_ok vd
  obtain ⟨e1, e2⟩ := idE_of h
  obtain ⟨m1, m2, m3, m4, m5, m6, m7, m8⟩ := id_ok e1
  obtain ⟨n1, n2, n3, n4, n5, n6, n7, n8⟩ := id_ok e2
  have r := trS_rel f m3 h m5
  rw [m8] at r
  obtain ⟨q1, q2⟩ := r.neutral (idS_ret _)
  have t1 := trS_ok f m3 h m5
  have r' := trS_rel (!f) m3 h m5
  rw [m8, Bool.not_not] at r'
  obtain ⟨p1, p2⟩ := r'.neutral (idS_ret _)
  have t2 := trS_ok f h m3 m5.symm
  have g1 : formS (trS f (idS (inL d)) d) = formS d := formS_congr t1.1.val vd (by rw [t1.2.2, m6]) (by rw [q1, d2])
  have g2 : formS (trS f d (idS (inL d))) = idS (outL d) := by
    rw [← n8]
    refine formS_congr t2.1.val n4 (by rw [t2.2.2, n5]) ?_
    have o : outL (trS f d (idS (inL d))) = outL d := by
      rw [← r'.inn.2.2]
      have := Val.atoms_len (r'.smp (smp_of m3) (smp_of (form_err h))).1.val 0
      rw [p1 0] at this
      rw [← this, Val.atoms_len d1, outL_formS vd]
    rw [(p2 0).1, n7, o]
  have x1 : trE f (idS (inL d)) d = 0 := by rw [trE, if_pos m3, if_pos h, if_pos m5, g1, if_pos (form_err h)]
  have x2 : trE f d (idS (inL d)) = 0 := by rw [trE, if_pos h, if_pos m3, if_pos m5.symm, g2, if_pos n3]
  exact ⟨x1, by rw [trR, if_pos x1, g1, normS, if_pos h], x2, by rw [trR, if_pos x2, g2]⟩
/-- no offset at which both insert; no byte that both remove -/
def apartT (X Y : List (List UInt8)) : Prop := ∀ i : Nat, X.getD i [] = [] ∨ Y.getD i [] = []
def apartK (K L : List Bool) : Prop := ∀ i : Nat, ¬ (K[i]? = some false ∧ L[i]? = some false)
theorem getD_rep (m : Nat) (X : List (List UInt8)) (i : Nat) : (List.replicate m [] ++ X).getD (m + i) [] = X.getD i [] := by
  rw [List.getD_eq_getElem?_getD, List.getD_eq_getElem?_getD, List.getElem?_append_right (by simp)]
  simp
theorem apartT.byte {m : Nat} {X Y : List (List UInt8)} (h : apartT (List.replicate m [] ++ X) (List.replicate m [] ++ Y)) : apartT X Y := fun i => by
  have := h (m + i)
  rwa [getD_rep, getD_rep] at this
theorem consT_getD (t : List UInt8) (X : List (List UInt8)) (i : Nat) (h : (consT t X).getD i [] = []) : X.getD i [] = [] := by
  unfold consT at h
  cases X with
  | nil => rfl
  | cons g X =>
    cases i with
    | zero =>
      simp at h
      simp [h.2]
    | succ i => simpa using h
theorem apartT.a {t : List UInt8} {X Y : List (List UInt8)} (h : apartT (consT t X) Y) : apartT X Y := fun i => (h i).imp (consT_getD t X i) id
theorem apartT.b {t : List UInt8} {X Y : List (List UInt8)} (h : apartT X (consT t Y)) : apartT X Y := fun i => (h i).imp id (consT_getD t Y i)
theorem apartK.byte {m : Nat} {k l : Bool} {K L : List Bool} (h : apartK (List.replicate m k ++ K) (List.replicate m l ++ L)) : apartK K L := fun i => by
  have := h (m + i)
  rw [List.getElem?_append_right (by simp), List.getElem?_append_right (by simp)] at this
  simpa using this
theorem texts_ins {p : Pc} {r : List Pc} (h : p.k = 2) : textsL (p :: r) = consT p.t (textsL r) := by rw [textsL, if_pos h]
theorem trF_cc (n : Nat) (f : Bool) (p : Pc) (x : List Pc) (q : Pc) (y : List Pc) : trF (n + 1) f (p :: x) (q :: y) =
    if p.k = 2 ∧ (f = true ∨ q.k ≠ 2) then ⟨1, p.t.length, []⟩ :: trF n f x (q :: y)
    else if q.k = 2 then ⟨2, 0, q.t⟩ :: trF n f (p :: x) y
    else (if p.k = 1 then [⟨q.k, min p.n q.n, []⟩] else []) ++ trF n f (takL (min p.n q.n) p x) (takL (min p.n q.n) q y) := by rw [trF]
theorem tr_either : ∀ (n : Nat) (x y : List Pc), Val x → Val y → apartT (textsL x) (textsL y) → trF n true x y = trF n false x y := by
  intro n
  induction n with
  | zero => intros; rfl
  | succ n ih =>
    intro x y hx hy h
    cases x with
    | nil =>
      cases y with
      | nil => rfl
      | cons q y =>
        rw [trF, trF]
        split
        · rename_i hq
          rw [ih [] y hx (Val.cons.1 hy).2 (by rw [texts_ins hq] at h; exact h.b)]
        · rfl
    | cons p x =>
      obtain ⟨u1, u2⟩ := Val.cons.1 hx
      cases y with
      | nil =>
        rw [trF, trF]
        split
        · rename_i hp
          rw [ih x [] u2 hy (by rw [texts_ins hp] at h; exact h.a)]
        · rfl
      | cons q y =>
        obtain ⟨v1, v2⟩ := Val.cons.1 hy
        have ins : ∀ {p : Pc}, p.valid = true → p.k = 2 → p.t ≠ [] := by
          intro p hp h2
          rcases Pc.valid_cases hp with ⟨u, v, z⟩ | ⟨u, v, z⟩ | ⟨u, v, z⟩
          · omega
          · omega
          · exact z
        rw [trF_cc, trF_cc]
        by_cases hp : p.k = 2
        · have hq : q.k ≠ 2 := fun hq => by
            have := h 0
            rw [texts_ins hp, texts_ins hq] at this
            simp only [consT, List.getD_cons_zero, List.append_eq_nil_iff] at this
            rcases this with a | a
            · exact ins u1 hp a.1
            · exact ins v1 hq a.1
          rw [if_pos ⟨hp, .inr hq⟩, if_pos ⟨hp, .inr hq⟩, ih x (q :: y) u2 hy (by rw [texts_ins hp] at h; exact h.a)]
        · have na : ∀ f : Bool, ¬ (p.k = 2 ∧ (f = true ∨ q.k ≠ 2)) := fun f a => hp a.1
          rw [if_neg (na true), if_neg (na false)]
          by_cases hq : q.k = 2
          · rw [if_pos hq, if_pos hq, ih (p :: x) y hx v2 (by rw [texts_ins hq] at h; exact h.b)]
          · rw [if_neg hq, if_neg hq]
            have one : ∀ {p : Pc}, p.valid = true → p.k ≠ 2 → 1 ≤ p.n ∧ (p.k = 1 ∨ p.k = 3) := by
              intro p hp h2
              rcases Pc.valid_cases hp with ⟨u, v, z⟩ | ⟨u, v, z⟩ | ⟨u, v, z⟩
              · exact ⟨v, .inl u⟩
              · exact ⟨v, .inr u⟩
              · exact absurd u h2
            obtain ⟨p1, pk⟩ := one u1 hp
            obtain ⟨q1, qk⟩ := one v1 hq
            have m1 : 1 ≤ min p.n q.n := by omega
            have c1 := Cut.of u1 hp m1 (by omega) x
            have c2 := Cut.of v1 hq m1 (by omega) y
            rw [ih _ _ (c1.val pk hx) (c2.val qk hy) (by rw [(c1.texts pk m1).1, (c2.texts qk m1).1] at h; exact h.byte)]
theorem Tr.lens {f : Bool} {x y T S : List Pc} (h : Tr f x y T S) : apartK (keepsL x) (keepsL y) → Ytdlbjfgpfjcpaaa.outL T + Ytdlbjfgpfjcpaaa.inL x = Ytdlbjfgpfjcpaaa.outL x + Ytdlbjfgpfjcpaaa.outL y := by
  induction h with
  | nil => intro _; rfl
  | insA ht hf _ ih =>
    intro h
    have := ih (by simpa [keepsL] using h)
    simp only [Ytdlbjfgpfjcpaaa.inL, Ytdlbjfgpfjcpaaa.outL, Pc.out]; simp; omega
  | insB ht hf _ ih =>
    intro h
    have := ih (by simpa [keepsL] using h)
    simp only [Ytdlbjfgpfjcpaaa.outL, Pc.out]; simp; omega
  | @byte k l n x y x' y' T S hk hl h1 cx cy hlen _ ih =>
    intro h
    rw [(cx.texts hk h1).2, (cy.texts hl h1).2] at h
    have := ih h.byte
    have h0 := h 0
    rw [outL_append, (cx.io hk h1).1, (cx.io hk h1).2, (cy.io hl h1).2]
    rcases hk with rfl | rfl <;> rcases hl with rfl | rfl
    · simp [Ytdlbjfgpfjcpaaa.outL, Pc.out]; omega
    · simp [Ytdlbjfgpfjcpaaa.outL, Pc.out]; omega
    · simp [Ytdlbjfgpfjcpaaa.outL]; omega
    · exfalso
      apply h0
      rw [show n.toNat = (n.toNat - 1) + 1 by omega]
      simp [List.replicate_succ]

end Go.Proofs.Ytdlbjfgpfjcpaaa
