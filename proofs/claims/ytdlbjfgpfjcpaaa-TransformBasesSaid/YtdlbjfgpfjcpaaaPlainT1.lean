/- Plain: a delta transformed against another one: both ways lead to the same. No program. No condition. -/
import Derived.Test.YtdlbjfgpfjcpaaaPlainC3
import Derived.Test.YtdlbjfgpfjcpaaaComposed
namespace Go.Proofs.Ytdlbjfgpfjcpaaa
/-- the kind of the next piece -/
def kd : List Pc → Int
  | [] => 0
  | p :: _ => p.k
/-- the pieces of a transformed delta, with enough fuel -/
def trF : Nat → Bool → List Pc → List Pc → List Pc
  | 0, _, _, _ => []
  | _ + 1, _, [], [] => []
  | n + 1, f, [], q :: y => if q.k = 2 then ⟨2, 0, q.t⟩ :: trF n f [] y else []
  | n + 1, f, p :: x, [] => if p.k = 2 then ⟨1, p.t.length, []⟩ :: trF n f x [] else []
  | n + 1, f, p :: x, q :: y =>
    if p.k = 2 ∧ (f = true ∨ q.k ≠ 2) then ⟨1, p.t.length, []⟩ :: trF n f x (q :: y)
    else if q.k = 2 then ⟨2, 0, q.t⟩ :: trF n f (p :: x) y
    else (if p.k = 1 then [⟨q.k, min p.n q.n, []⟩] else []) ++ trF n f (takL (min p.n q.n) p x) (takL (min p.n q.n) q y)
/-- a list begins with n bytes of a kind -/
def Cut (k n : Int) (x x' : List Pc) : Prop := x = ⟨k, n, []⟩ :: x' ∨ ∃ m r, 1 ≤ m ∧ x' = ⟨k, m, []⟩ :: r ∧ x = ⟨k, n + m, []⟩ :: r
/-- both transformed deltas -/
inductive Tr : Bool → List Pc → List Pc → List Pc → List Pc → Prop
  | nil {f : Bool} : Tr f [] [] [] []
  | insA {f : Bool} {t : List UInt8} {x y T S : List Pc} : t ≠ [] → (f = true ∨ kd y ≠ 2) → Tr f x y T S → Tr f (⟨2, 0, t⟩ :: x) y (⟨1, t.length, []⟩ :: T) (⟨2, 0, t⟩ :: S)
  | insB {f : Bool} {t : List UInt8} {x y T S : List Pc} : t ≠ [] → (f = false ∨ kd x ≠ 2) → Tr f x y T S → Tr f x (⟨2, 0, t⟩ :: y) (⟨2, 0, t⟩ :: T) (⟨1, t.length, []⟩ :: S)
  | byte {f : Bool} {k l n : Int} {x y x' y' T S : List Pc} : (k = 1 ∨ k = 3) → (l = 1 ∨ l = 3) → 1 ≤ n → Cut k n x x' → Cut l n y y' → x'.length + y'.length + 1 ≤ x.length + y.length → Tr f x' y' T S →
      Tr f x y ((if k = 1 then [⟨l, n, []⟩] else []) ++ T) ((if l = 1 then [⟨k, n, []⟩] else []) ++ S)
theorem Cut.of {p : Pc} (h : p.valid = true) (h2 : p.k ≠ 2) {n : Int} (_h1 : 1 ≤ n) (hn : n ≤ p.n) (r : List Pc) : Cut p.k n (p :: r) (takL n p r) := by
  obtain ⟨k, m, t⟩ := p
  have ht : t = [] := by rcases Pc.valid_cases h with ⟨x, y, z⟩ | ⟨x, y, z⟩ | ⟨x, y, z⟩ <;> first | exact z | exact absurd x h2
  subst ht
  dsimp only at h2 hn ⊢
  by_cases e : n < m
  · right
    refine ⟨m - n, r, by omega, ?_, by rw [show n + (m - n) = m by omega]⟩
    rw [takL, if_pos (by simp only [lg, List.length_nil]; omega)]
    simp [splB, h2]
  · left
    rw [takL, if_neg (by simp only [lg, List.length_nil]; omega), show n = m by omega]
theorem tr_rel : ∀ (n : Nat) (f : Bool) (x y : List Pc), Val x → Val y → inL x = inL y → szL x + szL y ≤ n → Tr f x y (trF n f x y) (trF n (!f) y x) := by
  intro n
  induction n with
  | zero =>
    intro f x y hx hy hi hs
    have ex : x = [] := Classical.byContradiction fun hh => by have := Val.szL hx hh; omega
    have ey : y = [] := Classical.byContradiction fun hh => by have := Val.szL hy hh; omega
    subst ex ey
    exact .nil
  | succ n ih =>
    intro f x y hx hy hi hs
    have two : ∀ {p : Pc}, p.valid = true → p.k = 2 → p = ⟨2, 0, p.t⟩ ∧ p.t ≠ [] := by
      intro p hp h2
      rcases Pc.valid_cases hp with ⟨u, v, z⟩ | ⟨u, v, z⟩ | ⟨u, v, z⟩
      · omega
      · omega
      · refine ⟨?_, z⟩
        obtain ⟨k, m, t⟩ := p
        dsimp only at u v
        rw [u, v]
    have one : ∀ {p : Pc}, p.valid = true → p.k ≠ 2 → 1 ≤ p.n ∧ (p.k = 1 ∨ p.k = 3) ∧ lg p = p.n := by
      intro p hp h2
      rcases Pc.valid_cases hp with ⟨u, v, z⟩ | ⟨u, v, z⟩ | ⟨u, v, z⟩
      · exact ⟨v, .inl u, by simp [lg, z]⟩
      · exact ⟨v, .inr u, by simp [lg, z]⟩
      · exact absurd u h2
    cases x with
    | nil =>
      cases y with
      | nil => exact .nil
      | cons q y =>
        obtain ⟨v1, v2⟩ := Val.cons.1 hy
        have hin := Val.inL v2
        have hg := lg_pos v1
        have hq : q.k = 2 := Classical.byContradiction fun hh => by have := (one v1 hh).1; simp only [inL] at hi; omega
        obtain ⟨e, ht⟩ := two v1 hq
        have e1 : trF (n + 1) f [] (q :: y) = ⟨2, 0, q.t⟩ :: trF n f [] y := by rw [trF, if_pos hq]
        have e2 : trF (n + 1) (!f) (q :: y) [] = ⟨1, q.t.length, []⟩ :: trF n (!f) y [] := by rw [trF, if_pos hq]
        rw [e1, e2]
        have := Tr.insB ht (f := f) (.inr (by simp [kd])) (ih f [] y hx v2 (by rw [e] at hi; simpa [inL] using hi) (by simp only [szL] at hs ⊢; omega))
        rw [← e] at this
        rw [e] at this ⊢
        exact this
    | cons p x =>
      obtain ⟨u1, u2⟩ := Val.cons.1 hx
      have hgp := lg_pos u1
      cases y with
      | nil =>
        have hin := Val.inL u2
        have hp : p.k = 2 := Classical.byContradiction fun hh => by have := (one u1 hh).1; simp only [inL] at hi; omega
        obtain ⟨e, ht⟩ := two u1 hp
        have e1 : trF (n + 1) f (p :: x) [] = ⟨1, p.t.length, []⟩ :: trF n f x [] := by rw [trF, if_pos hp]
        have e2 : trF (n + 1) (!f) [] (p :: x) = ⟨2, 0, p.t⟩ :: trF n (!f) [] x := by rw [trF, if_pos hp]
        rw [e1, e2]
        have := Tr.insA ht (f := f) (.inr (by simp [kd])) (ih f x [] u2 hy (by rw [e] at hi; simpa [inL] using hi) (by simp only [szL] at hs ⊢; omega))
        rw [e] at this ⊢
        exact this
      | cons q y =>
        obtain ⟨v1, v2⟩ := Val.cons.1 hy
        have hgq := lg_pos v1
        by_cases hA : p.k = 2 ∧ (f = true ∨ q.k ≠ 2)
        · obtain ⟨e, ht⟩ := two u1 hA.1
          have e1 : trF (n + 1) f (p :: x) (q :: y) = ⟨1, p.t.length, []⟩ :: trF n f x (q :: y) := by rw [trF, if_pos hA]
          have e2 : trF (n + 1) (!f) (q :: y) (p :: x) = ⟨2, 0, p.t⟩ :: trF n (!f) (q :: y) x := by
            rw [trF, if_neg (fun hh => by rcases hA.2 with h | h; · rw [h] at hh; rcases hh.2 with h' | h'; · cases h'
                                                                    · exact h' hA.1
                                          · exact h hh.1), if_pos hA.1]
          rw [e1, e2]
          have := Tr.insA ht (f := f) (y := q :: y) hA.2 (ih f x (q :: y) u2 hy (by rw [e] at hi; simpa [inL] using hi) (by simp only [szL] at hs ⊢; omega))
          rw [e] at this ⊢
          exact this
        · by_cases hB : q.k = 2
          · obtain ⟨e, ht⟩ := two v1 hB
            have e1 : trF (n + 1) f (p :: x) (q :: y) = ⟨2, 0, q.t⟩ :: trF n f (p :: x) y := by rw [trF, if_neg hA, if_pos hB]
            have hf : f = false ∨ p.k ≠ 2 := by
              by_cases h2 : p.k = 2
              · left
                cases f with
                | false => rfl
                | true => exact absurd ⟨h2, .inl rfl⟩ hA
              · exact .inr h2
            have e2 : trF (n + 1) (!f) (q :: y) (p :: x) = ⟨1, q.t.length, []⟩ :: trF n (!f) y (p :: x) := by
              rw [trF, if_pos ⟨hB, by rcases hf with h | h; · left; rw [h]; rfl
                                      · exact .inr h⟩]
            rw [e1, e2]
            have := Tr.insB ht (f := f) (x := p :: x) hf (ih f (p :: x) y hx v2 (by rw [e] at hi; simpa [inL] using hi) (by simp only [szL] at hs ⊢; omega))
            rw [e] at this ⊢
            exact this
          · have hA' : p.k ≠ 2 := fun hh => hA ⟨hh, .inr hB⟩
            obtain ⟨p1, pk, pl⟩ := one u1 hA'
            obtain ⟨q1, qk, ql⟩ := one v1 hB
            have m1 : 1 ≤ min p.n q.n := by omega
            have a := tak_ok u1 m1 (by rw [pl]; omega) x u2
            have b := tak_ok v1 m1 (by rw [ql]; omega) y v2
            have e1 : trF (n + 1) f (p :: x) (q :: y) = (if p.k = 1 then [⟨q.k, min p.n q.n, []⟩] else []) ++ trF n f (takL (min p.n q.n) p x) (takL (min p.n q.n) q y) := by rw [trF, if_neg hA, if_neg hB]
            have e2 : trF (n + 1) (!f) (q :: y) (p :: x) = (if q.k = 1 then [⟨p.k, min p.n q.n, []⟩] else []) ++ trF n (!f) (takL (min p.n q.n) q y) (takL (min p.n q.n) p x) := by
              rw [trF, if_neg (fun hh => hB hh.1), if_neg hA', Int.min_comm q.n p.n]
            rw [e1, e2]
            have c1 := Cut.of u1 hA' m1 (by omega) x
            have c2 := Cut.of v1 hB m1 (by omega) y
            have tn : ∀ {p : Pc} {r : List Pc} {n : Int}, p.valid = true → p.k ≠ 2 → 1 ≤ n → n ≤ p.n → inL (takL n p r) + n = inL (p :: r) := by
              intro p r n hv h2 h1 hn
              rcases Cut.of hv h2 h1 hn r with e | ⟨m, r', h, e, e'⟩
              · rw [e]; simp only [inL]; omega
              · rw [e, e']; simp only [inL]; omega
            refine Tr.byte pk qk m1 c1 c2 ?_ (ih f _ _ a.2.2.2.1 b.2.2.2.1 ?_ ?_)
            · have l1 := a.2.2.2.2.1
              have l2 := b.2.2.2.2.1
              have l3 := a.2.2.2.2.2.1
              have l4 := b.2.2.2.2.2.1
              simp only [List.length_cons]
              by_cases h : p.n ≤ q.n
              · have := l3 (by rw [pl]; omega); omega
              · have := l4 (by rw [ql]; omega); omega
            · have := tn (r := x) u1 hA' m1 (by omega)
              have := tn (r := y) v1 hB m1 (by omega)
              omega
            · have := a.2.2.2.2.2.2.1
              have := b.2.2.2.2.2.2.1
              omega
theorem rng_drop (p : Int) (n : Nat) (z : List Int) : (rng p n ++ z).drop n = z := List.drop_left' (rng_len p n)
theorem rng_take (p : Int) (n : Nat) (z : List Int) : (rng p n ++ z).take n = rng p n := List.take_left' (rng_len p n)
theorem Cut.atoms {k n : Int} {x x' : List Pc} (h : Cut k n x x') (h1 : 1 ≤ n) (a : Int) : Ytdlbjfgpfjcpaaa.atoms a x = (if k = 1 then rng a n.toNat else []) ++ Ytdlbjfgpfjcpaaa.atoms (a + n) x' := by
  rcases h with rfl | ⟨m, r, hm, rfl, rfl⟩
  · simp only [Ytdlbjfgpfjcpaaa.atoms, lets_nil, List.nil_append]
  · simp only [Ytdlbjfgpfjcpaaa.atoms, lets_nil, List.nil_append]
    rw [show (n + m).toNat = n.toNat + m.toNat by omega, show a + (n + m) = a + n + m by omega]
    by_cases hk : k = 1
    · simp only [if_pos hk]
      rw [rng_add, List.append_assoc, show a + (n.toNat : Int) = a + n by omega]
    · simp only [if_neg hk, List.nil_append]
theorem Cut.io {k n : Int} {x x' : List Pc} (h : Cut k n x x') (hk : k = 1 ∨ k = 3) (_h1 : 1 ≤ n) : Ytdlbjfgpfjcpaaa.inL x = n + Ytdlbjfgpfjcpaaa.inL x' ∧ Ytdlbjfgpfjcpaaa.outL x = (if k = 1 then n else 0) + Ytdlbjfgpfjcpaaa.outL x' := by
  rcases h with rfl | ⟨m, r, hm, rfl, rfl⟩
  · refine ⟨rfl, ?_⟩
    simp only [Ytdlbjfgpfjcpaaa.outL, Pc.out]
    rcases hk with rfl | rfl <;> simp
  · refine ⟨by simp only [Ytdlbjfgpfjcpaaa.inL]; omega, ?_⟩
    simp only [Ytdlbjfgpfjcpaaa.outL, Pc.out]
    rcases hk with rfl | rfl
    · simp; omega
    · simp
theorem Cut.smp {k n : Int} {x x' : List Pc} (h : Cut k n x x') (hk : k = 1 ∨ k = 3) (h1 : 1 ≤ n) (hs : SmP x) : SmP x' ∧ n ≤ 1048576 := by
  rcases h with rfl | ⟨m, r, hm, rfl, rfl⟩
  · have := SmP.cons.1 hs
    exact ⟨this.2, this.1.2.1⟩
  · obtain ⟨⟨a, b, c⟩, d⟩ := SmP.cons.1 hs
    dsimp only at b
    refine ⟨SmP.cons.2 ⟨⟨?_, by dsimp only; omega, by simp⟩, d⟩, by omega⟩
    rcases hk with rfl | rfl
    · exact Pc.valid1 rfl hm rfl
    · exact Pc.valid3 rfl hm rfl
theorem Tr.smp {f : Bool} {x y T S : List Pc} (h : Tr f x y T S) (hx : SmP x) (hy : SmP y) : SmP T ∧ SmP S ∧ T.length ≤ x.length + y.length ∧ S.length ≤ x.length + y.length := by
  induction h with
  | nil => exact ⟨hx, hx, by simp, by simp⟩
  | insA ht hf _ ih =>
    obtain ⟨⟨a, b, c⟩, d⟩ := SmP.cons.1 hx
    dsimp only at c
    obtain ⟨i1, i2, i3, i4⟩ := ih d hy
    have : 1 ≤ List.length _ := List.length_pos_iff.2 ht
    exact ⟨SmP.cons.2 ⟨⟨Pc.valid1 rfl (by dsimp only; omega) rfl, by dsimp only; omega, by simp⟩, i1⟩, SmP.cons.2 ⟨⟨a, b, c⟩, i2⟩, by simp only [List.length_cons]; omega, by simp only [List.length_cons]; omega⟩
  | insB ht hf _ ih =>
    obtain ⟨⟨a, b, c⟩, d⟩ := SmP.cons.1 hy
    dsimp only at c
    obtain ⟨i1, i2, i3, i4⟩ := ih hx d
    have : 1 ≤ List.length _ := List.length_pos_iff.2 ht
    exact ⟨SmP.cons.2 ⟨⟨a, b, c⟩, i1⟩, SmP.cons.2 ⟨⟨Pc.valid1 rfl (by dsimp only; omega) rfl, by dsimp only; omega, by simp⟩, i2⟩, by simp only [List.length_cons]; omega, by simp only [List.length_cons]; omega⟩
  | @byte k l n x y x' y' T S hk hl h1 cx cy hlen _ ih =>
    obtain ⟨a1, a2⟩ := cx.smp hk h1 hx
    obtain ⟨b1, b2⟩ := cy.smp hl h1 hy
    obtain ⟨i1, i2, i3, i4⟩ := ih a1 b1
    have va : ∀ {k : Int}, (k = 1 ∨ k = 3) → (⟨k, n, []⟩ : Pc).valid = true := by
      rintro k (rfl | rfl)
      · exact Pc.valid1 rfl h1 rfl
      · exact Pc.valid3 rfl h1 rfl
    refine ⟨?_, ?_, ?_, ?_⟩
    · split
      · exact SmP.cons.2 ⟨⟨va hl, a2, by simp⟩, i1⟩
      · exact i1
    · split
      · exact SmP.cons.2 ⟨⟨va hk, a2, by simp⟩, i2⟩
      · exact i2
    · rw [List.length_append]; split <;> simp only [List.length_cons, List.length_nil] <;> omega
    · rw [List.length_append]; split <;> simp only [List.length_cons, List.length_nil] <;> omega
/-- it fits the result of the other one -/
theorem Tr.inn {f : Bool} {x y T S : List Pc} (h : Tr f x y T S) : Ytdlbjfgpfjcpaaa.inL T = Ytdlbjfgpfjcpaaa.outL x ∧ Ytdlbjfgpfjcpaaa.inL S = Ytdlbjfgpfjcpaaa.outL y ∧ Ytdlbjfgpfjcpaaa.outL T = Ytdlbjfgpfjcpaaa.outL S := by
  induction h with
  | nil => exact ⟨rfl, rfl, rfl⟩
  | insA ht hf _ ih => simp only [Ytdlbjfgpfjcpaaa.inL, Ytdlbjfgpfjcpaaa.outL, Pc.out]; simp; omega
  | insB ht hf _ ih => simp only [Ytdlbjfgpfjcpaaa.inL, Ytdlbjfgpfjcpaaa.outL, Pc.out]; simp; omega
  | @byte k l n x y x' y' T S hk hl h1 cx cy hlen _ ih =>
    rw [inL_append, inL_append, outL_append, outL_append, (cx.io hk h1).2, (cy.io hl h1).2]
    rcases hk with rfl | rfl <;> rcases hl with rfl | rfl <;> simp [Ytdlbjfgpfjcpaaa.inL, Ytdlbjfgpfjcpaaa.outL, Pc.out] <;> omega
/-- THE STAGE'S THEOREM: both ways lead to the same -/
theorem Tr.conv {f : Bool} {x y T S : List Pc} (h : Tr f x y T S) : ∀ (A B : List Int) (c d : Nat) (p : Int), Ytdlbjfgpfjcpaaa.atoms p x = A.drop c → Ytdlbjfgpfjcpaaa.atoms p y = B.drop d → c ≤ A.length → d ≤ B.length →
    compA A (Ytdlbjfgpfjcpaaa.atoms c T) = compA B (Ytdlbjfgpfjcpaaa.atoms d S) := by
  induction h with
  | nil => intros; rfl
  | @insA t x y T S ht hf _ ih =>
    intro A B c d p h1 h2 h3 h4
    simp only [Ytdlbjfgpfjcpaaa.atoms, show ¬ ((2 : Int) = 1) by omega, if_false, if_true, lets_nil, List.nil_append, Int.add_zero] at h1 ⊢
    have hl : c + t.length ≤ A.length := by
      have := congrArg List.length h1
      rw [List.length_append, lets_len, List.length_drop] at this
      omega
    rw [compA_append, compA_append, compA_lets, show ((t.length : Int)).toNat = t.length by omega, compA_rng A c t.length hl, ← h1, show lets t ++ Ytdlbjfgpfjcpaaa.atoms p x = lets t ++ Ytdlbjfgpfjcpaaa.atoms p x from rfl,
      show (lets t ++ Ytdlbjfgpfjcpaaa.atoms p x).take t.length = lets t by rw [← lets_len t, List.take_left], show (c : Int) + (t.length : Int) = ((c + t.length : Nat) : Int) by omega]
    rw [ih A B (c + t.length) d p (by rw [← List.drop_drop, ← h1, ← lets_len t, List.drop_left]) h2 hl h4]
  | @insB t x y T S ht hf _ ih =>
    intro A B c d p h1 h2 h3 h4
    simp only [Ytdlbjfgpfjcpaaa.atoms, show ¬ ((2 : Int) = 1) by omega, if_false, if_true, lets_nil, List.nil_append, Int.add_zero] at h2 ⊢
    have hl : d + t.length ≤ B.length := by
      have := congrArg List.length h2
      rw [List.length_append, lets_len, List.length_drop] at this
      omega
    rw [compA_append, compA_append, compA_lets, show ((t.length : Int)).toNat = t.length by omega, compA_rng B d t.length hl, ← h2,
      show (lets t ++ Ytdlbjfgpfjcpaaa.atoms p y).take t.length = lets t by rw [← lets_len t, List.take_left], show (d : Int) + (t.length : Int) = ((d + t.length : Nat) : Int) by omega]
    rw [ih A B c (d + t.length) p h1 (by rw [← List.drop_drop, ← h2, ← lets_len t, List.drop_left]) h3 hl]
  | @byte k l n x y x' y' T S hk hl h1 cx cy hlen _ ih =>
    intro A B c d p e1 e2 h3 h4
    rw [cx.atoms h1] at e1
    rw [cy.atoms h1] at e2
    have hA : k = 1 → c + n.toNat ≤ A.length := fun hh => by
      have := congrArg List.length e1
      rw [if_pos hh, List.length_append, rng_len, List.length_drop] at this
      omega
    have hB : l = 1 → d + n.toNat ≤ B.length := fun hh => by
      have := congrArg List.length e2
      rw [if_pos hh, List.length_append, rng_len, List.length_drop] at this
      omega
    have stepA : k = 1 → Ytdlbjfgpfjcpaaa.atoms (p + n) x' = A.drop (c + n.toNat) := fun hh => by
      rw [← List.drop_drop, ← e1, if_pos hh]
      exact (rng_drop p n.toNat _).symm
    have stepB : l = 1 → Ytdlbjfgpfjcpaaa.atoms (p + n) y' = B.drop (d + n.toNat) := fun hh => by
      rw [← List.drop_drop, ← e2, if_pos hh]
      exact (rng_drop p n.toNat _).symm
    have cast : ∀ c : Nat, (c : Int) + n = ((c + n.toNat : Nat) : Int) := fun c => by omega
    rcases hk with rfl | rfl <;> rcases hl with rfl | rfl
    · simp only [if_true, List.cons_append, List.nil_append, Ytdlbjfgpfjcpaaa.atoms, lets_nil]
      rw [compA_append, compA_append, compA_rng A c _ (hA rfl), compA_rng B d _ (hB rfl), ← e1, ← e2]
      simp only [if_true]
      have r1 := rng_take p n.toNat
      rw [r1, r1, cast, cast, ih A B _ _ (p + n) (stepA rfl) (stepB rfl) (hA rfl) (hB rfl)]
    · simp only [if_true, show ¬ ((3 : Int) = 1) by omega, if_false, List.cons_append, List.nil_append, Ytdlbjfgpfjcpaaa.atoms, lets_nil] at e2 ⊢
      rw [cast, ih A B _ d (p + n) (stepA rfl) e2 (hA rfl) h4]
    · simp only [if_true, show ¬ ((3 : Int) = 1) by omega, if_false, List.cons_append, List.nil_append, Ytdlbjfgpfjcpaaa.atoms, lets_nil] at e1 ⊢
      rw [cast, ih A B c _ (p + n) e1 (stepB rfl) h3 (hB rfl)]
    · simp only [show ¬ ((3 : Int) = 1) by omega, if_false, List.nil_append] at e1 e2 ⊢
      exact ih A B c d (p + n) e1 e2 h3 h4
theorem Cut.val {k n : Int} {x x' : List Pc} (h : Cut k n x x') (hk : k = 1 ∨ k = 3) (hx : Val x) : Val x' := by
  rcases h with rfl | ⟨m, r, hm, rfl, rfl⟩
  · exact (Val.cons.1 hx).2
  · refine Val.cons.2 ⟨?_, (Val.cons.1 hx).2⟩
    rcases hk with rfl | rfl
    · exact Pc.valid1 rfl hm rfl
    · exact Pc.valid3 rfl hm rfl
theorem Val.ge {l : List Pc} (h : Val l) {a : Int} (ha : 0 ≤ a) {i : Int} (hi : i ∈ Ytdlbjfgpfjcpaaa.atoms a l) (h0 : 0 ≤ i) : a ≤ i ∧ i < a + Ytdlbjfgpfjcpaaa.inL l := by
  have := (h.rising ha).mem i hi
  omega
/-- and keep what both keep -/
theorem Tr.kept {f : Bool} {x y T S : List Pc} (h : Tr f x y T S) : ∀ (A : List Int) (c : Nat) (p : Int), 0 ≤ p → Val x → Val y → Ytdlbjfgpfjcpaaa.atoms p x = A.drop c → c ≤ A.length →
    ∀ i : Int, 0 ≤ i → (i ∈ compA A (Ytdlbjfgpfjcpaaa.atoms c T) ↔ i ∈ Ytdlbjfgpfjcpaaa.atoms p x ∧ i ∈ Ytdlbjfgpfjcpaaa.atoms p y) := by
  induction h with
  | nil => intro A c p _ _ _ _ _ i _; simp [Ytdlbjfgpfjcpaaa.atoms, compA]
  | @insA t x y T S ht hf _ ih =>
    intro A c p h0 hx hy h1 h3 i hi
    have v := (Val.cons.1 hx).2
    simp only [Ytdlbjfgpfjcpaaa.atoms, show ¬ ((2 : Int) = 1) by omega, if_false, if_true, lets_nil, List.nil_append, Int.add_zero] at h1 ⊢
    have hl : c + t.length ≤ A.length := by
      have := congrArg List.length h1
      rw [List.length_append, lets_len, List.length_drop] at this
      omega
    rw [compA_append, show ((t.length : Int)).toNat = t.length by omega, compA_rng A c t.length hl, ← h1,
      show (lets t ++ Ytdlbjfgpfjcpaaa.atoms p x).take t.length = lets t by rw [← lets_len t, List.take_left], show (c : Int) + (t.length : Int) = ((c + t.length : Nat) : Int) by omega]
    have := ih A (c + t.length) p h0 v hy (by rw [← List.drop_drop, ← h1, ← lets_len t, List.drop_left]) hl i hi
    have nl : i ∉ lets t := fun hh => by have := mem_lets hh; omega
    simp only [List.mem_append, nl, false_or]
    exact this
  | @insB t x y T S ht hf _ ih =>
    intro A c p h0 hx hy h1 h3 i hi
    have v := (Val.cons.1 hy).2
    simp only [Ytdlbjfgpfjcpaaa.atoms, show ¬ ((2 : Int) = 1) by omega, if_false, List.nil_append, Int.add_zero]
    have nl : i ∉ lets t := fun hh => by have := mem_lets hh; omega
    rw [compA_append, compA_lets]
    simp only [List.mem_append, nl, false_or]
    exact ih A c p h0 hx v h1 h3 i hi
  | @byte k l n x y x' y' T S hk hl h1 cx cy hlen _ ih =>
    intro A c p h0 hx hy e1 h3 i hi
    have vx := cx.val hk hx
    have vy := cy.val hl hy
    rw [cx.atoms h1] at e1 ⊢
    rw [cy.atoms h1]
    have hA : k = 1 → c + n.toNat ≤ A.length := fun hh => by
      have := congrArg List.length e1
      rw [if_pos hh, List.length_append, rng_len, List.length_drop] at this
      omega
    have stepA : k = 1 → Ytdlbjfgpfjcpaaa.atoms (p + n) x' = A.drop (c + n.toNat) := fun hh => by
      rw [← List.drop_drop, ← e1, if_pos hh]
      exact (rng_drop p n.toNat _).symm
    have cast : ∀ c : Nat, (c : Int) + n = ((c + n.toNat : Nat) : Int) := fun c => by omega
    have gx := fun hh => vx.ge (a := p + n) (by omega) (i := i) hh hi
    have gy := fun hh => vy.ge (a := p + n) (by omega) (i := i) hh hi
    have mr : i ∈ rng p n.toNat ↔ p ≤ i ∧ i < p + n := by rw [mem_rng]; omega
    rcases hk with rfl | rfl <;> rcases hl with rfl | rfl
    · simp only [if_true, List.cons_append, List.nil_append, Ytdlbjfgpfjcpaaa.atoms, lets_nil]
      rw [compA_append, compA_rng A c _ (hA rfl), ← e1]
      simp only [if_true]
      have r1 := rng_take p n.toNat
      rw [r1, cast]
      have := ih A _ (p + n) (by omega) vx vy (stepA rfl) (hA rfl) i hi
      simp only [List.mem_append, this]
      constructor
      · rintro (a | ⟨a, b⟩)
        · exact ⟨.inl a, .inl a⟩
        · exact ⟨.inr a, .inr b⟩
      · rintro ⟨a | a, b | b⟩
        · exact .inl a
        · exact .inl a
        · exact .inl b
        · exact .inr ⟨a, b⟩
    · simp only [if_true, show ¬ ((3 : Int) = 1) by omega, if_false, List.cons_append, List.nil_append, Ytdlbjfgpfjcpaaa.atoms, lets_nil]
      rw [cast, ih A _ (p + n) (by omega) vx vy (stepA rfl) (hA rfl) i hi]
      simp only [List.mem_append]
      constructor
      · rintro ⟨a, b⟩; exact ⟨.inr a, b⟩
      · rintro ⟨a | a, b⟩
        · have := gy b; have := mr.1 a; omega
        · exact ⟨a, b⟩
    · simp only [if_true, show ¬ ((3 : Int) = 1) by omega, if_false, List.nil_append] at e1 ⊢
      rw [ih A c (p + n) (by omega) vx vy e1 h3 i hi]
      simp only [List.mem_append]
      constructor
      · rintro ⟨a, b⟩; exact ⟨a, .inr b⟩
      · rintro ⟨a, b | b⟩
        · have := gx a; have := mr.1 b; omega
        · exact ⟨a, b⟩
    · simp only [show ¬ ((3 : Int) = 1) by omega, if_false, List.nil_append] at e1 ⊢
      exact ih A c (p + n) (by omega) vx vy e1 h3 i hi
/-- the texts that are inserted at each offset, and whether each byte is kept -/
def consT (t : List UInt8) (L : List (List UInt8)) : List (List UInt8) := (t ++ L.headD []) :: L.tail
def textsL : List Pc → List (List UInt8)
  | [] => [[]]
  | p :: r => if p.k = 2 then consT p.t (textsL r) else List.replicate p.n.toNat [] ++ textsL r
def keepsL : List Pc → List Bool
  | [] => []
  | p :: r => List.replicate p.n.toNat (p.k == 1) ++ keepsL r
def ordA (f : Bool) (c : Int) (t u : List UInt8) : List Int := if f = true then rng c t.length ++ lets u else lets u ++ rng c t.length
/-- the merged result, offset by offset -/
def agL (f : Bool) : Int → List (List UInt8) → List (List UInt8) → List Bool → List Bool → List Int
  | _, [], _, _, _ => []
  | c, t :: X, Y, K, L => ordA f c t (Y.headD []) ++ ((if K.headD false = true ∧ L.headD false = true then [c + t.length] else []) ++ agL f (c + t.length + if K.headD false = true then 1 else 0) X Y.tail K.tail L.tail)
theorem textsL_ne (l : List Pc) : textsL l ≠ [] := by
  induction l with
  | nil => simp [textsL]
  | cons p r ih =>
    rw [textsL]
    split
    · simp [consT]
    · simp [ih]
theorem Cut.texts {k n : Int} {x x' : List Pc} (h : Cut k n x x') (hk : k = 1 ∨ k = 3) (h1 : 1 ≤ n) : textsL x = List.replicate n.toNat [] ++ textsL x' ∧ keepsL x = List.replicate n.toNat (k == 1) ++ keepsL x' := by
  have h2 : ¬ k = 2 := by omega
  rcases h with rfl | ⟨m, r, hm, rfl, rfl⟩
  · simp only [textsL, keepsL, if_neg h2, and_self]
  · simp only [textsL, keepsL, if_neg h2]
    rw [show (n + m).toNat = n.toNat + m.toNat by omega, ← List.replicate_append_replicate, ← List.replicate_append_replicate, List.append_assoc, List.append_assoc]
    exact ⟨rfl, rfl⟩
theorem texts_head {l : List Pc} (h : Val l) (hk : kd l ≠ 2) : (textsL l).headD [] = [] := by
  cases l with
  | nil => rfl
  | cons p r =>
    have v := (Val.cons.1 h).1
    have : p.k ≠ 2 := hk
    rw [textsL, if_neg this]
    have h1 : 1 ≤ p.n := by rcases Pc.valid_cases v with ⟨u, v, z⟩ | ⟨u, v, z⟩ | ⟨u, v, z⟩ <;> first | exact v | exact absurd u this
    rw [show p.n.toNat = (p.n - 1).toNat + 1 by omega, List.replicate_succ]
    rfl
theorem agL_insA {f : Bool} {c : Int} {t : List UInt8} {X Y : List (List UInt8)} {K L : List Bool} (hX : X ≠ []) (h : f = true ∨ Y.headD [] = []) :
    agL f c (consT t X) Y K L = rng c t.length ++ agL f (c + t.length) X Y K L := by
  cases X with
  | nil => exact absurd rfl hX
  | cons g X =>
    simp only [consT, List.headD_cons, List.tail_cons, agL]
    have e : ordA f c (t ++ g) (Y.headD []) = rng c t.length ++ ordA f (c + t.length) g (Y.headD []) := by
      unfold ordA
      rcases h with h | h
      · simp only [h, if_true, List.length_append, rng_add, List.append_assoc]
      · rw [h]
        split <;> simp [rng_add, lets_nil]
    rw [e, List.append_assoc, List.length_append, show c + ((t.length + g.length : Nat) : Int) = c + t.length + g.length by omega]
theorem agL_insB {f : Bool} {c : Int} {t : List UInt8} {X Y : List (List UInt8)} {K L : List Bool} (hX : X ≠ []) (h : f = false ∨ X.headD [] = []) :
    agL f c X (consT t Y) K L = lets t ++ agL f c X Y K L := by
  cases X with
  | nil => exact absurd rfl hX
  | cons g X =>
    simp only [consT, List.headD_cons, List.tail_cons, agL] at h ⊢
    have e : ordA f c g (t ++ Y.headD []) = lets t ++ ordA f c g (Y.headD []) := by
      unfold ordA
      rcases h with h | h
      · simp [h, lets_append]
      · rw [h]
        split <;> simp [rng_zero, lets_append]
    rw [e, List.append_assoc]
theorem agL_byte {f k l : Bool} {X Y : List (List UInt8)} {K L : List Bool} (m : Nat) : ∀ c : Int,
    agL f c (List.replicate m [] ++ X) (List.replicate m [] ++ Y) (List.replicate m k ++ K) (List.replicate m l ++ L) = (if k = true ∧ l = true then rng c m else []) ++ agL f (c + if k = true then (m : Int) else 0) X Y K L := by
  induction m with
  | zero => intro c; simp [rng_zero]
  | succ m ih =>
    intro c
    simp only [List.replicate_succ, List.cons_append, agL, List.headD_cons, List.tail_cons, List.length_nil]
    rw [ih]
    have e : ordA f c [] [] = [] := by unfold ordA; split <;> simp [rng_zero, lets_nil]
    rw [e]
    cases k <;> cases l <;> simp [rng_succ] <;> congr 1 <;> omega
theorem Tr.ag {f : Bool} {x y T S : List Pc} (h : Tr f x y T S) : Val x → Val y → ∀ c : Int, Ytdlbjfgpfjcpaaa.atoms c T = agL f c (textsL x) (textsL y) (keepsL x) (keepsL y) := by
  induction h with
  | nil => intro _ _ c; simp [Ytdlbjfgpfjcpaaa.atoms, textsL, keepsL, agL, ordA, rng_zero, lets_nil]
  | @insA t x y T S ht hf _ ih =>
    intro hx hy c
    simp only [textsL, keepsL, if_true, Ytdlbjfgpfjcpaaa.atoms, lets_nil, List.nil_append]
    rw [agL_insA (textsL_ne x) (by rcases hf with h | h; · exact .inl h
                                   · exact .inr (texts_head hy h)), ih (Val.cons.1 hx).2 hy]
    simp
  | @insB t x y T S ht hf _ ih =>
    intro hx hy c
    simp only [textsL, keepsL, if_true, Ytdlbjfgpfjcpaaa.atoms, show ¬ ((2 : Int) = 1) by omega, if_false, List.nil_append, Int.add_zero]
    rw [agL_insB (textsL_ne x) (by rcases hf with h | h; · exact .inl h
                                   · exact .inr (texts_head hx h)), ih hx (Val.cons.1 hy).2]
    simp
  | @byte k l n x y x' y' T S hk hl h1 cx cy hlen _ ih =>
    intro hx hy c
    obtain ⟨a1, a2⟩ := cx.texts hk h1
    obtain ⟨b1, b2⟩ := cy.texts hl h1
    rw [a1, a2, b1, b2, agL_byte, ← ih (cx.val hk hx) (cy.val hl hy)]
    have e : (n.toNat : Int) = n := by omega
    rcases hk with rfl | rfl <;> rcases hl with rfl | rfl <;> simp [Ytdlbjfgpfjcpaaa.atoms, lets_nil, e]
theorem texts_len {l : List Pc} (h : Val l) : ((textsL l).length : Int) = Ytdlbjfgpfjcpaaa.inL l + 1 ∧ ((keepsL l).length : Int) = Ytdlbjfgpfjcpaaa.inL l := by
  induction l with
  | nil => exact ⟨rfl, rfl⟩
  | cons p r ih =>
    obtain ⟨v1, v2⟩ := Val.cons.1 h
    obtain ⟨i1, i2⟩ := ih v2
    simp only [textsL, keepsL, Ytdlbjfgpfjcpaaa.inL, List.length_append, List.length_replicate]
    have hn := Val.n v1
    by_cases hk : p.k = 2
    · have h0 : p.n = 0 := by rcases Pc.valid_cases v1 with ⟨u, v, z⟩ | ⟨u, v, z⟩ | ⟨u, v, z⟩ <;> omega
      have hne := textsL_ne r
      have : ((textsL r).tail.length + 1 : Nat) = (textsL r).length := by
        cases e : textsL r with
        | nil => exact absurd e hne
        | cons a b => simp
      rw [if_pos hk]
      simp only [consT, List.length_cons]
      omega
    · rw [if_neg hk, List.length_append, List.length_replicate]
      omega
/-- what is kept, by the atoms -/
theorem keeps_mem {l : List Pc} (h : Val l) : ∀ a : Int, 0 ≤ a → keepsL l = (rng a (Ytdlbjfgpfjcpaaa.inL l).toNat).map fun i => decide (i ∈ Ytdlbjfgpfjcpaaa.atoms a l) := by
  induction l with
  | nil => intro a _; rfl
  | cons p r ih =>
    intro a ha
    obtain ⟨v1, v2⟩ := Val.cons.1 h
    have hn := Val.n v1
    have hr := Val.inL v2
    have me : ∀ i : Int, i ∈ Ytdlbjfgpfjcpaaa.atoms a (p :: r) ↔ i ∈ lets p.t ∨ i ∈ (if p.k = 1 then rng a p.n.toNat else []) ∨ i ∈ Ytdlbjfgpfjcpaaa.atoms (a + p.n) r := fun i => by simp only [Ytdlbjfgpfjcpaaa.atoms, List.mem_append]
    simp only [keepsL, Ytdlbjfgpfjcpaaa.inL]
    rw [show (p.n + Ytdlbjfgpfjcpaaa.inL r).toNat = p.n.toNat + (Ytdlbjfgpfjcpaaa.inL r).toNat by omega, rng_add, List.map_append, show a + (p.n.toNat : Int) = a + p.n by omega, ih v2 (a + p.n) (by omega)]
    congr 1
    · refine (List.eq_replicate_iff.2 ⟨by simp [rng_len], fun b hb => ?_⟩).symm
      obtain ⟨i, hi, rfl⟩ := List.mem_map.1 hb
      have hi' := mem_rng.1 hi
      have nl : i ∉ lets p.t := fun hh => by have := mem_lets hh; omega
      have ng : i ∉ Ytdlbjfgpfjcpaaa.atoms (a + p.n) r := fun hh => by have := v2.ge (a := a + p.n) (by omega) hh (by omega); omega
      by_cases hk : p.k = 1
      · have : i ∈ Ytdlbjfgpfjcpaaa.atoms a (p :: r) := (me i).2 (.inr (.inl (by rw [if_pos hk]; exact hi)))
        simp [hk, this]
      · have : ¬ i ∈ Ytdlbjfgpfjcpaaa.atoms a (p :: r) := fun hh => by
          rcases (me i).1 hh with h | h | h
          · exact nl h
          · rw [if_neg hk] at h; cases h
          · exact ng h
        simp [hk, this]
    · apply List.map_congr_left
      intro i hi
      have hi' := mem_rng.1 hi
      have nl : i ∉ lets p.t := fun hh => by have := mem_lets hh; omega
      have nr : i ∉ (if p.k = 1 then rng a p.n.toNat else []) := fun hh => by
        split at hh
        · have := mem_rng.1 hh; omega
        · cases hh
      exact decide_eq_decide.2 ((me i).trans (by simp only [nl, nr, false_or])).symm
theorem keeps_form {l : List Pc} (h : Val l) : keepsL (formS l) = keepsL l := by
  obtain ⟨h1, h2, h3⟩ := formS_ok h
  rw [keeps_mem h1 0 (Int.le_refl _), keeps_mem h 0 (Int.le_refl _), h2, h3]
/-- the transformed delta, its error, and its pieces before they are joined -/
def trS (f : Bool) (a b : List Pc) : List Pc := trF (szL (formS a) + szL (formS b)) f (formS a) (formS b)
def trE (f : Bool) (a b : List Pc) : Int := if errL a = 0 then (if errL b = 0 then (if inL a = inL b then (if errL (formS (trS f a b)) = 0 then 0 else 5) else 21) else errL b) else errL a
def trR (f : Bool) (a b : List Pc) : List Pc := if trE f a b = 0 then formS (trS f a b) else []
theorem trS_rel (f : Bool) {a b : List Pc} (ha : errL a = 0) (hb : errL b = 0) (h : inL a = inL b) : Tr f (formS a) (formS b) (trS f a b) (trS (!f) b a) := by
  have va := ((errL_iff a).1 ha).2.1
  have vb := ((errL_iff b).1 hb).2.1
  obtain ⟨a1, a2, a3⟩ := formS_ok va
  obtain ⟨b1, b2, b3⟩ := formS_ok vb
  have := tr_rel (szL (formS a) + szL (formS b)) f (formS a) (formS b) a1 b1 (by rw [a3, b3, h]) (Nat.le_refl _)
  rw [trS, trS, Nat.add_comm (szL (formS b))]
  exact this
theorem smp_of {l : List Pc} (h : errL l = 0) : SmP l := by
  obtain ⟨h1, h2, h3, h4⟩ := (errL_iff l).1 h
  clear h h1
  induction l with
  | nil => intro p hp; cases hp
  | cons p r ih =>
    obtain ⟨v1, v2⟩ := Val.cons.1 h2
    have i1 := Val.inL v2
    have o1 := Val.outL v2
    have n1 := Val.n v1
    have k1 := Val.out v1
    simp only [inL] at h3
    simp only [outL] at h4
    refine SmP.cons.2 ⟨⟨v1, by omega, ?_⟩, ih v2 (by omega) (by omega)⟩
    simp only [Pc.out] at h4 k1
    rcases Pc.valid_cases v1 with ⟨x, y, z⟩ | ⟨x, y, z⟩ | ⟨x, y, z⟩
    · simp [z]
    · simp [z]
    · simp [x] at h4; omega
theorem form_err {l : List Pc} (h : errL l = 0) : errL (formS l) = 0 := (lens_formS h).2
theorem trS_ok (f : Bool) {a b : List Pc} (ha : errL a = 0) (hb : errL b = 0) (h : inL a = inL b) : SmP (trS f a b) ∧ (trS f a b).length ≤ 8192 ∧ inL (trS f a b) = outL a := by
  have va := ((errL_iff a).1 ha).2.1
  have vb := ((errL_iff b).1 hb).2.1
  have r := trS_rel f ha hb h
  have s := r.smp (smp_of (form_err ha)) (smp_of (form_err hb))
  have l1 := form4096 ha
  have l2 := form4096 hb
  refine ⟨s.1, by omega, ?_⟩
  rw [r.inn.1, outL_formS va]
theorem trE_ok {f : Bool} {a b : List Pc} (h : trE f a b = 0) : errL a = 0 ∧ errL b = 0 ∧ inL a = inL b ∧ errL (formS (trS f a b)) = 0 := by
  unfold trE at h
  split at h
  · split at h
    · split at h
      · split at h
        · exact ⟨by assumption, by assumption, by assumption, by assumption⟩
        · cases h
      · cases h
    · contradiction
  · contradiction
theorem trR_ok {f : Bool} {a b : List Pc} (h : trE f a b = 0) : trR f a b = formS (trS f a b) ∧ errL (trR f a b) = 0 ∧ Val (trR f a b) ∧ inL (trR f a b) = outL a ∧ formS (trR f a b) = trR f a b ∧
    atoms 0 (trR f a b) = atoms 0 (trS f a b) ∧ outL (trR f a b) = outL (trS f a b) := by
  obtain ⟨ha, hb, he, hf⟩ := trE_ok h
  obtain ⟨s1, s2, s3⟩ := trS_ok f ha hb he
  obtain ⟨f1, f2, f3⟩ := formS_ok s1.val
  have e : trR f a b = formS (trS f a b) := by rw [trR, if_pos h]
  rw [e]
  exact ⟨rfl, hf, f1, by rw [f3, s3], formS_idem s1.val, f2 0, outL_formS s1.val⟩
theorem trR_none {f : Bool} {a b : List Pc} (h : trE f a b ≠ 0) : trR f a b = [] := by rw [trR, if_neg h]
theorem trE_cases (f : Bool) (a b : List Pc) : trE f a b = 0 ∨ trE f a b = 2 ∨ trE f a b = 5 ∨ trE f a b = 21 := by
  have e : ∀ l : List Pc, errL l = 0 ∨ errL l = 2 ∨ errL l = 5 := fun l => errL_cases l
  unfold trE
  split
  · split
    · split
      · split <;> simp
      · simp
    · rcases e b with h | h | h <;> simp [h]
  · rcases e a with h | h | h <;> simp [h]
/-- the reference's answer -/
theorem tr_ref (f : Bool) {a b : List Pc} (ha : errL a = 0) (hb : errL b = 0) (h : inL a = inL b) :
    formS (trS f a b) = ofS (outL a) (agL f 0 (textsL (formS a)) (textsL (formS b)) (keepsL a) (keepsL b)) := by
  have va := ((errL_iff a).1 ha).2.1
  have vb := ((errL_iff b).1 hb).2.1
  obtain ⟨s1, s2, s3⟩ := trS_ok f ha hb h
  rw [formS_ofS s1.val, s3, (trS_rel f ha hb h).ag (formS_ok va).1 (formS_ok vb).1 0, keeps_form va, keeps_form vb]
/-- equivalent deltas are transformed in the same way -/
theorem tr_forms {f : Bool} {a b : List Pc} (ha : errL a = 0) (hb : errL b = 0) : trE f (normS a) (normS b) = trE f a b ∧ trR f (normS a) (normS b) = trR f a b := by
  have va := ((errL_iff a).1 ha).2.1
  have vb := ((errL_iff b).1 hb).2.1
  obtain ⟨a1, a2, a3, a4, a5, a6⟩ := norm_ok ha
  obtain ⟨b1, b2, b3, b4, b5, b6⟩ := norm_ok hb
  have e : trS f (normS a) (normS b) = trS f a b := by unfold trS; rw [a1, b1, formS_idem va, formS_idem vb]
  have e2 : trE f (normS a) (normS b) = trE f a b := by unfold trE; rw [e, a2, b2, a3, b3, if_pos ha, if_pos hb]; simp
  refine ⟨e2, ?_⟩
  unfold trR
  rw [e, e2]
/-- THE STAGE'S THEOREM, for what Compose returns -/
theorem tr_conv (f : Bool) {a b : List Pc} (h1 : trE f a b = 0) (h2 : trE (!f) b a = 0) :
    cmpE a (trR f a b) = cmpE b (trR (!f) b a) ∧ cmpR a (trR f a b) = cmpR b (trR (!f) b a) ∧ compA (atoms 0 a) (atoms 0 (trR f a b)) = compA (atoms 0 b) (atoms 0 (trR (!f) b a)) := by
  obtain ⟨ha, hb, he, hf⟩ := trE_ok h1
  have va := ((errL_iff a).1 ha).2.1
  have vb := ((errL_iff b).1 hb).2.1
  obtain ⟨a1, a2, a3⟩ := formS_ok va
  obtain ⟨b1, b2, b3⟩ := formS_ok vb
  obtain ⟨r1, r2, r3, r4, r5, r6, r7⟩ := trR_ok h1
  obtain ⟨q1, q2, q3, q4, q5, q6, q7⟩ := trR_ok h2
  have key : compA (atoms 0 a) (atoms 0 (trR f a b)) = compA (atoms 0 b) (atoms 0 (trR (!f) b a)) := by
    rw [r6, q6]
    exact (trS_rel f ha hb he).conv (atoms 0 a) (atoms 0 b) 0 0 0 (by rw [a2]; rfl) (by rw [b2]; rfl) (Nat.zero_le _) (Nat.zero_le _)
  have e1 : cmpE a (trR f a b) = cmpE b (trR (!f) b a) := by
    rw [cmpE_eq ha r2 r4.symm, cmpE_eq hb q2 q4.symm, key, he]
  refine ⟨e1, ?_, key⟩
  by_cases hc : cmpE a (trR f a b) = 0
  · rw [(cmpR_ok hc).1, (cmpR_ok (e1 ▸ hc)).1, key, he]
  · rw [cmpR_none hc, cmpR_none (e1 ▸ hc)]
theorem tr_apply {s : List UInt8} (f : Bool) {a b : List Pc} (hs : fitE s a = 0) (hs' : fitE s b = 0) (h1 : trE f a b = 0) (h2 : trE (!f) b a = 0) :
    fitE (applyS s a) (trR f a b) = 0 ∧ fitE (applyS s b) (trR (!f) b a) = 0 ∧ applyS (applyS s a) (trR f a b) = applyS (applyS s b) (trR (!f) b a) := by
  obtain ⟨r1, r2, r3, r4, r5, r6, r7⟩ := trR_ok h1
  obtain ⟨q1, q2, q3, q4, q5, q6, q7⟩ := trR_ok h2
  obtain ⟨a1, a2⟩ := apply_eq hs
  obtain ⟨b1, b2⟩ := apply_eq hs'
  obtain ⟨ha, va, la⟩ := fit_ok hs
  obtain ⟨hb, vb, lb⟩ := fit_ok hs'
  have f1 : fitE (applyS s a) (trR f a b) = 0 := fit_of r2 (by rw [r4, a2])
  have f2 : fitE (applyS s b) (trR (!f) b a) = 0 := fit_of q2 (by rw [q4, b2])
  have i1 : InB (atoms 0 a).length (atoms 0 (trR f a b)) := by
    have := Val.inB r3
    rw [r4, ← Val.atoms_len va 0] at this
    exact this
  have i2 : InB (atoms 0 b).length (atoms 0 (trR (!f) b a)) := by
    have := Val.inB q3
    rw [q4, ← Val.atoms_len vb 0] at this
    exact this
  refine ⟨f1, f2, ?_⟩
  rw [(apply_eq f1).1, (apply_eq f2).1, a1, b1, ← valA_comp i1, ← valA_comp i2, (tr_conv f h1 h2).2.2]
/-- the merge keeps what both keep -/
theorem tr_kept (f : Bool) {a b : List Pc} (h1 : trE f a b = 0) (hc : cmpE a (trR f a b) = 0) {i : Int} (hi : 0 ≤ i) : i ∈ atoms 0 (cmpR a (trR f a b)) ↔ i ∈ atoms 0 a ∧ i ∈ atoms 0 b := by
  obtain ⟨ha, hb, he, hf⟩ := trE_ok h1
  have va := ((errL_iff a).1 ha).2.1
  have vb := ((errL_iff b).1 hb).2.1
  obtain ⟨a1, a2, a3⟩ := formS_ok va
  obtain ⟨b1, b2, b3⟩ := formS_ok vb
  obtain ⟨r1, r2, r3, r4, r5, r6, r7⟩ := trR_ok h1
  obtain ⟨c1, c2, c3, c4, c5, c6, c7⟩ := cmpR_ok hc
  rw [c6, r6]
  have := (trS_rel f ha hb he).kept (atoms 0 a) 0 0 (Int.le_refl _) a1 b1 (by rw [a2]; rfl) (Nat.zero_le _) i hi
  rw [a2, b2] at this
  exact this
/-- against the identity -/
theorem Tr.neutral {f : Bool} {x y T S : List Pc} (h : Tr f x y T S) : (∀ q ∈ x, q.k = 1) → (∀ p, Ytdlbjfgpfjcpaaa.atoms p T = Ytdlbjfgpfjcpaaa.atoms p y) ∧ ∀ c, Ytdlbjfgpfjcpaaa.atoms c S = rng c (Ytdlbjfgpfjcpaaa.outL S).toNat ∧ 0 ≤ Ytdlbjfgpfjcpaaa.outL S := by
  induction h with
  | nil => intro _; exact ⟨fun p => rfl, fun c => ⟨rfl, Int.le_refl _⟩⟩
  | insA ht hf _ ih =>
    intro hx
    have := hx _ (List.mem_cons_self ..)
    cases this
  | @insB t x y T S ht hf _ ih =>
    intro hx
    obtain ⟨i1, i2⟩ := ih hx
    refine ⟨fun p => by simp only [Ytdlbjfgpfjcpaaa.atoms, i1], fun c => ?_⟩
    obtain ⟨j1, j2⟩ := i2 (c + t.length)
    have eo : Ytdlbjfgpfjcpaaa.outL (⟨1, t.length, []⟩ :: S) = t.length + Ytdlbjfgpfjcpaaa.outL S := rfl
    rw [eo]
    simp only [Ytdlbjfgpfjcpaaa.atoms, lets_nil, List.nil_append, if_true]
    refine ⟨?_, by omega⟩
    rw [j1, show ((t.length : Int) + Ytdlbjfgpfjcpaaa.outL S).toNat = t.length + (Ytdlbjfgpfjcpaaa.outL S).toNat by omega, rng_add]
    simp
  | @byte k l n x y x' y' T S hk hl h1 cx cy hlen _ ih =>
    intro hx
    have hk1 : k = 1 := by
      rcases cx with rfl | ⟨m, r, hm, rfl, rfl⟩
      · exact hx ⟨k, n, []⟩ (List.mem_cons_self ..)
      · exact hx ⟨k, n + m, []⟩ (List.mem_cons_self ..)
    have hx' : ∀ q ∈ x', q.k = 1 := by
      rcases cx with rfl | ⟨m, r, hm, rfl, rfl⟩
      · exact fun q hq => hx q (List.mem_cons_of_mem _ hq)
      · intro q hq
        rcases List.mem_cons.1 hq with rfl | hq
        · exact hk1
        · exact hx q (List.mem_cons_of_mem _ hq)
    obtain ⟨i1, i2⟩ := ih hx'
    subst hk1
    refine ⟨fun p => ?_, fun c => ?_⟩
    · rw [cy.atoms h1]
      simp only [if_true, List.cons_append, List.nil_append, Ytdlbjfgpfjcpaaa.atoms, lets_nil, i1]
    · rcases hl with rfl | rfl
      · have eo : Ytdlbjfgpfjcpaaa.outL (⟨1, n, []⟩ :: S) = n + Ytdlbjfgpfjcpaaa.outL S := rfl
        simp only [if_true, List.cons_append, List.nil_append]
        rw [eo]
        simp only [Ytdlbjfgpfjcpaaa.atoms, lets_nil, List.nil_append, if_true]
        obtain ⟨j1, j2⟩ := i2 (c + n)
        refine ⟨?_, by omega⟩
        rw [j1, show (n + Ytdlbjfgpfjcpaaa.outL S).toNat = n.toNat + (Ytdlbjfgpfjcpaaa.outL S).toNat by omega, rng_add, show c + (n.toNat : Int) = c + n by omega]
      · simp only [show ¬ ((3 : Int) = 1) by omega, if_false, List.nil_append]
        exact i2 c
theorem idS_ret (n : Int) : ∀ q ∈ idS n, q.k = 1 := by
  intro q hq
  unfold idS at hq
  split at hq
  · split at hq
    · cases hq
    · rw [List.mem_singleton.1 hq]
  · cases hq
/-- against the identity a delta is its normal form, and the identity against a delta is the identity of its result -/
theorem tr_neutral (f : Bool) {d : List Pc} (h : errL d = 0) : trE f (idS (inL d)) d = 0 ∧ trR f (idS (inL d)) d = normS d ∧ trE f d (idS (inL d)) = 0 ∧ trR f d (idS (inL d)) = idS (outL d) := by
  have vd := ((errL_iff d).1 h).2.1
  obtain ⟨d1, d2, d3⟩ := formS_ok vd
  obtain ⟨e1, e2⟩ := idE_of h
  obtain ⟨m1, m2, m3, m4, m5, m6, m7, m8⟩ := id_ok e1
  obtain ⟨n1, n2, n3, n4, n5, n6, n7, n8⟩ := id_ok e2
  have r := trS_rel f m3 h m5
  rw [m8] at r
  obtain ⟨q1, q2⟩ := r.neutral (idS_ret _)
  have t1 := trS_ok f m3 h m5
  have r' := trS_rel (!f) m3 h m5
  rw [m8, Bool.not_not] at r'
  obtain ⟨p1, p2⟩ := r'.neutral (idS_ret _)
  have t2 := trS_ok f h m3 m5.symm
  have g1 : formS (trS f (idS (inL d)) d) = formS d := formS_congr t1.1.val vd (by rw [t1.2.2, m6]) (by rw [q1, d2])
  have g2 : formS (trS f d (idS (inL d))) = idS (outL d) := by
    rw [← n8]
    refine formS_congr t2.1.val n4 (by rw [t2.2.2, n5]) ?_
    have o : outL (trS f d (idS (inL d))) = outL d := by
      rw [← r'.inn.2.2]
      have := Val.atoms_len (r'.smp (smp_of m3) (smp_of (form_err h))).1.val 0
      rw [p1 0] at this
      rw [← this, Val.atoms_len d1, outL_formS vd]
    rw [(p2 0).1, n7, o]
  have x1 : trE f (idS (inL d)) d = 0 := by rw [trE, if_pos m3, if_pos h, if_pos m5, g1, if_pos (form_err h)]
  have x2 : trE f d (idS (inL d)) = 0 := by rw [trE, if_pos h, if_pos m3, if_pos m5.symm, g2, if_pos n3]
  exact ⟨x1, by rw [trR, if_pos x1, g1, normS, if_pos h], x2, by rw [trR, if_pos x2, g2]⟩
/-- no offset at which both insert; no byte that both remove -/
def apartT (X Y : List (List UInt8)) : Prop := ∀ i : Nat, X.getD i [] = [] ∨ Y.getD i [] = []
def apartK (K L : List Bool) : Prop := ∀ i : Nat, ¬ (K[i]? = some false ∧ L[i]? = some false)
theorem getD_rep (m : Nat) (X : List (List UInt8)) (i : Nat) : (List.replicate m [] ++ X).getD (m + i) [] = X.getD i [] := by
  rw [List.getD_eq_getElem?_getD, List.getD_eq_getElem?_getD, List.getElem?_append_right (by simp)]
  simp
theorem apartT.byte {m : Nat} {X Y : List (List UInt8)} (h : apartT (List.replicate m [] ++ X) (List.replicate m [] ++ Y)) : apartT X Y := fun i => by
  have := h (m + i)
  rwa [getD_rep, getD_rep] at this
theorem consT_getD (t : List UInt8) (X : List (List UInt8)) (i : Nat) (h : (consT t X).getD i [] = []) : X.getD i [] = [] := by
  unfold consT at h
  cases X with
  | nil => rfl
  | cons g X =>
    cases i with
    | zero =>
      simp at h
      simp [h.2]
    | succ i => simpa using h
theorem apartT.a {t : List UInt8} {X Y : List (List UInt8)} (h : apartT (consT t X) Y) : apartT X Y := fun i => (h i).imp (consT_getD t X i) id
theorem apartT.b {t : List UInt8} {X Y : List (List UInt8)} (h : apartT X (consT t Y)) : apartT X Y := fun i => (h i).imp id (consT_getD t Y i)
theorem apartK.byte {m : Nat} {k l : Bool} {K L : List Bool} (h : apartK (List.replicate m k ++ K) (List.replicate m l ++ L)) : apartK K L := fun i => by
  have := h (m + i)
  rw [List.getElem?_append_right (by simp), List.getElem?_append_right (by simp)] at this
  simpa using this
theorem texts_ins {p : Pc} {r : List Pc} (h : p.k = 2) : textsL (p :: r) = consT p.t (textsL r) := by rw [textsL, if_pos h]
theorem trF_cc (n : Nat) (f : Bool) (p : Pc) (x : List Pc) (q : Pc) (y : List Pc) : trF (n + 1) f (p :: x) (q :: y) =
    if p.k = 2 ∧ (f = true ∨ q.k ≠ 2) then ⟨1, p.t.length, []⟩ :: trF n f x (q :: y)
    else if q.k = 2 then ⟨2, 0, q.t⟩ :: trF n f (p :: x) y
    else (if p.k = 1 then [⟨q.k, min p.n q.n, []⟩] else []) ++ trF n f (takL (min p.n q.n) p x) (takL (min p.n q.n) q y) := by rw [trF]
theorem tr_either : ∀ (n : Nat) (x y : List Pc), Val x → Val y → apartT (textsL x) (textsL y) → trF n true x y = trF n false x y := by
  intro n
  induction n with
  | zero => intros; rfl
  | succ n ih =>
    intro x y hx hy h
    cases x with
    | nil =>
      cases y with
      | nil => rfl
      | cons q y =>
        rw [trF, trF]
        split
        · rename_i hq
          rw [ih [] y hx (Val.cons.1 hy).2 (by rw [texts_ins hq] at h; exact h.b)]
        · rfl
    | cons p x =>
      obtain ⟨u1, u2⟩ := Val.cons.1 hx
      cases y with
      | nil =>
        rw [trF, trF]
        split
        · rename_i hp
          rw [ih x [] u2 hy (by rw [texts_ins hp] at h; exact h.a)]
        · rfl
      | cons q y =>
        obtain ⟨v1, v2⟩ := Val.cons.1 hy
        have ins : ∀ {p : Pc}, p.valid = true → p.k = 2 → p.t ≠ [] := by
          intro p hp h2
          rcases Pc.valid_cases hp with ⟨u, v, z⟩ | ⟨u, v, z⟩ | ⟨u, v, z⟩
          · omega
          · omega
          · exact z
        rw [trF_cc, trF_cc]
        by_cases hp : p.k = 2
        · have hq : q.k ≠ 2 := fun hq => by
            have := h 0
            rw [texts_ins hp, texts_ins hq] at this
            simp only [consT, List.getD_cons_zero, List.append_eq_nil_iff] at this
            rcases this with a | a
            · exact ins u1 hp a.1
            · exact ins v1 hq a.1
          rw [if_pos ⟨hp, .inr hq⟩, if_pos ⟨hp, .inr hq⟩, ih x (q :: y) u2 hy (by rw [texts_ins hp] at h; exact h.a)]
        · have na : ∀ f : Bool, ¬ (p.k = 2 ∧ (f = true ∨ q.k ≠ 2)) := fun f a => hp a.1
          rw [if_neg (na true), if_neg (na false)]
          by_cases hq : q.k = 2
          · rw [if_pos hq, if_pos hq, ih (p :: x) y hx v2 (by rw [texts_ins hq] at h; exact h.b)]
          · rw [if_neg hq, if_neg hq]
            have one : ∀ {p : Pc}, p.valid = true → p.k ≠ 2 → 1 ≤ p.n ∧ (p.k = 1 ∨ p.k = 3) := by
              intro p hp h2
              rcases Pc.valid_cases hp with ⟨u, v, z⟩ | ⟨u, v, z⟩ | ⟨u, v, z⟩
              · exact ⟨v, .inl u⟩
              · exact ⟨v, .inr u⟩
              · exact absurd u h2
            obtain ⟨p1, pk⟩ := one u1 hp
            obtain ⟨q1, qk⟩ := one v1 hq
            have m1 : 1 ≤ min p.n q.n := by omega
            have c1 := Cut.of u1 hp m1 (by omega) x
            have c2 := Cut.of v1 hq m1 (by omega) y
            rw [ih _ _ (c1.val pk hx) (c2.val qk hy) (by rw [(c1.texts pk m1).1, (c2.texts qk m1).1] at h; exact h.byte)]
theorem Tr.lens {f : Bool} {x y T S : List Pc} (h : Tr f x y T S) : apartK (keepsL x) (keepsL y) → Ytdlbjfgpfjcpaaa.outL T + Ytdlbjfgpfjcpaaa.inL x = Ytdlbjfgpfjcpaaa.outL x + Ytdlbjfgpfjcpaaa.outL y := by
  induction h with
  | nil => intro _; rfl
  | insA ht hf _ ih =>
    intro h
    have := ih (by simpa [keepsL] using h)
    simp only [Ytdlbjfgpfjcpaaa.inL, Ytdlbjfgpfjcpaaa.outL, Pc.out]; simp; omega
  | insB ht hf _ ih =>
    intro h
    have := ih (by simpa [keepsL] using h)
    simp only [Ytdlbjfgpfjcpaaa.outL, Pc.out]; simp; omega
  | @byte k l n x y x' y' T S hk hl h1 cx cy hlen _ ih =>
    intro h
    rw [(cx.texts hk h1).2, (cy.texts hl h1).2] at h
    have := ih h.byte
    have h0 := h 0
    rw [outL_append, (cx.io hk h1).1, (cx.io hk h1).2, (cy.io hl h1).2]
    rcases hk with rfl | rfl <;> rcases hl with rfl | rfl
    · simp [Ytdlbjfgpfjcpaaa.outL, Pc.out]; omega
    · simp [Ytdlbjfgpfjcpaaa.outL, Pc.out]; omega
    · simp [Ytdlbjfgpfjcpaaa.outL]; omega
    · exfalso
      apply h0
      rw [show n.toNat = (n.toNat - 1) + 1 by omega]
      simp [List.replicate_succ]

/-- the reference's comparison of two deltas, offset by offset -/
def disL : List (List UInt8) → List (List UInt8) → List Bool → List Bool → Bool
  | [], _, _, _ => true
  | t :: X, Y, K, L => if (t ≠ [] ∧ Y.headD [] ≠ []) ∨ (K.headD true = false ∧ L.headD true = false) then false else disL X Y.tail K.tail L.tail
theorem disL_iff : ∀ (X Y : List (List UInt8)) (K L : List Bool), K.length ≤ X.length → (disL X Y K L = true ↔ apartT X Y ∧ apartK K L) := by
  intro X
  induction X with
  | nil =>
    intro Y K L h
    cases K with
    | nil => simp [disL, apartT, apartK]
    | cons k K => simp at h
  | cons t X ih =>
    intro Y K L h
    have eT : apartT (t :: X) Y ↔ (t = [] ∨ Y.headD [] = []) ∧ apartT X Y.tail := by
      constructor
      · intro hh
        refine ⟨?_, fun i => ?_⟩
        · have := hh 0
          cases Y <;> first | (simp; done) | simpa using this
        · have := hh (i + 1)
          cases Y <;> first | (simp; done) | simpa using this
      · rintro ⟨h1, h2⟩ i
        cases i with
        | zero => cases Y <;> first | (simp; done) | simpa using h1
        | succ i => have := h2 i; cases Y <;> first | (simp; done) | simpa using this
    have eK : apartK K L ↔ ¬ (K.headD true = false ∧ L.headD true = false) ∧ apartK K.tail L.tail := by
      constructor
      · intro hh
        refine ⟨?_, fun i => ?_⟩
        · have := hh 0
          cases K <;> cases L <;> first | (simp; done) | simpa using this
        · have := hh (i + 1)
          cases K <;> cases L <;> first | (simp; done) | simpa using this
      · rintro ⟨h1, h2⟩ i
        cases i with
        | zero => cases K <;> cases L <;> first | (simp; done) | simpa using h1
        | succ i => have := h2 i; cases K <;> cases L <;> first | (simp; done) | simpa using this
    have hl : K.tail.length ≤ X.length := by rw [List.length_tail]; simp at h; omega
    have := ih Y.tail K.tail L.tail hl
    rw [disL, eT, eK]
    split
    · rename_i hc
      simp only [Bool.false_eq_true, false_iff]
      rintro ⟨⟨a, _⟩, ⟨b, _⟩⟩
      rcases hc with ⟨c, d⟩ | c
      · rcases a with a | a
        · exact c a
        · exact d a
      · exact b c
    · rename_i hc
      rw [this]
      constructor
      · rintro ⟨a, b⟩
        refine ⟨⟨?_, a⟩, fun hh => hc (.inr hh), b⟩
        by_cases h1 : t = []
        · exact .inl h1
        · by_cases h2 : Y.headD [] = []
          · exact .inr h2
          · exact absurd (.inl ⟨h1, h2⟩) hc
      · rintro ⟨⟨_, a⟩, ⟨_, b⟩⟩
        exact ⟨a, b⟩
/-- the offsets at which a delta inserts, and the ranges that it removes -/
def atsF : Int → List Pc → List Int
  | _, [] => []
  | a, p :: r => (if p.k = 2 then [a] else []) ++ atsF (a + p.n) r
def goneF : Int → List Pc → List (Int × Int)
  | _, [] => []
  | a, p :: r => (if p.k = 3 then [(a, a + p.n)] else []) ++ goneF (a + p.n) r
def overB (r q : Int × Int) : Bool := decide (max r.1 q.1 < min r.2 q.2)
def disP (x y : List Pc) : Bool := !((atsF 0 x).any fun k => decide (k ∈ atsF 0 y)) && !((goneF 0 x).any fun r => (goneF 0 y).any fun q => overB r q)
theorem ats_ge : ∀ (l : List Pc) (a : Int), Val l → ∀ i ∈ atsF a l, a ≤ i := by
  intro l
  induction l with
  | nil => intro a _ i hi; cases hi
  | cons p r ih =>
    intro a h i hi
    obtain ⟨v1, v2⟩ := Val.cons.1 h
    have hn := Val.n v1
    rw [atsF, List.mem_append] at hi
    rcases hi with hi | hi
    · split at hi
      · rw [List.mem_singleton.1 hi]; omega
      · cases hi
    · have := ih (a + p.n) v2 i hi; omega
theorem gone_ge : ∀ (l : List Pc) (a : Int), Val l → ∀ q ∈ goneF a l, a ≤ q.1 ∧ q.1 < q.2 ∧ q.2 ≤ a + inL l := by
  intro l
  induction l with
  | nil => intro a _ i hi; cases hi
  | cons p r ih =>
    intro a h i hi
    obtain ⟨v1, v2⟩ := Val.cons.1 h
    have hn := Val.n v1
    have hr := Val.inL v2
    rw [goneF, List.mem_append] at hi
    simp only [inL]
    rcases hi with hi | hi
    · split at hi
      · rename_i h3
        have : 1 ≤ p.n := by rcases Pc.valid_cases v1 with ⟨u, v, z⟩ | ⟨u, v, z⟩ | ⟨u, v, z⟩ <;> omega
        rw [List.mem_singleton.1 hi]; dsimp only; omega
      · cases hi
    · have := ih (a + p.n) v2 i hi; omega
theorem ats_iff : ∀ (l : List Pc) (a : Int) (i : Nat), Val l → (a + i ∈ atsF a l ↔ (textsL l).getD i [] ≠ []) := by
  intro l
  induction l with
  | nil =>
    intro a i _
    cases i <;> simp [atsF, textsL]
  | cons p r ih =>
    intro a i h
    obtain ⟨v1, v2⟩ := Val.cons.1 h
    rw [atsF, List.mem_append]
    by_cases hk : p.k = 2
    · rw [texts_ins hk, if_pos hk]
      have h0 : p.n = 0 ∧ p.t ≠ [] := by
        rcases Pc.valid_cases v1 with ⟨u, v, z⟩ | ⟨u, v, z⟩ | ⟨u, v, z⟩
        · omega
        · omega
        · exact ⟨v, z⟩
      rw [h0.1, Int.add_zero]
      cases i with
      | zero => simp [consT, h0.2]
      | succ i =>
        have := ih a (i + 1) v2
        have e : (consT p.t (textsL r)).getD (i + 1) [] = (textsL r).getD (i + 1) [] := by
          unfold consT
          cases textsL r <;> simp
        rw [e, ← this]
        simp only [List.mem_singleton]
        constructor
        · rintro (h | h)
          · omega
          · exact h
        · exact .inr
    · rw [if_neg hk, textsL, if_neg hk]
      have hn := Val.n v1
      simp only [List.not_mem_nil, false_or]
      by_cases hi : i < p.n.toNat
      · have e : (List.replicate p.n.toNat ([] : List UInt8) ++ textsL r).getD i [] = [] := by
          rw [List.getD_eq_getElem?_getD, List.getElem?_append_left (by simpa using hi)]
          simp [hi]
        rw [e]
        simp only [ne_eq, not_true_eq_false, iff_false]
        intro hh
        have := ats_ge r (a + p.n) v2 _ hh
        omega
      · obtain ⟨j, rfl⟩ : ∃ j, i = p.n.toNat + j := ⟨i - p.n.toNat, by omega⟩
        rw [getD_rep, ← ih (a + p.n) j v2, show a + ((p.n.toNat + j : Nat) : Int) = a + p.n + j by omega]
theorem gone_iff : ∀ (l : List Pc) (a : Int) (i : Nat), Val l → ((∃ q ∈ goneF a l, q.1 ≤ a + i ∧ a + i < q.2) ↔ (keepsL l)[i]? = some false) := by
  intro l
  induction l with
  | nil => intro a i _; simp [goneF, keepsL]
  | cons p r ih =>
    intro a i h
    obtain ⟨v1, v2⟩ := Val.cons.1 h
    have hn := Val.n v1
    rw [keepsL]
    by_cases hi : i < p.n.toNat
    · rw [List.getElem?_append_left (by simpa using hi), List.getElem?_replicate, if_pos hi]
      have no : ¬ ∃ q ∈ goneF (a + p.n) r, q.1 ≤ a + i ∧ a + i < q.2 := by
        rintro ⟨q, hq, h1, h2⟩
        have := gone_ge r (a + p.n) v2 q hq
        omega
      by_cases h3 : p.k = 3
      · have e : (p.k == 1) = false := by simp [h3]
        rw [e]
        simp only [iff_true]
        exact ⟨(a, a + p.n), by simp [goneF, h3], by dsimp only; omega, by dsimp only; omega⟩
      · have h1 : p.k = 1 := by rcases Pc.valid_cases v1 with ⟨u, v, z⟩ | ⟨u, v, z⟩ | ⟨u, v, z⟩ <;> omega
        have e : goneF a (p :: r) = goneF (a + p.n) r := by simp [goneF, h3]
        rw [e]
        exact ⟨fun hh => absurd hh no, fun hh => by simp [h1] at hh⟩
    · obtain ⟨j, rfl⟩ : ∃ j, i = p.n.toNat + j := ⟨i - p.n.toNat, by omega⟩
      rw [List.getElem?_append_right (by simp), List.length_replicate, show p.n.toNat + j - p.n.toNat = j by omega, ← ih (a + p.n) j v2]
      rw [show a + ((p.n.toNat + j : Nat) : Int) = a + p.n + j by omega]
      constructor
      · rintro ⟨q, hq, h1, h2⟩
        rw [goneF, List.mem_append] at hq
        rcases hq with hq | hq
        · split at hq
          · rw [List.mem_singleton.1 hq] at h1 h2
            dsimp only at h1 h2
            omega
          · cases hq
        · exact ⟨q, hq, h1, h2⟩
      · rintro ⟨q, hq, h1, h2⟩
        exact ⟨q, by rw [goneF, List.mem_append]; exact .inr hq, h1, h2⟩
theorem disP_iff {x y : List Pc} (hx : Val x) (hy : Val y) : disP x y = true ↔ apartT (textsL x) (textsL y) ∧ apartK (keepsL x) (keepsL y) := by
  unfold disP
  simp only [Bool.and_eq_true, Bool.not_eq_true', List.any_eq_false, decide_eq_true_eq]
  constructor
  · rintro ⟨h1, h2⟩
    refine ⟨fun i => ?_, fun i hh => ?_⟩
    · have a := ats_iff x 0 i hx
      have b := ats_iff y 0 i hy
      by_cases e : (textsL x).getD i [] = []
      · exact .inl e
      · by_cases e' : (textsL y).getD i [] = []
        · exact .inr e'
        · exact absurd (b.2 e') (h1 _ (a.2 e))
    · obtain ⟨q, hq, q1, q2⟩ := (gone_iff x 0 i hx).2 hh.1
      obtain ⟨r, hr, r1, r2⟩ := (gone_iff y 0 i hy).2 hh.2
      have := h2 q hq
      apply this
      refine List.any_eq_true.2 ⟨r, hr, ?_⟩
      unfold overB
      simp only [decide_eq_true_eq]
      omega
  · rintro ⟨h1, h2⟩
    refine ⟨fun k hk hk' => ?_, fun q hq hh => ?_⟩
    · have g := ats_ge x 0 hx k hk
      have e : (0 : Int) + (k.toNat : Int) = k := by omega
      rcases h1 k.toNat with h | h
      · exact (ats_iff x 0 k.toNat hx).1 (by rw [e]; exact hk) h
      · exact (ats_iff y 0 k.toNat hy).1 (by rw [e]; exact hk') h
    · obtain ⟨r, hr, ho⟩ := List.any_eq_true.1 hh
      unfold overB at ho
      simp only [decide_eq_true_eq] at ho
      have g := gone_ge x 0 hx q hq
      have g' := gone_ge y 0 hy r hr
      have e : (0 : Int) + ((max q.1 r.1).toNat : Int) = max q.1 r.1 := by omega
      exact h2 (max q.1 r.1).toNat ⟨(gone_iff x 0 _ hx).1 ⟨q, hq, by rw [e]; omega, by rw [e]; omega⟩, (gone_iff y 0 _ hy).1 ⟨r, hr, by rw [e]; omega, by rw [e]; omega⟩⟩
def prE (a b : List Pc) : Int := if errL a = 0 then (if errL b = 0 then (if inL a = inL b then 0 else 21) else errL b) else errL a
theorem prE_ok {a b : List Pc} (h : prE a b = 0) : errL a = 0 ∧ errL b = 0 ∧ inL a = inL b := by
  unfold prE at h
  split at h
  · split at h
    · split at h
      · exact ⟨by assumption, by assumption, by assumption⟩
      · cases h
    · contradiction
  · contradiction
/-- whether two deltas are disjoint -/
def disB (a b : List Pc) : Bool := if prE a b = 0 then disP (formS a) (formS b) else false
theorem dis_ref {a b : List Pc} (h : prE a b = 0) : disB a b = disL (textsL (formS a)) (textsL (formS b)) (keepsL a) (keepsL b) := by
  obtain ⟨ha, hb, he⟩ := prE_ok h
  have va := ((errL_iff a).1 ha).2.1
  have vb := ((errL_iff b).1 hb).2.1
  rw [disB, if_pos h]
  apply Bool.eq_iff_iff.2
  rw [disP_iff (formS_ok va).1 (formS_ok vb).1, disL_iff _ _ _ _ ?_, keeps_form va, keeps_form vb]
  have l1 := texts_len (formS_ok va).1
  have l2 := texts_len va
  rw [(formS_ok va).2.2] at l1
  omega
/-- the merge -/
def merE (a b : List Pc) : Int := if trE true a b = 0 then cmpE a (trR true a b) else trE true a b
def merR (a b : List Pc) : List Pc := if trE true a b = 0 then cmpR a (trR true a b) else []
theorem tr_splits {a b : List Pc} (h : prE a b = 0) (hd : disB a b = true) : trE true a b = trE false a b ∧ trR true a b = trR false a b ∧ (merE a b = 0 ∨ merE a b = 5) ∧
    (merE a b = 0 → lens (merR a b) = (inL a, outL a + outL b - inL a, 0)) := by
  obtain ⟨ha, hb, he⟩ := prE_ok h
  have va := ((errL_iff a).1 ha).2.1
  have vb := ((errL_iff b).1 hb).2.1
  obtain ⟨a1, a2, a3⟩ := formS_ok va
  obtain ⟨b1, b2, b3⟩ := formS_ok vb
  rw [disB, if_pos h] at hd
  obtain ⟨d1, d2⟩ := (disP_iff a1 b1).1 hd
  have e : trS true a b = trS false a b := tr_either _ _ _ a1 b1 d1
  have t5 : trE true a b = 0 ∨ trE true a b = 5 := by
    rw [trE, if_pos ha, if_pos hb, if_pos he]
    split
    · exact .inl rfl
    · exact .inr rfl
  have e1 : trE true a b = trE false a b := by unfold trE; rw [e]
  refine ⟨e1, by unfold trR; rw [e, e1], ?_, ?_⟩
  · unfold merE
    split
    · rename_i h0
      obtain ⟨r1, r2, r3, r4, r5, r6, r7⟩ := trR_ok h0
      rw [cmpE_eq ha r2 r4.symm]
      split
      · exact .inl rfl
      · exact .inr rfl
    · rename_i h0
      rcases t5 with h | h
      · exact absurd h h0
      · exact .inr h
  · intro hm
    unfold merE at hm
    split at hm
    · rename_i h0
      obtain ⟨r1, r2, r3, r4, r5, r6, r7⟩ := trR_ok h0
      obtain ⟨c1, c2, c3, c4, c5, c6, c7⟩ := cmpR_ok hm
      have := (trS_rel true ha hb he).lens d2
      rw [a3, outL_formS va, outL_formS vb] at this
      rw [merR, if_pos h0, lens_of_err c2, c4, c5, r7, show outL (trS true a b) = outL a + outL b - inL a by omega]
    · contradiction

/-- what a delta that only removes keeps of another one's result -/
def passB (A D : List Int) (j : Int) : Bool := decide (A.getD j.toNat 0 < 0 ∨ A.getD j.toNat 0 ∈ D)
theorem filter_all {P : Int → Bool} {L : List Int} (h : ∀ j ∈ L, P j = true) : L.filter P = L := List.filter_eq_self.2 h
theorem filter_none {P : Int → Bool} {L : List Int} (h : ∀ j ∈ L, P j = false) : L.filter P = [] := by
  apply List.filter_eq_nil_iff.2
  intro a ha
  simp [h a ha]
theorem at_drop {A B C : List Int} {c : Nat} (h : B ++ C = A.drop c) {j : Nat} (hj : j < B.length) : A.getD (c + j) 0 = B.getD j 0 := by
  have e : A[c + j]? = B[j]? := by
    rw [← List.getElem?_drop, ← h, List.getElem?_append_left hj]
  rw [List.getD_eq_getElem?_getD, List.getD_eq_getElem?_getD, e]
theorem Tr.filter {f : Bool} {x y T S : List Pc} (h : Tr f x y T S) : (∀ q ∈ y, q.k ≠ 2) → Val x → Val y → ∀ (A D : List Int) (c : Nat) (p : Int), 0 ≤ p → Ytdlbjfgpfjcpaaa.atoms p x = A.drop c → c ≤ A.length →
    (∀ i, p ≤ i → (i ∈ D ↔ i ∈ Ytdlbjfgpfjcpaaa.atoms p y)) → Ytdlbjfgpfjcpaaa.atoms c T = (rng c (Ytdlbjfgpfjcpaaa.outL x).toNat).filter (passB A D) := by
  induction h with
  | nil => intros; rfl
  | @insA t x y T S ht hf _ ih =>
    intro hn hx hy A D c p h0 h1 h3 hD
    have v := (Val.cons.1 hx).2
    have vo := Val.outL v
    have eo : Ytdlbjfgpfjcpaaa.outL (⟨2, 0, t⟩ :: x) = t.length + Ytdlbjfgpfjcpaaa.outL x := rfl
    rw [eo, show ((t.length : Int) + Ytdlbjfgpfjcpaaa.outL x).toNat = t.length + (Ytdlbjfgpfjcpaaa.outL x).toNat by omega, rng_add, List.filter_append]
    have h1' : lets t ++ Ytdlbjfgpfjcpaaa.atoms p x = A.drop c := by
      rw [← h1]; simp only [Ytdlbjfgpfjcpaaa.atoms, show ¬ ((2 : Int) = 1) by omega, if_false, List.nil_append, Int.add_zero]
    have hl : c + t.length ≤ A.length := by
      have := congrArg List.length h1'
      rw [List.length_append, lets_len, List.length_drop] at this
      omega
    have e : Ytdlbjfgpfjcpaaa.atoms c (⟨1, t.length, []⟩ :: T) = rng c t.length ++ Ytdlbjfgpfjcpaaa.atoms (c + t.length) T := by
      simp only [Ytdlbjfgpfjcpaaa.atoms, lets_nil, List.nil_append, if_true]
      rfl
    rw [e, filter_all ?_, show (c : Int) + (t.length : Int) = ((c + t.length : Nat) : Int) by omega,
      ih hn v hy A D (c + t.length) p h0 (by rw [← List.drop_drop, ← h1', ← lets_len t, List.drop_left]) hl hD]
    intro j hj
    have hj' := mem_rng.1 hj
    have g := at_drop h1' (j := (j - c).toNat) (by rw [lets_len]; omega)
    rw [show c + (j - c).toNat = j.toNat by omega] at g
    have hlt : (lets t).getD (j - c).toNat 0 < 0 := by
      apply mem_lets (t := t)
      rw [List.getD_eq_getElem?_getD, List.getElem?_eq_getElem (by rw [lets_len]; omega)]
      exact List.getElem_mem _
    unfold passB
    rw [g]
    exact decide_eq_true (.inl hlt)
  | @insB t x y T S ht hf _ ih =>
    intro hn
    exact absurd rfl (hn _ (List.mem_cons_self ..))
  | @byte k l n x y x' y' T S hk hl h1 cx cy hlen _ ih =>
    intro hn hx hy A D c p h0 e1 h3 hD
    have vx := cx.val hk hx
    have vy := cy.val hl hy
    have vo := Val.outL vx
    have hn' : ∀ q ∈ y', q.k ≠ 2 := by
      rcases cy with rfl | ⟨m, r, hm, rfl, rfl⟩
      · exact fun q hq => hn q (List.mem_cons_of_mem _ hq)
      · intro q hq
        rcases List.mem_cons.1 hq with rfl | hq
        · dsimp only; omega
        · exact hn q (List.mem_cons_of_mem _ hq)
    have hD' : ∀ i, p + n ≤ i → (i ∈ D ↔ i ∈ Ytdlbjfgpfjcpaaa.atoms (p + n) y') := by
      intro i hi
      rw [hD i (by omega), cy.atoms h1, List.mem_append]
      constructor
      · rintro (h | h)
        · split at h
          · have := mem_rng.1 h; omega
          · cases h
        · exact h
      · exact .inr
    have hin : ∀ i, p ≤ i → i < p + n → (i ∈ D ↔ l = 1) := by
      intro i hi hi'
      rw [hD i hi, cy.atoms h1, List.mem_append]
      have ng : i ∉ Ytdlbjfgpfjcpaaa.atoms (p + n) y' := fun hh => by have := vy.ge (a := p + n) (by omega) hh (by omega); omega
      constructor
      · rintro (h | h)
        · split at h
          · assumption
          · cases h
        · exact absurd h ng
      · intro h
        left
        rw [if_pos h]
        exact mem_rng.2 ⟨hi, by omega⟩
    rw [(cx.io hk h1).2]
    rw [cx.atoms h1] at e1
    rcases hk with rfl | rfl
    · simp only [if_true] at e1 ⊢
      have hA : c + n.toNat ≤ A.length := by
        have := congrArg List.length e1
        rw [List.length_append, rng_len, List.length_drop] at this
        omega
      have stepA : Ytdlbjfgpfjcpaaa.atoms (p + n) x' = A.drop (c + n.toNat) := by
        rw [← List.drop_drop, ← e1]
        exact (rng_drop p n.toNat _).symm
      have ii := ih hn' vx vy A D (c + n.toNat) (p + n) (by omega) stepA hA hD'
      rw [show (n + Ytdlbjfgpfjcpaaa.outL x').toNat = n.toNat + (Ytdlbjfgpfjcpaaa.outL x').toNat by omega, rng_add, List.filter_append, show (c : Int) + (n.toNat : Int) = ((c + n.toNat : Nat) : Int) by omega, ← ii]
      have val : ∀ j ∈ rng c n.toNat, A.getD j.toNat 0 = p + (j - c) := by
        intro j hj
        have hj' := mem_rng.1 hj
        have g := at_drop e1 (j := (j - c).toNat) (by rw [rng_len]; omega)
        rw [show c + (j - c).toNat = j.toNat by omega] at g
        rw [g, List.getD_eq_getElem?_getD, List.getElem?_eq_getElem (by rw [rng_len]; omega)]
        simp only [rng, List.getElem_map, List.getElem_range, Option.getD_some]
        omega
      rcases hl with rfl | rfl
      · rw [filter_all ?_]
        · simp only [List.cons_append, List.nil_append, Ytdlbjfgpfjcpaaa.atoms, lets_nil, if_true]
          rw [show (c : Int) + n = ((c + n.toNat : Nat) : Int) by omega]
        · intro j hj
          have hj' := mem_rng.1 hj
          unfold passB
          rw [val j hj]
          simp only [decide_eq_true_eq]
          right
          exact (hin _ (by omega) (by omega)).2 rfl
      · rw [filter_none ?_]
        · simp only [List.cons_append, List.nil_append, Ytdlbjfgpfjcpaaa.atoms, lets_nil, show ¬ ((3 : Int) = 1) by omega, if_false]
          rw [show (c : Int) + n = ((c + n.toNat : Nat) : Int) by omega]
        · intro j hj
          have hj' := mem_rng.1 hj
          unfold passB
          rw [val j hj]
          simp only [decide_eq_false_iff_not]
          rintro (h | h)
          · omega
          · have := (hin _ (by omega) (by omega)).1 h
            omega
    · simp only [show ¬ ((3 : Int) = 1) by omega, if_false, List.nil_append, Int.zero_add] at e1 ⊢
      exact ih hn' vx vy A D c (p + n) (by omega) e1 h3 hD'
/-- where a delta that only inserts lands -/
def segG (G : Int → Int) (i : Int) : List Int := if i < 0 then [i] else rng (G i) (G (i + 1) - G i).toNat
/-- nothing is inserted directly behind what is removed -/
def ndF : Bool → List Pc → Prop
  | _, [] => True
  | d, p :: r => (p.k = 2 → d = false) ∧ ndF (if p.k = 3 then true else if p.k = 1 then false else d) r
theorem ndF.weak : ∀ {l : List Pc} {d : Bool}, ndF true l → ndF d l
  | [], _, _ => trivial
  | p :: r, d, h => by
    refine ⟨fun h2 => absurd (h.1 h2) (by simp), ?_⟩
    have h2 := h.2
    split
    · rename_i e; rwa [if_pos e] at h2
    · rename_i e
      rw [if_neg e] at h2
      split
      · rename_i e'; rwa [if_pos e'] at h2
      · rename_i e'
        rw [if_neg e'] at h2
        exact ndF.weak h2
theorem nd_right : ∀ (x : List Pc) (p a c : Int), Val x → ndF true x → p ≤ a → rightP p (c + outL x) (runsS a c x) = c := by
  intro x
  induction x with
  | nil => intro p a c _ _ _; simp [runsS, rightP, outL]
  | cons q x ih =>
    intro p a c h hd hp
    obtain ⟨v1, v2⟩ := Val.cons.1 h
    rcases Pc.valid_cases v1 with ⟨u, v, z⟩ | ⟨u, v, z⟩ | ⟨u, v, z⟩
    · rw [runsS, if_pos u, rightP]
      dsimp only
      rw [if_pos (by omega)]
      omega
    · have h2 := hd.2
      rw [if_pos u] at h2
      rw [runsS, if_neg (by omega), if_pos u]
      have := ih p (a + q.n) c v2 h2 (by omega)
      rw [show outL (q :: x) = outL x by simp [outL, Pc.out, u]]
      exact this
    · exact absurd (hd.1 u) (by simp)
theorem right_ge : ∀ (xs : List Rn) (i e c : Int), c ≤ e → (∀ r ∈ xs, c ≤ r.o ∧ 0 ≤ r.n) → c ≤ rightP i e xs := by
  intro xs
  induction xs with
  | nil => intro i e c h _; exact h
  | cons r l ih =>
    intro i e c h hr
    rw [rightP]
    split
    · have := (hr r (List.mem_cons_self ..)).1; omega
    · exact ih i e c h fun q hq => hr q (List.mem_cons_of_mem _ hq)
theorem right_up : ∀ (xs : List Rn) (i j e : Int), xs.Pairwise upR → (∀ r ∈ xs, 1 ≤ r.n ∧ r.o + r.n ≤ e) → i ≤ j → rightP i e xs ≤ rightP j e xs := by
  intro xs i j e hp hr hij
  refine (le_right xs _ hp hr).2 ?_
  have := (le_right xs (rightP i e xs) hp hr).1 (Int.le_refl _)
  exact ⟨this.1, fun a b h k => this.2 a b h (by omega)⟩
theorem flat_lets (G : Int → Int) (t : List UInt8) : (lets t).flatMap (segG G) = lets t := by
  induction t with
  | nil => rfl
  | cons b t ih =>
    have e : lets (b :: t) = (-1 - (b.toNat : Int)) :: lets t := rfl
    rw [e, List.flatMap_cons, ih, segG, if_pos (by omega)]
    rfl
theorem flat_rng (G : Int → Int) (n : Nat) : ∀ a : Int, 0 ≤ a → (∀ i j, a ≤ i → i ≤ j → G i ≤ G j) → (rng a n).flatMap (segG G) = rng (G a) (G (a + n) - G a).toNat := by
  induction n with
  | zero => intro a _ _; simp [rng_zero]
  | succ n ih =>
    intro a h0 hm
    have m1 := hm a (a + 1) (by omega) (by omega)
    have m2 := hm (a + 1) (a + 1 + n) (by omega) (by omega)
    rw [rng_succ, List.flatMap_cons, ih (a + 1) (by omega) (fun i j h h' => hm i j (by omega) h'), segG, if_neg (by omega)]
    rw [show a + ((n + 1 : Nat) : Int) = a + 1 + n by omega, show (G (a + 1 + n) - G a).toNat = (G (a + 1) - G a).toNat + (G (a + 1 + n) - G (a + 1)).toNat by omega, rng_add,
      show G a + ((G (a + 1) - G a).toNat : Int) = G (a + 1) by omega]
theorem Cut.nd {k n : Int} {x x' : List Pc} (h : Cut k n x x') (hk : k = 1 ∨ k = 3) {d : Bool} (hd : ndF d x) : ndF (if k = 3 then true else false) x' := by
  rcases h with rfl | ⟨m, r, hm, rfl, rfl⟩
  · have := hd.2
    rcases hk with rfl | rfl
    · simpa using this
    · simpa using this
  · have := hd.2
    refine ⟨fun h2 => ?_, ?_⟩
    · dsimp only at h2; omega
    · rcases hk with rfl | rfl
      · simpa using this
      · simpa using this
theorem rightP_cut {i e a o n m : Int} {xs : List Rn} (h : a + n ≤ i) (_hn : 1 ≤ n) (_hm : 1 ≤ m) : rightP i e (⟨a, o, n + m⟩ :: xs) = rightP i e (⟨a + n, o + n, m⟩ :: xs) := by
  rw [rightP, rightP]
  dsimp only
  by_cases hi : i < a + n + m
  · rw [if_pos (by omega), if_pos hi]; omega
  · rw [if_neg (by omega), if_neg hi]
/-- behind a cut the positions are the same -/
theorem Cut.right {k n : Int} {x x' : List Pc} (h : Cut k n x x') (hk : k = 1 ∨ k = 3) (h1 : 1 ≤ n) (a o e i : Int) (hi : a + n ≤ i) : rightP i e (runsS a o x) = rightP i e (runsS (a + n) (if k = 1 then o + n else o) x') := by
  rcases h with rfl | ⟨m, r, hm, rfl, rfl⟩
  · rcases hk with rfl | rfl
    · rw [runsS, if_pos rfl, rightP, if_neg (by dsimp only; omega)]
      rfl
    · rw [runsS]
      simp
  · rcases hk with rfl | rfl
    · rw [runsS, if_pos rfl, runsS, if_pos rfl]
      dsimp only
      rw [rightP_cut hi h1 hm]
      simp only [if_true]
      rw [show a + (n + m) = a + n + m by omega, show o + (n + m) = o + n + m by omega]
    · rw [runsS, runsS]
      simp only [show ¬ ((3 : Int) = 1) by omega, if_false, if_true]
      rw [show a + (n + m) = a + n + m by omega]
theorem Tr.psi {f : Bool} {x y T S : List Pc} (h : Tr f x y T S) : f = true → (∀ q ∈ y, q.k ≠ 3) → Val x → Val y → ∀ (d : Bool), ndF d x → ∀ (G : Int → Int) (c p : Int), 0 ≤ p →
    (∀ i, p ≤ i → G i = rightP i (c + Ytdlbjfgpfjcpaaa.outL x) (runsS p c x)) → Ytdlbjfgpfjcpaaa.atoms c T = rng c (G p - c).toNat ++ (Ytdlbjfgpfjcpaaa.atoms p y).flatMap (segG G) := by
  induction h with
  | nil =>
    intro _ _ _ _ d _ G c p h0 hG
    have := hG p (Int.le_refl _)
    simp only [runsS, rightP, Ytdlbjfgpfjcpaaa.outL] at this
    rw [this]
    simp [Ytdlbjfgpfjcpaaa.atoms, rng_zero]
  | @insA t x y T S ht hf _ ih =>
    intro ef hn hx hy d hd G c p h0 hG
    have v := (Val.cons.1 hx).2
    have eo : Ytdlbjfgpfjcpaaa.outL (⟨2, 0, t⟩ :: x) = t.length + Ytdlbjfgpfjcpaaa.outL x := rfl
    have er : runsS p c (⟨2, 0, t⟩ :: x) = runsS p (c + t.length) x := by rw [runsS]; simp
    rw [eo, er] at hG
    have hd' : ndF d x := by have := hd.2; simpa using this
    have ii := ih ef hn v hy d hd' G (c + t.length) p h0 (fun i hi => by rw [hG i hi]; congr 1; omega)
    have e : Ytdlbjfgpfjcpaaa.atoms c (⟨1, t.length, []⟩ :: T) = rng c t.length ++ Ytdlbjfgpfjcpaaa.atoms (c + t.length) T := by
      simp only [Ytdlbjfgpfjcpaaa.atoms, lets_nil, List.nil_append, if_true]
      rfl
    have g : c + t.length ≤ G p := by
      rw [hG p (Int.le_refl _)]
      refine right_ge _ _ _ _ (by have := Val.outL v; omega) fun r hr => ?_
      have := runs_in x p (c + t.length) v r hr
      omega
    rw [e, ii, ← List.append_assoc]
    congr 1
    rw [show (G p - c).toNat = t.length + (G p - (c + t.length)).toNat by omega, rng_add]
  | @insB t x y T S ht hf _ ih =>
    intro ef hn hx hy d hd G c p h0 hG
    have v := (Val.cons.1 hy).2
    have kx : kd x ≠ 2 := by
      rcases hf with h | h
      · rw [ef] at h; cases h
      · exact h
    have ii := ih ef (fun q hq => hn q (List.mem_cons_of_mem _ hq)) hx v d hd G c p h0 hG
    have gp : G p = c := by
      rw [hG p (Int.le_refl _)]
      refine nd_right x p p c hx ?_ (Int.le_refl _)
      cases x with
      | nil => trivial
      | cons q x =>
        refine ⟨fun h2 => absurd h2 kx, ?_⟩
        have := hd.2
        rcases Pc.valid_cases (Val.cons.1 hx).1 with ⟨u, v, z⟩ | ⟨u, v, z⟩ | ⟨u, v, z⟩
        · simpa [u] using this
        · simpa [u] using this
        · exact absurd u kx
    have e : Ytdlbjfgpfjcpaaa.atoms c (⟨2, 0, t⟩ :: T) = lets t ++ Ytdlbjfgpfjcpaaa.atoms c T := by
      simp only [Ytdlbjfgpfjcpaaa.atoms, show ¬ ((2 : Int) = 1) by omega, if_false, List.nil_append, Int.add_zero]
    have e' : Ytdlbjfgpfjcpaaa.atoms p (⟨2, 0, t⟩ :: y) = lets t ++ Ytdlbjfgpfjcpaaa.atoms p y := by
      simp only [Ytdlbjfgpfjcpaaa.atoms, show ¬ ((2 : Int) = 1) by omega, if_false, List.nil_append, Int.add_zero]
    rw [e, e', List.flatMap_append, flat_lets, ii, gp]
    simp [rng_zero]
  | @byte k l n x y x' y' T S hk hl h1 cx cy hlen _ ih =>
    intro ef hn hx hy d hd G c p h0 hG
    have vx := cx.val hk hx
    have vy := cy.val hl hy
    have vo := Val.outL vx
    have hl1 : l = 1 := by
      rcases cy with rfl | ⟨m, r, hm, rfl, rfl⟩
      · have := hn _ (List.mem_cons_self ..); dsimp only at this; omega
      · have := hn _ (List.mem_cons_self ..); dsimp only at this; omega
    subst hl1
    have hn' : ∀ q ∈ y', q.k ≠ 3 := by
      rcases cy with rfl | ⟨m, r, hm, rfl, rfl⟩
      · exact fun q hq => hn q (List.mem_cons_of_mem _ hq)
      · intro q hq
        rcases List.mem_cons.1 hq with rfl | hq
        · dsimp only; omega
        · exact hn q (List.mem_cons_of_mem _ hq)
    have up := (runs_up x p c hx).1
    have inn := runs_in x p c hx
    have mono : ∀ i j, p ≤ i → i ≤ j → G i ≤ G j := by
      intro i j hi hj
      rw [hG i hi, hG j (by omega)]
      exact right_up _ _ _ _ up (fun r hr => by have := inn r hr; omega) hj
    have eo := (cx.io hk h1).2
    have g0 : c ≤ G p := by
      rw [hG p (Int.le_refl _)]
      exact right_ge _ _ _ _ (by have := Val.outL hx; omega) fun r hr => by have := inn r hr; omega
    have hG' : ∀ i, p + n ≤ i → G i = rightP i ((if k = 1 then c + n else c) + Ytdlbjfgpfjcpaaa.outL x') (runsS (p + n) (if k = 1 then c + n else c) x') := by
      intro i hi
      rw [hG i (by omega), cx.right hk h1 p c _ i hi]
      congr 1
      rw [eo]
      split <;> omega
    have g1 : (if k = 1 then c + n else c) ≤ G (p + n) := by
      rw [hG' _ (Int.le_refl _)]
      refine right_ge _ _ _ _ (by omega) fun r hr => ?_
      have := runs_in x' _ _ vx r hr
      omega
    have ii := ih ef hn' vx vy _ (cx.nd hk hd) G (if k = 1 then c + n else c) (p + n) (by omega) hG'
    have gm := mono p (p + n) (Int.le_refl _) (by omega)
    have e : Ytdlbjfgpfjcpaaa.atoms c ((if k = 1 then [⟨1, n, []⟩] else []) ++ T) = (if k = 1 then rng c n.toNat else []) ++ Ytdlbjfgpfjcpaaa.atoms (if k = 1 then c + n else c) T := by
      rcases hk with rfl | rfl
      · simp only [if_true, List.cons_append, List.nil_append, Ytdlbjfgpfjcpaaa.atoms, lets_nil]
      · simp
    rw [e, ii, cy.atoms h1]
    simp only [if_true]
    rw [List.flatMap_append, flat_rng G n.toNat p h0 mono, show p + (n.toNat : Int) = p + n by omega, ← List.append_assoc, ← List.append_assoc]
    congr 1
    have r1 : rng c (G p - c).toNat ++ rng (G p) (G (p + n) - G p).toNat = rng c (G (p + n) - c).toNat := by
      rw [show (G (p + n) - c).toNat = (G p - c).toNat + (G (p + n) - G p).toNat by omega, rng_add, show c + ((G p - c).toNat : Int) = G p by omega]
    rw [r1]
    rcases hk with rfl | rfl
    · simp only [if_true] at g1 ⊢
      rw [show (G (p + n) - c).toNat = n.toNat + (G (p + n) - (c + n)).toNat by omega, rng_add, show c + (n.toNat : Int) = c + n by omega]
    · simp
def endF : Bool → List Pc → Bool
  | d, [] => d
  | d, p :: r => endF (if p.k = 3 then true else if p.k = 1 then false else d) r
theorem ndF_append : ∀ (l m : List Pc) (d : Bool), ndF d (l ++ m) ↔ ndF d l ∧ ndF (endF d l) m := by
  intro l
  induction l with
  | nil => intro m d; simp [ndF, endF]
  | cons p r ih =>
    intro m d
    simp only [List.cons_append, ndF, endF, ih, and_assoc]
theorem endF_append : ∀ (l m : List Pc) (d : Bool), endF d (l ++ m) = endF (endF d l) m := by
  intro l
  induction l with
  | nil => intro m d; rfl
  | cons p r ih => intro m d; simp only [List.cons_append, endF, ih]
def NdS (s : FSt) : Prop := ndF false s.out ∧ endF false s.out = false
theorem flushed_nd {o : List Pc} {text : List UInt8} {gone : Int} (h : ndF false o) (he : endF false o = false) : ndF false (flushed o text gone) := by
  unfold flushed
  have h1 : ndF false (if text = [] then o else o ++ [⟨2, 0, text⟩]) := by
    split
    · exact h
    · exact (ndF_append _ _ _).2 ⟨h, fun _ => he, trivial⟩
  dsimp only
  split
  · exact (ndF_append _ _ _).2 ⟨h1, fun h2 => by dsimp only at h2; omega, trivial⟩
  · exact h1
theorem addRetain_nd {o : List Pc} {p : Pc} (h : ndF false o) (hp : p.k = 1) : ndF false (addRetain o p) ∧ endF false (addRetain o p) = false := by
  have one : ∀ {o : List Pc} {q : Pc}, ndF false o → q.k = 1 → ndF false (o ++ [q]) ∧ endF false (o ++ [q]) = false := by
    intro o q h hq
    refine ⟨(ndF_append _ _ _).2 ⟨h, fun h2 => by omega, trivial⟩, ?_⟩
    rw [endF_append]
    simp [endF, hq]
  unfold addRetain
  split
  · rename_i q hq
    split
    · rename_i h1
      refine one ?_ h1
      have hne : o ≠ [] := by intro hh; rw [hh] at hq; cases hq
      have := List.dropLast_concat_getLast hne
      rw [← this] at h
      exact ((ndF_append _ _ _).1 h).1
    · exact one h hp
  · have := one (o := []) (q := p) trivial hp
    simpa using this
theorem formStep_nd {s : FSt} (h : NdS s) {p : Pc} (hp : p.valid = true) : NdS (formStep s p) := by
  unfold formStep
  split
  · exact h
  · split
    · exact h
    · have hk : p.k = 1 := by rcases Pc.valid_cases hp with ⟨u, v, z⟩ | ⟨u, v, z⟩ | ⟨u, v, z⟩ <;> first | exact u | contradiction
      exact addRetain_nd (flushed_nd h.1 h.2) hk
theorem formS_nd {l : List Pc} (h : Val l) : ndF false (formS l) := by
  have key : ∀ (l : List Pc) (s : FSt), Val l → NdS s → NdS (l.foldl formStep s) := by
    intro l
    induction l with
    | nil => intro s _ h; exact h
    | cons p r ih =>
      intro s h hs
      obtain ⟨v1, v2⟩ := Val.cons.1 h
      exact ih _ v2 (formStep_nd hs v1)
  have := key l ⟨[], [], 0⟩ h ⟨trivial, rfl⟩
  exact flushed_nd this.1 this.2
theorem iN_zero : ∀ {l : List Pc}, Val l → (iN l = 0 ↔ ∀ q ∈ l, q.k ≠ 2) := by
  intro l
  induction l with
  | nil => intro _; simp [iN]
  | cons p r ih =>
    intro h
    obtain ⟨v1, v2⟩ := Val.cons.1 h
    have := (kN_in v2).2.2.2.1
    simp only [iN, List.mem_cons, forall_eq_or_imp]
    rw [← ih v2]
    split
    · rename_i h2
      have : 1 ≤ p.t.length := by
        rcases Pc.valid_cases v1 with ⟨u, v, z⟩ | ⟨u, v, z⟩ | ⟨u, v, z⟩
        · omega
        · omega
        · exact List.length_pos_iff.2 z
      constructor
      · intro hh; omega
      · rintro ⟨a, _⟩; exact absurd h2 a
    · rename_i h2
      constructor
      · intro hh; exact ⟨h2, by omega⟩
      · rintro ⟨_, a⟩; omega
theorem rN_zero : ∀ {l : List Pc}, Val l → (rN l = 0 ↔ ∀ q ∈ l, q.k ≠ 3) := by
  intro l
  induction l with
  | nil => intro _; simp [rN]
  | cons p r ih =>
    intro h
    obtain ⟨v1, v2⟩ := Val.cons.1 h
    have := (kN_in v2).2.2.2.2
    simp only [rN, List.mem_cons, forall_eq_or_imp]
    rw [← ih v2]
    split
    · rename_i h2
      have : 1 ≤ p.n := by rcases Pc.valid_cases v1 with ⟨u, v, z⟩ | ⟨u, v, z⟩ | ⟨u, v, z⟩ <;> omega
      constructor
      · intro hh; omega
      · rintro ⟨a, _⟩; exact absurd h2 a
    · rename_i h2
      constructor
      · intro hh; exact ⟨h2, by omega⟩
      · rintro ⟨_, a⟩; omega
theorem Cut.all {k n : Int} {x x' : List Pc} (h : Cut k n x x') {P : Int → Prop} (hp : ∀ q ∈ x, P q.k) : P k ∧ ∀ q ∈ x', P q.k := by
  rcases h with rfl | ⟨m, r, hm, rfl, rfl⟩
  · exact ⟨hp _ (List.mem_cons_self ..), fun q hq => hp q (List.mem_cons_of_mem _ hq)⟩
  · have h1 := hp _ (List.mem_cons_self ..)
    refine ⟨h1, fun q hq => ?_⟩
    rcases List.mem_cons.1 hq with rfl | hq
    · exact h1
    · exact hp q (List.mem_cons_of_mem _ hq)
/-- a kind other than Retain that y lacks, the transformed delta lacks -/
theorem Tr.lacks {f : Bool} {x y T S : List Pc} (h : Tr f x y T S) {k₀ : Int} (h0 : k₀ ≠ 1) : (∀ q ∈ y, q.k ≠ k₀) → ∀ q ∈ T, q.k ≠ k₀ := by
  induction h with
  | nil => intro _ q hq; cases hq
  | insA ht hf _ ih =>
    intro hy q hq
    rcases List.mem_cons.1 hq with rfl | hq
    · exact fun hh => h0 hh.symm
    · exact ih hy q hq
  | insB ht hf _ ih =>
    intro hy q hq
    rcases List.mem_cons.1 hq with rfl | hq
    · exact hy _ (List.mem_cons_self ..)
    · exact ih (fun q hq => hy q (List.mem_cons_of_mem _ hq)) q hq
  | @byte k l n x y x' y' T S hk hl h1 cx cy hlen _ ih =>
    intro hy q hq
    obtain ⟨a, b⟩ := cy.all (P := fun k => k ≠ k₀) hy
    rcases List.mem_append.1 hq with hq | hq
    · split at hq
      · rw [List.mem_singleton.1 hq]; exact a
      · cases hq
    · exact ih b q hq
theorem tr_filter {f : Bool} {a b : List Pc} (ha : errL a = 0) (hb : errL b = 0) (h : inL a = inL b) (hi : iN b = 0) :
    atoms 0 (trS f a b) = (rng 0 (outL a).toNat).filter (passB (atoms 0 a) (atoms 0 b)) ∧ iN (trS f a b) = 0 := by
  have va := ((errL_iff a).1 ha).2.1
  have vb := ((errL_iff b).1 hb).2.1
  obtain ⟨a1, a2, a3⟩ := formS_ok va
  obtain ⟨b1, b2, b3⟩ := formS_ok vb
  have r := trS_rel f ha hb h
  have ni := (iN_zero b1).1 (by rw [(kN_form vb).2.1, hi])
  have := r.filter ni a1 b1 (atoms 0 a) (atoms 0 b) 0 0 (Int.le_refl _) (by rw [a2]; rfl) (Nat.zero_le _) (fun i _ => by rw [b2])
  rw [outL_formS va] at this
  exact ⟨this, (iN_zero (trS_ok f ha hb h).1.val).2 (r.lacks (by omega) ni)⟩
def rightG (l : List Pc) (i : Int) : Int := rightP i (outL l) (runsT false l)
theorem rightG_form {l : List Pc} (h : Val l) (i : Int) : rightG (formS l) i = rightG l i := by
  have := right_congr (formS_ok h).1 h false false (fun i j => KT.form h) (by rw [ioL_form h]) i
  simp only [ioL] at this
  exact this
theorem rightG_mono {l : List Pc} (h : Val l) {i j : Int} (hij : i ≤ j) : rightG l i ≤ rightG l j := right_mono h false hij
theorem rightG_bd {l : List Pc} (h : Val l) (i : Int) : 0 ≤ rightG l i ∧ rightG l i ≤ outL l := right_bd h false i
theorem tr_psi {a b : List Pc} (ha : errL a = 0) (hb : errL b = 0) (h : inL a = inL b) (hr : rN b = 0) :
    atoms 0 (trS true a b) = rng 0 (rightG a 0).toNat ++ (atoms 0 b).flatMap (segG (rightG a)) ∧ rN (trS true a b) = 0 := by
  have va := ((errL_iff a).1 ha).2.1
  have vb := ((errL_iff b).1 hb).2.1
  obtain ⟨a1, a2, a3⟩ := formS_ok va
  obtain ⟨b1, b2, b3⟩ := formS_ok vb
  have r := trS_rel true ha hb h
  have nr := (rN_zero b1).1 (by rw [(kN_form vb).2.2, hr])
  have := r.psi rfl nr a1 b1 false (formS_nd va) (rightG a) 0 0 (Int.le_refl _) (fun i _ => by
    rw [← rightG_form va, rightG, Int.zero_add]; rfl)
  rw [b2, Int.sub_zero] at this
  exact ⟨this, (rN_zero (trS_ok true ha hb h).1.val).2 (r.lacks (by omega) nr)⟩
theorem psi_comp (P Q : Int → Int) (hP : ∀ i j, 0 ≤ i → i ≤ j → P i ≤ P j) (hQ : ∀ i j, 0 ≤ i → i ≤ j → Q i ≤ Q j) (p0 : ∀ i, 0 ≤ P i) (q0 : ∀ i, 0 ≤ Q i) (L : List Int) :
    rng 0 (Q 0).toNat ++ (rng 0 (P 0).toNat ++ L.flatMap (segG P)).flatMap (segG Q) = rng 0 (Q (P 0)).toNat ++ L.flatMap (segG fun i => Q (P i)) := by
  have h0 := p0 0
  have hq := hQ 0 (P 0) (Int.le_refl _) h0
  have hq0 := q0 0
  rw [List.flatMap_append, flat_rng Q _ 0 (Int.le_refl _) hQ, ← List.append_assoc, show (0 : Int) + ((P 0).toNat : Int) = P 0 by omega]
  congr 1
  · rw [show (Q (P 0)).toNat = (Q 0).toNat + (Q (P 0) - Q 0).toNat by omega, rng_add, show (0 : Int) + ((Q 0).toNat : Int) = Q 0 by omega]
  · rw [List.flatMap_assoc]
    congr 1
    funext i
    by_cases hi : i < 0
    · simp [segG, hi]
    · have m := hP i (i + 1) (by omega) (by omega)
      have pi := p0 i
      rw [segG, if_neg hi, flat_rng Q _ (P i) pi (fun a b h h' => hQ a b (by omega) h'), show P i + ((P (i + 1) - P i).toNat : Int) = P (i + 1) by omega, segG, if_neg hi]
theorem bases_del {x y d : List Pc} (h1 : trE true x d = 0) (h2 : trE true y (trR true x d) = 0) (hc : cmpE x y = 0) (hi : iN d = 0) :
    trE true (cmpR x y) d = 0 ∧ trR true (cmpR x y) d = trR true y (trR true x d) := by
  obtain ⟨hx, hd, he, hf⟩ := trE_ok h1
  obtain ⟨hy, hr, he', hf'⟩ := trE_ok h2
  obtain ⟨r1, r2, r3, r4, r5, r6, r7⟩ := trR_ok h1
  obtain ⟨c1, c2, c3, c4, c5, c6, c7⟩ := cmpR_ok hc
  have vx := ((errL_iff x).1 hx).2.1
  have vy := ((errL_iff y).1 hy).2.1
  obtain ⟨f1, f2⟩ := tr_filter (f := true) hx hd he hi
  have ir : iN (trR true x d) = 0 := by rw [r1, (kN_form (trS_ok true hx hd he).1.val).2.1, f2]
  obtain ⟨g1, g2⟩ := tr_filter (f := true) hy hr he' ir
  obtain ⟨k1, k2⟩ := tr_filter (f := true) c2 hd (by rw [c4, he]) hi
  have e : formS (trS true (cmpR x y) d) = formS (trS true y (trR true x d)) := by
    have t1 := trS_ok true c2 hd (by rw [c4, he])
    have t2 := trS_ok true hy hr he'
    refine formS_congr t1.1.val t2.1.val (by rw [t1.2.2, t2.2.2, c5]) ?_
    rw [k1, g1, c5, c6, r6, f1]
    apply List.filter_congr
    intro j hj
    have hj' := mem_rng.1 hj
    have oy := Val.outL vy
    have ly := Val.atoms_len vy 0
    unfold passB
    apply decide_eq_decide.2
    have hb : ∀ z, (atoms 0 y)[j.toNat]? = some z → z < outL x := fun z hz => by
      have := Val.inB vy z (List.mem_of_getElem? hz)
      rw [← r4, ← he']; exact this
    obtain ⟨z, hz⟩ : ∃ z, (atoms 0 y)[j.toNat]? = some z := ⟨_, List.getElem?_eq_getElem (by omega)⟩
    have e1 : (atoms 0 y).getD j.toNat 0 = z := by rw [List.getD_eq_getElem?_getD, hz]; rfl
    have e2 : (compA (atoms 0 x) (atoms 0 y)).getD j.toNat 0 = if z < 0 then z else (atoms 0 x).getD z.toNat 0 := by
      rw [List.getD_eq_getElem?_getD, compA_at.2 ⟨z, hz, rfl⟩]; rfl
    rw [e1, e2]
    have hz' := hb z hz
    by_cases z0 : z < 0
    · simp [z0]
    · rw [if_neg z0, List.mem_filter]
      have mz : z ∈ rng 0 (outL x).toNat := mem_rng.2 ⟨by omega, by omega⟩
      simp only [z0, mz, false_or, true_and, decide_eq_true_eq]
  have e0 : trE true (cmpR x y) d = 0 := by rw [trE, if_pos c2, if_pos hd, if_pos (by rw [c4, he]), e, if_pos hf']
  exact ⟨e0, by rw [trR, if_pos e0, trR, if_pos h2, e]⟩
theorem bases_ins {x y d : List Pc} (h1 : trE true x d = 0) (h2 : trE true y (trR true x d) = 0) (hc : cmpE x y = 0) (hr0 : rN d = 0) (hz : iN x = 0 ∨ rN y = 0) :
    trE true (cmpR x y) d = 0 ∧ trR true (cmpR x y) d = trR true y (trR true x d) := by
  obtain ⟨hx, hd, he, hf⟩ := trE_ok h1
  obtain ⟨hy, hr, he', hf'⟩ := trE_ok h2
  obtain ⟨r1, r2, r3, r4, r5, r6, r7⟩ := trR_ok h1
  obtain ⟨c1, c2, c3, c4, c5, c6, c7⟩ := cmpR_ok hc
  have vx := ((errL_iff x).1 hx).2.1
  have vy := ((errL_iff y).1 hy).2.1
  obtain ⟨f1, f2⟩ := tr_psi hx hd he hr0
  have ir : rN (trR true x d) = 0 := by rw [r1, (kN_form (trS_ok true hx hd he).1.val).2.2, f2]
  obtain ⟨g1, g2⟩ := tr_psi hy hr he' ir
  obtain ⟨k1, k2⟩ := tr_psi c2 hd (by rw [c4, he]) hr0
  have ez : ∀ i, rightG (cmpR x y) i = rightG y (rightG x i) := fun i => cmp_right_eq hc hz i
  have e : formS (trS true (cmpR x y) d) = formS (trS true y (trR true x d)) := by
    have t1 := trS_ok true c2 hd (by rw [c4, he])
    have t2 := trS_ok true hy hr he'
    refine formS_congr t1.1.val t2.1.val (by rw [t1.2.2, t2.2.2, c5]) ?_
    rw [k1, g1, r6, f1, psi_comp (rightG x) (rightG y) (fun i j _ h => rightG_mono vx h) (fun i j _ h => rightG_mono vy h) (fun i => (rightG_bd vx i).1) (fun i => (rightG_bd vy i).1), ez,
      show rightG (cmpR x y) = fun i => rightG y (rightG x i) from funext ez]
  have e0 : trE true (cmpR x y) d = 0 := by rw [trE, if_pos c2, if_pos hd, if_pos (by rw [c4, he]), e, if_pos hf']
  exact ⟨e0, by rw [trR, if_pos e0, trR, if_pos h2, e]⟩
/-- a delta transformed against several ones -/
def rebG : List Pc → Int → List (List Pc) → Int × List Pc
  | d, e, [] => (e, if e = 0 then d else [])
  | d, e, b :: r => if e = 0 then rebG (trR true b d) (trE true b d) r else (e, [])
def rebE (d : List Pc) (L : List (List Pc)) : Int := (rebG (normS d) (errL d) L).1
def rebR (d : List Pc) (L : List (List Pc)) : List Pc := (rebG (normS d) (errL d) L).2
theorem rebG_err {d : List Pc} {e : Int} (h : e ≠ 0) (L : List (List Pc)) : rebG d e L = (e, []) := by
  cases L <;> simp [rebG, h]
theorem rebG_append : ∀ (L M : List (List Pc)) (d : List Pc) (e : Int), rebG d e (L ++ M) = rebG (rebG d e L).2 (rebG d e L).1 M := by
  intro L
  induction L with
  | nil =>
    intro M d e
    by_cases h : e = 0
    · simp [rebG, h]
    · rw [List.nil_append, rebG_err h, rebG_err h, rebG_err h]
  | cons b r ih =>
    intro M d e
    by_cases h : e = 0
    · rw [List.cons_append, rebG, if_pos h, ih, rebG, if_pos h]
    · rw [rebG_err h, rebG_err h, rebG_err h]
theorem rebG_ok : ∀ (L : List (List Pc)) (d : List Pc) (e : Int), errL d = 0 → formS d = d → (rebG d e L).1 = 0 → errL (rebG d e L).2 = 0 ∧ formS (rebG d e L).2 = (rebG d e L).2 := by
  intro L
  induction L with
  | nil =>
    intro d e h1 h2 h
    have : e = 0 := h
    simp only [rebG, if_pos this]
    exact ⟨h1, h2⟩
  | cons b r ih =>
    intro d e h1 h2 h
    by_cases he : e = 0
    · rw [rebG, if_pos he] at h ⊢
      by_cases ht : trE true b d = 0
      · obtain ⟨r1, r2, r3, r4, r5, r6, r7⟩ := trR_ok ht
        exact ih _ _ r2 r5 h
      · rw [rebG_err ht] at h
        exact absurd h ht
    · rw [rebG_err he] at h
      exact absurd h he
theorem normS_fine (d : List Pc) : errL (normS d) = 0 ∧ formS (normS d) = normS d := by
  by_cases h : errL d = 0
  · obtain ⟨a1, a2, a3, a4, a5, a6⟩ := norm_ok h
    exact ⟨a2, by rw [a1, formS_idem ((errL_iff d).1 h).2.1]⟩
  · have e : normS d = [] := by rw [normS, if_neg h]
    rw [e]
    exact ⟨rfl, rfl⟩
theorem reb_fine {d : List Pc} {L : List (List Pc)} (h : rebE d L = 0) : errL (rebR d L) = 0 ∧ normS (rebR d L) = rebR d L := by
  obtain ⟨a, b⟩ := rebG_ok L (normS d) (errL d) (normS_fine d).1 (normS_fine d).2 h
  refine ⟨a, ?_⟩
  show normS (rebG (normS d) (errL d) L).2 = _
  rw [normS, if_pos a, b]
  rfl
theorem reb_bad {d : List Pc} {L : List (List Pc)} (M : List (List Pc)) (h : rebE d L ≠ 0) : rebE d (L ++ M) = rebE d L ∧ rebR d (L ++ M) = [] := by
  have : (rebG (normS d) (errL d) L).1 ≠ 0 := h
  unfold rebE rebR
  rw [rebG_append, rebG_err this]
  exact ⟨rfl, rfl⟩
/-- in one call or in two -/
theorem reb_step {d : List Pc} {L : List (List Pc)} (M : List (List Pc)) (h : rebE d L = 0) : rebE d (L ++ M) = rebE (rebR d L) M ∧ rebR d (L ++ M) = rebR (rebR d L) M := by
  obtain ⟨a, b⟩ := reb_fine h
  have h' : (rebG (normS d) (errL d) L).1 = 0 := h
  unfold rebE rebR at *
  rw [rebG_append, a, b, h']
  exact ⟨rfl, rfl⟩
theorem reb_one {d x : List Pc} (hd : errL d = 0) : rebE d [x] = trE true x d ∧ rebR d [x] = trR true x d := by
  have key : trE true x (normS d) = trE true x d ∧ trR true x (normS d) = trR true x d := by
    obtain ⟨a1, a2, a3, a4, a5, a6⟩ := norm_ok hd
    have vd := ((errL_iff d).1 hd).2.1
    have e : trS true x (normS d) = trS true x d := by unfold trS; rw [a1, formS_idem vd]
    have e2 : trE true x (normS d) = trE true x d := by unfold trE; rw [e, a2, a3, if_pos hd]; simp
    exact ⟨e2, by unfold trR; rw [e, e2]⟩
  unfold rebE rebR
  rw [hd]
  simp only [rebG, if_true, key]
  refine ⟨trivial, ?_⟩
  split
  · rfl
  · rename_i h; rw [trR_none h]
theorem reb_err {d : List Pc} {L : List (List Pc)} (h : rebE d L = 0) : errL d = 0 := Classical.byContradiction fun hh => by
  unfold rebE at h
  rw [rebG_err hh] at h
  exact hh h
/-- and the same as against the composition -/
theorem reb_bases {d x y : List Pc} (h : rebE d [x, y] = 0) (hc : cmpE x y = 0) (hz : iN d = 0 ∨ (rN d = 0 ∧ (iN x = 0 ∨ rN y = 0))) : rebE d [cmpR x y] = 0 ∧ rebR d [cmpR x y] = rebR d [x, y] := by
  have hd := reb_err h
  obtain ⟨o1, o2⟩ := reb_one (x := x) hd
  have hx : rebE d [x] = 0 := Classical.byContradiction fun hh => by
    have := (reb_bad [y] hh).1
    rw [show [x] ++ [y] = [x, y] from rfl, h] at this
    exact hh this.symm
  obtain ⟨s1, s2⟩ := reb_step [y] hx
  rw [show [x] ++ [y] = [x, y] from rfl] at s1 s2
  obtain ⟨b1, b2⟩ := reb_fine hx
  obtain ⟨p1, p2⟩ := reb_one (x := y) b1
  rw [s2, p2, o2]
  rw [s1, p1, o2] at h
  rw [o1] at hx
  obtain ⟨q1, q2⟩ := reb_one (x := cmpR x y) hd
  rw [q1, q2]
  rcases hz with hz | ⟨h0, hz⟩
  · exact bases_del hx h hc hz
  · exact bases_ins hx h hc h0 hz

end Go.Proofs.Ytdlbjfgpfjcpaaa
