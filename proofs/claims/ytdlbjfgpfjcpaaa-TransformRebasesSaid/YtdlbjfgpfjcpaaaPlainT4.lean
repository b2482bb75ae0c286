/- Plain: the texts at each offset, written one after another. No program. No condition. -/
import Derived.Test.YtdlbjfgpfjcpaaaPlainT1
namespace Go.Proofs.Ytdlbjfgpfjcpaaa

/-- the texts at each offset of N bytes, of which the first pieces are known -/
def textsR (l : List Pc) (N : Nat) : List (List UInt8) := textsL l ++ List.replicate (N - (inL l).toNat) []
theorem consT_append (t : List UInt8) {A : List (List UInt8)} (h : A ≠ []) (B : List (List UInt8)) : consT t (A ++ B) = consT t A ++ B := by
  cases A with
  | nil => exact absurd rfl h
  | cons a A => rfl
theorem textsR_len {l : List Pc} (h : Val l) {N : Nat} (hN : inL l ≤ N) : (textsR l N).length = N + 1 := by
  have := (texts_len h).1
  have := Val.inL h
  simp only [textsR, List.length_append, List.length_replicate]
  omega
theorem textsR_snoc : ∀ (l : List Pc) (p : Pc) (N : Nat), Val l → p.valid = true → inL l + p.n ≤ N →
    textsR (l ++ [p]) N = (textsR l N).set (inL l).toNat ((textsR l N).getD (inL l).toNat [] ++ p.t) := by
  intro l
  induction l with
  | nil =>
    intro p N _ hp hN
    simp only [inL, Int.zero_add] at hN
    have hn := Val.n hp
    unfold textsR
    rw [List.nil_append]
    by_cases hk : p.k = 2
    · have h0 : p.n = 0 := by rcases Pc.valid_cases hp with ⟨u, v, z⟩ | ⟨u, v, z⟩ | ⟨u, v, z⟩ <;> omega
      rw [texts_ins hk]
      simp [textsL, consT, inL, h0]
    · have ht : p.t = [] := by rcases Pc.valid_cases hp with ⟨u, v, z⟩ | ⟨u, v, z⟩ | ⟨u, v, z⟩ <;> first | exact z | exact absurd u hk
      rw [show textsL [p] = List.replicate p.n.toNat [] ++ [[]] by simp [textsL, hk]]
      simp only [textsL, inL, ht, List.append_nil]
      simp only [Int.toNat_zero, Nat.sub_zero, List.singleton_append, List.getD_cons_zero, List.set_cons_zero, Int.add_zero]
      rw [show ([] : List UInt8) :: List.replicate N [] = List.replicate (N + 1) [] from (List.replicate_succ).symm, show ([[]] : List (List UInt8)) = List.replicate 1 [] from rfl,
        List.replicate_append_replicate, List.replicate_append_replicate]
      congr 1
      omega
  | cons q l ih =>
    intro p N h hp hN
    obtain ⟨v1, v2⟩ := Val.cons.1 h
    have hq := Val.n v1
    have hl := Val.inL v2
    have hpn := Val.n hp
    simp only [inL] at hN
    have va : Val (l ++ [p]) := Val.append.2 ⟨v2, Val.one.2 hp⟩
    by_cases hk : q.k = 2
    · have h0 : q.n = 0 := by rcases Pc.valid_cases v1 with ⟨u, v, z⟩ | ⟨u, v, z⟩ | ⟨u, v, z⟩ <;> omega
      have e : ∀ m : List Pc, textsR (q :: m) N = consT q.t (textsR m N) := by
        intro m
        unfold textsR
        rw [texts_ins hk, consT_append _ (textsL_ne m)]
        simp only [inL, h0, Int.zero_add]
      have i := ih p N v2 hp (by omega)
      have ei : inL (q :: l) = inL l := by simp only [inL, h0, Int.zero_add]
      rw [List.cons_append, e, e, i, ei]
      have hne : textsR l N ≠ [] := by unfold textsR; simp [textsL_ne]
      cases hT : textsR l N with
      | nil => exact absurd hT hne
      | cons a A =>
        cases hj : (inL l).toNat with
        | zero => simp [consT]
        | succ j => simp [consT]
    · have e : ∀ m : List Pc, Val m → inL m + q.n ≤ N → textsR (q :: m) N = List.replicate q.n.toNat [] ++ textsR m (N - q.n.toNat) := by
        intro m hm hmN
        have := Val.inL hm
        unfold textsR
        rw [textsL, if_neg hk, List.append_assoc]
        simp only [inL]
        congr 3
        omega
      have i := ih p (N - q.n.toNat) v2 hp (by omega)
      rw [List.cons_append, e _ va (by rw [inL_append]; simp only [inL]; omega), e l v2 (by omega), i]
      have ei : (inL (q :: l)).toNat = q.n.toNat + (inL l).toNat := by simp only [inL]; omega
      rw [ei, getD_rep, List.set_append_right _ _ (by simp), List.length_replicate, show q.n.toNat + (inL l).toNat - q.n.toNat = (inL l).toNat by omega]
theorem textsR_all {l : List Pc} {N : Nat} (h : inL l = N) : textsR l N = textsL l := by
  unfold textsR
  rw [h]
  simp
theorem textsR_nil (N : Nat) : textsR [] N = List.replicate (N + 1) [] := by
  unfold textsR
  simp only [textsL, inL, Int.toNat_zero, Nat.sub_zero]
  exact (List.replicate_succ).symm
theorem Tr.outB {f : Bool} {x y T S : List Pc} (h : Tr f x y T S) : Ytdlbjfgpfjcpaaa.outL T ≤ Ytdlbjfgpfjcpaaa.outL x + iN y ∧ iN T = iN y := by
  induction h with
  | nil => exact ⟨Int.le_refl _, rfl⟩
  | insA ht hf _ ih => simp only [Ytdlbjfgpfjcpaaa.outL, iN, Pc.out]; simp; omega
  | insB ht hf _ ih => simp only [Ytdlbjfgpfjcpaaa.outL, iN, Pc.out]; simp; omega
  | @byte k l n x y x' y' T S hk hl h1 cx cy hlen _ ih =>
    have e : iN y = iN y' := by
      rcases cy with rfl | ⟨m, r, hm, rfl, rfl⟩
      · simp only [iN]; rcases hl with rfl | rfl <;> simp
      · simp only [iN]
    rw [outL_append, (cx.io hk h1).2, e]
    rcases hk with rfl | rfl <;> rcases hl with rfl | rfl <;> simp [Ytdlbjfgpfjcpaaa.outL, Pc.out, iN] <;> omega
/-- how long the result is, offset by offset -/
def szX : List (List UInt8) → List Bool → Int
  | [], _ => 0
  | t :: X, K => t.length + (if K.headD false = true then 1 else 0) + szX X K.tail
theorem szX_rep (k : Bool) (X : List (List UInt8)) (K : List Bool) (m : Nat) : szX (List.replicate m [] ++ X) (List.replicate m k ++ K) = (if k = true then (m : Int) else 0) + szX X K := by
  induction m with
  | zero => simp
  | succ m ih =>
    simp only [List.replicate_succ, List.cons_append, szX, List.headD_cons, List.tail_cons, List.length_nil, ih]
    cases k <;> simp
    omega
theorem szX_all {l : List Pc} (h : Val l) : szX (textsL l) (keepsL l) = Ytdlbjfgpfjcpaaa.outL l := by
  induction l with
  | nil => rfl
  | cons p r ih =>
    obtain ⟨v1, v2⟩ := Val.cons.1 h
    have i := ih v2
    simp only [Ytdlbjfgpfjcpaaa.outL, keepsL]
    rcases Pc.valid_cases v1 with ⟨u, v, z⟩ | ⟨u, v, z⟩ | ⟨u, v, z⟩
    · rw [textsL, if_neg (by omega), szX_rep, i]
      simp [Pc.out, u]
      omega
    · rw [textsL, if_neg (by omega), szX_rep, i]
      simp [Pc.out, u]
    · rw [texts_ins u, ← i, v]
      cases e : textsL r with
      | nil => exact absurd e (textsL_ne r)
      | cons g X =>
        simp [consT, szX, Pc.out, u]
        omega
theorem szX_at (X : List (List UInt8)) (K : List Bool) (k : Nat) (h : k < X.length) : szX (X.drop k) (K.drop k) = X[k].length + (if K.getD k false = true then 1 else 0) + szX (X.drop (k + 1)) (K.drop (k + 1)) := by
  have hd : (K.drop k).headD false = K.getD k false := by
    rw [List.getD_eq_getElem?_getD, List.headD_eq_head?_getD, List.head?_drop]
  rw [List.drop_eq_getElem_cons h, szX, hd, List.tail_drop]
theorem szX_ge : ∀ (X : List (List UInt8)) (K : List Bool), 0 ≤ szX X K
  | [], _ => Int.le_refl _
  | t :: X, K => by
    have := szX_ge X K.tail
    simp only [szX]
    split <;> omega
theorem szX_mem : ∀ (X : List (List UInt8)) (K : List Bool), ∀ t ∈ X, (t.length : Int) ≤ szX X K
  | [], _, t, h => by cases h
  | s :: X, K, t, h => by
    have := szX_ge X K.tail
    simp only [szX]
    rcases List.mem_cons.1 h with rfl | h
    · split <;> omega
    · have := szX_mem X K.tail t h
      split <;> omega
theorem textsR_le {l : List Pc} (h : Val l) (N i : Nat) : (((textsR l N).getD i []).length : Int) ≤ Ytdlbjfgpfjcpaaa.outL l := by
  have h0 := Val.outL h
  rw [List.getD_eq_getElem?_getD]
  cases e : (textsR l N)[i]? with
  | none => simpa using h0
  | some t =>
    have hm := List.mem_of_getElem? e
    rcases List.mem_append.1 hm with hm | hm
    · have := szX_mem (textsL l) (keepsL l) t hm
      rw [szX_all h] at this
      exact this
    · rw [List.eq_of_mem_replicate hm]
      simpa using h0
theorem outL_take {l : List Pc} (h : Val l) (k : Nat) : Ytdlbjfgpfjcpaaa.outL (l.take k) ≤ Ytdlbjfgpfjcpaaa.outL l := by
  have := outL_append (l.take k) (l.drop k)
  rw [List.take_append_drop] at this
  have h2 := Val.outL (fun p hp => h p (List.mem_of_mem_drop hp) : Val (l.drop k))
  omega
theorem drop_head {α : Type} {l : List α} {k : Nat} (h : k < l.length) : l.drop k = l[k] :: l.drop (k + 1) := List.drop_eq_getElem_cons h
/-- one offset of the merged result -/
theorem agL_at (f : Bool) (c : Int) (X Y : List (List UInt8)) (K L : List Bool) (k : Nat) (hx : k < X.length) (hy : k < Y.length) :
    agL f c (X.drop k) (Y.drop k) (K.drop k) (L.drop k) = ordA f c X[k] Y[k] ++ ((if K.getD k false = true ∧ L.getD k false = true then [c + X[k].length] else []) ++ agL f (c + X[k].length + if K.getD k false = true then 1 else 0) (X.drop (k + 1)) (Y.drop (k + 1)) (K.drop (k + 1)) (L.drop (k + 1))) := by
  have hd : ∀ l : List Bool, (l.drop k).headD false = l.getD k false := fun l => by
    rw [List.getD_eq_getElem?_getD, List.headD_eq_head?_getD, List.head?_drop]
  rw [drop_head hx, drop_head hy, agL, hd, hd, List.headD_cons, List.tail_cons, List.tail_drop, List.tail_drop]
theorem agL_end (f : Bool) (c : Int) (X Y : List (List UInt8)) (K L : List Bool) (k : Nat) (hx : ¬ k < X.length) : agL f c (X.drop k) (Y.drop k) (K.drop k) (L.drop k) = [] := by
  rw [List.drop_eq_nil_iff.2 (by omega), agL]

end Go.Proofs.Ytdlbjfgpfjcpaaa
