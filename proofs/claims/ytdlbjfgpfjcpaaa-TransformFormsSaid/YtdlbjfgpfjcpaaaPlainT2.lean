/- Plain: disjoint deltas; the merge. No program. No condition. -/
import Derived.Test.YtdlbjfgpfjcpaaaPlainT1
namespace Go.Proofs.Ytdlbjfgpfjcpaaa

/-- the reference's comparison of two deltas, offset by offset -/
def disL : List (List UInt8) → List (List UInt8) → List Bool → List Bool → Bool
  | [], _, _, _ => true
  | t :: X, Y, K, L => if (t ≠ [] ∧ Y.headD [] ≠ []) ∨ (K.headD true = false ∧ L.headD true = false) then false else disL X Y.tail K.tail L.tail
theorem disL_iff : ∀ (X Y : List (List UInt8)) (K L : List Bool), K.length ≤ X.length → (disL X Y K L = true ↔ apartT X Y ∧ apartK K L) := by
  intro X
  induction X with
  | nil =>
    intro Y K L h
    cases K with
    | nil => simp [disL, apartT, apartK]
    | cons k K => simp at h
  | cons t X ih =>
    intro Y K L h
    have eT : apartT (t :: X) Y ↔ (t = [] ∨ Y.headD [] = []) ∧ apartT X Y.tail := by
      constructor
      · intro hh
        refine ⟨?_, fun i => ?_⟩
        · have := hh 0
          cases Y <;> first | (simp; done) | simpa using this
        · have := hh (i + 1)
          cases Y <;> first | (simp; done) | simpa using this
      · rintro ⟨h1, h2⟩ i
        cases i with
        | zero => cases Y <;> first | (simp; done) | simpa using h1
        | succ i => have := h2 i; cases Y <;> first | (simp; done) | simpa using this
    have eK : apartK K L ↔ ¬ (K.headD true = false ∧ L.headD true = false) ∧ apartK K.tail L.tail := by
      constructor
      · intro hh
        refine ⟨?_, fun i => ?_⟩
        · have := hh 0
          cases K <;> cases L <;> first | (simp; done) | simpa using this
        · have := hh (i + 1)
          cases K <;> cases L <;> first | (simp; done) | simpa using this
      · rintro ⟨h1, h2⟩ i
        cases i with
        | zero => cases K <;> cases L <;> first | (simp; done) | simpa using h1
        | succ i => have := h2 i; cases K <;> cases L <;> first | (simp; done) | simpa using this
    have hl : K.tail.length ≤ X.length := by rw [List.length_tail]; simp at h; omega
    have := ih Y.tail K.tail L.tail hl
    rw [disL, eT, eK]
    split
    · rename_i hc
      simp only [Bool.false_eq_true, false_iff]
      rintro ⟨⟨a, _⟩, ⟨b, _⟩⟩
      rcases hc with ⟨c, d⟩ | c
      · rcases a with a | a
        · exact c a
        · exact d a
      · exact b c
    · rename_i hc
      rw [this]
      constructor
      · rintro ⟨a, b⟩
        refine ⟨⟨?_, a⟩, fun hh => hc (.inr hh), b⟩
        by_cases h1 : t = []
        · exact .inl h1
        · by_cases h2 : Y.headD [] = []
          · exact .inr h2
          · exact absurd (.inl ⟨h1, h2⟩) hc
      · rintro ⟨⟨_, a⟩, ⟨_, b⟩⟩
        exact ⟨a, b⟩
/-- the offsets at which a delta inserts, and the ranges that it removes -/
def atsF : Int → List Pc → List Int
  | _, [] => []
  | a, p :: r => (if p.k = 2 then [a] else []) ++ atsF (a + p.n) r
def goneF : Int → List Pc → List (Int × Int)
  | _, [] => []
  | a, p :: r => (if p.k = 3 then [(a, a + p.n)] else []) ++ goneF (a + p.n) r
def overB (r q : Int × Int) : Bool := decide (max r.1 q.1 < min r.2 q.2)
def disP (x y : List Pc) : Bool := !((atsF 0 x).any fun k => decide (k ∈ atsF 0 y)) && !((goneF 0 x).any fun r => (goneF 0 y).any fun q => overB r q)
theorem ats_ge : ∀ (l : List Pc) (a : Int), Val l → ∀ i ∈ atsF a l, a ≤ i := by
  intro l
  induction l with
  | nil => intro a _ i hi; cases hi
  | cons p r ih =>
    intro a h i hi
    obtain ⟨v1, v2⟩ := Val.cons.1 h
    have hn := Val.n v1
    rw [atsF, List.mem_append] at hi
    rcases hi with hi | hi
    · split at hi
      · rw [List.mem_singleton.1 hi]; omega
      · cases hi
    · have := ih (a + p.n) v2 i hi; omega
theorem gone_ge : ∀ (l : List Pc) (a : Int), Val l → ∀ q ∈ goneF a l, a ≤ q.1 ∧ q.1 < q.2 ∧ q.2 ≤ a + inL l := by
  intro l
  induction l with
  | nil => intro a _ i hi; cases hi
  | cons p r ih =>
    intro a h i hi
    obtain ⟨v1, v2⟩ := Val.cons.1 h
    have hn := Val.n v1
    have hr := Val.inL v2
    rw [goneF, List.mem_append] at hi
    simp only [inL]
    rcases hi with hi | hi
    · split at hi
      · rename_i h3
        have : 1 ≤ p.n := by rcases Pc.valid_cases v1 with ⟨u, v, z⟩ | ⟨u, v, z⟩ | ⟨u, v, z⟩ <;> omega
        rw [List.mem_singleton.1 hi]; dsimp only; omega
      · cases hi
    · have := ih (a + p.n) v2 i hi; omega
theorem ats_iff : ∀ (l : List Pc) (a : Int) (i : Nat), Val l → (a + i ∈ atsF a l ↔ (textsL l).getD i [] ≠ []) := by
  intro l
  induction l with
  | nil =>
    intro a i _
    cases i <;> simp [atsF, textsL]
  | cons p r ih =>
    intro a i h
    obtain ⟨v1, v2⟩ := Val.cons.1 h
    rw [atsF, List.mem_append]
    by_cases hk : p.k = 2
    · rw [texts_ins hk, if_pos hk]
      have h0 : p.n = 0 ∧ p.t ≠ [] := by
        rcases Pc.valid_cases v1 with ⟨u, v, z⟩ | ⟨u, v, z⟩ | ⟨u, v, z⟩
        · omega
        · omega
        · exact ⟨v, z⟩
      rw [h0.1, Int.add_zero]
      cases i with
      | zero => simp [consT, h0.2]
      | succ i =>
        have := ih a (i + 1) v2
        have e : (consT p.t (textsL r)).getD (i + 1) [] = (textsL r).getD (i + 1) [] := by
          unfold consT
          cases textsL r <;> simp
        rw [e, ← this]
        simp only [List.mem_singleton]
        constructor
        · rintro (h | h)
          · omega
          · exact h
        · exact .inr
    · rw [if_neg hk, textsL, if_neg hk]
      have hn := Val.n v1
      simp only [List.not_mem_nil, false_or]
      by_cases hi : i < p.n.toNat
      · have e : (List.replicate p.n.toNat ([] : List UInt8) ++ textsL r).getD i [] = [] := by
          rw [List.getD_eq_getElem?_getD, List.getElem?_append_left (by simpa using hi)]
          simp [hi]
        rw [e]
        simp only [ne_eq, not_true_eq_false, iff_false]
        intro hh
        have := ats_ge r (a + p.n) v2 _ hh
        omega
      · obtain ⟨j, rfl⟩ : ∃ j, i = p.n.toNat + j := ⟨i - p.n.toNat, by omega⟩
        rw [getD_rep, ← ih (a + p.n) j v2, show a + ((p.n.toNat + j : Nat) : Int) = a + p.n + j by omega]
theorem gone_iff : ∀ (l : List Pc) (a : Int) (i : Nat), Val l → ((∃ q ∈ goneF a l, q.1 ≤ a + i ∧ a + i < q.2) ↔ (keepsL l)[i]? = some false) := by
  intro l
  induction l with
  | nil => intro a i _; simp [goneF, keepsL]
  | cons p r ih =>
    intro a i h
    obtain ⟨v1, v2⟩ := Val.cons.1 h
    have hn := Val.n v1
    rw [keepsL]
    by_cases hi : i < p.n.toNat
    · rw [List.getElem?_append_left (by simpa using hi), List.getElem?_replicate, if_pos hi]
      have no : ¬ ∃ q ∈ goneF (a + p.n) r, q.1 ≤ a + i ∧ a + i < q.2 := by
        rintro ⟨q, hq, h1, h2⟩
        have := gone_ge r (a + p.n) v2 q hq
        omega
      by_cases h3 : p.k = 3
      · have e : (p.k == 1) = false := by simp [h3]
        rw [e]
        simp only [iff_true]
        exact ⟨(a, a + p.n), by simp [goneF, h3], by dsimp only; omega, by dsimp only; omega⟩
      · have h1 : p.k = 1 := by rcases Pc.valid_cases v1 with ⟨u, v, z⟩ | ⟨u, v, z⟩ | ⟨u, v, z⟩ <;> omega
        have e : goneF a (p :: r) = goneF (a + p.n) r := by simp [goneF, h3]
        rw [e]
        exact ⟨fun hh => absurd hh no, fun hh => by simp [h1] at hh⟩
    · obtain ⟨j, rfl⟩ : ∃ j, i = p.n.toNat + j := ⟨i - p.n.toNat, by omega⟩
      rw [List.getElem?_append_right (by simp), List.length_replicate, show p.n.toNat + j - p.n.toNat = j by omega, ← ih (a + p.n) j v2]
      rw [show a + ((p.n.toNat + j : Nat) : Int) = a + p.n + j by omega]
      constructor
      · rintro ⟨q, hq, h1, h2⟩
        rw [goneF, List.mem_append] at hq
        rcases hq with hq | hq
        · split at hq
          · rw [List.mem_singleton.1 hq] at h1 h2
            dsimp only at h1 h2
            omega
          · cases hq
        · exact ⟨q, hq, h1, h2⟩
      · rintro ⟨q, hq, h1, h2⟩
        exact ⟨q, by rw [goneF, List.mem_append]; exact .inr hq, h1, h2⟩
theorem disP_iff {x y : List Pc} (hx : Val x) (hy : Val y) : disP x y = true ↔ apartT (textsL x) (textsL y) ∧ apartK (keepsL x) (keepsL y) := by
  unfold disP
  simp only [Bool.and_eq_true, Bool.not_eq_true', List.any_eq_false, decide_eq_true_eq]
  constructor
  · rintro ⟨h1, h2⟩
    refine ⟨fun i => ?_, fun i hh => ?_⟩
    · have a := ats_iff x 0 i hx
      have b := ats_iff y 0 i hy
      by_cases e : (textsL x).getD i [] = []
      · exact .inl e
      · by_cases e' : (textsL y).getD i [] = []
        · exact .inr e'
        · exact absurd (b.2 e') (h1 _ (a.2 e))
    · obtain ⟨q, hq, q1, q2⟩ := (gone_iff x 0 i hx).2 hh.1
      obtain ⟨r, hr, r1, r2⟩ := (gone_iff y 0 i hy).2 hh.2
      have := h2 q hq
      apply this
      refine List.any_eq_true.2 ⟨r, hr, ?_⟩
      unfold overB
      simp only [decide_eq_true_eq]
      omega
  · rintro ⟨h1, h2⟩
    refine ⟨fun k hk hk' => ?_, fun q hq hh => ?_⟩
    · have g := ats_ge x 0 hx k hk
      have e : (0 : Int) + (k.toNat : Int) = k := by omega
      rcases h1 k.toNat with h | h
      · exact (ats_iff x 0 k.toNat hx).1 (by rw [e]; exact hk) h
      · exact (ats_iff y 0 k.toNat hy).1 (by rw [e]; exact hk') h
    · obtain ⟨r, hr, ho⟩ := List.any_eq_true.1 hh
      unfold overB at ho
      simp only [decide_eq_true_eq] at ho
      have g := gone_ge x 0 hx q hq
      have g' := gone_ge y 0 hy r hr
      have e : (0 : Int) + ((max q.1 r.1).toNat : Int) = max q.1 r.1 := by omega
      exact h2 (max q.1 r.1).toNat ⟨(gone_iff x 0 _ hx).1 ⟨q, hq, by rw [e]; omega, by rw [e]; omega⟩, (gone_iff y 0 _ hy).1 ⟨r, hr, by rw [e]; omega, by rw [e]; omega⟩⟩
def prE (a b : List Pc) : Int := if errL a = 0 then (if errL b = 0 then (if inL a = inL b then 0 else 21) else errL b) else errL a
theorem prE_ok {a b : List Pc} (h : prE a b = 0) : errL a = 0 ∧ errL b = 0 ∧ inL a = inL b := by
  unfold prE at h
  split at h
  · split at h
    · split at h
      · exact ⟨by assumption, by assumption, by assumption⟩
      · cases h
    · contradiction
  · contradiction
/-- whether two deltas are disjoint -/
def disB (a b : List Pc) : Bool := if prE a b = 0 then disP (formS a) (formS b) else false
theorem dis_ref {a b : List Pc} (h : prE a b = 0) : disB a b = disL (textsL (formS a)) (textsL (formS b)) (keepsL a) (keepsL b) := by
  obtain ⟨ha, hb, he⟩ := prE_ok h
  have va := ((errL_iff a).1 ha).2.1
  have vb := ((errL_iff b).1 hb).2.1
  rw [disB, if_pos h]
  apply Bool.eq_iff_iff.2
  rw [disP_iff (formS_ok va).1 (formS_ok vb).1, disL_iff _ _ _ _ ?_, keeps_form va, keeps_form vb]
  have l1 := texts_len (formS_ok va).1
  have l2 := texts_len va
  rw [(formS_ok va).2.2] at l1
  omega
/-- the merge -/
def merE (a b : List Pc) : Int := if trE true a b = 0 then cmpE a (trR true a b) else trE true a b
def merR (a b : List Pc) : List Pc := if trE true a b = 0 then cmpR a (trR true a b) else []
theorem tr_splits {a b : List Pc} (h : prE a b = 0) (hd : disB a b = true) : trE true a b = trE false a b ∧ trR true a b = trR false a b ∧ (merE a b = 0 ∨ merE a b = 5) ∧
    (merE a b = 0 → lens (merR a b) = (inL a, outL a + outL b - inL a, 0)) := by
  obtain ⟨ha, hb, he⟩ := prE_ok h
  have va := ((errL_iff a).1 ha).2.1
  have vb := ((errL_iff b).1 hb).2.1
  obtain ⟨a1, a2, a3⟩ := formS_ok va
  obtain ⟨b1, b2, b3⟩ := formS_ok vb
  rw [disB, if_pos h] at hd
  obtain ⟨d1, d2⟩ := (disP_iff a1 b1).1 hd
  have e : trS true a b = trS false a b := tr_either _ _ _ a1 b1 d1
  have t5 : trE true a b = 0 ∨ trE true a b = 5 := by
    rw [trE, if_pos ha, if_pos hb, if_pos he]
    split
    · exact .inl rfl
    · exact .inr rfl
  have e1 : trE true a b = trE false a b := by unfold trE; rw [e]
  refine ⟨e1, by unfold trR; rw [e, e1], ?_, ?_⟩
  · unfold merE
    split
    · rename_i h0
      obtain ⟨r1, r2, r3, r4, r5, r6, r7⟩ := trR_ok h0
      rw [cmpE_eq ha r2 r4.symm]
      split
      · exact .inl rfl
      · exact .inr rfl
    · rename_i h0
      rcases t5 with h | h
      · exact absurd h h0
      · exact .inr h
  · intro hm
    unfold merE at hm
    split at hm
    · rename_i h0
      obtain ⟨r1, r2, r3, r4, r5, r6, r7⟩ := trR_ok h0
      obtain ⟨c1, c2, c3, c4, c5, c6, c7⟩ := cmpR_ok hm
      have := (trS_rel true ha hb he).lens d2
      rw [a3, outL_formS va, outL_formS vb] at this
      rw [merR, if_pos h0, lens_of_err c2, c4, c5, r7, show outL (trS true a b) = outL a + outL b - inL a by omega]
    · contradiction

end Go.Proofs.Ytdlbjfgpfjcpaaa
