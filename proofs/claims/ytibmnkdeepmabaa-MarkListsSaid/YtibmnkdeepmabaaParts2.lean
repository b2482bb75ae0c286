/- apply.parts: the result of a delta, what it removes and what it inserts. Condition: valid pieces that fit the string, at most 100000. -/
import Derived.Test.YtibmnkdeepmabaaParts
namespace Go.Proofs.Ytibmnkdeepmabaa
open Go.RowKit

structure PSt where
  s : List UInt8
  out : List UInt8
  gone : List UInt8
  put : List UInt8

def partStep (st : PSt) (p : Pc) : PSt :=
  if p.k = 1 then ⟨st.s.drop p.n.toNat, st.out ++ st.s.take p.n.toNat, st.gone, st.put⟩
  else if p.k = 3 then ⟨st.s.drop p.n.toNat, st.out, st.gone ++ st.s.take p.n.toNat, st.put⟩
  else ⟨st.s, st.out ++ p.t, st.gone, st.put ++ p.t⟩
def partSt (s : List UInt8) (l : List Pc) : PSt := l.foldl partStep ⟨s, [], [], []⟩

theorem partSt_snoc (s : List UInt8) (l : List Pc) (k : Nat) (h : k < l.length) : partSt s (l.take (k + 1)) = partStep (partSt s (l.take k)) l[k] := by
  unfold partSt
  rw [List.take_succ_eq_append_getElem h, List.foldl_append]
  rfl

/-- valid pieces that go through a string -/
structure PFit (s : List UInt8) (l : List Pc) : Prop where
  len : l.length ≤ 100000
  val : ∀ p ∈ l, p.valid = true ∧ p.n ≤ 1048576 ∧ p.t.length ≤ 1048576
  sum : (sizesS l).1 = s.length
  small : s.length ≤ 1048576

theorem addN_mono : ∀ (l : List Pc) (a : Int), (∀ p ∈ l, 0 ≤ p.n) → a ≤ l.foldl addN a
  | [], a, _ => Int.le_refl _
  | p :: l, a, h => by
    have := addN_mono l (addN a p) (fun q hq => h q (by simp [hq]))
    have hp := h p (by simp)
    rw [List.foldl_cons]
    unfold addN at this ⊢
    omega

theorem Pc.n_nonneg {p : Pc} (h : p.valid = true) : 0 ≤ p.n := by
  rcases Pc.valid_cases h with ⟨_, y, _⟩ | ⟨_, y, _⟩ | ⟨_, y, _⟩ <;> omega

/-- the pieces before place k have read so much -/
theorem PFit.at_ {s : List UInt8} {l : List Pc} (h : PFit s l) (k : Nat) : 0 ≤ (sizesS (l.take k)).1 ∧ (sizesS (l.take k)).1 ≤ s.length := by
  have h0 : ∀ p ∈ l, 0 ≤ p.n := fun p hp => Pc.n_nonneg (h.val p hp).1
  refine ⟨addN_mono (l.take k) 0 (fun p hp => h0 p (List.mem_of_mem_take hp)), ?_⟩
  rw [← h.sum]
  show (l.take k).foldl addN 0 ≤ l.foldl addN 0
  have e : l = l.take k ++ l.drop k := (List.take_append_drop k l).symm
  rw [e, List.foldl_append, ← e]
  exact addN_mono (l.drop k) _ (fun p hp => h0 p (List.mem_of_mem_drop hp))

theorem sizes_step {l : List Pc} {k : Nat} (hk : k < l.length) : (sizesS (l.take (k + 1))).1 = (sizesS (l.take k)).1 + l[k].n := by
  rw [List.take_succ_eq_append_getElem hk, sizesS_snoc]
  rfl

theorem PFit.bd {s : List UInt8} {l : List Pc} (h : PFit s l) {d : Nat} (hd : ∀ p ∈ l, p.n ≤ d ∧ p.t.length ≤ d) : ∀ k, k ≤ l.length → (partSt s (l.take k)).s = s.drop (sizesS (l.take k)).1.toNat ∧ (partSt s (l.take k)).out.length ≤ k * d ∧ (partSt s (l.take k)).gone.length ≤ k * d ∧ (partSt s (l.take k)).put.length ≤ k * d
  | 0, _ => ⟨by simp [partSt, sizesS], by simp [partSt], by simp [partSt], by simp [partSt]⟩
  | k + 1, hk => by
    obtain ⟨i1, i2, i3, i4⟩ := PFit.bd h hd k (by omega)
    have v1 := (h.val l[k] (List.getElem_mem (by omega))).1
    obtain ⟨v2, v3⟩ := hd l[k] (List.getElem_mem (by omega))
    have hn := Pc.n_nonneg v1
    obtain ⟨s1, s2⟩ := h.at_ k
    have hst := sizes_step (l := l) (k := k) (by omega)
    have e : (k + 1) * d = k * d + d := Nat.succ_mul k d
    rw [partSt_snoc s l k (by omega), hst, e]
    have hdr : (s.drop (sizesS (l.take k)).1.toNat).drop l[k].n.toNat = s.drop ((sizesS (l.take k)).1 + l[k].n).toNat := by
      rw [List.drop_drop]
      congr 1
      omega
    have ht : ∀ x : List UInt8, (x.take l[k].n.toNat).length ≤ d := fun x => by
      have := List.length_take_le l[k].n.toNat x
      omega
    unfold partStep
    rw [i1]
    generalize k * d = c at *
    rcases Pc.valid_cases v1 with ⟨x, _, _⟩ | ⟨x, _, _⟩ | ⟨x, y, _⟩
    · rw [if_pos x]
      have := ht (s.drop (sizesS (l.take k)).1.toNat)
      exact ⟨hdr, by simp only [List.length_append]; omega, by dsimp only; omega, by dsimp only; omega⟩
    · rw [if_neg (by omega), if_pos x]
      have := ht (s.drop (sizesS (l.take k)).1.toNat)
      exact ⟨hdr, by dsimp only; omega, by simp only [List.length_append]; omega, by dsimp only; omega⟩
    · rw [if_neg (by omega), if_neg (by omega)]
      exact ⟨by rw [y, Int.add_zero], by simp only [List.length_append]; omega, by dsimp only; omega, by simp only [List.length_append]; omega⟩

/-- a builder while another one's bytes are marked -/
theorem bd_other {W W' : World} {b1 b2 : Nat} {r1 r2 : Option Nat} {o1 o2 : List UInt8} (h1 : Bd W b1 r1 o1) (h2 : Bd W b2 r2 o2) (ha : apartRows r1 r2) (hf : Fr (fun k => some k = r1) W W') : Bd W' b2 r2 o2 :=
  h2.keep hf (fun e => by
    obtain ⟨c, hc⟩ := h2.blk
    obtain ⟨cur, hc'⟩ := h1.row_block b2 e.symm
    exact ty_ne hc hc' (by decide) rfl) (fun g hg e => ha g e.symm hg)

theorem new_row {r r' : Option Nat} {B n : Nat} (h : r' = r ∨ ∃ g, r' = some g ∧ n ≤ g) (hr : ∀ g, r = some g → B ≤ g) (hn : B ≤ n) : ∀ g, r' = some g → B ≤ g := by
  intro g hg
  rcases h with h | ⟨g', h, hl⟩
  · exact hr g (h ▸ hg)
  · rw [h] at hg
    injection hg with hg
    omega

end Go.Proofs.Ytibmnkdeepmabaa
