/- apply.Replace, Insert and Delete: the delta of a single edit, or the error. -/
import Derived.Test.YtpbnciioeiohlaaInvert
namespace Go.Proofs.Ytpbnciioeiohlaa
open Go.RowKit

def putP (l : List Pc) (p : Pc) : List Pc := if 0 < p.n ∨ p.t ≠ [] then l ++ [p] else l

theorem putP_len (l : List Pc) (p : Pc) : (putP l p).length ≤ l.length + 1 := by
  unfold putP; split
  · rw [List.length_append]; simp
  · omega

/-- the row that the variable holds does not lie in the variable's own block -/
theorem row_var {w : World} {B b : Nat} {u v : Value} {n : Nat} {xs : List Value} (hv : Var w b 22 u) (ho : w.ownsRow B 38 3 v n xs) : v.ownBlock ≠ some b := by
  intro e
  obtain ⟨cur, hc⟩ := own_block (own_zero ho) e
  exact ty_ne hc hv (by decide) rfl

set_option maxHeartbeats 2000000 in
set_option maxRecDepth 100000 in
theorem put_any (p : Pc) (w : World) (B bD : Nat) (l : List Pc) (v : Value) (hB : B ≤ bD) (hv : Var w bD 22 v) (ho : w.ownsRow B 38 3 v l.length (pcE.flat l)) (hl : l.length ≤ 100) :
    Calls Try.prog 66 #[p.v, .pointer (some ⟨bD, 0, none⟩)] w fun e w' => e = .returned (.tuple #[]) ∧
      ∃ v', Var w' bD 22 v' ∧ w'.ownsRow B 38 3 v' (putP l p).length (pcE.flat (putP l p)) ∧ Below B w w' := by
  obtain ⟨k, n, t⟩ := p
  unfold Pc.v
  dsimp only
  have co := hv.cell
  have lo := hv.lt
  have hne := row_var hv ho
  have Hne := Lib.hid hne; clear hne
  obtain ⟨i0, hi, hz0, hz1, hz2⟩ := info_parts infoPiece
  obtain ⟨A, c, rfl⟩ := own_form _ (own_zero ho)
  have Hv := Lib.hid hv; clear hv
  have Ho := Lib.hid ho; clear ho
  have hs0 : B ≤ w.heap.size := by omega
  by_cases hput : (0 < n ∨ t ≠ [])
  · have hp : putP l ⟨k, n, t⟩ = l ++ [⟨k, n, t⟩] := by unfold putP; rw [if_pos hput]
    have Hp := Lib.hid hp; clear hp
    by_cases hn : 0 < n
    · clear hput
      go_enter Try.func66, Try.ntmps66
      go_wp2_with (at_builtin; refine Hid.out ?_)
      refine Lib.hid ?_
      refine wpListB_append _ rfl (.tmp 11) (.tmp 13) 22 22 rfl B (by simp; omega) 38 i0 _ 3 32 Try.underlying22 hi hz0 hz1 hz2 rfl (by decide) _ _ _ rfl ((Ho.out.alloc _).alloc _) _ 1 _ rfl (src_one pcE Try.underlying22 (off := 0) ⟨k, n, t⟩ _ ?_) ?_ ?_ ?_
      · exact new_cells2 _ _ _ _
      · unfold maxLen; omega
      · omega
      intro A8 c8 w8 hown8 hg8 hat8 _
      have hv8 : Var w8 bD 22 (.slice A l.length c) := Hv.out.keep (((Fr.alloc (fun k => some k = (Value.slice A l.length c).ownBlock) _ _).trans (Fr.alloc _ _ _)).trans (Fr.of_grown hg8)) (fun e => Hne.out e.symm)
      have Hb8 := Lib.hid ((((Below.refl B w).alloc hs0 _).alloc (by simp; omega) _).grown hg8 (by simp; omega) (fun g hg => (Ho.out.lt g hg).1))
      have Hne8 := Lib.hid (row_var hv8 hown8)
      have co8 := hv8.cell
      have fo8 := hv8.frozen
      have lo8 := hv8.lt
      have Ho8 := Lib.hid hown8
      have Hv8 := Lib.hid hv8
      clear hown8 hg8 hat8 hv8
      go_wp2
      go_end0
      refine ⟨rfl, _, Hv8.out.set _, ?_, Hb8.out.setCell hB _⟩
      rw [Hp.out, List.length_append, pcE.flat_append]
      exact own_keepB Ho8.out (Fr.setCell (fun j => j = bD) _ _ _ rfl) (fun g hg e => Hne8.out (by rw [hg, e]))
    · have htn : t ≠ [] := by rcases hput with h | h; exact absurd h hn; exact h
      have ht : t.isEmpty = false := by cases t with
        | nil => exact absurd rfl htn
        | cons _ _ => rfl
      clear hput htn
      go_enter Try.func66, Try.ntmps66
      go_wp2_with (at_builtin; refine Hid.out ?_)
      refine Lib.hid ?_
      refine wpListB_append _ rfl (.tmp 11) (.tmp 13) 22 22 rfl B (by simp; omega) 38 i0 _ 3 32 Try.underlying22 hi hz0 hz1 hz2 rfl (by decide) _ _ _ rfl ((Ho.out.alloc _).alloc _) _ 1 _ rfl (src_one pcE Try.underlying22 (off := 0) ⟨k, n, t⟩ _ ?_) ?_ ?_ ?_
      · exact new_cells2 _ _ _ _
      · unfold maxLen; omega
      · omega
      intro A8 c8 w8 hown8 hg8 hat8 _
      have hv8 : Var w8 bD 22 (.slice A l.length c) := Hv.out.keep (((Fr.alloc (fun k => some k = (Value.slice A l.length c).ownBlock) _ _).trans (Fr.alloc _ _ _)).trans (Fr.of_grown hg8)) (fun e => Hne.out e.symm)
      have Hb8 := Lib.hid ((((Below.refl B w).alloc hs0 _).alloc (by simp; omega) _).grown hg8 (by simp; omega) (fun g hg => (Ho.out.lt g hg).1))
      have Hne8 := Lib.hid (row_var hv8 hown8)
      have co8 := hv8.cell
      have fo8 := hv8.frozen
      have lo8 := hv8.lt
      have Ho8 := Lib.hid hown8
      have Hv8 := Lib.hid hv8
      clear hown8 hg8 hat8 hv8
      go_wp2
      go_end0
      refine ⟨rfl, _, Hv8.out.set _, ?_, Hb8.out.setCell hB _⟩
      rw [Hp.out, List.length_append, pcE.flat_append]
      exact own_keepB Ho8.out (Fr.setCell (fun j => j = bD) _ _ _ rfl) (fun g hg e => Hne8.out (by rw [hg, e]))
  · have hp : putP l ⟨k, n, t⟩ = l := by unfold putP; rw [if_neg hput]
    have Hp := Lib.hid hp; clear hp
    have hn : ¬ 0 < n := fun h => hput (.inl h)
    have ht : t = [] := by
      apply Classical.byContradiction
      exact fun h => hput (.inr h)
    subst ht
    clear hput
    go_enter Try.func66, Try.ntmps66
    go_wp2
    go_end0
    refine ⟨rfl, _, Hv.out.keep (Fr.alloc (fun _ => False) _ _) (fun h => h), ?_, (Below.refl B w).alloc hs0 _⟩
    rw [Hp.out]
    exact Ho.out.alloc _

def replE (n a k : Int) (t : List UInt8) : Int := if a < 0 ∨ n < a ∨ k < 0 ∨ n - a < k then 3 else if 1048576 < n ∨ 1048576 - (n - k) < t.length then 5 else 0
def replL (n a k : Int) (t : List UInt8) : List Pc := putP (putP (putP (putP [] ⟨1, a, []⟩) ⟨2, 0, t⟩) ⟨3, k, []⟩) ⟨1, n - a - k, []⟩
def replS (n a k : Int) (t : List UInt8) : List Pc := if replE n a k t = 0 then formS (replL n a k t) else []

theorem putP_step (a b : Int) (l : List Pc) (p : Pc) (hv : (0 < p.n ∨ p.t ≠ []) → p.valid = true) (h0 : ¬ (0 < p.n ∨ p.t ≠ []) → p.inn = 0 ∧ p.out = 0) (h : lensFrom 0 0 l = (a, b, 0)) (h1 : a + p.inn ≤ 1048576) (h2 : b + p.out ≤ 1048576) :
    lensFrom 0 0 (putP l p) = (a + p.inn, b + p.out, 0) := by
  unfold putP
  split
  · rename_i x
    have gen : ∀ (l : List Pc) (c d : Int), lensFrom c d l = (a, b, 0) → lensFrom c d (l ++ [p]) = (a + p.inn, b + p.out, 0) := by
      intro l
      induction l with
      | nil =>
        intro c d hc
        simp only [lensFrom, Prod.mk.injEq] at hc
        obtain ⟨rfl, rfl, -⟩ := hc
        show lensFrom c d [p] = _
        rw [lensFrom_step c d p [] (hv x) (by omega) (by omega)]
        rfl
      | cons q r ih =>
        intro c d hc
        by_cases hq : q.valid = true
        · by_cases hb : 1048576 - c < q.inn ∨ 1048576 - d < q.out
          · simp only [lensFrom, hq, Bool.true_eq_false, if_false, if_pos hb, Prod.mk.injEq] at hc
            omega
          · rw [lensFrom_step c d q r hq (by omega) (by omega)] at hc
            show lensFrom c d (q :: (r ++ [p])) = _
            rw [lensFrom_step c d q _ hq (by omega) (by omega)]
            exact ih _ _ hc
        · rw [lensFrom_bad c d q r (by simpa using hq)] at hc
          cases hc
    exact gen l 0 0 h
  · rename_i x
    obtain ⟨e1, e2⟩ := h0 x
    rw [e1, e2, h, Int.add_zero, Int.add_zero]

theorem repl_err {n a k : Int} {t : List UInt8} (h : replE n a k t = 0) : errL (replL n a k t) = 0 := by
  unfold replE at h
  split at h
  · cases h
  split at h
  · cases h
  rename_i h1 h2
  have ht : (0 : Int) ≤ t.length := by omega
  have e1 := putP_step 0 0 [] ⟨1, a, []⟩ (fun x => by simp [Pc.valid] at x ⊢; omega) (fun x => by simp [Pc.inn, Pc.out] at x ⊢; omega) rfl (by simp [Pc.inn]; omega) (by simp [Pc.out]; omega)
  have e2 := putP_step _ _ _ ⟨2, 0, t⟩ (fun x => by simp [Pc.valid] at x ⊢; exact x) (fun x => by simp [Pc.inn, Pc.out] at x ⊢; first | (rw [x]; done) | (rw [x]; rfl)) e1 (by simp [Pc.inn]; omega) (by simp [Pc.out]; omega)
  have e3 := putP_step _ _ _ ⟨3, k, []⟩ (fun x => by simp [Pc.valid] at x ⊢; omega) (fun x => by simp [Pc.inn, Pc.out] at x ⊢; omega) e2 (by simp [Pc.inn]; omega) (by simp [Pc.out]; omega)
  have e4 := putP_step _ _ _ ⟨1, n - a - k, []⟩ (fun x => by simp [Pc.valid] at x ⊢; omega) (fun x => by simp [Pc.inn, Pc.out] at x ⊢; omega) e3 (by simp [Pc.inn]; omega) (by simp [Pc.out]; omega)
  unfold errL lens
  have hlen : (replL n a k t).length ≤ 4 := by
    unfold replL
    have a1 := putP_len [] ⟨1, a, []⟩
    have a2 := putP_len (putP [] ⟨1, a, []⟩) ⟨2, 0, t⟩
    have a3 := putP_len (putP (putP [] ⟨1, a, []⟩) ⟨2, 0, t⟩) ⟨3, k, []⟩
    have a4 := putP_len (putP (putP (putP [] ⟨1, a, []⟩) ⟨2, 0, t⟩) ⟨3, k, []⟩) ⟨1, n - a - k, []⟩
    simp only [List.length_nil] at a1
    omega
  rw [if_neg (by omega)]
  exact congrArg (fun x => x.2.2) e4

set_option maxHeartbeats 4000000 in
set_option maxRecDepth 100000 in
theorem replace_any (n a k : Int) (t : List UInt8) (w : World) (hn : -9223372036854775808 ≤ n) (hn' : n ≤ 9223372036854775807) (ha : -9223372036854775808 ≤ a) (ha' : a ≤ 9223372036854775807) (hk : -9223372036854775808 ≤ k) (hk' : k ≤ 9223372036854775807) (ht : t.length ≤ 9223372036854775807) :
    Calls Try.prog 32 #[.int .i64 n, .int .i64 a, .int .i64 k, .string ⟨t.toArray⟩] w fun e w' => ∃ v', e = .returned (.tuple #[v', .int .i64 (replE n a k t)]) ∧ w'.ownsRow w.heap.size 38 3 v' (replS n a k t).length (pcE.flat (replS n a k t)) ∧ Below w.heap.size w w' := by
  by_cases hbad : replE n a k t = 0
  · have hS : replS n a k t = formS (replL n a k t) := by simp [replS, hbad]
    have hE := repl_err hbad
    have hbad' := hbad
    unfold replE at hbad'
    split at hbad'
    · cases hbad'
    split at hbad'
    · cases hbad'
    rename_i h1 h2
    clear hbad'
    have g1 : ¬ a < 0 := fun h => h1 (.inl h)
    have g2 : ¬ n < a := fun h => h1 (.inr (.inl h))
    have g3 : ¬ k < 0 := fun h => h1 (.inr (.inr (.inl h)))
    have g4 : ¬ n - a < k := fun h => h1 (.inr (.inr (.inr h)))
    have g5 : ¬ 1048576 < n := fun h => h2 (.inl h)
    have g6 : ¬ 1048576 - (n - k) < (t.length : Int) := fun h => h2 (.inr h)
    have Hb := Lib.hid hbad; have HS := Lib.hid hS; have HE := Lib.hid hE
    clear hbad hS hE h1 h2
    have hmf : ∀ (fn : Fn) (first cap : Array Value) (w : World), (Instr.makeFunc fn first cap).run Try.prog w = .ok (.func fn first cap) w := fun _ _ _ _ => rfl
    go_enter Try.func32, Try.ntmps32
    go_wp2_with fail
    have hB0 := (Below.refl w.heap.size w).alloc (Nat.le_refl _) (.cells #[.slice none 0 0] 22)
    refine (put_any ⟨1, a, []⟩ _ w.heap.size w.heap.size [] (.slice none 0 0) (Nat.le_refl _) (Var.new w _ _) (World.ownsRow_nil _ _ _ _) (by simp)).mono ?_
    rintro e w1 ⟨rfl, v1, hv1, ho1, hb1⟩
    have l1 := putP_len [] ⟨1, a, []⟩
    have HV1 := Lib.hid hv1; have HO1 := Lib.hid ho1; have HB1 := Lib.hid (hB0.trans hb1); have L1 := Lib.hid l1
    clear hv1 ho1 hb1 l1 hB0
    go_wp2_with fail
    refine (put_any ⟨2, 0, t⟩ _ w.heap.size w.heap.size _ _ (Nat.le_refl _) HV1.out HO1.out (by have := L1.out; simp at this; omega)).mono ?_
    rintro e w2 ⟨rfl, v2, hv2, ho2, hb2⟩
    have l2 := putP_len (putP [] ⟨1, a, []⟩) ⟨2, 0, t⟩
    have HV2 := Lib.hid hv2; have HO2 := Lib.hid ho2; have HB2 := Lib.hid (HB1.out.trans hb2); have L2 := Lib.hid l2
    clear hv2 ho2 hb2 l2
    go_wp2_with fail
    refine (put_any ⟨3, k, []⟩ _ w.heap.size w.heap.size _ _ (Nat.le_refl _) HV2.out HO2.out (by have := L1.out; have := L2.out; simp at *; omega)).mono ?_
    rintro e w3 ⟨rfl, v3, hv3, ho3, hb3⟩
    have l3 := putP_len (putP (putP [] ⟨1, a, []⟩) ⟨2, 0, t⟩) ⟨3, k, []⟩
    have HV3 := Lib.hid hv3; have HO3 := Lib.hid ho3; have HB3 := Lib.hid (HB2.out.trans hb3); have L3 := Lib.hid l3
    clear hv3 ho3 hb3 l3
    go_wp2_with fail
    refine (put_any ⟨1, n - a - k, []⟩ _ w.heap.size w.heap.size _ _ (Nat.le_refl _) HV3.out HO3.out (by have := L1.out; have := L2.out; have := L3.out; simp at *; omega)).mono ?_
    rintro e w4 ⟨rfl, v4, hv4, ho4, hb4⟩
    have c4 := hv4.cell
    have z4 := hv4.lt
    have HO4 := Lib.hid ho4; have HB4 := Lib.hid (HB3.out.trans hb4)
    clear hv4 ho4 hb4
    have hnn := normalize_any v4 (replL n a k t) w4 (Sl.of_own (own_zero HO4.out)) (wf_of_err HE.out)
    rw [HE.out] at hnn
    have Hn := Lib.hid hnn; clear hnn
    go_wp2_with fail
    refine (Hn.out).mono ?_
    rintro e w5 ⟨v5, rfl, ho5, hb5⟩
    go_wp2
    go_ret2
    have hnf : normS (replL n a k t) = formS (replL n a k t) := by simp [normS, HE.out]
    rw [hnf] at ho5
    refine ⟨v5, by rw [Hb.out]; rfl, by rw [HS.out]; exact own_base (own_zero ho5) (fun g hg => Nat.le_trans HB4.out.size (ho5.lt g hg).1), HB4.out.trans (hb5.mono HB4.out.size)⟩
  · have hS : replS n a k t = [] := by simp [replS, hbad]
    have hor := hbad
    unfold replE at hor
    by_cases h1 : a < 0 ∨ n < a ∨ k < 0 ∨ n - a < k
    · have h3 : replE n a k t = 3 := by simp [replE, h1]
      have HS := Lib.hid hS; have H3 := Lib.hid h3
      clear hS h3 hor hbad
      by_cases g1 : a < 0
      · clear h1
        go_enter Try.func32, Try.ntmps32
        go_wp2
        go_ret2
        exact ⟨_, by rw [H3.out]; rfl, by rw [HS.out]; exact World.ownsRow_nil _ _ _ _, Below.refl _ _⟩
      by_cases g2 : n < a
      · clear h1
        go_enter Try.func32, Try.ntmps32
        go_wp2
        go_ret2
        exact ⟨_, by rw [H3.out]; rfl, by rw [HS.out]; exact World.ownsRow_nil _ _ _ _, Below.refl _ _⟩
      by_cases g3 : k < 0
      · clear h1
        go_enter Try.func32, Try.ntmps32
        go_wp2
        go_ret2
        exact ⟨_, by rw [H3.out]; rfl, by rw [HS.out]; exact World.ownsRow_nil _ _ _ _, Below.refl _ _⟩
      · have g4 : n - a < k := by omega
        clear h1
        go_enter Try.func32, Try.ntmps32
        go_wp2
        go_ret2
        exact ⟨_, by rw [H3.out]; rfl, by rw [HS.out]; exact World.ownsRow_nil _ _ _ _, Below.refl _ _⟩
    · rw [if_neg h1] at hor
      have h2 : 1048576 < n ∨ 1048576 - (n - k) < (t.length : Int) := by
        apply Classical.byContradiction
        intro h; rw [if_neg h] at hor; exact hor rfl
      have h3 : replE n a k t = 5 := by simp only [replE]; rw [if_neg h1, if_pos h2]
      have HS := Lib.hid hS; have H3 := Lib.hid h3
      clear hS h3 hor hbad
      have g1 : ¬ a < 0 := fun h => h1 (.inl h)
      have g2 : ¬ n < a := fun h => h1 (.inr (.inl h))
      have g3 : ¬ k < 0 := fun h => h1 (.inr (.inr (.inl h)))
      have g4 : ¬ n - a < k := fun h => h1 (.inr (.inr (.inr h)))
      clear h1
      by_cases g5 : 1048576 < n
      · clear h2
        go_enter Try.func32, Try.ntmps32
        go_wp2
        go_ret2
        exact ⟨_, by rw [H3.out]; rfl, by rw [HS.out]; exact World.ownsRow_nil _ _ _ _, Below.refl _ _⟩
      · have g6 : 1048576 - (n - k) < (t.length : Int) := by omega
        clear h2
        go_enter Try.func32, Try.ntmps32
        go_wp2
        go_ret2
        exact ⟨_, by rw [H3.out]; rfl, by rw [HS.out]; exact World.ownsRow_nil _ _ _ _, Below.refl _ _⟩

end Go.Proofs.Ytpbnciioeiohlaa
