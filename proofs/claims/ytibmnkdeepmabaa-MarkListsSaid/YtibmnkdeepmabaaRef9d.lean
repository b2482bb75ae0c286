/- slices.stableCmpFunc at marks: its blocks, in plain terms; the callees' contracts in one form. -/
import Derived.Test.YtibmnkdeepmabaaSymC
import Derived.Test.YtibmnkdeepmabaaSort4
import Derived.Test.YtibmnkdeepmabaaRef9b
namespace Go.Proofs.Ytibmnkdeepmabaa
open Go.RowKit Go.Sort

theorem insHalf_any (d : Array Mk) (a b B g N c : Nat) (w : World) (h : OwnA B g N c d w) (hB : B ≤ w.heap.size) (hab : a ≤ b) (hbN : b ≤ N) (hN : N ≤ 1000000) :
    Calls Try.prog 79 #[.slice (some ⟨g, 0, none⟩) N c, .int .i64 a, .int .i64 b, fvB] w fun e w' => e = .returned (.tuple #[]) ∧ SymR B g N c a b d w w' := by
  have hs : d.toList.length = N := by rw [Array.length_toList]; exact h.size
  have ho := h.own
  subst hs
  refine (insSort_any d.toList a b B g c w ho hB hab hbN hN).mono ?_
  rintro e w' ⟨he, hw, hb⟩
  rw [Array.toArray_toList] at hw
  obtain ⟨p1, p2⟩ := insertionSort_holds (lt := lt9) swo9 d a b hab (by rw [Array.length_toList] at hbN; exact hbN)
  exact ⟨he, _, ⟨hw⟩, p1, p2, insertion_same d a b (by rw [Array.length_toList] at hbN; exact hbN), hb⟩

/-- the blocks from a on are in order -/
def Bl (k N : Nat) (d : Array Mk) (a : Nat) : Prop := ∀ q, a ≤ q * k → SortedIn lt9 (q * k) (min ((q + 1) * k) N) d
/-- the blocks below a are in order -/
def Bu (k : Nat) (d : Array Mk) (a : Nat) : Prop := ∀ q, (q + 1) * k ≤ a → SortedIn lt9 (q * k) ((q + 1) * k) d
theorem sorted_keep {d D : Array Mk} {lo hi : Nat} (h : SortedIn lt9 lo hi d) (he : ∀ t, lo ≤ t → t < hi → D[t]! = d[t]!) : SortedIn lt9 lo hi D := by
  intro x y hx hxy hy
  rw [he x hx (by omega), he y (by omega) hy]
  exact h x y hx hxy hy
theorem Bu.zero {k : Nat} (hk : 0 < k) (d : Array Mk) : Bu k d 0 := by
  intro q hq
  have : k ≤ (q + 1) * k := Nat.le_mul_of_pos_left k (Nat.succ_pos q)
  omega
theorem Bu.step {k a i : Nat} {d D : Array Mk} (hk : 0 < k) (h : Bu k d a) (ha : a = i * k) (hp : PermIn a (a + k) d D) (hs : SortedIn lt9 a (a + k) D) : Bu k D (a + k) := by
  intro q hq
  have e1 : (i + 1) * k = a + k := by rw [Nat.succ_mul, ha]
  rcases Nat.lt_trichotomy q i with p | p | p
  · have h1 : (q + 1) * k ≤ a := by rw [ha]; exact Nat.mul_le_mul_right k p
    exact sorted_keep (h q h1) (fun t _ ht => hp.2.1 t (.inl (by omega)))
  · rw [p, e1, ← ha]; exact hs
  · have h1 : (i + 1 + 1) * k ≤ (q + 1) * k := Nat.mul_le_mul_right k (by omega)
    rw [Nat.succ_mul, e1] at h1
    omega
theorem Bl.after {k N a e : Nat} {d D : Array Mk} (h : Bl k N d a) (hae : a ≤ e) (hp : PermIn a e d D) : Bl k N D e := by
  intro q hq
  exact sorted_keep (h q (by omega)) (fun t ht _ => hp.2.1 t (.inr (by omega)))
theorem Bl.of {k N a i : Nat} {d : Array Mk} (h : Bu k d a) (ha : a = i * k) (haN : a ≤ N) (hN : N ≤ a + k) (hs : SortedIn lt9 a N d) : Bl k N d 0 := by
  intro q _
  have e1 : (i + 1) * k = a + k := by rw [Nat.succ_mul, ha]
  rcases Nat.lt_trichotomy q i with p | p | p
  · have h1 : (q + 1) * k ≤ a := by rw [ha]; exact Nat.mul_le_mul_right k p
    rw [Nat.min_eq_left (by omega)]
    exact h q h1
  · rw [p, e1, ← ha, Nat.min_eq_right hN]; exact hs
  · have h1 : (i + 1) * k ≤ q * k := Nat.mul_le_mul_right k p
    intro x y hx hxy hy
    omega
theorem Bl.get {k N a i : Nat} {d : Array Mk} (h : Bl k N d a) (ha : a = i * (2 * k)) : SortedIn lt9 a (min (a + k) N) d ∧ SortedIn lt9 (a + k) (min (a + 2 * k) N) d := by
  have e0 : (2 * i) * k = a := by rw [ha, Nat.mul_comm 2 i, Nat.mul_assoc]
  have e1 : (2 * i + 1) * k = a + k := by rw [Nat.succ_mul, e0]
  have e2 : (2 * i + 1 + 1) * k = a + 2 * k := by rw [Nat.succ_mul, e1]; omega
  have h1 := h (2 * i) (by omega)
  have h2 := h (2 * i + 1) (by omega)
  rw [e0, e1] at h1
  rw [e1, e2] at h2
  exact ⟨h1, h2⟩
theorem Bl.end {k N : Nat} {d : Array Mk} (h : Bl k N d 0) (hk : N ≤ k) : SortedIn lt9 0 N d := by
  have := h 0 (by omega)
  rwa [Nat.zero_mul, Nat.zero_add, Nat.one_mul, Nat.min_eq_right hk] at this
/-- a block, as a multiple -/
def Mul (k a : Nat) : Prop := ∃ i, a = i * k
theorem Mul.step {k a : Nat} (h : Mul k a) : Mul k (a + k) := by
  obtain ⟨i, rfl⟩ := h
  exact ⟨i + 1, (Nat.succ_mul i k).symm⟩
theorem stab_of {N : Nat} {F : List Mk} {d D : Array Mk} (hF : d.toList = F) (hs : Same9 d D) (hN : d.size = N) (h : SortedIn lt9 0 N D) : Stab F D.toList := by
  refine ⟨sorted_list (by rw [hs.1, hN]; exact h), fun a i => ?_⟩
  rw [hs.2 a i, hF]

end Go.Proofs.Ytibmnkdeepmabaa

namespace Go.Proofs.Ytibmnkdeepmabaa
open Go.RowKit Go.Sort

/-- a state of the sorting -/
structure StS (B g N c : Nat) (d D : Array Mk) (w W : World) : Prop where
  own : OwnA B g N c D W
  same : Same9 d D
  below : Below B w W
  hB : B ≤ W.heap.size
theorem StS.next {B g N c a b : Nat} {d D : Array Mk} {w W W' : World} (h : StS B g N c d D w W) (r : SymR B g N c a b D W W') : ∃ D', PermIn a b D D' ∧ SortedIn lt9 a b D' ∧ StS B g N c d D' w W' := by
  obtain ⟨D', p1, p2, p3, p4, p5⟩ := r
  exact ⟨D', p2, p3, p1, h.same.trans p4, h.below.trans p5, Nat.le_trans h.hB p5.size⟩

set_option maxHeartbeats 4000000 in
set_option maxRecDepth 100000 in
theorem stable_any (d : Array Mk) (B g N c : Nat) (w : World) (h : OwnA B g N c d w) (hB : B ≤ w.heap.size) (hN : N ≤ 1000000) :
    Calls Try.prog 63 #[.slice (some ⟨g, 0, none⟩) N c, .int .i64 N, fvB] w fun e w' => e = .returned (.tuple #[]) ∧ ∃ D : Array Mk, SortedIn lt9 0 N D ∧ StS B g N c d D w w' := by
  have CI := Lib.hid (fun d a b w h hB hab hbN => insHalf_any d a b B g N c w h hB hab hbN hN)
  have CM := Lib.hid (fun d a m b w h hB ham hmb hbN s1 s2 => symMerge_any B g N c hN (b - a) d a m b w (Nat.le_refl _) h hB ham hmb hbN s1 s2)
  have H := Lib.hid (show StS B g N c d d w w from ⟨h, Same9.refl d, Below.refl _ _, hB⟩)
  clear h hB
  unfold fvB at *
  go_enter Try.func63, Try.ntmps63
  go_wp2_with fail
  go_loopw [7, 8] (fun v7 v8 wr => ∃ (a b : Nat) (D : Array Mk), v7 = .int .i64 a ∧ v8 = .int .i64 b ∧ a ≤ N ∧ Hid (b = a + 20) ∧ Hid (Mul 20 a) ∧ Hid (Bu 20 D a) ∧ Hid (StS B g N c d D w wr)) (fun v7 _ _ => N - (intOf v7).toNat)
  case atStart => exact ⟨0, 20, d, rfl, rfl, Nat.zero_le _, Lib.hid rfl, Lib.hid ⟨0, by omega⟩, Lib.hid (Bu.zero (by omega) d), H⟩
  case round =>
    clear H
    obtain ⟨a, b, D, rfl, rfl, haN, hab, hM, hU, hS⟩ := hrel
    by_cases hlt : b ≤ N
    · have hlti : (b : Int) ≤ (N : Int) := by omega
      have HC := Lib.hid (CI.out D a b _ hS.out.own hS.out.hB (by have := hab.out; omega) hlt)
      obtain ⟨b2, hb2⟩ : ∃ b2, b2 = b + 20 := ⟨_, rfl⟩
      have eb : (b : Int) + 20 = (b2 : Int) := by omega
      have wb : IntKind.i64.wrap (b2 : Int) = (b2 : Int) := by rw [IntKind.wrap_i64]; omega
      have HB2 := Lib.hid hb2
      clear hb2
      go_wp2_with fail
      refine HC.out.mono ?_
      rintro e w2 ⟨rfl, hr⟩
      have hn := hS.out.next hr
      clear hr HC
      obtain ⟨D2, p1, p2, hS2⟩ := hn
      have HU2 := Lib.hid (show Bu 20 D2 b by
        obtain ⟨i, hi⟩ := hM.out
        have := hU.out.step (by omega) hi (hab.out ▸ p1) (hab.out ▸ p2)
        rw [hab.out]; exact this)
      have HM2 := Lib.hid (show Mul 20 b by rw [hab.out]; exact hM.out.step)
      have HS2 := Lib.hid hS2
      clear p1 p2 hS2 hS hU hM
      go_wp2_with fail
      go_roundw
      case rel => exact ⟨b, b2, D2, rfl, by go_num, hlt, HB2, HM2, HU2, HS2⟩
      case measure => have := hab.out; simp [intOf]; omega
    · have hlti : ¬ (b : Int) ≤ (N : Int) := by omega
      have HC := Lib.hid (CI.out D a N _ hS.out.own hS.out.hB haN (Nat.le_refl _))
      go_wp2_with fail
      refine HC.out.mono ?_
      rintro e w2 ⟨rfl, hr⟩
      have hn := hS.out.next hr
      clear hr HC
      obtain ⟨D2, p1, p2, hS2⟩ := hn
      have HL := Lib.hid (show Bl 20 N D2 0 by
        obtain ⟨i, hi⟩ := hM.out
        refine Bl.of (i := i) (a := a) ?_ hi haN (by have := hab.out; omega) p2
        intro q hq
        exact sorted_keep (hU.out q hq) (fun t _ ht => p1.2.1 t (.inl (by omega))))
      have HS := Lib.hid hS2
      clear p1 p2 hS2 hS hU hM hab hlt hlti haN
      go_wp2_with fail
      go_loopw [6, 7, 8, 9] (fun v6 _ _ _ wr => ∃ (k : Nat) (D : Array Mk), v6 = .int .i64 k ∧ 0 < k ∧ Hid (Bl k N D 0) ∧ Hid (StS B g N c d D w wr)) (fun v6 _ _ _ _ => N - (intOf v6).toNat)
      case atStart => exact ⟨20, D2, rfl, by omega, HL, HS⟩
      case round =>
        clear HL HS
        obtain ⟨k, D, rfl, hk, hL, hS⟩ := hrel
        by_cases hlt : k < N
        · have hlti : (k : Int) < (N : Int) := by omega
          obtain ⟨k2, hk2⟩ : ∃ k2, k2 = 2 * k := ⟨_, rfl⟩
          have ek : (2 : Int) * (k : Int) = (k2 : Int) := by omega
          have ek' : (k : Int) * 2 = (k2 : Int) := by omega
          have wk : IntKind.i64.wrap (k2 : Int) = (k2 : Int) := by rw [IntKind.wrap_i64]; omega
          have HK := Lib.hid hk2
          clear hk2
          go_wp2_with fail
          obtain ⟨W1, hW1⟩ : ∃ W1, W1 = wr := ⟨_, rfl⟩
          subst hW1
          go_loopw [7, 8] (fun v7 v8 wr => ∃ (a b : Nat) (D : Array Mk), v7 = .int .i64 a ∧ v8 = .int .i64 b ∧ a ≤ N ∧ Hid (b = a + 2 * k) ∧ Hid (Mul (2 * k) a) ∧ Hid (Bu (2 * k) D a) ∧ Hid (Bl k N D a) ∧ Hid (StS B g N c d D w wr)) (fun v7 _ _ => N - (intOf v7).toNat)
          case atStart => exact ⟨0, k2, D, rfl, by go_num, Nat.zero_le _, Lib.hid (by rw [HK.out, Nat.zero_add]), Lib.hid ⟨0, by omega⟩, Lib.hid (Bu.zero (by omega) D), hL, hS⟩
          case round =>
            clear hL hS
            obtain ⟨a, b, D, rfl, rfl, haN, hab, hM, hU, hL, hS⟩ := hrel
            obtain ⟨m, hm⟩ : ∃ m, m = a + k := ⟨_, rfl⟩
            have em : (a : Int) + (k : Int) = (m : Int) := by omega
            have wm : IntKind.i64.wrap (m : Int) = (m : Int) := by rw [IntKind.wrap_i64]; omega
            have G1 := Lib.hid (show SortedIn lt9 a (min m N) D ∧ SortedIn lt9 m (min b N) D by
              obtain ⟨i, hi⟩ := hM.out
              have := hL.out.get hi
              rw [← hm, ← hab.out] at this; exact this)
            have HMm := Lib.hid hm
            clear hm
            by_cases hlt2 : b ≤ N
            · have hlti2 : (b : Int) ≤ (N : Int) := by omega
              have HC := Lib.hid (CM.out D a m b _ hS.out.own hS.out.hB (by have := HMm.out; omega) (by have := HMm.out; have := hab.out; omega) hlt2
                (by have := G1.out.1; rwa [Nat.min_eq_left (by have := HMm.out; have := hab.out; omega)] at this)
                (by have := G1.out.2; rwa [Nat.min_eq_left hlt2] at this))
              obtain ⟨b2, hb2⟩ : ∃ b2, b2 = b + 2 * k := ⟨_, rfl⟩
              have eb : (b : Int) + (k2 : Int) = (b2 : Int) := by omega
              have wb : IntKind.i64.wrap (b2 : Int) = (b2 : Int) := by rw [IntKind.wrap_i64]; omega
              have HB2 := Lib.hid hb2
              clear hb2
              go_wp2_with fail
              refine HC.out.mono ?_
              rintro e w2 ⟨rfl, hr⟩
              have hn := hS.out.next hr
              clear hr HC
              obtain ⟨D2, p1, p2, hS2⟩ := hn
              have HU2 := Lib.hid (show Bu (2 * k) D2 b by
                obtain ⟨i, hi⟩ := hM.out
                have := hU.out.step (by omega) hi (hab.out ▸ p1) (hab.out ▸ p2)
                rw [hab.out]; exact this)
              have HL2 := Lib.hid (show Bl k N D2 b from hL.out.after (by have := hab.out; omega) p1)
              have HM2 := Lib.hid (show Mul (2 * k) b by rw [hab.out]; exact hM.out.step)
              have HS2 := Lib.hid hS2
              clear p1 p2 hS2 hS hU hM hL G1
              go_wp2_with fail
              go_roundw
              case rel => exact ⟨b, b2, D2, rfl, by go_num, hlt2, HB2, HM2, HU2, HL2, HS2⟩
              case measure => have := hab.out; simp [intOf]; omega
            · have hlti2 : ¬ (b : Int) ≤ (N : Int) := by omega
              have HE := Lib.hid (show ∀ D2 : Array Mk, PermIn a N D D2 → SortedIn lt9 a N D2 → Bl k2 N D2 0 from fun D2 p1 p2 => by
                obtain ⟨i, hi⟩ := hM.out
                rw [HK.out]
                refine Bl.of (i := i) (a := a) ?_ hi haN (by have := hab.out; omega) p2
                intro q hq
                exact sorted_keep (hU.out q hq) (fun t _ ht => p1.2.1 t (.inl (by omega))))
              by_cases hm : m < N
              · have hmi : (m : Int) < (N : Int) := by omega
                have HC := Lib.hid (CM.out D a m N _ hS.out.own hS.out.hB (by have := HMm.out; omega) hm (Nat.le_refl _)
                  (by have := G1.out.1; rwa [Nat.min_eq_left (by omega)] at this)
                  (by have := G1.out.2; rwa [Nat.min_eq_right (by omega)] at this))
                clear hU hM hL G1 HMm
                go_wp2_with fail
                refine HC.out.mono ?_
                rintro e w2 ⟨rfl, hr⟩
                have hn := hS.out.next hr
                clear hr HC
                obtain ⟨D2, p1, p2, hS2⟩ := hn
                have HL2 := Lib.hid (HE.out D2 p1 p2)
                have HS2 := Lib.hid hS2
                clear p1 p2 hS2 hS HE
                go_wp2_with fail
                go_roundw
                case rel => exact ⟨k2, D2, by go_num, by have := HK.out; omega, HL2, HS2⟩
                case measure => have := HK.out; simp [intOf]; omega
              · have hmi : ¬ (m : Int) < (N : Int) := by omega
                have HL2 := Lib.hid (HE.out D (permIn_refl D a N) (by have := G1.out.1; rwa [Nat.min_eq_right (by omega)] at this))
                clear hU hM hL G1 HMm HE
                go_wp2_with fail
                go_roundw
                case rel => exact ⟨k2, D, by go_num, by have := HK.out; omega, HL2, hS⟩
                case measure => have := HK.out; simp [intOf]; omega
        · have hlti : ¬ (k : Int) < (N : Int) := by omega
          have HF := Lib.hid (hL.out.end (by omega))
          go_wp2
          go_end0
          exact ⟨rfl, D, HF.out, hS.out⟩

theorem stabAll (F : List Mk) (hF : F.length ≤ 1000000) : StabC F := by
  intro w B g c h hB
  have hO : OwnA B g F.length c F.toArray w := ⟨h⟩
  refine (stable_any F.toArray B g F.length c w hO hB hF).mono ?_
  rintro e w' ⟨he, D, hD, hS⟩
  exact ⟨he, D.toList, stab_of (by simp) hS.same (by simp) hD, hS.own.own, hS.below⟩
theorem sortAll (F : List Mk) (hF : F.length ≤ 1000000) : SortC F := by
  rcases Nat.eq_zero_or_pos F.length with h0 | h0
  · have : F = [] := List.eq_nil_of_length_eq_zero h0
    subst this
    exact sort_nil
  · exact sort_of F h0 (stabAll F hF)

end Go.Proofs.Ytibmnkdeepmabaa

namespace Go.Proofs.Ytibmnkdeepmabaa
open Go.RowKit Go.Sort

theorem stab_ins {F R : List Mk} {m : Mk} {p : Nat} (h : Stab F R) (hp : p ≤ R.length) (hhi : ∀ t (ht : t < R.length), p ≤ t → lt9 m R[t] = true) (hlo : ∀ h : 0 < p, lt9 m (R[p - 1]'(by omega)) = false) : Stab (F ++ [m]) (R.take p ++ [m] ++ R.drop p) := by
  have hup := h.up
  have hX : ∀ x, x ∈ R.drop p → ∀ y, y ∈ [m] → lt9 y x = true := by
    intro x hx y hy
    rw [List.mem_singleton.1 hy]
    obtain ⟨j, hj, e⟩ := List.mem_iff_getElem.1 hx
    rw [List.length_drop] at hj
    rw [← e, List.getElem_drop]
    exact hhi (p + j) (by omega) (by omega)
  refine ⟨?_, fun a i => ?_⟩
  · have hpw := List.pairwise_iff_getElem.1 hup
    rw [List.append_assoc, List.pairwise_append]
    refine ⟨hup.sublist (List.take_sublist _ _), ?_, ?_⟩
    · rw [List.singleton_append, List.pairwise_cons]
      exact ⟨fun y hy => lt9_asym (hX y hy m (List.mem_singleton.2 rfl)), hup.sublist (List.drop_sublist _ _)⟩
    · intro x hx y hy
      obtain ⟨j, hj, e⟩ := List.mem_iff_getElem.1 hx
      rw [List.length_take] at hj
      rw [← e, List.getElem_take]
      have h0 := hlo (by omega)
      have h1 : lt9 m R[j] = false := by
        rcases Nat.lt_or_ge j (p - 1) with q | q
        · exact le9_trans (hpw j (p - 1) (by omega) (by omega) q) h0
        · have : j = p - 1 := by omega
          subst this
          exact h0
      rcases List.mem_append.1 hy with q | q
      · rw [List.mem_singleton.1 q]; exact h1
      · obtain ⟨t, ht, e2⟩ := List.mem_iff_getElem.1 q
        rw [List.length_drop] at ht
        rw [← e2, List.getElem_drop]
        exact hpw j (p + t) (by omega) (by omega) (by omega)
  · have := kf_rot a i (R.take p) (R.drop p) [m] [] hX
    rw [List.append_nil, List.append_nil, ← List.append_assoc, ← List.append_assoc, List.take_append_drop] at this
    rw [this, kf_append, kf_append, h.eq a i]
theorem lt9_split (i a g : Int) (x : Mk) : lt9 ⟨i, a, g⟩ x = (decide (a < x.a) || (decide (x.a = a) && decide (i < x.id))) := by
  rw [Bool.eq_iff_iff, lt9_iff]
  simp only [Bool.or_eq_true, Bool.and_eq_true, decide_eq_true_eq]
  constructor
  · rintro (q | q)
    · exact .inl q
    · exact .inr ⟨q.1.symm, q.2⟩
  · rintro (q | q)
    · exact .inl q
    · exact .inr ⟨q.1.symm, q.2⟩

set_option maxHeartbeats 8000000 in
set_option maxRecDepth 100000 in
theorem refBetween_any (v : Value) (l : List Mk) (f t : Int) (w : World) (h : Sl mkE w v l) (hl : l.length ≤ 50000) :
    Calls Try.prog 27 #[v, .int .i64 f, .int .i64 t] w fun e w' => ∃ v' S, e = .returned v' ∧ Stab (inR f t l) S ∧ w'.ownsRow w.heap.size 32 3 v' S.length (mkE.flat S) ∧ Below w.heap.size w w' := by
  obtain ⟨i0, hi, hz0, hz1, hz2⟩ := info_parts infoMark
  obtain ⟨A, cap, hv, h2, h3, -⟩ := id h
  unfold maxLen at h3
  have H := Lib.hid h
  clear h
  subst hv
  go_enter Try.func27, Try.ntmps27
  go_wp2_with fail
  go_loopw [7, 8] (fun vo ix wr => ∃ (k : Nat) (R : List Mk) (A5 : Option Addr) (c5 : Nat), k ≤ l.length ∧ ix = .int .i64 k ∧ vo = .slice A5 R.length c5 ∧ R.length ≤ k ∧ Hid (Stab (inR f t (l.take k)) R) ∧ Hid (MG w R A5 c5 wr)) (fun _ ix _ => l.length - (intOf ix).toNat)
  case atStart => exact ⟨0, [], none, 0, by omega, rfl, rfl, by simp, Lib.hid ⟨List.Pairwise.nil, fun _ _ => rfl⟩, Lib.hid ⟨World.ownsRow_nil _ _ _ _, Below.refl _ _⟩⟩
  case round =>
    obtain ⟨k, R, A5, c5, hk, rfl, rfl, hR, hG, hM⟩ := hrel
    have hsz := hM.out.b.size
    by_cases hlt : k < l.length
    · have hsn := inR_snoc f t l k hlt
      obtain ⟨b, off, cap', hv, hb', c0, c1, c2⟩ := (H.out.ext hM.out.b).mk3 hlt
      obtain ⟨rfl, rfl⟩ : A = some ⟨b, off, none⟩ ∧ cap = cap' := by injection hv with e1 e2 e3; exact ⟨e1, e3⟩
      clear hv
      generalize l[k] = m at *
      obtain ⟨i, a, g⟩ := m
      have Hsn := Lib.hid hsn; clear hsn
      simp only at c0 c1 c2
      by_cases q1 : f ≤ a
      · by_cases q2 : a ≤ t
        · have E := Lib.hid (show inR f t (l.take k) ++ [⟨i, a, g⟩] = inR f t (l.take (k + 1)) by rw [Hsn.out, if_pos ⟨q1, q2⟩])
          clear Hsn
          have hbx := box3 wr ⟨i, a, g⟩ 32
          simp only at hbx
          have M1 := Lib.hid (show MG w R A5 c5 (wr.alloc (.cells #[.int .u32 i, .int .i64 a, .int .u8 g] 32)) from ⟨hM.out.o.alloc _, hM.out.b.alloc hsz _⟩)
          have hnb : wr.heap.size < (wr.alloc (.cells #[.int .u32 i, .int .i64 a, .int .u8 g] 32)).heap.size := by simp
          have BX := Lib.hid hbx
          clear hbx
          go_wp2_with fail
          generalize wr.alloc (.cells #[.int .u32 i, .int .i64 a, .int .u8 g] 32) = W3 at *
          generalize wr.heap.size = nb at *
          have hsz3 := M1.out.b.size
          clear hM c0 c1 c2 hb'
          rcases own_forms9 M1.out.o with ⟨hv, hr0⟩ | ⟨gb, cR, hv, hcR, hcm⟩
          · have hr : R = [] := List.eq_nil_of_length_eq_zero hr0
            obtain ⟨rfl, rfl⟩ : A5 = none ∧ c5 = 0 := by injection hv with e1 e2 e3; exact ⟨e1, e3⟩
            subst hr
            clear hr0 hv
            obtain ⟨N, hN⟩ : ∃ N : List Mk, N = [] := ⟨_, rfl⟩
            obtain ⟨Y, hY⟩ : ∃ Y : List Mk, Y = [] := ⟨_, rfl⟩
            obtain ⟨RES, hRES⟩ : ∃ RES, RES = N ++ [(⟨i, a, g⟩ : Mk)] ++ Y := ⟨_, rfl⟩
            have hfin := Lib.hid hRES
            have HST := Lib.hid (show Stab (inR f t (l.take (k + 1))) RES by
              rw [← E.out, hRES, hN, hY]
              exact stab_ins (p := 0) hG.out (Nat.le_refl _) (fun t ht => absurd ht (Nat.not_lt_zero _)) (fun h => absurd h (Nat.lt_irrefl _)))
            have HSN0 := Lib.hid (fun V => show Sl mkE V (.slice none 0 0) N by rw [hN]; exact Sl.nil mkE V)
            have HSY0 := Lib.hid (fun V => show Sl mkE V (.slice none 0 0) Y by rw [hY]; exact Sl.nil mkE V)
            have hNl : N.length ≤ 100000 := by rw [hN]; simp
            have hNk : N.length ≤ k := by rw [hN]; simp
            have hN0 := Lib.hid hN; have hY0 := Lib.hid (show Y.length = 0 by rw [hY]; rfl)
            clear hN hY hRES hG E
            refine wp_loop_rounds 1 ?_
            rw [rounds_succ]
            go_wp2_with fail
            go_quiet (fail)
            go_wp2_with fail
            have hszV : w.heap.size ≤ (W3.drewN nq).heap.size := hsz3
            have HBV := Lib.hid (below_drewN M1.out.b nq)
            have hltV : nb < (W3.drewN nq).heap.size := hnb
            have v0 : (W3.drewN nq).cell? ⟨nb, 0, none⟩ = some (.int .u32 i) := BX.out.1
            have v1 : (W3.drewN nq).cell? ⟨nb, 1, none⟩ = some (.int .i64 a) := BX.out.2.1
            have v2 : (W3.drewN nq).cell? ⟨nb, 2, none⟩ = some (.int .u8 g) := BX.out.2.2
            clear BX M1
            generalize W3.drewN nq = V at *
            have hneV : ¬ V.heap.size = nb := by omega
            have HSN := Lib.hid (HSN0.out V)
            have HSY := Lib.hid (HSY0.out V)
            clear HSN0 HSY0
            go_region_law (first
              | (refine stepM1 (V := V) rfl (.tmp 71) (.tmp 74) rfl _ ?_ ?_ ?_ rfl _ N rfl HSN.out hNl ?_
                 · first | exact heap_alloc_new _ _ | exact heap_new2 _ _ _ | exact heap_old2 (heap_alloc_new _ _)
                 · first | exact Nat.le_refl _ | omega
                 · repeat (first | exact Below.refl _ _ | refine bal9 ?_ | refine bdr9 ?_)
                 intro A8 c8 w8 HO8 HB8 HG8
                 have x0 := (HB8.out.cell (p := ⟨nb, 0, none⟩) hltV).trans v0
                 have x1 := (HB8.out.cell (p := ⟨nb, 1, none⟩) hltV).trans v1
                 have x2 := (HB8.out.cell (p := ⟨nb, 2, none⟩) hltV).trans v2
                 have hs8 := HB8.out.size
                 have hne8 : ¬ w8.heap.size = nb := by omega)
              | (refine stepM2 (V := V) (w8 := w8) rfl (.tmp 75) (.tmp 77) rfl N A8 c8 HO8.out HB8.out ?_ rfl ⟨i, a, g⟩ _ rfl ?_ hNl ?_
                 · repeat (first | exact Below.refl _ _ | refine bal9 ?_ | refine bdr9 ?_)
                 · first | exact new_cells (E := mkE) w8 (⟨i, a, g⟩ : Mk) _ | exact cellsM1 HG8.out | exact cellsM2 HG8.out
                 intro A9 c9 w9 HO9 HB9))
            all_goals
              clear v0 v1 v2 HSN HO8 HB8 HG8 x0 x1 x2 hs8 hne8
              have hs9 := HB9.out.size
              go_wp2_with (at_builtin; refine Hid.out ?_)
              refine Lib.hid ?_
              refine wpListB_append _ rfl (.tmp 79) (.tmp 82) 22 22 rfl V.heap.size hs9 32 i0 _ 3 24 Try.underlying22 hi hz0 hz1 hz2 rfl (by decide) _ _ _ rfl HO9.out _ 0 _ rfl (by have := (HSY.out.ext HB9.out).src Try.underlying22; rw [hY0.out] at this; exact this) ?_ ?_ ?_
              · unfold maxLen; omega
              · omega
              intro A10 c10 w10 hown10 hg10 _ _
              have hbel := HB9.out.grown hg10 hs9 (fun k hk => (HO9.out.lt k hk).1)
              have M9 := Lib.hid (show MG w RES A10 c10 w10 from ⟨by have := own_le hown10 hszV; rw [← mkE.flat_append] at this; rw [hfin.out, List.length_append, List.length_append, List.length_singleton, hY0.out]; exact this, HBV.out.trans (hbel.mono hszV)⟩)
              have hlen : N.length + 1 + 0 = RES.length := by rw [hfin.out, List.length_append, List.length_append, List.length_singleton, hY0.out]
              have hRk : RES.length ≤ k + 1 := by omega
              clear hown10 hg10 hbel HSY HO9 HB9
              go_wp2_with fail
              go_roundw
              case rel => exact ⟨k + 1, RES, A10, c10, by omega, by go_num, by first | rfl | rw [hlen], hRk, HST, M9⟩
              case measure => simp [intOf]; omega
          · obtain ⟨rfl, rfl⟩ : A5 = some ⟨gb, 0, none⟩ ∧ c5 = cR := by injection hv with e1 e2 e3; exact ⟨e1, e3⟩
            have HS := Lib.hid (Sl.of_own M1.out.o)
            clear hv
            go_loopw [10] (fun y ws => ∃ p : Nat, p ≤ R.length ∧ y = .int .i64 p ∧ Hid (∀ t (ht : t < R.length), p ≤ t → lt9 ⟨i, a, g⟩ R[t] = true) ∧ Hid (Below W3.heap.size W3 ws)) (fun y _ => (intOf y).toNat)
            case atStart => exact ⟨R.length, Nat.le_refl _, rfl, Lib.hid (fun t ht h => by omega), Lib.hid (Below.refl _ _)⟩
            case round =>
              obtain ⟨p, hp, rfl, hL, hBr⟩ := hrel
              obtain ⟨W5, hW5⟩ : ∃ W5, W5 = wr := ⟨_, rfl⟩
              subst hW5
              go_upto_region 8 with (fail)
              go_cut [68] (fun v wc => ∃ bb : Bool, v = .bool bb ∧ Hid (bb = true → ∃ h : p - 1 < R.length, 0 < p ∧ lt9 ⟨i, a, g⟩ (R[p - 1]'h) = true) ∧ Hid (bb = false → ∀ h : p - 1 < R.length, 0 < p → lt9 ⟨i, a, g⟩ (R[p - 1]'h) = false) ∧ Hid (Below W5.heap.size W5 wc))
              case first =>
                by_cases hp0 : 0 < p
                · obtain ⟨q, hq⟩ : ∃ q, q = p - 1 := ⟨_, rfl⟩
                  have eq1 : (p : Int) - 1 = (q : Int) := by omega
                  have wq : IntKind.i64.wrap (q : Int) = (q : Int) := by rw [IntKind.wrap_i64]; omega
                  have hqR : q < R.length := by omega
                  have hqi : (q : Int) < (R.length : Int) := by omega
                  have dp : decide ((0 : Int) < (p : Int)) = true := decide_eq_true (by omega)
                  have dp2 : decide (0 < p) = true := decide_eq_true hp0
                  obtain ⟨b', off', cap', hv, -, r0, r1, -⟩ := (HS.out.ext hBr.out).mk3 hqR
                  obtain ⟨rfl, rfl⟩ : gb = b' ∧ 0 = off' := by injection hv with e1 e2 e3; injection e1 with e1; injection e1 with e1 e2; exact ⟨e1, e2⟩
                  have y0 := (hBr.out.cell (p := ⟨nb, 0, none⟩) hnb).trans BX.out.1
                  have y1 := (hBr.out.cell (p := ⟨nb, 1, none⟩) hnb).trans BX.out.2.1
                  rw [Nat.zero_add] at r0 r1
                  have hsp := lt9_split i a g R[q]
                  have HSP := Lib.hid (show ∀ c : Bool, (decide (a < R[q].a) || (decide (R[q].a = a) && decide (i < R[q].id))) = c → (∀ h : p - 1 < R.length, lt9 ⟨i, a, g⟩ (R[p - 1]'h) = c) from fun c hc h => by
                    subst hq
                    rw [← hc]; exact hsp)
                  have HQ := Lib.hid (show p - 1 < R.length by omega)
                  have HP0 := Lib.hid hp0
                  clear hsp hv hq hL HS M1 hG
                  generalize R[q].a = xa at *
                  generalize R[q].id = xi at *
                  by_cases p1 : a < xa
                  · have d1 := decide_eq_true p1
                    have Z := Lib.hid (HSP.out true (by rw [d1]; rfl))
                    clear HSP p1
                    go_quiet (fail)
                    go_wp2_with fail
                    go_meet
                    exact ⟨true, rfl, Lib.hid (fun _ => ⟨HQ.out, HP0.out, Z.out _⟩), Lib.hid (fun h => by cases h), Lib.hid (below_drewN (Below.refl _ _) _)⟩
                  · have d1 := decide_eq_false p1
                    by_cases p2 : xa = a
                    · have d2 := decide_eq_true p2
                      have d2' : (xa == a) = true := by simpa using p2
                      by_cases p3 : i < xi
                      · have d3 := decide_eq_true p3
                        have Z := Lib.hid (HSP.out true (by rw [d1, d2, d3]; rfl))
                        clear HSP p1 p2 p3
                        go_quiet (fail)
                        go_wp2_with fail
                        go_meet
                        exact ⟨true, rfl, Lib.hid (fun _ => ⟨HQ.out, HP0.out, Z.out _⟩), Lib.hid (fun h => by cases h), Lib.hid (below_drewN (Below.refl _ _) _)⟩
                      · have d3 := decide_eq_false p3
                        have Z := Lib.hid (HSP.out false (by rw [d1, d2, d3]; rfl))
                        clear HSP p1 p2 p3
                        go_quiet (fail)
                        go_wp2_with fail
                        go_meet
                        exact ⟨false, rfl, Lib.hid (fun h => by cases h), Lib.hid (fun _ h _ => Z.out h), Lib.hid (below_drewN (Below.refl _ _) _)⟩
                    · have d2 := decide_eq_false p2
                      have d2' : (xa == a) = false := by simpa using p2
                      have Z := Lib.hid (HSP.out false (by rw [d1, d2]; rfl))
                      clear HSP p1 p2
                      go_quiet (fail)
                      go_wp2_with fail
                      go_meet
                      exact ⟨false, rfl, Lib.hid (fun h => by cases h), Lib.hid (fun _ h _ => Z.out h), Lib.hid (below_drewN (Below.refl _ _) _)⟩
                · obtain rfl : p = 0 := by omega
                  have dp : decide ((0 : Int) < ((0 : Nat) : Int)) = false := decide_eq_false (by omega)
                  go_quiet (fail)
                  go_wp2_with fail
                  go_meet
                  exact ⟨false, rfl, Lib.hid (fun h => by cases h), Lib.hid (fun _ _ h => absurd h (Nat.lt_irrefl _)), Lib.hid (below_drewN (Below.refl _ _) _)⟩
              case rest =>
                obtain ⟨bb, rfl, hT, hF, hBc⟩ := hcut
                have BC := Lib.hid (hBr.out.trans (hBc.out.mono hBr.out.size))
                clear hBr hBc
                cases bb
                · have hhi := hL.out
                  have hlo := hF.out rfl
                  clear hT hF hL
                  obtain ⟨N, hN⟩ : ∃ N : List Mk, N = R.take p := ⟨_, rfl⟩
                  obtain ⟨Y, hY⟩ : ∃ Y : List Mk, Y = R.drop p := ⟨_, rfl⟩
                  obtain ⟨RES, hRES⟩ : ∃ RES, RES = N ++ [(⟨i, a, g⟩ : Mk)] ++ Y := ⟨_, rfl⟩
                  have hfin := Lib.hid hRES
                  have HST := Lib.hid (show Stab (inR f t (l.take (k + 1))) RES by
                    rw [← E.out, hRES, hN, hY]
                    exact stab_ins (p := p) hG.out hp hhi (fun h => hlo (by omega) h))
                  have hNl : N.length ≤ 100000 := by rw [hN, List.length_take]; omega
                  have hYe := Lib.hid (show Y.length = R.length - p by rw [hY, List.length_drop])
                  have hNp : N.length ≤ p := by rw [hN, List.length_take]; omega
                  go_wp2_with fail
                  have hSV := HS.out.ext BC.out
                  have HBV := Lib.hid (M1.out.b.trans (BC.out.mono hsz3))
                  have HSN := Lib.hid (show Sl mkE wc (.slice (some ⟨gb, 0, none⟩) p c5) N by rw [hN]; exact hSV.take9 (by omega) (by omega) hcm)
                  have HSY := Lib.hid (show ∀ B, (p < R.length → B = some ⟨gb, p * 3, none⟩) → Sl mkE wc (.slice B (R.length - p) (c5 - p)) Y from fun B hB => by rw [hY]; exact hSV.drop9 (by omega) B (fun h b off e => by injection e with e; injection e with e1 e2; rw [hB h, ← e1, ← e2, Nat.zero_add]) (by omega) (by omega))
                  have hltV : nb < wc.heap.size := Nat.lt_of_lt_of_le hnb BC.out.size
                  have hszV : w.heap.size ≤ wc.heap.size := Nat.le_trans hsz3 BC.out.size
                  have v0 := (BC.out.cell (p := ⟨nb, 0, none⟩) hnb).trans BX.out.1
                  have v1 := (BC.out.cell (p := ⟨nb, 1, none⟩) hnb).trans BX.out.2.1
                  have v2 := (BC.out.cell (p := ⟨nb, 2, none⟩) hnb).trans BX.out.2.2
                  clear hSV BC BX HS M1 hN hY hRES hhi hlo hG E
                  generalize wc = V at *
                  have hneV : ¬ V.heap.size = nb := by omega
                  have hkc : p ≤ c5 := by omega
                  have hki2 : (p : Int) ≤ (R.length : Int) := by omega
                  by_cases hck : c5 = p
                  · have hnk : R.length = p := by omega
                    have HSY2 := Lib.hid (HSY.out (some ⟨gb, 0, none⟩) (fun h => by omega))
                    rw [hck, hnk, Nat.sub_self] at HSY2
                    have hY0 := Lib.hid (show Y.length = 0 by have := hYe.out; omega)
                    clear HSY hYe
                    rw [hnk] at *
                    subst hck
                    clear hnk
                    go_region_law (first
                      | (refine stepM1 (V := V) rfl (.tmp 71) (.tmp 74) rfl _ ?_ ?_ ?_ rfl _ N rfl HSN.out hNl ?_
                         · first | exact heap_alloc_new _ _ | exact heap_new2 _ _ _ | exact heap_old2 (heap_alloc_new _ _)
                         · first | exact Nat.le_refl _ | omega
                         · repeat (first | exact Below.refl _ _ | refine bal9 ?_ | refine bdr9 ?_)
                         intro A8 c8 w8 HO8 HB8 HG8
                         have x0 := (HB8.out.cell (p := ⟨nb, 0, none⟩) hltV).trans v0
                         have x1 := (HB8.out.cell (p := ⟨nb, 1, none⟩) hltV).trans v1
                         have x2 := (HB8.out.cell (p := ⟨nb, 2, none⟩) hltV).trans v2
                         have hs8 := HB8.out.size
                         have hne8 : ¬ w8.heap.size = nb := by omega)
                      | (refine stepM2 (V := V) (w8 := w8) rfl (.tmp 75) (.tmp 77) rfl N A8 c8 HO8.out HB8.out ?_ rfl ⟨i, a, g⟩ _ rfl ?_ hNl ?_
                         · repeat (first | exact Below.refl _ _ | refine bal9 ?_ | refine bdr9 ?_)
                         · first | exact new_cells (E := mkE) w8 (⟨i, a, g⟩ : Mk) _ | exact cellsM1 HG8.out | exact cellsM2 HG8.out
                         intro A9 c9 w9 HO9 HB9))
                    all_goals
                      clear v0 v1 v2 HSN HO8 HB8 HG8 x0 x1 x2 hs8 hne8
                      have hs9 := HB9.out.size
                      go_wp2_with (at_builtin; refine Hid.out ?_)
                      refine Lib.hid ?_
                      refine wpListB_append _ rfl (.tmp 79) (.tmp 82) 22 22 rfl V.heap.size hs9 32 i0 _ 3 24 Try.underlying22 hi hz0 hz1 hz2 rfl (by decide) _ _ _ rfl HO9.out _ 0 _ rfl (by have := (HSY2.out.ext HB9.out).src Try.underlying22; rw [hY0.out] at this; exact this) ?_ ?_ ?_
                      · unfold maxLen; omega
                      · omega
                      intro A10 c10 w10 hown10 hg10 _ _
                      have hbel := HB9.out.grown hg10 hs9 (fun k hk => (HO9.out.lt k hk).1)
                      have M9 := Lib.hid (show MG w RES A10 c10 w10 from ⟨by have := own_le hown10 hszV; rw [← mkE.flat_append] at this; rw [hfin.out, List.length_append, List.length_append, List.length_singleton, hY0.out]; exact this, HBV.out.trans (hbel.mono hszV)⟩)
                      have hlen : N.length + 1 + 0 = RES.length := by rw [hfin.out, List.length_append, List.length_append, List.length_singleton, hY0.out]
                      have hRk : RES.length ≤ k + 1 := by omega
                      clear hown10 hg10 hbel HSY2 HO9 HB9
                      go_wp2_with fail
                      go_roundw
                      case rel => exact ⟨k + 1, RES, A10, c10, by omega, by go_num, by first | rfl | rw [hlen], hRk, HST, M9⟩
                      case measure => simp [intOf]; omega
                  · have HSY2 := Lib.hid (HSY.out (some ⟨gb, p * 3, none⟩) (fun _ => rfl))
                    clear HSY
                    go_region_law (first
                      | (refine stepM1 (V := V) rfl (.tmp 71) (.tmp 74) rfl _ ?_ ?_ ?_ rfl _ N rfl HSN.out hNl ?_
                         · first | exact heap_alloc_new _ _ | exact heap_new2 _ _ _ | exact heap_old2 (heap_alloc_new _ _)
                         · first | exact Nat.le_refl _ | omega
                         · repeat (first | exact Below.refl _ _ | refine bal9 ?_ | refine bdr9 ?_)
                         intro A8 c8 w8 HO8 HB8 HG8
                         have x0 := (HB8.out.cell (p := ⟨nb, 0, none⟩) hltV).trans v0
                         have x1 := (HB8.out.cell (p := ⟨nb, 1, none⟩) hltV).trans v1
                         have x2 := (HB8.out.cell (p := ⟨nb, 2, none⟩) hltV).trans v2
                         have hs8 := HB8.out.size
                         have hne8 : ¬ w8.heap.size = nb := by omega)
                      | (refine stepM2 (V := V) (w8 := w8) rfl (.tmp 75) (.tmp 77) rfl N A8 c8 HO8.out HB8.out ?_ rfl ⟨i, a, g⟩ _ rfl ?_ hNl ?_
                         · repeat (first | exact Below.refl _ _ | refine bal9 ?_ | refine bdr9 ?_)
                         · first | exact new_cells (E := mkE) w8 (⟨i, a, g⟩ : Mk) _ | exact cellsM1 HG8.out | exact cellsM2 HG8.out
                         intro A9 c9 w9 HO9 HB9))
                    all_goals
                      clear v0 v1 v2 HSN HO8 HB8 HG8 x0 x1 x2 hs8 hne8
                      have hs9 := HB9.out.size
                      go_wp2_with (at_builtin; refine Hid.out ?_)
                      refine Lib.hid ?_
                      refine wpListB_append _ rfl (.tmp 79) (.tmp 82) 22 22 rfl V.heap.size hs9 32 i0 _ 3 24 Try.underlying22 hi hz0 hz1 hz2 rfl (by decide) _ _ _ rfl HO9.out _ (R.length - p) _ rfl (by have := (HSY2.out.ext HB9.out).src Try.underlying22; rw [hYe.out] at this; exact this) ?_ ?_ ?_
                      · unfold maxLen; omega
                      · omega
                      intro A10 c10 w10 hown10 hg10 _ _
                      have hbel := HB9.out.grown hg10 hs9 (fun k hk => (HO9.out.lt k hk).1)
                      have M9 := Lib.hid (show MG w RES A10 c10 w10 from ⟨by have := own_le hown10 hszV; rw [← mkE.flat_append] at this; rw [hfin.out, List.length_append, List.length_append, List.length_singleton, hYe.out]; exact this, HBV.out.trans (hbel.mono hszV)⟩)
                      have hlen : N.length + 1 + (R.length - p) = RES.length := by rw [hfin.out, List.length_append, List.length_append, List.length_singleton, hYe.out]
                      have hRk : RES.length ≤ k + 1 := by omega
                      clear hown10 hg10 hbel HSY2 HO9 HB9
                      go_wp2_with fail
                      go_roundw
                      case rel => exact ⟨k + 1, RES, A10, c10, by omega, by go_num, by first | rfl | rw [hlen], hRk, HST, M9⟩
                      case measure => simp [intOf]; omega
                · obtain ⟨hq, hp0, hz⟩ := hT.out rfl
                  have hL2 := Lib.hid (show ∀ t (ht : t < R.length), p - 1 ≤ t → lt9 ⟨i, a, g⟩ R[t] = true from fun t ht h => by
                    rcases Nat.lt_or_ge t p with q | q
                    · have : t = p - 1 := by omega
                      subst this
                      exact hz
                    · exact hL.out t ht q)
                  obtain ⟨q, hqe⟩ : ∃ q, q = p - 1 := ⟨_, rfl⟩
                  rw [← hqe] at hL2
                  have eq1 : (p : Int) - 1 = (q : Int) := by omega
                  have wq : IntKind.i64.wrap (q : Int) = (q : Int) := by rw [IntKind.wrap_i64]; omega
                  have hqp : q < p := by omega
                  clear hqe hT hF hL hz
                  go_wp2_with fail
                  go_roundw
                  case rel => exact ⟨q, by omega, by go_num, hL2, BC⟩
                  case measure => simp [intOf]; omega
        · have E := Lib.hid (show inR f t (l.take k) = inR f t (l.take (k + 1)) by rw [Hsn.out, if_neg (fun h => q2 h.2), List.append_nil])
          have G2 := Lib.hid (show Stab (inR f t (l.take (k + 1))) R by rw [← E.out]; exact hG.out)
          clear hG Hsn
          go_wp2_with fail
          go_roundw
          case rel => exact ⟨k + 1, R, A5, c5, by omega, by go_num, rfl, by omega, G2, Lib.hid ⟨hM.out.o.alloc _, hM.out.b.alloc hsz _⟩⟩
          case measure => simp [intOf]; omega
      · have E := Lib.hid (show inR f t (l.take k) = inR f t (l.take (k + 1)) by rw [Hsn.out, if_neg (fun h => q1 h.1), List.append_nil])
        have G2 := Lib.hid (show Stab (inR f t (l.take (k + 1))) R by rw [← E.out]; exact hG.out)
        clear hG Hsn
        go_wp2_with fail
        go_roundw
        case rel => exact ⟨k + 1, R, A5, c5, by omega, by go_num, rfl, by omega, G2, Lib.hid ⟨hM.out.o.alloc _, hM.out.b.alloc hsz _⟩⟩
        case measure => simp [intOf]; omega
    · have G2 := Lib.hid (show Stab (inR f t l) R by have := hG.out; rwa [List.take_of_length_le (by omega)] at this)
      clear hG
      go_wp2
      go_ret
      exact ⟨_, R, rfl, G2.out, hM.out.o, hM.out.b⟩

end Go.Proofs.Ytibmnkdeepmabaa
