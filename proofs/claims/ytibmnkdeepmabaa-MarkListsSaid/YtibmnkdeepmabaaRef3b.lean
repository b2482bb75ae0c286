/- quartoref03.Sizes, Lengths, Same and the laws' own: what they return. Condition: the pieces read as values of their type; for Sizes, that they are not too long. -/
import Derived.Test.YtibmnkdeepmabaaRef3a
import Derived.Test.YtibmnkdeepmabaaForm3
import Derived.Test.YtibmnkdeepmabaaMem
namespace Go.Proofs.Ytibmnkdeepmabaa
open Go.RowKit

theorem formPre_of_lens {l : List Pc} (h : (lens l).2.2 = 0) : FormPre l := by
  obtain ⟨h1, _, h3, _⟩ := lens_ok h
  exact ⟨by omega, fun p hp => by obtain ⟨a, b, c⟩ := h3 p hp; exact Pc.n_of_valid a b c⟩

theorem sizes_bd {l : List Pc} {d : Nat} (h : ∀ p ∈ l, 0 ≤ p.n ∧ p.n ≤ d ∧ p.t.length ≤ d) : 0 ≤ (sizesS l).1 ∧ (sizesS l).1 ≤ (l.length * d : Nat) ∧ 0 ≤ (sizesS l).2 ∧ (sizesS l).2 ≤ (l.length * d + l.length * d : Nat) := by
  have key : ∀ (m : List Pc) (x y : Int) (c : Nat), 0 ≤ x → x ≤ c → 0 ≤ y → y ≤ (c + c : Nat) → (∀ p ∈ m, 0 ≤ p.n ∧ p.n ≤ d ∧ p.t.length ≤ d) →
      0 ≤ m.foldl addN x ∧ m.foldl addN x ≤ (c + m.length * d : Nat) ∧ 0 ≤ m.foldl addO y ∧ m.foldl addO y ≤ (c + m.length * d + (c + m.length * d) : Nat) := by
    intro m
    induction m with
    | nil => intro x y c h1 h2 h3 h4 _; simp; omega
    | cons p m ih =>
      intro x y c h1 h2 h3 h4 hm
      obtain ⟨p1, p2, p3⟩ := hm p (by simp)
      have a1 : addO y p = y + p.t.length + p.n ∨ addO y p = y + p.t.length := by unfold addO; split; exact .inl rfl; exact .inr rfl
      have := ih (addN x p) (addO y p) (c + d) (by unfold addN; omega) (by unfold addN; omega) (by omega) (by omega) (fun q hq => hm q (by simp [hq]))
      rw [List.foldl_cons, List.foldl_cons, List.length_cons, show c + (m.length + 1) * d = c + d + m.length * d by rw [Nat.add_mul]; omega]
      exact this
  have := key l 0 0 0 (by omega) (by simp) (by omega) (by simp) h
  simpa [sizesS] using this

set_option maxHeartbeats 1000000 in
theorem refSizes_any (v : Value) (l : List Pc) (w : World) (h : Sl pcE w v l) (hd : FormPre l) :
    Calls Try.prog 59 #[v] w fun e w' => e = .returned (.tuple #[.int .i64 (sizesS l).1, .int .i64 (sizesS l).2]) ∧ Below w.heap.size w w' := by
  obtain ⟨A, cap, hv, h2, h3, -⟩ := id h
  have Hh := Lib.hid h; clear h
  subst hv
  unfold maxLen at h3
  obtain ⟨hd1, hd2⟩ := hd
  go_enter Try.func59, Try.ntmps59
  go_wp2_with fail
  go_loopw [4, 5, 6] (fun a b i w1 => ∃ k : Nat, k ≤ l.length ∧ i = .int .i64 k ∧ a = .int .i64 (sizesS (l.take k)).1 ∧ b = .int .i64 (sizesS (l.take k)).2 ∧ Below w.heap.size w w1) (fun _ _ i _ => l.length - (intOf i).toNat)
  case atStart => exact ⟨0, by omega, rfl, rfl, rfl, Below.refl _ _⟩
  case round =>
    obtain ⟨k, hk, rfl, rfl, rfl, hbel⟩ := hrel
    by_cases hlt : k < l.length
    · obtain ⟨b, off, cap', hv, hb, c0, c1, c2⟩ := (Hh.out.ext hbel).pc hlt
      obtain ⟨rfl, rfl⟩ : A = some ⟨b, off, none⟩ ∧ cap = cap' := by injection hv with e1 e2 e3; exact ⟨e1, e3⟩
      obtain ⟨q1, q2, q3⟩ := hd2 l[k] (List.getElem_mem hlt)
      obtain ⟨s1, s2, s3, s4⟩ := sizes_bd (d := 1048576) (l := l.take k) (fun p hp => hd2 p (List.mem_of_mem_take hp))
      rw [List.length_take, Nat.min_eq_left hk] at s2 s4
      have hsn := sizesS_snoc (l.take k) l[k]
      rw [← List.take_succ_eq_append_getElem hlt] at hsn
      have Hsn := Lib.hid hsn
      clear hv hd2 hsn
      generalize l[k] = p at *
      generalize hx : (sizesS (l.take k)).1 = x at *
      generalize hy : (sizesS (l.take k)).2 = y at *
      clear hx hy
      have hbw : k * 1048576 ≤ 104857600000 := by omega
      by_cases hk1 : (p.k == 1) = true
      · have e1 : addO y p = y + p.t.length + p.n := by unfold addO; rw [if_pos (by simpa using hk1)]
        have E1 := Lib.hid e1; clear e1
        go_wp2
        go_roundw
        case rel =>
          refine ⟨k + 1, by omega, by go_num, ?_, ?_, hbel⟩
          · rw [Hsn.out]; rfl
          · rw [Hsn.out, E1.out]
        case measure => simp [intOf]; omega
      · have hk1' : (p.k == 1) = false := by simpa using hk1
        have e1 : addO y p = y + p.t.length := by unfold addO; rw [if_neg (by simpa using hk1)]
        have E1 := Lib.hid e1; clear e1 hk1
        go_wp2
        go_roundw
        case rel =>
          refine ⟨k + 1, by omega, by go_num, ?_, ?_, hbel⟩
          · rw [Hsn.out]; rfl
          · rw [Hsn.out, E1.out]
        case measure => simp [intOf]; omega
    · have hkl : l.take k = l := List.take_of_length_le (by omega)
      have Hkl := Lib.hid hkl; clear hkl
      go_wp2
      go_ret2
      refine ⟨?_, hbel⟩
      rw [Hkl.out]
      rfl

theorem stoodPiece : Try.prog.stoodInHeld 53 = false := by kernel_rfl
theorem fieldsPiece : Try.prog.underlying 53 = some (.struct (Try.prog.fieldsOf 53)) := by kernel_rfl

def Pc.eqb (p q : Pc) : Bool := p.k == q.k && p.n == q.n && p.t == q.t
theorem Pc.eqb_iff (p q : Pc) : p.eqb q = true ↔ p = q := by
  obtain ⟨a, b, c⟩ := p; obtain ⟨a', b', c'⟩ := q
  simp [Pc.eqb, and_assoc]
def sameB : List Pc → List Pc → Bool
  | [], [] => true
  | p :: l, q :: m => p.eqb q && sameB l m
  | _, _ => false
theorem sameB_iff : ∀ l m : List Pc, sameB l m = true ↔ l = m
  | [], [] => by simp [sameB]
  | [], _ :: _ => by simp [sameB]
  | _ :: _, [] => by simp [sameB]
  | p :: l, q :: m => by simp [sameB, Pc.eqb_iff, sameB_iff l m]
theorem sameB_drop (l m : List Pc) (k : Nat) (h1 : k < l.length) (h2 : k < m.length) : sameB (l.drop k) (m.drop k) = (l[k].eqb m[k] && sameB (l.drop (k + 1)) (m.drop (k + 1))) := by
  rw [List.drop_eq_getElem_cons h1, List.drop_eq_getElem_cons h2]; rfl
theorem sameB_len {l m : List Pc} (h : l.length ≠ m.length) : sameB l m = false := by
  have : ¬ sameB l m = true := fun e => h (congrArg List.length ((sameB_iff l m).1 e))
  simpa using this

set_option maxHeartbeats 1000000 in
theorem same_any (v u : Value) (l m : List Pc) (w : World) (h : Sl pcE w v l) (k : Sl pcE w u m) :
    Calls Try.prog 25 #[v, u] w fun e w' => e = .returned (.bool (sameB l m)) ∧ Below w.heap.size w w' := by
  obtain ⟨A, cap, hv, h2, h3, -⟩ := id h
  obtain ⟨A', cap', hv', h2', h3', -⟩ := id k
  have Hh := Lib.hid h; clear h
  have Hk := Lib.hid k; clear k
  subst hv
  subst hv'
  unfold maxLen at h3 h3'
  by_cases hlen : l.length = m.length
  · have hl1 : ((l.length : Int) != (m.length : Int)) = false := by simp [hlen]
    have Hlen := Lib.hid hlen
    have hl2 : l.length ≤ m.length := by omega
    have hl3 : m.length ≤ l.length := by omega
    clear hlen
    go_enter Try.func25, Try.ntmps25
    go_wp2_with fail
    go_loopw [5] (fun i w1 => ∃ k : Nat, k ≤ l.length ∧ i = .int .i64 k ∧ Hid (sameB l m = sameB (l.drop k) (m.drop k)) ∧ Below w.heap.size w w1) (fun i _ => l.length - (intOf i).toNat)
    case atStart => exact ⟨0, by omega, rfl, rfl, Below.refl _ _⟩
    case round =>
      obtain ⟨k, hk, rfl, hS, hbel⟩ := hrel
      by_cases hlt : k < l.length
      · have hlt2 : k < m.length := by omega
        have hdr := sameB_drop l m k hlt hlt2
        obtain ⟨b, off, cap1, hv, hb, c0, c1, c2⟩ := (Hh.out.ext hbel).pc hlt
        obtain ⟨rfl, rfl⟩ : A = some ⟨b, off, none⟩ ∧ cap = cap1 := by injection hv with e1 e2 e3; exact ⟨e1, e3⟩
        obtain ⟨b', off', cap2, hv', hb', d0, d1, d2⟩ := (Hk.out.ext hbel).pc hlt2
        obtain ⟨rfl, rfl⟩ : A' = some ⟨b', off', none⟩ ∧ cap' = cap2 := by injection hv' with e1 e2 e3; exact ⟨e1, e3⟩
        clear hv hv'
        generalize l[k] = p at *
        generalize m[k] = q at *
        have Hdr := Lib.hid hdr; clear hdr
        have hi1 : (0 : Int) ≤ (k : Int) := by omega
        have hi2 : (k : Int) < (l.length : Int) := by omega
        have hi3 : (k : Int) < (m.length : Int) := by omega
        by_cases h1 : p.k = q.k
        · by_cases h2 : p.n = q.n
          · by_cases h3 : p.t = q.t
            · have hpq : p.eqb q = true := by simp [Pc.eqb, h1, h2, h3]
              have Hpq := Lib.hid hpq; clear hpq
              go_wp2
              go_quiet (fail)
              go_wp2
              go_roundw
              case rel => exact ⟨k + 1, by omega, by go_num, Lib.hid (by rw [hS.out, Hdr.out, Hpq.out]; rfl), below_drewN hbel _⟩
              case measure => simp [intOf]; omega
            · have hpq : p.eqb q = false := by simp [Pc.eqb, h3]
              have Hpq := Lib.hid hpq; clear hpq
              go_wp2
              go_quiet (fail)
              go_wp2
              go_ret
              exact ⟨by rw [hS.out, Hdr.out, Hpq.out]; rfl, below_drewN hbel _⟩
          · have hpq : p.eqb q = false := by simp [Pc.eqb, h2]
            have Hpq := Lib.hid hpq; clear hpq
            go_wp2
            go_quiet (fail)
            go_wp2
            go_ret
            exact ⟨by rw [hS.out, Hdr.out, Hpq.out]; rfl, below_drewN hbel _⟩
        · have hpq : p.eqb q = false := by simp [Pc.eqb, h1]
          have Hpq := Lib.hid hpq; clear hpq
          go_wp2
          go_quiet (fail)
          go_wp2
          go_ret
          exact ⟨by rw [hS.out, Hdr.out, Hpq.out]; rfl, below_drewN hbel _⟩
      · have d1 : l.drop k = [] := List.drop_eq_nil_of_le (by omega)
        have d2 : m.drop k = [] := List.drop_eq_nil_of_le (by omega)
        have hS2 : sameB l m = true := by rw [hS.out, d1, d2]; rfl
        have HS2 := Lib.hid hS2
        clear d1 d2 hS2
        go_wp2
        go_ret
        exact ⟨by rw [HS2.out]; rfl, hbel⟩
  · have hs : sameB l m = false := sameB_len hlen
    have Hs := Lib.hid hs; clear hs
    have hl1 : ((l.length : Int) != (m.length : Int)) = true := by simp; omega
    clear hlen
    go_enter Try.func25, Try.ntmps25
    go_wp2
    go_ret
    exact ⟨by rw [Hs.out]; rfl, Below.refl _ _⟩

end Go.Proofs.Ytibmnkdeepmabaa
