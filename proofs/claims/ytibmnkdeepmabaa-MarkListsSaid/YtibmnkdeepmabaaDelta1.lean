/- delta.valid, delta.sizes, delta.Lengths, delta.Check: what they return. Condition: the pieces read as values of their type. -/
import Derived.Test.YtibmnkdeepmabaaBase
namespace Go.Proofs.Ytibmnkdeepmabaa
open Go.RowKit

def Pc.valid (p : Pc) : Bool :=
  if p.k == 1 then decide (1 ≤ p.n) && p.t.isEmpty else if p.k == 3 then decide (1 ≤ p.n) && p.t.isEmpty else if p.k == 2 then p.n == 0 && !p.t.isEmpty else false

set_option maxHeartbeats 400000 in
theorem valid_any (p : Pc) (w : World) :
    Calls Try.prog 47 #[p.v] w fun e w' => e = .returned (.bool p.valid) ∧ Below w.heap.size w w' := by
  obtain ⟨k, n, t⟩ := p
  unfold Pc.v
  go_enter Try.func47, Try.ntmps47
  go_wp2
  all_goals go_ret
  all_goals refine ⟨ret_bool ?_, (Below.refl _ _).alloc (Nat.le_refl _) _⟩
  all_goals first | (simp [Pc.valid, *]; done) | (simp [Pc.valid, *]; omega)

def Pc.inn (p : Pc) : Int := if p.k == 1 then p.n else if p.k == 3 then p.n else 0
def Pc.out (p : Pc) : Int := if p.k == 1 then p.n else if p.k == 3 then 0 else p.t.length

set_option maxHeartbeats 400000 in
theorem sizes_any (p : Pc) (w : World) :
    Calls Try.prog 48 #[p.v] w fun e w' => e = .returned (.tuple #[.int .i64 p.inn, .int .i64 p.out]) ∧ Below w.heap.size w w' := by
  obtain ⟨k, n, t⟩ := p
  unfold Pc.v
  by_cases h1 : (k == 1) = true
  · go_enter Try.func48, Try.ntmps48
    go_wp2
    go_quiet (fail)
    go_wp2
    go_ret2
    refine ⟨?_, below_drewN ((Below.refl _ _).alloc (Nat.le_refl _) _) _⟩
    simp [Pc.inn, Pc.out, h1]
  by_cases h3 : (k == 3) = true
  · have h1' : (k == 1) = false := by simpa using h1
    clear h1
    go_enter Try.func48, Try.ntmps48
    go_wp2
    go_ret2
    refine ⟨?_, (Below.refl _ _).alloc (Nat.le_refl _) _⟩
    simp [Pc.inn, Pc.out, h1', h3]
  · have h1' : (k == 1) = false := by simpa using h1
    have h3' : (k == 3) = false := by simpa using h3
    clear h1 h3
    go_enter Try.func48, Try.ntmps48
    go_wp2
    go_quiet (fail)
    go_wp2
    go_ret2
    refine ⟨?_, below_drewN ((Below.refl _ _).alloc (Nat.le_refl _) _) _⟩
    simp [Pc.inn, Pc.out, h1', h3']

/-- what Lengths returns, from the sums so far -/
def lensFrom : Int → Int → List Pc → Int × Int × Int
  | a, b, [] => (a, b, 0)
  | a, b, p :: r => if p.valid = false then (0, 0, 2) else if 1048576 - a < p.inn ∨ 1048576 - b < p.out then (0, 0, 5) else lensFrom (a + p.inn) (b + p.out) r
def lens (l : List Pc) : Int × Int × Int := if 4096 < l.length then (0, 0, 5) else lensFrom 0 0 l

theorem lensFrom_step (a b : Int) (p : Pc) (r : List Pc) (h1 : p.valid = true) (h2 : ¬ 1048576 - a < p.inn) (h3 : ¬ 1048576 - b < p.out) : lensFrom a b (p :: r) = lensFrom (a + p.inn) (b + p.out) r := by
  simp [lensFrom, h1]; intro h; omega
theorem lensFrom_bad (a b : Int) (p : Pc) (r : List Pc) (h1 : p.valid = false) : lensFrom a b (p :: r) = (0, 0, 2) := by simp [lensFrom, h1]
theorem lensFrom_long (a b : Int) (p : Pc) (r : List Pc) (h1 : p.valid = true) (h2 : 1048576 - a < p.inn ∨ 1048576 - b < p.out) : lensFrom a b (p :: r) = (0, 0, 5) := by
  simp [lensFrom, h1]; intro h h'; omega
theorem Pc.sz_of_valid {p : Pc} (h : p.valid = true) : 0 ≤ p.inn ∧ 0 ≤ p.out := by
  unfold Pc.valid at h
  unfold Pc.inn Pc.out
  split at h
  · rename_i h1; simp at h; simp [h1]; omega
  · split at h
    · rename_i h1 h3; simp at h; simp [h1, h3]; omega
    · rename_i h1 h3; simp [h1, h3]

def lensV (l : List Pc) : Value := .tuple #[.int .i64 (lens l).1, .int .i64 (lens l).2.1, .int .i64 (lens l).2.2]

set_option maxHeartbeats 1000000 in
theorem lengths_any (v : Value) (l : List Pc) (w : World) (h : Sl pcE w v l) (hd : ∀ p, p ∈ l → p.wf) :
    Calls Try.prog 28 #[v] w fun e w' => e = .returned (lensV l) ∧ Below w.heap.size w w' := by
  by_cases hlen : 4096 < l.length
  · obtain ⟨A, cap, rfl, h2, h3, h4⟩ := h
    clear h4
    unfold maxLen at h3
    have hq : lensV l = .tuple #[.int .i64 0, .int .i64 0, .int .i64 5] := by simp [lensV, lens, hlen]
    have Hq := Lib.hid hq; clear hq
    have hlen' : (4096 : Int) < (l.length : Int) := by omega
    go_enter Try.func28, Try.ntmps28
    go_wp2
    go_ret3
    exact ⟨by rw [Hq.out]; rfl, Below.refl _ _⟩
  obtain ⟨A, cap, hv, h2, h3, _⟩ := id h
  have hq : lens l = lensFrom 0 0 l := by simp [lens, hlen]
  have Hq := Lib.hid hq; clear hq
  have hle : ¬ (4096 : Int) < (l.length : Int) := by omega
  have Hh := Lib.hid h; clear h
  subst hv
  unfold maxLen at h3
  go_enter Try.func28, Try.ntmps28
  go_wp2_with fail
  go_loopw [2, 3, 14] (fun a b i w1 => ∃ (k : Nat) (x y : Int), k ≤ l.length ∧ i = .int .i64 k ∧ a = .int .i64 x ∧ b = .int .i64 y ∧ Hid (lensFrom 0 0 l = lensFrom x y (l.drop k)) ∧ 0 ≤ x ∧ x ≤ 1048576 ∧ 0 ≤ y ∧ y ≤ 1048576 ∧ Below w.heap.size w w1) (fun _ _ i _ => l.length - (intOf i).toNat)
  case atStart => exact ⟨0, 0, 0, by omega, rfl, rfl, rfl, rfl, by omega, by omega, by omega, by omega, Below.refl _ _⟩
  case round =>
    obtain ⟨k, x, y, hk, rfl, rfl, rfl, hH, hx, hx2, hy, hy2, hbel⟩ := hrel
    by_cases hlt : k < l.length
    · have hdk : l.drop k = l[k] :: l.drop (k+1) := List.drop_eq_getElem_cons hlt
      obtain ⟨d1, d2, d3, d4, d5⟩ := hd l[k] (List.getElem_mem hlt)
      obtain ⟨b, off, cap', hv, hb, c0, c1, c2⟩ := (Hh.out.ext hbel).pc hlt
      obtain ⟨rfl, rfl⟩ : A = some ⟨b, off, none⟩ ∧ cap = cap' := by injection hv with e1 e2 e3; exact ⟨e1, e3⟩
      clear hv hd
      generalize l[k] = p at *
      have Hdk := Lib.hid hdk; clear hdk
      by_cases hval : p.valid = true
      · obtain ⟨z1, z2⟩ := Pc.sz_of_valid hval
        have z3 : p.inn ≤ 9223372036854775807 := by unfold Pc.inn; split; exact d4; split; exact d4; omega
        have z4 : p.out ≤ 9223372036854775807 := by unfold Pc.out; split; exact d4; split; omega; omega
        go_wp2_with (first | ((go_at_call 47; refine (valid_any p _).mono ?_; rintro e w1 ⟨rfl, hb1⟩; obtain ⟨hc1, hf1⟩ := bcell hb1)) | ((go_at_call 48; refine (sizes_any p _).mono ?_; rintro e w2 ⟨rfl, hb2⟩; obtain ⟨hc2, hf2⟩ := bcell hb2)))
        · go_ret3
          rename_i hor
          have e := lensFrom_long x y p (l.drop (k+1)) hval (by omega)
          refine ⟨?_, ?_⟩
          · rw [lensV, Hq.out, hH.out, Hdk.out, e]; rfl
          · exact hbel.trans (((Below.refl _ _).alloc hbel.size _).trans ((hb1.mono (by have := hbel.size; simp; omega)).trans (hb2.mono (by have := hb1.size; have := hbel.size; simp at *; omega))))
        · go_roundw
          case rel =>
            rename_i hor
            refine ⟨k + 1, _, _, by omega, by go_num, rfl, rfl, ?_, by omega, by omega, by omega, by omega, ?_⟩
            · refine Lib.hid ?_
              rw [hH.out, Hdk.out]
              exact lensFrom_step x y p _ hval (by omega) (by omega)
            · exact hbel.trans (((Below.refl _ _).alloc hbel.size _).trans ((hb1.mono (by have := hbel.size; simp; omega)).trans (hb2.mono (by have := hb1.size; have := hbel.size; simp at *; omega))))
          case measure => simp [intOf]; omega
        · go_ret3
          have e := lensFrom_long x y p (l.drop (k+1)) hval (.inl (by assumption))
          refine ⟨?_, ?_⟩
          · rw [lensV, Hq.out, hH.out, Hdk.out, e]; rfl
          · exact hbel.trans (((Below.refl _ _).alloc hbel.size _).trans ((hb1.mono (by have := hbel.size; simp; omega)).trans (hb2.mono (by have := hb1.size; have := hbel.size; simp at *; omega))))
      · have hval' : p.valid = false := by simpa using hval
        clear hval
        go_wp2_with ((go_at_call 47; refine (valid_any p _).mono ?_; rintro e w1 ⟨rfl, hb1⟩; obtain ⟨hc1, hf1⟩ := bcell hb1))
        go_ret3
        have e := lensFrom_bad x y p (l.drop (k+1)) hval'
        refine ⟨?_, ?_⟩
        · rw [lensV, Hq.out, hH.out, Hdk.out, e]; rfl
        · exact hbel.trans (((Below.refl _ _).alloc hbel.size _).trans (hb1.mono (by have := hbel.size; simp; omega)))
    · have hk' : l.drop k = [] := List.drop_eq_nil_of_le (by omega)
      have Hk := Lib.hid hk'; clear hk'
      go_wp2
      go_ret3
      refine ⟨?_, hbel⟩
      rw [lensV, Hq.out, hH.out, Hk.out]
      rfl

set_option maxHeartbeats 400000 in
theorem check_any (v : Value) (l : List Pc) (w : World) (h : Sl pcE w v l) (hd : ∀ p, p ∈ l → p.wf) :
    Calls Try.prog 66 #[v] w fun e w' => e = .returned (.int .i64 (lens l).2.2) ∧ Below w.heap.size w w' := by
  go_enter Try.func66, Try.ntmps66
  go_wp2_with fail
  refine (lengths_any v l w h hd).mono ?_
  rintro e w1 ⟨rfl, hb⟩
  unfold lensV
  go_wp2
  go_ret
  exact ⟨rfl, hb⟩

end Go.Proofs.Ytibmnkdeepmabaa
