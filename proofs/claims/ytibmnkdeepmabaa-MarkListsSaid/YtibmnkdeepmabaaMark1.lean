/- Marks: values and rows of three cells; mark.Check, quartoref09.Check, quartoref09.Same: what they return. Condition: the marks read as values of their type. -/
import Derived.Test.YtibmnkdeepmabaaRef3c
namespace Go.Proofs.Ytibmnkdeepmabaa
open Go.RowKit

/-- a mark -/
structure Mk where
  id : Int
  a : Int
  g : Int
  deriving DecidableEq

def Mk.cells (m : Mk) : List Value := [.int .u32 m.id, .int .i64 m.a, .int .u8 m.g]
def Mk.v (m : Mk) : Value := .agg #[.int .u32 m.id, .int .i64 m.a, .int .u8 m.g]
theorem Mk.cells_one (x : Mk) (u : Value) (hu : u ∈ x.cells) : u.oneCell' = true := by
  simp [Mk.cells] at hu
  rcases hu with rfl | rfl | rfl <;> rfl
def mkE : Enc Mk := ⟨3, by decide, Mk.cells, fun _ => rfl, Mk.cells_one⟩
/-- a value of the type -/
def Mk.wf (m : Mk) : Prop := 0 ≤ m.id ∧ m.id ≤ 4294967295 ∧ -9223372036854775808 ≤ m.a ∧ m.a ≤ 9223372036854775807 ∧ 0 ≤ m.g ∧ m.g ≤ 255

theorem Sl.mk3 {w : World} {v : Value} {l : List Mk} (h : Sl mkE w v l) {k : Nat} (hk : k < l.length) :
    ∃ b off cap, v = .slice (some ⟨b, off, none⟩) l.length cap ∧ b < w.heap.size ∧ w.cell? ⟨b, off + k * 3, none⟩ = some (.int .u32 l[k].id) ∧ w.cell? ⟨b, off + k * 3 + 1, none⟩ = some (.int .i64 l[k].a) ∧ w.cell? ⟨b, off + k * 3 + 2, none⟩ = some (.int .u8 l[k].g) := by
  obtain ⟨A, cap, rfl, h2, h3, h4⟩ := h
  obtain ⟨b, off, rfl, hb, hc⟩ := h4 (by omega)
  have hx : l[k]? = some l[k] := List.getElem?_eq_getElem hk
  exact ⟨b, off, cap, rfl, hb, hc k 0 _ _ hx rfl, hc k 1 _ _ hx rfl, hc k 2 _ _ hx rfl⟩

/-- what Check returns, from the last ID so far -/
def chkG (n : Int) : Int → List Mk → Int
  | _, [] => 0
  | x, m :: r => if m.id ≤ x ∨ 1 < m.g then 2 else if m.a < 0 ∨ n < m.a then 3 else chkG n m.id r
def chkM (n : Int) (l : List Mk) : Int := if n < 0 then 2 else if 64 < l.length then 20 else chkG n 0 l
theorem chkG_form {n x : Int} {m : Mk} {r : List Mk} (h : m.id ≤ x ∨ 1 < m.g) : chkG n x (m :: r) = 2 := by rw [chkG, if_pos h]
theorem chkG_range {n x : Int} {m : Mk} {r : List Mk} (h : ¬ m.id ≤ x) (h1 : ¬ 1 < m.g) (h2 : m.a < 0 ∨ n < m.a) : chkG n x (m :: r) = 3 := by
  rw [chkG, if_neg (by rintro (q | q) <;> contradiction), if_pos h2]
theorem chkG_step {n x : Int} {m : Mk} {r : List Mk} (h : ¬ m.id ≤ x) (h1 : ¬ 1 < m.g) (h2 : ¬ m.a < 0) (h3 : ¬ n < m.a) : chkG n x (m :: r) = chkG n m.id r := by
  rw [chkG, if_neg (by rintro (q | q) <;> contradiction), if_neg (by rintro (q | q) <;> contradiction)]

theorem stoodMark : Try.prog.stoodInHeld 32 = false := by kernel_rfl
theorem fieldsMark : Try.prog.underlying 32 = some (.struct (Try.prog.fieldsOf 32)) := by kernel_rfl


set_option maxHeartbeats 2000000 in
theorem mcheck_any (n : Int) (v : Value) (l : List Mk) (w : World) (h : Sl mkE w v l) (hd : ∀ m, m ∈ l → m.wf) :
    Calls Try.prog 12 #[.int .i64 n, v] w fun e w' => e = .returned (.int .i64 (chkM n l)) ∧ Below w.heap.size w w' := by
  obtain ⟨A, cap, hv, h2, h3, -⟩ := id h
  unfold maxLen at h3
  have H := Lib.hid h; have HD := Lib.hid hd
  clear h hd
  subst hv
  by_cases hn : n < 0
  · have hq : chkM n l = 2 := by simp [chkM, hn]
    rw [hq]
    clear hq
    go_enter Try.func12, Try.ntmps12
    go_wp2
    go_ret
    exact ⟨rfl, Below.refl _ _⟩
  by_cases hlen : 64 < l.length
  · have hq : chkM n l = 20 := by simp [chkM, hn, hlen]
    rw [hq]
    have hle : (64 : Int) < (l.length : Int) := by omega
    clear hq
    go_enter Try.func12, Try.ntmps12
    go_wp2
    go_ret
    exact ⟨rfl, Below.refl _ _⟩
  have hq : chkM n l = chkG n 0 l := by simp [chkM, hn, hlen]
  rw [hq]
  have hle : ¬ (64 : Int) < (l.length : Int) := by omega
  clear hq hlen
  go_enter Try.func12, Try.ntmps12
  go_wp2_with fail
  go_loopw [5, 15] (fun la i wr => ∃ (k : Nat) (x : Int), k ≤ l.length ∧ i = .int .i64 k ∧ la = .int .u32 x ∧ Hid (chkG n 0 l = chkG n x (l.drop k)) ∧ Hid (Below w.heap.size w wr)) (fun _ i _ => l.length - (intOf i).toNat)
  case atStart => exact ⟨0, 0, by omega, rfl, rfl, Lib.hid rfl, Lib.hid (Below.refl _ _)⟩
  case round =>
    obtain ⟨k, x, hk, rfl, rfl, hG, hB⟩ := hrel
    have hsz := hB.out.size
    by_cases hlt : k < l.length
    · have hdk := List.drop_eq_getElem_cons hlt
      obtain ⟨d1, d2, d3, d4, d5, d6⟩ := HD.out l[k] (List.getElem_mem hlt)
      obtain ⟨b, off, cap', hv, hb, c0, c1, c2⟩ := (H.out.ext hB.out).mk3 hlt
      obtain ⟨rfl, rfl⟩ : A = some ⟨b, off, none⟩ ∧ cap = cap' := by injection hv with e1 e2 e3; exact ⟨e1, e3⟩
      clear hv
      generalize l[k] = m at *
      obtain ⟨id, a, g⟩ := m
      simp only at c0 c1 c2 d1 d2 d3 d4 d5 d6
      have Hdk := Lib.hid hdk; clear hdk
      by_cases q1 : id ≤ x
      · have E := Lib.hid (show chkG n 0 l = 2 by rw [hG.out, Hdk.out]; exact chkG_form (.inl q1))
        clear hG Hdk
        go_wp2
        go_ret
        exact ⟨by rw [E.out]; rfl, hB.out.alloc hsz _⟩
      by_cases q2 : 1 < g
      · have g0 : (g != 0) = true := by simp; omega
        have g1 : (g != 1) = true := by simp; omega
        have E := Lib.hid (show chkG n 0 l = 2 by rw [hG.out, Hdk.out]; exact chkG_form (.inr q2))
        clear hG Hdk
        go_wp2
        go_ret
        exact ⟨by rw [E.out]; rfl, hB.out.alloc hsz _⟩
      have q5 : g = 0 ∨ g = 1 := by omega
      clear q2
      rcases q5 with rfl | rfl
      all_goals by_cases q3 : a < 0
      iterate 2
        · have E := Lib.hid (show chkG n 0 l = 3 by rw [hG.out, Hdk.out]; exact chkG_range q1 (by simp) (.inl q3))
          clear hG Hdk
          go_wp2
          go_ret
          exact ⟨by rw [E.out]; rfl, hB.out.alloc hsz _⟩
        by_cases q4 : n < a
        · have E := Lib.hid (show chkG n 0 l = 3 by rw [hG.out, Hdk.out]; exact chkG_range q1 (by simp) (.inr q4))
          clear hG Hdk
          go_wp2
          go_ret
          exact ⟨by rw [E.out]; rfl, hB.out.alloc hsz _⟩
        · have E := Lib.hid (show chkG n 0 l = chkG n id (l.drop (k + 1)) by rw [hG.out, Hdk.out]; exact chkG_step (by assumption) (by simp) q3 q4)
          clear hG Hdk
          go_wp2
          go_roundw
          case rel => exact ⟨k + 1, id, by omega, by go_num, rfl, E, Lib.hid (hB.out.alloc hsz _)⟩
          case measure => simp [intOf]; omega
    · have E := Lib.hid (show chkG n 0 l = 0 by rw [hG.out, List.drop_eq_nil_of_le (by omega)]; rfl)
      clear hG
      go_wp2
      go_ret
      exact ⟨by rw [E.out]; rfl, hB.out⟩


set_option maxHeartbeats 2000000 in
theorem refCheck9_any (n : Int) (v : Value) (l : List Mk) (w : World) (h : Sl mkE w v l) (hd : ∀ m, m ∈ l → m.wf) :
    Calls Try.prog 13 #[.int .i64 n, v] w fun e w' => e = .returned (.int .i64 (chkM n l)) ∧ Below w.heap.size w w' := by
  obtain ⟨A, cap, hv, h2, h3, -⟩ := id h
  unfold maxLen at h3
  have H := Lib.hid h; have HD := Lib.hid hd
  clear h hd
  subst hv
  by_cases hn : n < 0
  · have hq : chkM n l = 2 := by simp [chkM, hn]
    rw [hq]
    clear hq
    go_enter Try.func13, Try.ntmps13
    go_wp2
    go_ret
    exact ⟨rfl, Below.refl _ _⟩
  by_cases hlen : 64 < l.length
  · have hq : chkM n l = 20 := by simp [chkM, hn, hlen]
    rw [hq]
    have hle : (64 : Int) < (l.length : Int) := by omega
    clear hq
    go_enter Try.func13, Try.ntmps13
    go_wp2
    go_ret
    exact ⟨rfl, Below.refl _ _⟩
  have hq : chkM n l = chkG n 0 l := by simp [chkM, hn, hlen]
  rw [hq]
  have hle : ¬ (64 : Int) < (l.length : Int) := by omega
  clear hq hlen
  go_enter Try.func13, Try.ntmps13
  go_wp2_with fail
  go_loopw [5] (fun i wr => ∃ (k : Nat) (x : Int), k ≤ l.length ∧ i = .int .i64 k ∧ 0 ≤ x ∧ Hid (x = 0 ∨ 0 < k) ∧ Hid (∀ j (hj : j < l.length), k = j + 1 → x = l[j].id) ∧ Hid (chkG n 0 l = chkG n x (l.drop k)) ∧ Hid (Below w.heap.size w wr)) (fun i _ => l.length - (intOf i).toNat)
  case atStart => exact ⟨0, 0, by omega, rfl, by omega, Lib.hid (.inl rfl), Lib.hid (fun _ _ h => by omega), Lib.hid rfl, Lib.hid (Below.refl _ _)⟩
  case round =>
    obtain ⟨k, x, hk, rfl, hx0, hxk, hxj, hG, hB⟩ := hrel
    have hsz := hB.out.size
    by_cases hlt : k < l.length
    · have hdk := List.drop_eq_getElem_cons hlt
      obtain ⟨d1, d2, d3, d4, d5, d6⟩ := HD.out l[k] (List.getElem_mem hlt)
      obtain ⟨b, off, cap', hv, hb, c0, c1, c2⟩ := (H.out.ext hB.out).mk3 hlt
      obtain ⟨rfl, rfl⟩ : A = some ⟨b, off, none⟩ ∧ cap = cap' := by injection hv with e1 e2 e3; exact ⟨e1, e3⟩
      clear hv
      have hxj2 := Lib.hid (show ∀ j (hj : j < l.length), k + 1 = j + 1 → l[k].id = l[j].id from fun j hj e => by
        obtain rfl : k = j := by omega
        rfl)
      generalize l[k] = m at *
      obtain ⟨id, a, g⟩ := m
      simp only at c0 c1 c2 d1 d2 d3 d4 d5 d6
      have Hdk := Lib.hid hdk; clear hdk
      by_cases q0 : id = 0
      · subst q0
        have E := Lib.hid (show chkG n 0 l = 2 by rw [hG.out, Hdk.out]; exact chkG_form (.inl hx0))
        clear hG Hdk
        go_wp2
        go_quiet (fail)
        go_wp2
        go_ret
        exact ⟨by rw [E.out]; rfl, below_drewN (hB.out.alloc hsz _) _⟩
      have q0' : (id == 0) = false := by simpa using q0
      clear q0
      by_cases hk0 : k = 0
      · subst hk0
        simp only [Nat.zero_mul, Nat.add_zero] at c0 c1 c2
        have q1 : ¬ id ≤ x := by
          rcases hxk.out with rfl | h
          · have : id ≠ 0 := by simpa using q0'
            omega
          · omega
        clear hxk hxj
        by_cases q2 : 1 < g
        · have E := Lib.hid (show chkG n 0 l = 2 by rw [hG.out, Hdk.out]; exact chkG_form (.inr q2))
          clear hG Hdk
          go_wp2
          go_quiet (fail)
          go_wp2
          go_ret
          exact ⟨by rw [E.out]; rfl, below_drewN (hB.out.alloc hsz _) _⟩
        by_cases q3 : a < 0
        · have E := Lib.hid (show chkG n 0 l = 3 by rw [hG.out, Hdk.out]; exact chkG_range q1 q2 (.inl q3))
          clear hG Hdk
          go_wp2
          go_quiet (fail)
          go_wp2
          go_ret
          exact ⟨by rw [E.out]; rfl, below_drewN (hB.out.alloc hsz _) _⟩
        by_cases q4 : n < a
        · have E := Lib.hid (show chkG n 0 l = 3 by rw [hG.out, Hdk.out]; exact chkG_range q1 q2 (.inr q4))
          clear hG Hdk
          go_wp2
          go_quiet (fail)
          go_wp2
          go_ret
          exact ⟨by rw [E.out]; rfl, below_drewN (hB.out.alloc hsz _) _⟩
        · have E := Lib.hid (show chkG n 0 l = chkG n id (l.drop (0 + 1)) by rw [hG.out, Hdk.out]; exact chkG_step q1 q2 q3 q4)
          clear hG Hdk
          go_wp2
          go_quiet (fail)
          go_wp2
          go_roundw
          case rel => exact ⟨0 + 1, id, by omega, by go_num, d1, Lib.hid (.inr (by omega)), hxj2, E, Lib.hid (below_drewN (hB.out.alloc hsz _) _)⟩
          case measure => simp [intOf]; omega
      · obtain ⟨j, hkj⟩ : ∃ j, k = j + 1 := ⟨k - 1, by omega⟩
        have hj : j < l.length := by omega
        obtain ⟨b', off', cap', hv, hb', p0, -, -⟩ := (H.out.ext hB.out).mk3 hj
        obtain ⟨rfl, rfl, rfl⟩ : b = b' ∧ off = off' ∧ cap = cap' := by injection hv with e1 e2 e3; injection e1 with e1; injection e1 with e1 e2; exact ⟨e1, e2, e3⟩
        clear hv
        have hx := hxj.out j hj hkj
        rw [← hx] at p0
        have hkp : decide ((0 : Int) < (k : Int)) = true := decide_eq_true (by omega)
        have hkp2 : decide (0 < k) = true := decide_eq_true (by omega)
        have hkm : (k : Int) - 1 = (j : Int) := by omega
        have hjl : (j : Int) < (l.length : Int) := by omega
        clear hkj hk0
        clear hx hxk hxj
        by_cases q1 : id ≤ x
        · have dq1 : decide (id ≤ x) = true := decide_eq_true q1
          have E := Lib.hid (show chkG n 0 l = 2 by rw [hG.out, Hdk.out]; exact chkG_form (.inl q1))
          clear hG Hdk
          go_wp2
          go_quiet (fail)
          go_wp2
          go_ret
          exact ⟨by rw [E.out]; rfl, below_drewN (hB.out.alloc hsz _) _⟩
        have dq1 : decide (id ≤ x) = false := decide_eq_false q1
        by_cases q2 : 1 < g
        · have E := Lib.hid (show chkG n 0 l = 2 by rw [hG.out, Hdk.out]; exact chkG_form (.inr q2))
          clear hG Hdk
          go_wp2
          go_quiet (fail)
          go_wp2
          go_ret
          exact ⟨by rw [E.out]; rfl, below_drewN (hB.out.alloc hsz _) _⟩
        by_cases q3 : a < 0
        · have E := Lib.hid (show chkG n 0 l = 3 by rw [hG.out, Hdk.out]; exact chkG_range q1 q2 (.inl q3))
          clear hG Hdk
          go_wp2
          go_quiet (fail)
          go_wp2
          go_ret
          exact ⟨by rw [E.out]; rfl, below_drewN (hB.out.alloc hsz _) _⟩
        by_cases q4 : n < a
        · have E := Lib.hid (show chkG n 0 l = 3 by rw [hG.out, Hdk.out]; exact chkG_range q1 q2 (.inr q4))
          clear hG Hdk
          go_wp2
          go_quiet (fail)
          go_wp2
          go_ret
          exact ⟨by rw [E.out]; rfl, below_drewN (hB.out.alloc hsz _) _⟩
        · have E := Lib.hid (show chkG n 0 l = chkG n id (l.drop (k + 1)) by rw [hG.out, Hdk.out]; exact chkG_step q1 q2 q3 q4)
          clear hG Hdk
          go_wp2
          go_quiet (fail)
          go_wp2
          go_roundw
          case rel => exact ⟨k + 1, id, by omega, by go_num, d1, Lib.hid (.inr (by omega)), hxj2, E, Lib.hid (below_drewN (hB.out.alloc hsz _) _)⟩
          case measure => simp [intOf]; omega
    · have E := Lib.hid (show chkG n 0 l = 0 by rw [hG.out, List.drop_eq_nil_of_le (by omega)]; rfl)
      clear hG
      go_wp2
      go_ret
      exact ⟨by rw [E.out]; rfl, hB.out⟩


def Mk.eqb (p q : Mk) : Bool := p.id == q.id && p.a == q.a && p.g == q.g
theorem Mk.eqb_iff (p q : Mk) : p.eqb q = true ↔ p = q := by
  obtain ⟨a, b, c⟩ := p; obtain ⟨a', b', c'⟩ := q
  simp [Mk.eqb, and_assoc]
def sameM : List Mk → List Mk → Bool
  | [], [] => true
  | p :: l, q :: m => p.eqb q && sameM l m
  | _, _ => false
theorem sameM_iff : ∀ l m : List Mk, sameM l m = true ↔ l = m
  | [], [] => by simp [sameM]
  | [], _ :: _ => by simp [sameM]
  | _ :: _, [] => by simp [sameM]
  | p :: l, q :: m => by simp [sameM, Mk.eqb_iff, sameM_iff l m]
theorem sameM_drop (l m : List Mk) (k : Nat) (h1 : k < l.length) (h2 : k < m.length) : sameM (l.drop k) (m.drop k) = (l[k].eqb m[k] && sameM (l.drop (k + 1)) (m.drop (k + 1))) := by
  rw [List.drop_eq_getElem_cons h1, List.drop_eq_getElem_cons h2]; rfl
theorem sameM_len {l m : List Mk} (h : l.length ≠ m.length) : sameM l m = false := by
  have : ¬ sameM l m = true := fun e => h (congrArg List.length ((sameM_iff l m).1 e))
  simpa using this

set_option maxHeartbeats 1000000 in
theorem same9_any (v u : Value) (l m : List Mk) (w : World) (h : Sl mkE w v l) (k : Sl mkE w u m) :
    Calls Try.prog 14 #[v, u] w fun e w' => e = .returned (.bool (sameM l m)) ∧ Below w.heap.size w w' := by
  obtain ⟨A, cap, hv, h2, h3, -⟩ := id h
  obtain ⟨A', cap', hv', h2', h3', -⟩ := id k
  have Hh := Lib.hid h; clear h
  have Hk := Lib.hid k; clear k
  subst hv
  subst hv'
  unfold maxLen at h3 h3'
  by_cases hlen : l.length = m.length
  · have hl1 : ((l.length : Int) != (m.length : Int)) = false := by simp [hlen]
    have Hlen := Lib.hid hlen
    have hl2 : l.length ≤ m.length := by omega
    have hl3 : m.length ≤ l.length := by omega
    clear hlen
    go_enter Try.func14, Try.ntmps14
    go_wp2_with fail
    go_loopw [5] (fun i w1 => ∃ k : Nat, k ≤ l.length ∧ i = .int .i64 k ∧ Hid (sameM l m = sameM (l.drop k) (m.drop k)) ∧ Below w.heap.size w w1) (fun i _ => l.length - (intOf i).toNat)
    case atStart => exact ⟨0, by omega, rfl, rfl, Below.refl _ _⟩
    case round =>
      obtain ⟨k, hk, rfl, hS, hbel⟩ := hrel
      by_cases hlt : k < l.length
      · have hlt2 : k < m.length := by omega
        have hdr := sameM_drop l m k hlt hlt2
        obtain ⟨b, off, cap1, hv, hb, c0, c1, c2⟩ := (Hh.out.ext hbel).mk3 hlt
        obtain ⟨rfl, rfl⟩ : A = some ⟨b, off, none⟩ ∧ cap = cap1 := by injection hv with e1 e2 e3; exact ⟨e1, e3⟩
        obtain ⟨b', off', cap2, hv', hb', d0, d1, d2⟩ := (Hk.out.ext hbel).mk3 hlt2
        obtain ⟨rfl, rfl⟩ : A' = some ⟨b', off', none⟩ ∧ cap' = cap2 := by injection hv' with e1 e2 e3; exact ⟨e1, e3⟩
        clear hv hv'
        generalize l[k] = p at *
        generalize m[k] = q at *
        have Hdr := Lib.hid hdr; clear hdr
        have hi1 : (0 : Int) ≤ (k : Int) := by omega
        have hi2 : (k : Int) < (l.length : Int) := by omega
        have hi3 : (k : Int) < (m.length : Int) := by omega
        by_cases h1 : p.id = q.id
        · by_cases h2 : p.a = q.a
          · by_cases h3 : p.g = q.g
            · have hpq : p.eqb q = true := by simp [Mk.eqb, h1, h2, h3]
              have Hpq := Lib.hid hpq; clear hpq
              go_wp2
              go_quiet (fail)
              go_wp2
              go_roundw
              case rel => exact ⟨k + 1, by omega, by go_num, Lib.hid (by rw [hS.out, Hdr.out, Hpq.out]; rfl), below_drewN hbel _⟩
              case measure => simp [intOf]; omega
            · have hpq : p.eqb q = false := by simp [Mk.eqb, h3]
              have Hpq := Lib.hid hpq; clear hpq
              go_wp2
              go_quiet (fail)
              go_wp2
              go_ret
              exact ⟨by rw [hS.out, Hdr.out, Hpq.out]; rfl, below_drewN hbel _⟩
          · have hpq : p.eqb q = false := by simp [Mk.eqb, h2]
            have Hpq := Lib.hid hpq; clear hpq
            go_wp2
            go_quiet (fail)
            go_wp2
            go_ret
            exact ⟨by rw [hS.out, Hdr.out, Hpq.out]; rfl, below_drewN hbel _⟩
        · have hpq : p.eqb q = false := by simp [Mk.eqb, h1]
          have Hpq := Lib.hid hpq; clear hpq
          go_wp2
          go_quiet (fail)
          go_wp2
          go_ret
          exact ⟨by rw [hS.out, Hdr.out, Hpq.out]; rfl, below_drewN hbel _⟩
      · have d1 : l.drop k = [] := List.drop_eq_nil_of_le (by omega)
        have d2 : m.drop k = [] := List.drop_eq_nil_of_le (by omega)
        have hS2 : sameM l m = true := by rw [hS.out, d1, d2]; rfl
        have HS2 := Lib.hid hS2
        clear d1 d2 hS2
        go_wp2
        go_ret
        exact ⟨by rw [HS2.out]; rfl, hbel⟩
  · have hs : sameM l m = false := sameM_len hlen
    have Hs := Lib.hid hs; clear hs
    have hl1 : ((l.length : Int) != (m.length : Int)) = true := by simp; omega
    clear hlen
    go_enter Try.func14, Try.ntmps14
    go_wp2
    go_ret
    exact ⟨by rw [Hs.out]; rfl, Below.refl _ _⟩


theorem sameM_refl (l : List Mk) : sameM l l = true := (sameM_iff l l).2 rfl

theorem infoMark : (Try.prog.info? 32).map (fun i => (i.zero, i.size, i.bytes)) = some (some (.agg #[.int .u32 0, .int .i64 0, .int .u8 0]), 3, 24) := by kernel_rfl

set_option maxHeartbeats 1000000 in
set_option maxRecDepth 100000 in
theorem own9_any (v : Value) (l : List Mk) (w : World) (h : Sl mkE w v l) (hl : l.length * 24 ≤ 140737488355328) :
    Calls Try.prog 11 #[v] w fun e w' => ∃ v', e = .returned v' ∧ w'.ownsRow w.heap.size 32 3 v' l.length (mkE.flat l) ∧ Below w.heap.size w w' := by
  obtain ⟨i0, hi, hz0, hz1, hz2⟩ := info_parts infoMark
  have Hl := Lib.hid hl; clear hl
  obtain ⟨A, cap, rfl, -, -, -⟩ := id h
  go_enter Try.func11, Try.ntmps11
  go_wp2_with (
    at_builtin
    refine wpList_append _ rfl (.tmp 3) (.tmp 4) 22 22 rfl 32 i0 _ 3 24 Try.underlying22 hi hz0 hz1 hz2 rfl (by decide) _ _ _ rfl (World.ownsRow_made w #[] 0 (Nat.zero_le _) (by simp [maxLen]) (by simp)) _ _ _ rfl ((h.alloc _).src Try.underlying22) ?_ ?_ ?_
    · have := Hl.out; unfold maxLen; omega
    · have := Hl.out; omega
    intro A5 c5 w5 hown5 hg5 hat5 _)
  go_ret
  refine ⟨_, rfl, ?_, ((Below.refl _ _).alloc (Nat.le_refl _) _).grown hg5 (by simp) (fun k hk => ?_)⟩
  · have h1 := own_base (B := w.heap.size) hown5 (fun g hg => by
      rcases hat5 with e | e
      · have h9 : some w.heap.size = some g := e.symm.trans hg
        injection h9 with h9
        omega
      · have h9 : some (w.heap.size + 1) = some g := (e.trans (by simp)).symm.trans hg
        injection h9 with h9
        omega)
    simpa using h1
  · have h9 : some w.heap.size = some k := hk
    injection h9 with h9
    omega


set_option maxHeartbeats 1000000 in
set_option maxRecDepth 100000 in
theorem pieces9_any (v : Value) (l : List Pc) (w : World) (h : Sl pcE w v l) (hl : l.length * 32 ≤ 140737488355328) :
    Calls Try.prog 22 #[v] w fun e w' => ∃ v', e = .returned v' ∧ w'.ownsRow w.heap.size 53 3 v' l.length (pcE.flat l) ∧ Below w.heap.size w w' := by
  obtain ⟨i0, hi, hz0, hz1, hz2⟩ := info_parts infoPiece
  have Hl := Lib.hid hl; clear hl
  obtain ⟨A, cap, rfl, -, -, -⟩ := id h
  go_enter Try.func22, Try.ntmps22
  go_wp2_with (
    at_builtin
    refine wpList_append _ rfl (.tmp 3) (.tmp 4) 39 39 rfl 53 i0 _ 3 32 Try.underlying39 hi hz0 hz1 hz2 rfl (by decide) _ _ _ rfl (World.ownsRow_made w #[] 0 (Nat.zero_le _) (by simp [maxLen]) (by simp)) _ _ _ rfl ((h.alloc _).src Try.underlying39) ?_ ?_ ?_
    · have := Hl.out; unfold maxLen; omega
    · have := Hl.out; omega
    intro A5 c5 w5 hown5 hg5 hat5 _)
  go_ret
  refine ⟨_, rfl, ?_, ((Below.refl _ _).alloc (Nat.le_refl _) _).grown hg5 (by simp) (fun k hk => ?_)⟩
  · have h1 := own_base (B := w.heap.size) hown5 (fun g hg => by
      rcases hat5 with e | e
      · have h9 : some w.heap.size = some g := e.symm.trans hg
        injection h9 with h9
        omega
      · have h9 : some (w.heap.size + 1) = some g := (e.trans (by simp)).symm.trans hg
        injection h9 with h9
        omega)
    simpa using h1
  · have h9 : some w.heap.size = some k := hk
    injection h9 with h9
    omega


end Go.Proofs.Ytibmnkdeepmabaa
