/- compose's reader of a list: done, head, whole. Condition: the reader lies in its block. -/
import Derived.Test.YtibmnkdeepmabaaForm
import Derived.Test.YtibmnkdeepmabaaPlainC
import Derived.StillTailTactics
import Derived.IntWalk
namespace Go.Proofs.Ytibmnkdeepmabaa
open Go.RowKit

/-- a row of pieces in a block of its own, from a place on -/
def Dat (w : World) (d off : Nat) (l : List Pc) : Prop :=
  ∃ cs, w.heap[d]? = some (.cells cs 53 (0, 0)) ∧ ∀ i j x u, l[i]? = some x → (pcE.cells x)[j]? = some u → cs[off + (i * 3 + j)]? = some u
def rdObj (A : Option Addr) (n cap : Nat) : Obj := .cells #[.slice A n cap, .func (.func 73) #[] #[], .func (.func 87) #[] #[]] 123 (0, 0)
/-- a reader in block b, whose list lies in block d -/
def Rd (w : World) (b d : Nat) (l : List Pc) : Prop :=
  ∃ A cap, w.heap[b]? = some (rdObj A l.length cap) ∧ l.length ≤ cap ∧ cap ≤ maxLen ∧ (l ≠ [] → ∃ off, A = some ⟨d, off, none⟩ ∧ Dat w d off l)
theorem Dat.cell {w : World} {d off : Nat} {p : Pc} {r : List Pc} (h : Dat w d off (p :: r)) :
    d < w.heap.size ∧ w.cell? ⟨d, off, none⟩ = some (.int .u8 p.k) ∧ w.cell? ⟨d, off + 1, none⟩ = some (.int .i64 p.n) ∧ w.cell? ⟨d, off + 2, none⟩ = some (.string ⟨p.t.toArray⟩) := by
  obtain ⟨cs, hd, hc⟩ := h
  have c0 := hc 0 0 p _ rfl rfl
  have c1 := hc 0 1 p _ rfl rfl
  have c2 := hc 0 2 p _ rfl rfl
  exact ⟨heap_lt hd, by rw [Lib.cell_of_heap hd]; simpa using c0, by rw [Lib.cell_of_heap hd]; simpa using c1, by rw [Lib.cell_of_heap hd]; simpa using c2⟩
theorem Dat.tail {w : World} {d off : Nat} {p : Pc} {r : List Pc} (h : Dat w d off (p :: r)) : Dat w d (off + 3) r := by
  obtain ⟨cs, hd, hc⟩ := h
  refine ⟨cs, hd, fun i j x u hx hu => ?_⟩
  have := hc (i + 1) j x u (by simpa using hx) hu
  rwa [show off + ((i + 1) * 3 + j) = off + 3 + (i * 3 + j) by omega] at this
theorem Dat.keep {w w' : World} {d off : Nat} {l : List Pc} {T : Nat → Prop} (h : Dat w d off l) (hf : Fr T w w') (h1 : ¬ T d) : Dat w' d off l := by
  obtain ⟨cs, hd, hc⟩ := h
  exact ⟨cs, (hf.block d (heap_lt hd) h1).trans hd, hc⟩
theorem Rd.keep {w w' : World} {b d : Nat} {l : List Pc} {T : Nat → Prop} (h : Rd w b d l) (hf : Fr T w w') (h1 : ¬ T b) (h2 : ¬ T d) : Rd w' b d l := by
  obtain ⟨A, cap, hb, q1, q2, q3⟩ := h
  refine ⟨A, cap, (hf.block b (heap_lt hb) h1).trans hb, q1, q2, fun hl => ?_⟩
  obtain ⟨off, e, hd⟩ := q3 hl
  exact ⟨off, e, hd.keep hf h2⟩
theorem rd_cell {w : World} {b n cap : Nat} {A : Option Addr} (h : w.heap[b]? = some (rdObj A n cap)) :
    b < w.heap.size ∧ w.cell? ⟨b, 0, none⟩ = some (.slice A n cap) ∧ w.cell? ⟨b, 1, none⟩ = some (.func (.func 73) #[] #[]) ∧ w.cell? ⟨b, 2, none⟩ = some (.func (.func 87) #[] #[]) ∧ (∀ o, w.frozen? ⟨b, o, none⟩ = false) :=
  ⟨heap_lt h, by rw [Lib.cell_of_heap h]; rfl, by rw [Lib.cell_of_heap h]; rfl, by rw [Lib.cell_of_heap h]; rfl, fun o => Lib.frozen_of_heap h o⟩

theorem rd_set {w : World} {b n cap : Nat} {A : Option Addr} (h : w.heap[b]? = some (rdObj A n cap)) (A' : Option Addr) (n' cap' : Nat) :
    (w.setCell ⟨b, 0, none⟩ (.slice A' n' cap')).heap[b]? = some (rdObj A' n' cap') ∧ Fr (· = b) w (w.setCell ⟨b, 0, none⟩ (.slice A' n' cap')) := by
  refine ⟨?_, Fr.setCell _ w ⟨b, 0, none⟩ _ rfl⟩
  unfold rdObj at h ⊢
  simp [World.setCell, Array.getElem?_modify, h]
theorem fr0 (w : World) (o : Obj) : Fr (fun _ => False) w (w.alloc o) := Fr.alloc _ w o

set_option maxHeartbeats 1000000 in
theorem done_any (b d : Nat) (l : List Pc) (w : World) (h : Rd w b d l) :
    Calls Try.prog 70 #[.pointer (some ⟨b, 0, none⟩)] w fun e w' => e = .returned (.bool l.isEmpty) ∧ w' = w := by
  obtain ⟨A, cap, hb, q1, q2, -⟩ := h
  obtain ⟨hlt, c0, -, -, -⟩ := rd_cell hb
  cases l with
  | nil =>
    clear hb q1 q2
    go_enter Try.func70, Try.ntmps70
    go_wp2
    go_ret
    exact ⟨rfl, rfl⟩
  | cons p r =>
    rw [List.length_cons] at c0
    have hz : (((r.length + 1 : Nat) : Int) == 0) = false := by rw [beq_eq_false_iff_ne]; omega
    clear hb q1 q2
    generalize r.length + 1 = n at *
    go_enter Try.func70, Try.ntmps70
    go_wp2
    go_ret
    exact ⟨rfl, rfl⟩

set_option maxHeartbeats 1000000 in
theorem head_any (b d : Nat) (p : Pc) (r : List Pc) (w : World) (h : Rd w b d (p :: r)) :
    Calls Try.prog 71 #[.pointer (some ⟨b, 0, none⟩)] w fun e w' => e = .returned p.v ∧ Below w.heap.size w w' := by
  obtain ⟨A, cap, hb, q1, q2, q3⟩ := h
  obtain ⟨hlt, c0, -, -, -⟩ := rd_cell hb
  obtain ⟨off, rfl, hd⟩ := q3 (by simp)
  obtain ⟨hlt2, d0, d1, d2⟩ := hd.cell
  rw [List.length_cons] at c0
  have hn : (0 : Int) < ((r.length + 1 : Nat) : Int) := by omega
  have hn' : 0 < r.length + 1 := by omega
  clear hb q1 q2 q3 hd
  generalize r.length + 1 = n at *
  go_enter Try.func71, Try.ntmps71
  go_wp2
  exact bodyPost_ret (v := p.v) (by simp [results, Try.f71, go_sem, Pc.v]) rfl ⟨rfl, (Below.refl _ _).alloc (Nat.le_refl _) _⟩

set_option maxHeartbeats 1000000 in
theorem whole_any (b d : Nat) (p : Pc) (r : List Pc) (w : World) (h : Rd w b d (p :: r)) :
    Calls Try.prog 72 #[.pointer (some ⟨b, 0, none⟩)] w fun e w' => e = .returned p.v ∧ Rd w' b d r ∧ Fr (· = b) w w' := by
  obtain ⟨A, cap, hb, q1, q2, q3⟩ := h
  obtain ⟨hlt, c0, -, -, fz⟩ := rd_cell hb
  obtain ⟨off, rfl, hd⟩ := q3 (by simp)
  obtain ⟨hlt2, d0, d1, d2⟩ := hd.cell
  have hbd : b ≠ d := by
    rintro rfl
    obtain ⟨cs, hd, -⟩ := hd
    rw [hb] at hd
    injection hd with hd
    injection hd with _ hd
    exact absurd hd (by decide)
  rw [List.length_cons] at c0 q1
  have hn : (0 : Int) < ((r.length + 1 : Nat) : Int) := by omega
  have hn' : 0 < r.length + 1 := by omega
  have hn2 : (1 : Int) ≤ ((r.length + 1 : Nat) : Int) := by omega
  have hn3 : 1 ≤ r.length + 1 := by omega
  have Hb := Lib.hid hb; have Hd := Lib.hid hd; have Q1 := Lib.hid q1; have Q2 := Lib.hid q2; have Hbd := Lib.hid hbd
  clear hb q1 q2 q3 hd hbd
  go_enter Try.func72, Try.ntmps72
  go_wp2
  · refine bodyPost_ret (v := p.v) (by simp [results, Try.f72, go_sem, Pc.v]) rfl ⟨rfl, ?_, ?_⟩
    · obtain ⟨s1, s2⟩ := rd_set Hb.out (some ⟨d, off, none⟩) r.length 0
      have hr : r = [] := List.eq_nil_of_length_eq_zero (by have := Q1.out; omega)
      have hR : Rd (w.setCell ⟨b, 0, none⟩ (.slice (some ⟨d, off, none⟩) r.length 0)) b d r := ⟨_, _, s1, by rw [hr]; simp, by simp [maxLen], fun hh => absurd hr hh⟩
      exact (hR.keep (fr0 _ _) id id).keep (fr0 _ _) id id
    · exact ((rd_set Hb.out (some ⟨d, off, none⟩) r.length 0).2.trans ((fr0 _ _).mono fun _ _ h => h.elim)).trans ((fr0 _ _).mono fun _ _ h => h.elim)
  · refine bodyPost_ret (v := p.v) (by simp [results, Try.f72, go_sem, Pc.v]) rfl ⟨rfl, ?_, ?_⟩
    · obtain ⟨s1, s2⟩ := rd_set Hb.out (some ⟨d, off + 3, none⟩) r.length (cap - 1)
      have hR : Rd (w.setCell ⟨b, 0, none⟩ (.slice (some ⟨d, off + 3, none⟩) r.length (cap - 1))) b d r := ⟨_, _, s1, by have := Q1.out; omega, by have := Q2.out; omega, fun _ => ⟨off + 3, rfl, (Hd.out.tail).keep s2 (fun e => Hbd.out e.symm)⟩⟩
      exact (hR.keep (fr0 _ _) id id).keep (fr0 _ _) id id
    · exact ((rd_set Hb.out (some ⟨d, off + 3, none⟩) r.length (cap - 1)).2.trans ((fr0 _ _).mono fun _ _ h => h.elim)).trans ((fr0 _ _).mono fun _ _ h => h.elim)

open Go.RowKit

theorem bal {w W : World} {o : Obj} (h : Below w.heap.size w W) : Below w.heap.size w (W.alloc o) := h.alloc h.size o
theorem bdr {w W : World} (h : Below w.heap.size w W) : Below w.heap.size w W.drew := h.drew

set_option maxHeartbeats 1000000 in
theorem long_any (p : Pc) (w : World) (h1 : 0 ≤ p.n) (h2 : p.n ≤ 1000000000000) (h3 : p.t.length ≤ 1000000000000) :
    Calls Try.prog 73 #[p.v] w fun e w' => e = .returned (.int .i64 (lg p)) ∧ Below w.heap.size w w' := by
  obtain ⟨k, n, t⟩ := p
  unfold Pc.v lg
  dsimp only at h1 h2 h3 ⊢
  have hw : IntKind.i64.wrap (n + (t.length : Int)) = n + t.length := IntWalk.i64_in _ (by omega)
  go_enter Try.func73, Try.ntmps73
  go_wp2
  go_ret
  exact ⟨rfl, (Below.refl _ _).alloc (Nat.le_refl _) _⟩

set_option maxRecDepth 100000 in
set_option maxHeartbeats 2000000 in
theorem split_any (p : Pc) (n : Int) (w : World) (h1 : 0 ≤ n) (h2 : n ≤ lg p) (hv : p.valid = true) (h3 : p.n ≤ 1000000000000) (h4 : p.t.length ≤ 1000000000000) :
    Calls Try.prog 87 #[p.v, .int .i64 n] w fun e w' => e = .returned (.tuple #[(splA p n).v, (splB p n).v]) ∧ ∃ o1 o2 o3 o4 o5, w' = (((((w.alloc o1).alloc o2).alloc o3).alloc o4).alloc o5).drew.drew.drew := by
  unfold splA splB
  unfold lg at h2
  have hn := Val.n hv
  have hk := Pc.valid_cases hv
  clear hv
  obtain ⟨k, m, t⟩ := p
  unfold Pc.v
  dsimp only at h2 h3 h4 hn hk ⊢
  obtain ⟨q, rfl⟩ := Int.eq_ofNat_of_zero_le h1
  by_cases h : k = 2
  · have hq : q ≤ t.length := by omega
    have hm : m = 0 := by omega
    subst h hm
    clear hk h2 h3 hn
    have hx1 : (⟨t.toArray⟩ : ByteArray).extract 0 q = ⟨(t.take q).toArray⟩ := by rw [ext_str]; simp
    have hx2 : (⟨t.toArray⟩ : ByteArray).extract q t.length = ⟨(t.drop q).toArray⟩ := by rw [ext_str]; simp
    rw [if_pos rfl, if_pos rfl]
    go_enter Try.func87, Try.ntmps87
    go_wp2_with fail
    go_region
    all_goals go_wp2_with fail
    all_goals go_region
    all_goals go_wp2_with fail
    all_goals go_region
    all_goals go_wp2_with fail
    all_goals exact bodyPost_ret (v := .tuple #[.agg #[.int .u8 2, .int .i64 0, .string ⟨(t.take q).toArray⟩], .agg #[.int .u8 2, .int .i64 0, .string ⟨(t.drop q).toArray⟩]]) (by simp [results, Try.f87, go_sem]) rfl ⟨rfl, _, _, _, _, _, rfl⟩
  · have hw : IntKind.i64.wrap (m - (q : Int)) = m - q := IntWalk.i64_in _ (by omega)
    rw [if_neg h, if_neg h]
    have hk2 : (k == 2) = false := by rw [beq_eq_false_iff_ne]; exact h
    clear hk h2 h3 hn h
    go_enter Try.func87, Try.ntmps87
    go_wp2_with fail
    go_region
    all_goals go_wp2_with fail
    all_goals go_region
    all_goals go_wp2_with fail
    all_goals go_region
    all_goals go_wp2_with fail
    all_goals exact bodyPost_ret (v := .tuple #[.agg #[.int .u8 k, .int .i64 q, .string ⟨t.toArray⟩], .agg #[.int .u8 k, .int .i64 (m - q), .string ⟨t.toArray⟩]]) (by simp [results, Try.f87, go_sem]) rfl ⟨rfl, _, _, _, _, _, rfl⟩

end Go.Proofs.Ytibmnkdeepmabaa
