/- transform.take: the next piece of a list, or a part of it. Condition: the list lies in a row of another block than the pointer. -/
import Derived.Test.YtdlbjfgpfjcpaaaTr1
namespace Go.Proofs.Ytdlbjfgpfjcpaaa
open Go.RowKit

theorem dat_setN {w : World} {d off : Nat} {p : Pc} {r : List Pc} (h : Dat w d off (p :: r)) (m : Int) : Dat (w.setCell ⟨d, off + 1, none⟩ (.int .i64 m)) d off (⟨p.k, m, p.t⟩ :: r) := by
  obtain ⟨cs, hd, hc⟩ := h
  refine ⟨_, set_at hd (off + 1) (.int .i64 m), fun i j x u hx hu => ?_⟩
  have hj : j < 3 := by
    have := (List.getElem?_eq_some_iff.1 hu).1
    rwa [show (pcE.cells x).length = 3 from pcE.len x] at this
  have hsz : off + 2 < cs.size := (Array.getElem?_eq_some_iff.1 (hc 0 2 p _ rfl rfl)).1
  rw [Array.getElem?_setIfInBounds]
  by_cases e : off + 1 = off + (i * 3 + j)
  · rw [if_pos e, if_pos (by omega)]
    obtain ⟨rfl, rfl⟩ : i = 0 ∧ j = 1 := by omega
    obtain rfl : _ = x := by simpa using hx
    simpa [pcE, Pc.cells] using hu
  · rw [if_neg e]
    cases i with
    | zero =>
      obtain rfl : _ = x := by simpa using hx
      refine hc 0 j p u rfl ?_
      match j, hj, e, hu with
      | 0, _, _, hu => simpa [pcE, Pc.cells] using hu
      | 1, _, e, _ => exact absurd rfl e
      | 2, _, _, hu => simpa [pcE, Pc.cells] using hu
    | succ i => exact hc (i + 1) j x u (by simpa using hx) hu
theorem Dat.lt {w : World} {d off : Nat} {l : List Pc} (h : Dat w d off l) : d < w.heap.size := by
  obtain ⟨cs, hd, -⟩ := h
  exact heap_lt hd
theorem Dat.fz {w : World} {d off : Nat} {l : List Pc} (h : Dat w d off l) (o : Nat) : w.frozen? ⟨d, o, none⟩ = false := by
  obtain ⟨cs, hd, -⟩ := h
  exact Lib.frozen_of_heap hd o

/-- where a list begins behind its first piece -/
def tailA (d off cap : Nat) : Option Addr := if cap = 1 then some ⟨d, off, none⟩ else some ⟨d, off + 3, none⟩
theorem at_tail {w : World} {d off cap : Nat} {p : Pc} {r : List Pc} (hd : Dat w d off (p :: r)) (hc : r.length + 1 ≤ cap) (hm : cap ≤ maxLen) : At w d (tailA d off cap) (cap - 1) r := by
  refine ⟨by omega, by omega, fun hr => ⟨off + 3, ?_, hd.tail⟩⟩
  have : 0 < r.length := List.length_pos_iff.2 hr
  rw [tailA, if_neg (by omega)]
def pObj (p : Pc) : Obj := .cells #[.int .u8 p.k, .int .i64 p.n, .string ⟨p.t.toArray⟩] 31 (0, 0)

set_option maxHeartbeats 2000000 in
set_option maxRecDepth 100000 in
theorem take_whole (b j d off cap : Nat) (p : Pc) (r : List Pc) (n : Int) (w : World) (c0 : w.cell? ⟨b, j, none⟩ = some (.slice (some ⟨d, off, none⟩) (r.length + 1) cap)) (fz : w.frozen? ⟨b, j, none⟩ = false) (hlt : b < w.heap.size)
    (hd : Dat w d off (p :: r)) (h : p.k = 2 ∨ (p.k ≠ 2 ∧ p.n ≤ n)) :
    Calls Try.prog 117 #[.pointer (some ⟨b, j, none⟩), .int .i64 n] w fun e' w' => e' = .returned p.v ∧ w' = ((w.setCell ⟨b, j, none⟩ (.slice (tailA d off cap) r.length (cap - 1))).alloc (pObj p)).alloc (pObj p) := by
  obtain ⟨hlt2, d0, d1, d2⟩ := hd.cell
  have hn : (0 : Int) < ((r.length + 1 : Nat) : Int) := by omega
  have hn' : 0 < r.length + 1 := by omega
  have hn2 : (1 : Int) ≤ ((r.length + 1 : Nat) : Int) := by omega
  have hn3 : 1 ≤ r.length + 1 := by omega
  have hr1 : r.length + 1 - 1 = r.length := by omega
  clear hd
  unfold Pc.v tailA
  rcases h with h | ⟨h, h2⟩
  · have hk : (p.k == 2) = true := by rw [h]; rfl
    clear h
    by_cases hc1 : cap = 1
    · subst hc1
      rw [if_pos rfl]
      go_enter Try.func117, Try.ntmps117
      go_wp2
      exact bodyPost_ret (v := .agg #[.int .u8 p.k, .int .i64 p.n, .string ⟨p.t.toArray⟩]) (by simp [results, Try.f117, go_sem]) rfl ⟨rfl, rfl⟩
    · rw [if_neg hc1]
      go_enter Try.func117, Try.ntmps117
      go_wp2
      exact bodyPost_ret (v := .agg #[.int .u8 p.k, .int .i64 p.n, .string ⟨p.t.toArray⟩]) (by simp [results, Try.f117, go_sem]) rfl ⟨rfl, rfl⟩
  · have hk : (p.k == 2) = false := by rw [beq_eq_false_iff_ne]; exact h
    clear h
    by_cases hc1 : cap = 1
    · subst hc1
      rw [if_pos rfl]
      go_enter Try.func117, Try.ntmps117
      go_wp2
      exact bodyPost_ret (v := .agg #[.int .u8 p.k, .int .i64 p.n, .string ⟨p.t.toArray⟩]) (by simp [results, Try.f117, go_sem]) rfl ⟨rfl, rfl⟩
    · rw [if_neg hc1]
      go_enter Try.func117, Try.ntmps117
      go_wp2
      exact bodyPost_ret (v := .agg #[.int .u8 p.k, .int .i64 p.n, .string ⟨p.t.toArray⟩]) (by simp [results, Try.f117, go_sem]) rfl ⟨rfl, rfl⟩

set_option maxHeartbeats 2000000 in
set_option maxRecDepth 100000 in
theorem take_cut (b j d off cap : Nat) (p : Pc) (r : List Pc) (n : Int) (w : World) (c0 : w.cell? ⟨b, j, none⟩ = some (.slice (some ⟨d, off, none⟩) (r.length + 1) cap)) (hlt : b < w.heap.size)
    (hd : Dat w d off (p :: r)) (h : p.k ≠ 2) (h0 : 0 ≤ n) (h1 : n < p.n) (h2 : p.n ≤ 1048576) :
    Calls Try.prog 117 #[.pointer (some ⟨b, j, none⟩), .int .i64 n] w fun e' w' => e' = .returned (⟨p.k, n, []⟩ : Pc).v ∧ w' = (w.setCell ⟨d, off + 1, none⟩ (.int .i64 (p.n - n))).alloc (pObj ⟨p.k, n, []⟩) := by
  obtain ⟨hlt2, d0, d1, d2⟩ := hd.cell
  have fzd := hd.fz
  have hn : (0 : Int) < ((r.length + 1 : Nat) : Int) := by omega
  have hn' : 0 < r.length + 1 := by omega
  have hk : (p.k == 2) = false := by rw [beq_eq_false_iff_ne]; exact h
  have hg : decide (p.n ≤ n) = false := decide_eq_false (by omega)
  have hw : IntKind.i64.wrap (p.n - n) = p.n - n := IntWalk.i64_in _ (by omega)
  clear hd h
  unfold Pc.v
  go_enter Try.func117, Try.ntmps117
  go_wp2
  exact bodyPost_ret (v := .agg #[.int .u8 p.k, .int .i64 n, .string ⟨([] : List UInt8).toArray⟩]) (by simp [results, Try.f117, go_sem]) rfl ⟨rfl, rfl⟩

end Go.Proofs.Ytdlbjfgpfjcpaaa
