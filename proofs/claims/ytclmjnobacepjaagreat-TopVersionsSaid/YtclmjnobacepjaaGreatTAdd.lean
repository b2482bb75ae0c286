/- measure.Add: what it returns. Condition: at most 1000 measures of moderate size. -/
import Derived.Test.YtclmjnobacepjaaGreatTMeas
namespace Go.Proofs.YtclmjnobacepjaaGreat
open Go.RowKit

theorem snoc_take {α : Type} (l : List α) (k : Nat) (h : k < l.length) : l.take (k + 1) = l.take k ++ [l[k]] := List.take_succ_eq_append_getElem h
theorem sumM_take (l : List Ms) (k : Nat) (h : k < l.length) : sumM (l.take (k + 1)) = (sumM (l.take k)).add l[k] := by
  rw [snoc_take l k h, sumM, List.foldl_append]; rfl
theorem sumM_bdN (N : Nat) (l : List Ms) (hl : ∀ m, m ∈ l → m.b ≤ N ∧ m.r ≤ N ∧ m.n ≤ N) (k : Nat) : (sumM (l.take k)).b ≤ k * N ∧ (sumM (l.take k)).r ≤ k * N ∧ (sumM (l.take k)).n ≤ k * N := by
  induction k with
  | zero => simp [sumM]
  | succ k ih =>
    have e : (k + 1) * N = k * N + N := Nat.succ_mul k N
    rw [e]
    by_cases h : k < l.length
    · rw [sumM_take l k h]
      have := hl l[k] (List.getElem_mem h)
      simp only [Ms.add]
      omega
    · rw [List.take_of_length_le (by omega)] at ih ⊢
      omega
theorem sumM_bd (l : List Ms) (hl : ∀ m, m ∈ l → m.b ≤ 1000000 ∧ m.r ≤ 1000000 ∧ m.n ≤ 1000000) (k : Nat) : (sumM (l.take k)).b ≤ k * 1000000 ∧ (sumM (l.take k)).r ≤ k * 1000000 ∧ (sumM (l.take k)).n ≤ k * 1000000 := sumM_bdN 1000000 l hl k

set_option maxHeartbeats 1600000 in
set_option maxRecDepth 100000 in
theorem add_any (v : Value) (l : List Ms) (w : World) (h : Sl msE w v l) (hl : ∀ m, m ∈ l → m.b ≤ 1000000 ∧ m.r ≤ 1000000 ∧ m.n ≤ 1000000) (hn : l.length ≤ 1000) : Calls Tryz.prog 93 #[v] w fun e w' => e = .returned (sumM l).v ∧ Below w.heap.size w w' := by
  obtain ⟨A, cap, rfl, h2, h3, -⟩ := id h
  have H := Lib.hid h; have HL := Lib.hid hl; clear h hl
  have i0 : ∀ w (a b c : Int), (Instr.index 199 (.agg #[.int .i64 a, .int .i64 b, .int .i64 c]) (.int .i64 0)).run Tryz.prog w = .ok (.int .i64 a) w := fun _ _ _ _ => by kernel_rfl
  have i1 : ∀ w (a b c : Int), (Instr.index 199 (.agg #[.int .i64 a, .int .i64 b, .int .i64 c]) (.int .i64 1)).run Tryz.prog w = .ok (.int .i64 b) w := fun _ _ _ _ => by kernel_rfl
  have i2 : ∀ w (a b c : Int), (Instr.index 199 (.agg #[.int .i64 a, .int .i64 b, .int .i64 c]) (.int .i64 2)).run Tryz.prog w = .ok (.int .i64 c) w := fun _ _ _ _ => by kernel_rfl
  go_enter Tryz.func93, Tryz.ntmps93
  go_wp2_with fail
  go_loopw [10] (fun i wr => ∃ k : Nat, k ≤ l.length ∧ i = .int .i64 k ∧ Bk wr w.heap.size #[.int .i64 0, .int .i64 0, .int .i64 0] 37 ∧ Bk wr (w.heap.size + 1) #[.int .i64 (sumM (l.take k)).b, .int .i64 (sumM (l.take k)).r, .int .i64 (sumM (l.take k)).n] 200 ∧ Hid (Below w.heap.size w wr)) (fun i _ => l.length - (intOf i).toNat)
  case atStart => exact ⟨0, Nat.zero_le _, rfl, (Bk.new _ _ _).alloc, by have := Bk.new (w.alloc (.cells #[.int .i64 0, .int .i64 0, .int .i64 0] 37)) #[.int .i64 0, .int .i64 0, .int .i64 0] 200; rw [World.size_alloc] at this; exact this, Lib.hid (bal (bal (Below.refl _ _)))⟩
  case round =>
    obtain ⟨k, hk, rfl, hb1, hb2, hB⟩ := hrel
    have hsz := hB.out.size
    have hsz2 := hb2.lt
    by_cases hlt : k < l.length
    · have hst := sumM_take l k hlt
      have hbd := sumM_bd l HL.out (k + 1)
      obtain ⟨q1, q2, q3⟩ := HL.out l[k] (List.getElem_mem hlt)
      obtain ⟨b, off, cap', hv, hb, hcc⟩ := H.out.ms hlt
      obtain ⟨rfl, rfl⟩ : A = some ⟨b, off, none⟩ ∧ cap = cap' := by injection hv with e1 e2 e3; exact ⟨e1, e3⟩
      obtain ⟨e0, e1, e2⟩ := hcc _ hB.out
      rw [hst] at hbd
      obtain ⟨p1, p2, p3⟩ := sumM_bd l HL.out k
      obtain ⟨d0, d1, d2, g0, g1, g2⟩ := hb2.three
      have HST := Lib.hid hst
      clear hst hcc hv
      generalize l[k] = m at *
      generalize sumM (l.take k) = q at *
      simp only [Ms.add] at hbd
      have hki : (k : Int) < (l.length : Int) := by omega
      go_wp2_with fail
      refine wp_loop_rounds 4 ?_
      rw [rounds_succ]
      go_wp2_with fail
      rw [rounds_succ]
      go_wp2_with fail
      rw [rounds_succ]
      go_wp2_with fail
      rw [rounds_succ]
      go_wp2_with fail
      go_roundw
      case rel =>
        refine ⟨k + 1, by omega, by go_num, ?_, ?_, ?_⟩
        · refine Bk.alloc (Bk.other (Bk.other (Bk.other hb1 ?_) ?_) ?_) <;> simp
        · rw [HST.out]
          have := (((hb2.set 0 (.int .i64 (q.b + m.b))).set 1 (.int .i64 (q.r + m.r))).set 2 (.int .i64 (q.n + m.n))).alloc (o := .cells #[.int .i64 m.b, .int .i64 m.r, .int .i64 m.n] 37)
          exact this
        · refine Lib.hid (bal (bset (bset (bset hB.out ?_) ?_) ?_)) <;> simp
      case measure => simp [intOf]; omega
    · rw [List.take_of_length_le (by omega)] at hb2
      obtain ⟨c0, c1, c2, f0, f1, f2⟩ := hb1.three
      obtain ⟨d0, d1, d2, -⟩ := hb2.three
      generalize hM : sumM l = m at *
      have HM := Lib.hid hM; clear hM
      go_wp2_with (go_at_call 114; refine (measured_any _ _ _ _).mono ?_; rintro e w' ⟨rfl, hb⟩; obtain ⟨c0, c1, c2, f0, f1, f2⟩ := (hb1.ext hb (by omega)).three)
      refine bodyPost_ret (v := m.v) (by simp [results, Tryz.results93, go_sem, c0, c1, c2, Ms.v]) rfl ⟨by rw [HM.out], ?_⟩
      exact bset (bset (bset (bcall hB.out hb) (Nat.le_refl _)) (Nat.le_refl _)) (Nat.le_refl _)

end Go.Proofs.YtclmjnobacepjaaGreat
