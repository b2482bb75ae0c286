/- transform.bytes: within a piece, or at the end of both. Condition: the walk lies in its block. -/
import Derived.Test.YtdlbjfgpfjcpaaaTr5
namespace Go.Proofs.Ytdlbjfgpfjcpaaa
open Go.RowKit

set_option maxHeartbeats 40000000 in
set_option maxRecDepth 100000 in
theorem bytes_gt {w0 : World} {B1 b d1 d2 : Nat} {f : Bool} {O x y : List Pc} {A : Option Addr} {c : Nat} (p q : Pc) (w : World) (h : WK w0 B1 b d1 d2 f (p :: x) (q :: y) O A c w) (hp : p.k ≠ 2) (hq : q.k ≠ 2) (_hpt : p.t = []) (hqt : q.t = []) (_hp1 : 1 ≤ p.n) (hq1 : 1 ≤ q.n) (hp2 : p.n ≤ 1048576) (hq2 : q.n ≤ 1048576) (hl : O.length ≤ 100000) (hpq : q.n < p.n) :
    Calls Try.prog 118 #[.pointer (some ⟨b, 0, none⟩)] w fun e w' => e = .returned fT ∧ ∃ A' c', WK w0 B1 b d1 d2 f (⟨p.k, p.n - q.n, p.t⟩ :: x) y (O ++ if p.k = 1 then [⟨q.k, q.n, []⟩] else []) A' c' w' := by
  obtain ⟨A1, c1, A2, c2, h⟩ := h.we
  obtain ⟨hltb, e0, e1, e2, e3, fz⟩ := h.cells
  obtain ⟨off1, ha1, hd1⟩ := h.x.2.2 (by simp)
  subst ha1
  obtain ⟨off2, ha2, hd2⟩ := h.y.2.2 (by simp)
  subst ha2
  obtain ⟨hw1, x0, x1, x2⟩ := hd1.cell
  obtain ⟨hw2, y0, y1, y2⟩ := hd2.cell
  have cT := fun W c0 hlt hd => take_cut b 0 d1 off1 c1 p x q.n W c0 hlt hd hp (by omega) hpq hp2
  have cU := fun W c0 fz hlt hd => take_whole b 1 d2 off2 c2 q y q.n W c0 fz hlt hd (.inr ⟨hq, by omega⟩)
  have cP := fun W A c X Y (h : WK w0 B1 b d1 d2 f X Y O A c W) => put_any ⟨q.k, q.n, []⟩ W h hl
  rw [List.length_cons] at e0 e1
  have n1 : (0 : Int) < ((x.length + 1 : Nat) : Int) := by omega
  have n2 : (0 : Int) < ((y.length + 1 : Nat) : Int) := by omega
  have n1' : (((x.length + 1 : Nat) : Int) == 0) = false := by rw [beq_eq_false_iff_ne]; omega
  have n2' : (((y.length + 1 : Nat) : Int) == 0) = false := by rw [beq_eq_false_iff_ne]; omega
  have hmin : (if q.n < p.n then q.n else p.n) = q.n := if_pos hpq
  unfold Pc.v at cT cU
  have CT := Lib.hid (fun W (h : WE w0 B1 b d1 d2 f (p :: x) (q :: y) O (some ⟨d1, off1, none⟩) c1 (some ⟨d2, off2, none⟩) c2 A c W) => cT W (by have := h.cells.2.1; rwa [List.length_cons] at this) h.cells.1 (by obtain ⟨o, e, hd⟩ := h.x.2.2 (by simp); injection e with e; injection e with _ e; subst e; exact hd))
  have CU := Lib.hid (fun W (h : WE w0 B1 b d1 d2 f (⟨p.k, p.n - q.n, p.t⟩ :: x) (q :: y) O (some ⟨d1, off1, none⟩) c1 (some ⟨d2, off2, none⟩) c2 A c W) => cU W (by have := h.cells.2.2.1; rwa [List.length_cons] at this) (h.cells.2.2.2.2.2 _) h.cells.1 (by obtain ⟨o, e, hd⟩ := h.y.2.2 (by simp); injection e with e; injection e with _ e; subst e; exact hd))
  have CP := Lib.hid cP; have H := Lib.hid h
  clear cT cU cP h hd1 hd2
  have HPQ := Lib.hid hpq
  clear hpq
  generalize hOO : (O ++ if p.k = 1 then [⟨q.k, q.n, []⟩] else []) = OO
  have HOO := Lib.hid hOO
  clear hOO
  have hob := H.out.ob
  have hs := H.out.s
  generalize x.length + 1 = m1 at n1 n1' e0
  generalize y.length + 1 = m2 at n2 n2' e1
  go_enter Try.func118, Try.ntmps118
  go_wp2_with fail
  go_quiet (fail)
  have C1 := Lib.hid (H.out.ext (below_drewN (Below.refl _ _) nq))
  clear H e0 e1 e2 e3 fz hltb x0 x1 x2 y0 y1 y2
  change d1 < (w.drewN nq).heap.size at hw1
  change d2 < (w.drewN nq).heap.size at hw2
  change ∀ k, (Value.slice A O.length c).ownBlock = some k → k < (w.drewN nq).heap.size at hob
  change w0.heap.size ≤ b ∧ b < B1 ∧ B1 ≤ (w.drewN nq).heap.size at hs
  generalize w.drewN nq = w1 at *
  obtain ⟨hltb, e0, e1, e2, e3, fz⟩ := C1.out.cells
  rw [List.length_cons] at e0 e1
  go_upto_region 4 with (fail)
  go_cut [4, 5] (fun v4 v5 wr => ∃ g1 g2 : Nat, v4 = .pointer (some ⟨g1, 0, none⟩) ∧ v5 = .pointer (some ⟨g2, 0, none⟩) ∧ Hid (wr.heap[g1]? = some (pO p.k q.n)) ∧ Hid (wr.heap[g2]? = some (pO q.k q.n)) ∧ Hid (WE w0 B1 b d1 d2 f (⟨p.k, p.n - q.n, p.t⟩ :: x) y O (some ⟨d1, off1, none⟩) c1 (tailA d2 off2 c2) (c2 - 1) A c wr))
  case first =>
    go_region_held3 (fun _ => True) (trivial)
      (first
        | (go_at_call_of 117 (Value.pointer (some ⟨b, 0, none⟩)); refine Calls.mono (CT.out _ (by repeat (first | with_reducible exact C1.out | with_reducible refine WE.drew ?_ | with_reducible refine WE.alloc ?_ _))) ?_; rintro e w' ⟨rfl, rfl⟩)
        | (go_at_call_of 117 (Value.pointer (some ⟨b, 1, none⟩)); refine Calls.mono (CU.out _ (by repeat (first | with_reducible exact C1.out | with_reducible refine WE.drew ?_ | with_reducible refine WE.alloc ?_ _ | with_reducible refine WE.cutX (p := p) (off := off1) ?_ _))) ?_; rintro e w' ⟨rfl, rfl⟩))
    all_goals go_wp2_with fail
    all_goals go_meet
    all_goals have HPQ2 := HPQ.out
    all_goals refine ⟨_, _, rfl, rfl, Lib.hid ?_, Lib.hid ?_, Lib.hid ?_⟩
    all_goals first
      | (repeat (first | with_reducible refine (dr_at _ _).trans ?_ | with_reducible refine (al_old (by first | (simp; done) | (simp; omega))).trans ?_ | with_reducible refine box3 (x0 := .int .u8 0) (x1 := .int .i64 0) (x2 := .string ⟨#[]⟩) ?_ _ _ _ | with_reducible refine (st_oth (by dsimp only; omega)).trans ?_ | exact al_new (by first | (simp; done) | (simp; omega)) rfl))
      | skip
    all_goals (repeat (first | with_reducible exact C1.out | with_reducible refine WE.drew ?_ | with_reducible refine WE.alloc ?_ _ | with_reducible refine WE.cutX (p := p) (off := off1) ?_ _ | with_reducible refine WE.takeY (q := q) (off := off2) ?_ | with_reducible refine WE.store ?_ _ _ _ (by omega) (fun k hk => by have := hob k hk; omega)))
  case rest =>
    obtain ⟨g1, g2, rfl, rfl, hP, hQ, C2⟩ := hcut
    have f0 : wc.cell? ⟨g1, 0, none⟩ = some (.int .u8 p.k) := by rw [Lib.cell_of_heap hP.out]; rfl
    have f1 : wc.cell? ⟨g2, 0, none⟩ = some (.int .u8 q.k) := by rw [Lib.cell_of_heap hQ.out]; rfl
    have hg1 := heap_lt hP.out
    have hg2 := heap_lt hQ.out
    clear hP hQ CT CU C1 e0 e1 e2 e3 fz hltb hob hs hw1 hw2
    by_cases hk : p.k = 1
    · have hk' : (p.k == 1) = true := by rw [hk]; rfl
      have hO2 := HOO.out
      rw [if_pos hk] at hO2
      have HO2 := Lib.hid hO2
      clear hk hO2
      go_wp2_with fail
      refine (CP.out _ _ _ _ _ C2.out.wk).mono ?_
      rintro e w3 ⟨rfl, A', c', hwk⟩
      go_wp2
      go_ret
      exact ⟨rfl, A', c', by rw [← HO2.out]; exact hwk⟩
    · have hk' : (p.k == 1) = false := by rw [beq_eq_false_iff_ne]; exact hk
      have hO2 := HOO.out
      rw [if_neg hk, List.append_nil] at hO2
      have HO2 := Lib.hid hO2
      clear hk hO2
      go_wp2
      go_ret
      exact ⟨rfl, A, c, by rw [← HO2.out]; exact C2.out.wk⟩

end Go.Proofs.Ytdlbjfgpfjcpaaa
