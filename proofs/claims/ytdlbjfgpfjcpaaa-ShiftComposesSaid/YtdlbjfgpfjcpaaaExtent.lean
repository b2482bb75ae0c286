/- shift.Extent and quartoref06.Extent: what they return. Condition: the pieces read as values of their type. -/
import Derived.Test.YtdlbjfgpfjcpaaaShift1
import Derived.Test.YtdlbjfgpfjcpaaaRef4a
namespace Go.Proofs.Ytdlbjfgpfjcpaaa
open Go.RowKit

def headN : List Pc → Int
  | [] => 0
  | p :: _ => if p.k = 1 then p.n else 0
def lastN (l : List Pc) : Int := match l.getLast? with
  | some p => if p.k = 1 then p.n else 0
  | none => 0
/-- does a normal form change nothing? -/
def idle (n : List Pc) : Prop := n = [] ∨ ∃ p, n = [p] ∧ p.k = 1
structure Ex where
  a : Int
  b : Int
  c : Int
  d : Int
def extOf (n : List Pc) (i o : Int) : Ex := ⟨headN n, i - lastN n, headN n, o - lastN n⟩
open Classical in
noncomputable def extR (l : List Pc) : Ex := if errL l = 0 then (if idle (formS l) then ⟨inL l, inL l, inL l, inL l⟩ else extOf (formS l) (inL l) (outL l)) else ⟨0, 0, 0, 0⟩
noncomputable def extV (l : List Pc) : Value := .tuple #[.int .i64 (extR l).a, .int .i64 (extR l).b, .int .i64 (extR l).c, .int .i64 (extR l).d, .int .i64 (errL l)]
def exV (x : Ex) (e : Int) : Value := .tuple #[.int .i64 x.a, .int .i64 x.b, .int .i64 x.c, .int .i64 x.d, .int .i64 e]

theorem extV_err {l : List Pc} (h : errL l ≠ 0) : extV l = exV ⟨0, 0, 0, 0⟩ (errL l) := by unfold extV extR; rw [if_neg h]; rfl
theorem extV_idle {l : List Pc} (h : errL l = 0) (hi : idle (formS l)) : extV l = exV ⟨inL l, inL l, inL l, inL l⟩ 0 := by unfold extV extR; rw [if_pos h, if_pos hi, h]; rfl
theorem extV_ok {l : List Pc} (h : errL l = 0) (hi : ¬ idle (formS l)) : extV l = exV (extOf (formS l) (inL l) (outL l)) 0 := by unfold extV extR; rw [if_pos h, if_neg hi, h]; rfl
theorem headN_at {n : List Pc} (h : 0 < n.length) : headN n = if n[0].k = 1 then n[0].n else 0 := by
  cases n with
  | nil => simp at h
  | cons p r => rfl
theorem lastN_at {n : List Pc} (h : 0 < n.length) : lastN n = if n[n.length - 1].k = 1 then n[n.length - 1].n else 0 := by
  unfold lastN
  rw [List.getLast?_eq_getElem?, List.getElem?_eq_getElem (by omega)]
theorem idle_at {n : List Pc} (h : 0 < n.length) : idle n ↔ n.length = 1 ∧ n[0].k = 1 := by
  unfold idle
  constructor
  · rintro (rfl | ⟨p, rfl, hp⟩)
    · simp at h
    · exact ⟨rfl, hp⟩
  · rintro ⟨h1, h2⟩
    obtain ⟨p, rfl⟩ := List.length_eq_one_iff.1 h1
    exact .inr ⟨p, rfl, h2⟩
theorem form_bd {l : List Pc} (h : errL l = 0) : ∀ p ∈ formS l, 0 ≤ p.n ∧ p.n ≤ 1048576 := fun p hp => by
  obtain ⟨-, -, h3, -⟩ := lens_ok (lens_formS h).2
  obtain ⟨x, y, z⟩ := h3 p hp
  have := Pc.n_of_valid x y z
  omega

set_option maxHeartbeats 4000000 in
set_option maxRecDepth 100000 in
theorem extent_any (v : Value) (l : List Pc) (w : World) (h : Sl pcE w v l) (hd : ∀ p, p ∈ l → p.wf) :
    Calls Try.prog 82 #[v] w fun e w' => e = .returned (extV l) ∧ Below w.heap.size w w' := by
  have hc := lengths_any v l w h hd
  by_cases h0 : errL l = 0
  · rw [lensV_ok h0] at hc
    obtain ⟨m1, m2, m3, m4⟩ := mod_io h0
    have hm : normS l = formS l := by rw [normS, if_pos h0]
    have cN := fun w h => normalize_any v l w h hd
    rw [hm, h0] at cN
    have hbd := form_bd h0
    have hv : ¬ idle (formS l) → extV l = exV (extOf (formS l) (inL l) (outL l)) 0 := extV_ok h0
    have hv' : idle (formS l) → extV l = exV ⟨inL l, inL l, inL l, inL l⟩ 0 := extV_idle h0
    generalize formS l = n at *
    generalize inL l = i at *
    generalize outL l = o at *
    have Hc := Lib.hid hc; have H := Lib.hid h; have CN := Lib.hid cN; have HV := Lib.hid hv; have HV' := Lib.hid hv'; have Hbd := Lib.hid hbd
    clear hc h cN hv hv' h0 hd hm hbd
    by_cases hn : 0 < n.length
    · have hh := headN_at hn
      have hl := lastN_at hn
      have hi := idle_at hn
      obtain ⟨b1, b2⟩ := Hbd.out n[0] (List.getElem_mem hn)
      obtain ⟨b3, b4⟩ := Hbd.out n[n.length - 1] (List.getElem_mem (by omega))
      have hlen : n.length ≠ 0 := by omega
      have hlb : ((n.length : Int) == 0) = false := by rw [beq_eq_false_iff_ne]; omega
      by_cases hone : n.length = 1 ∧ n[0].k = 1
      · have hI := HV'.out (hi.2 hone)
        have HI := Lib.hid hI
        clear hI hi hh hl
        obtain ⟨ho1, hk1⟩ := hone
        have hb1' : ((n.length : Int) == 1) = true := by rw [beq_iff_eq]; omega
        have hb2' : (n[0].k == 1) = true := by simpa using hk1
        clear hk1
        go_enter Try.func82, Try.ntmps82
        go_wp2_with fail
        refine (Hc.out).mono ?_
        rintro e w1 ⟨rfl, hb1⟩
        have H1 := Lib.hid (H.out.ext hb1)
        go_wp2_with fail
        refine (CN.out _ H1.out).mono ?_
        rintro e w2 ⟨v2, rfl, ho, hb2⟩
        have hS := Sl.of_own ho
        obtain ⟨b, off, cap, hv, hbl, c0, c1, c2⟩ := hS.pc hn
        obtain ⟨b', off', cap', hv', hbl', d0, d1, d2⟩ := hS.pc (k := n.length - 1) (by omega)
        subst hv
        obtain ⟨rfl, rfl⟩ : b = b' ∧ off = off' := by injection hv' with e1 e2 e3; injection e1 with e1; injection e1 with e4 e5; exact ⟨e4, e5⟩
        have hlm := hS.len_le
        unfold maxLen at hlm
        have HB := Lib.hid (hb1.trans (hb2.mono hb1.size))
        clear ho hS hv' hb1 hb2
        simp only [Nat.zero_mul, Nat.add_zero] at c0 c1 c2
        generalize n[0] = p at *
        clear d0 d1 d2 b3 b4
        go_wp2
        exact bodyPost_ret (v := exV ⟨i, i, i, i⟩ 0) (by simp [results, Try.f82, go_sem, exV]) rfl ⟨by rw [HI.out], HB.out⟩
      · have hI := HV.out (fun e => hone (hi.1 e))
        have HI := Lib.hid hI
        clear hI hi
        have fin : ∀ x y : Int, x = headN n → y = lastN n → extV l = exV ⟨x, i - y, x, o - y⟩ 0 := fun x y hx hy => by rw [HI.out, hx, hy]; rfl
        have Fin := Lib.hid fin
        clear fin HI HV HV'
        have hg : ((n.length : Int) == 1) = false ∨ (n[0].k == 1) = false := by
          by_cases e1 : n.length = 1
          · exact .inr (by simpa using fun e => hone ⟨e1, e⟩)
          · exact .inl (by rw [beq_eq_false_iff_ne]; omega)
        clear hone
        go_enter Try.func82, Try.ntmps82
        go_wp2_with fail
        refine (Hc.out).mono ?_
        rintro e w1 ⟨rfl, hb1⟩
        have H1 := Lib.hid (H.out.ext hb1)
        go_wp2_with fail
        refine (CN.out _ H1.out).mono ?_
        rintro e w2 ⟨v2, rfl, ho, hb2⟩
        have hS := Sl.of_own ho
        obtain ⟨b, off, cap, hv, hbl, c0, c1, c2⟩ := hS.pc hn
        obtain ⟨b', off', cap', hv', hbl', d0, d1, d2⟩ := hS.pc (k := n.length - 1) (by omega)
        subst hv
        obtain ⟨rfl, rfl⟩ : b = b' ∧ off = off' := by injection hv' with e1 e2 e3; injection e1 with e1; injection e1 with e4 e5; exact ⟨e4, e5⟩
        have hlm := hS.len_le
        unfold maxLen at hlm
        have HB := Lib.hid (hb1.trans (hb2.mono hb1.size))
        clear ho hS hv' hb1 hb2
        have hlen1 : (0 : Int) < (n.length : Int) := by omega
        simp only [Nat.zero_mul, Nat.add_zero] at c0 c1 c2
        have Hh := Lib.hid hh; have Hl := Lib.hid hl
        clear hh hl
        generalize n[0] = p at *
        generalize n[n.length - 1] = q at *
        by_cases hp : p.k = 1
        · have hp' : (p.k == 1) = true := by simpa using hp
          have hx : headN n = p.n := by rw [Hh.out, if_pos hp]
          have hg' : ((n.length : Int) == 1) = false := by
            rcases hg with h | h
            · exact h
            · rw [hp'] at h; cases h
          have HX := Lib.hid hx; clear hx hg hp
          by_cases hq : q.k = 1
          · have hq' : (q.k == 1) = true := by simpa using hq
            have hy : lastN n = q.n := by rw [Hl.out, if_pos hq]
            have HY := Lib.hid hy; clear hy hq
            go_wp2
            exact bodyPost_ret (v := exV ⟨p.n, i - q.n, p.n, o - q.n⟩ 0) (by simp [results, Try.f82, go_sem, exV]) rfl ⟨by rw [Fin.out p.n q.n HX.out.symm HY.out.symm], HB.out.alloc HB.out.size _⟩
          · have hq' : (q.k == 1) = false := by simpa using hq
            have hy : lastN n = 0 := by rw [Hl.out, if_neg hq]
            have HY := Lib.hid hy; clear hy hq
            go_wp2
            exact bodyPost_ret (v := exV ⟨p.n, i, p.n, o⟩ 0) (by simp [results, Try.f82, go_sem, exV]) rfl ⟨by rw [Fin.out p.n 0 HX.out.symm HY.out.symm, Int.sub_zero, Int.sub_zero], HB.out.alloc HB.out.size _⟩
        · have hp' : (p.k == 1) = false := by simpa using hp
          have hx : headN n = 0 := by rw [Hh.out, if_neg hp]
          have HX := Lib.hid hx; clear hx hg hp
          by_cases hone' : n.length = 1
          · have hg' : ((n.length : Int) == 1) = true := by rw [beq_iff_eq]; omega
            by_cases hq : q.k = 1
            · have hq' : (q.k == 1) = true := by simpa using hq
              have hy : lastN n = q.n := by rw [Hl.out, if_pos hq]
              have HY := Lib.hid hy; clear hy hq hone'
              go_wp2
              exact bodyPost_ret (v := exV ⟨0, i - q.n, 0, o - q.n⟩ 0) (by simp [results, Try.f82, go_sem, exV]) rfl ⟨by rw [Fin.out 0 q.n HX.out.symm HY.out.symm], HB.out.alloc HB.out.size _⟩
            · have hq' : (q.k == 1) = false := by simpa using hq
              have hy : lastN n = 0 := by rw [Hl.out, if_neg hq]
              have HY := Lib.hid hy; clear hy hq hone'
              go_wp2
              exact bodyPost_ret (v := exV ⟨0, i, 0, o⟩ 0) (by simp [results, Try.f82, go_sem, exV]) rfl ⟨by rw [Fin.out 0 0 HX.out.symm HY.out.symm, Int.sub_zero, Int.sub_zero], HB.out.alloc HB.out.size _⟩
          · have hg' : ((n.length : Int) == 1) = false := by rw [beq_eq_false_iff_ne]; omega
            by_cases hq : q.k = 1
            · have hq' : (q.k == 1) = true := by simpa using hq
              have hy : lastN n = q.n := by rw [Hl.out, if_pos hq]
              have HY := Lib.hid hy; clear hy hq hone'
              go_wp2
              exact bodyPost_ret (v := exV ⟨0, i - q.n, 0, o - q.n⟩ 0) (by simp [results, Try.f82, go_sem, exV]) rfl ⟨by rw [Fin.out 0 q.n HX.out.symm HY.out.symm], HB.out.alloc HB.out.size _⟩
            · have hq' : (q.k == 1) = false := by simpa using hq
              have hy : lastN n = 0 := by rw [Hl.out, if_neg hq]
              have HY := Lib.hid hy; clear hy hq hone'
              go_wp2
              exact bodyPost_ret (v := exV ⟨0, i, 0, o⟩ 0) (by simp [results, Try.f82, go_sem, exV]) rfl ⟨by rw [Fin.out 0 0 HX.out.symm HY.out.symm, Int.sub_zero, Int.sub_zero], HB.out.alloc HB.out.size _⟩
    · have hn0 : n = [] := List.length_eq_zero_iff.1 (by omega)
      have hI := HV'.out (.inl hn0)
      have HI := Lib.hid hI
      subst hn0
      clear hI hn
      go_enter Try.func82, Try.ntmps82
      go_wp2_with fail
      refine (Hc.out).mono ?_
      rintro e w1 ⟨rfl, hb1⟩
      have H1 := Lib.hid (H.out.ext hb1)
      go_wp2_with fail
      refine (CN.out _ H1.out).mono ?_
      rintro e w2 ⟨v2, rfl, ho, hb2⟩
      obtain ⟨A2, c2, rfl, -, -, -⟩ := id (Sl.of_own ho)
      clear ho
      go_wp2
      exact bodyPost_ret (v := exV ⟨i, i, i, i⟩ 0) (by simp [results, Try.f82, go_sem, exV]) rfl ⟨by rw [HI.out], hb1.trans (hb2.mono hb1.size)⟩
  · have hl := lens_err h0
    have hb : (errL l != 0) = true := by simpa using h0
    have hv := extV_err h0
    rw [show lensV l = .tuple #[.int .i64 0, .int .i64 0, .int .i64 (errL l)] by unfold lensV; rw [hl]; rfl] at hc
    generalize errL l = E at *
    have Hc := Lib.hid hc; have HV := Lib.hid hv
    clear hc h hd hl h0 hv
    go_enter Try.func82, Try.ntmps82
    go_wp2_with fail
    refine (Hc.out).mono ?_
    rintro e w1 ⟨rfl, hb1⟩
    go_wp2
    exact bodyPost_ret (v := exV ⟨0, 0, 0, 0⟩ E) (by simp [results, Try.f82, go_sem, exV]) rfl ⟨by rw [HV.out], hb1⟩

end Go.Proofs.Ytdlbjfgpfjcpaaa
