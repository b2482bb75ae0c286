/- quartolaw07.own and known: what they return. Condition: the pieces read as values of their type. -/
import Derived.Test.YtdlbjfgpfjcpaaaDisj
import Derived.Test.YtdlbjfgpfjcpaaaRebase
import Derived.Test.YtdlbjfgpfjcpaaaRef3c
namespace Go.Proofs.Ytdlbjfgpfjcpaaa
open Go.RowKit

set_option maxHeartbeats 1000000 in
set_option maxRecDepth 100000 in
theorem own7_any (v : Value) (l : List Pc) (w : World) (h : Sl pcE w v l) (hl : l.length * 32 ≤ 140737488355328) :
    Calls Try.prog 50 #[v] w fun e w' => ∃ v', e = .returned v' ∧ w'.ownsRow w.heap.size 31 3 v' l.length (pcE.flat l) ∧ Below w.heap.size w w' := by
  obtain ⟨i0, hi, hz0, hz1, hz2⟩ := info_parts infoPiece
  have Hl := Lib.hid hl; clear hl
  obtain ⟨A, cap, rfl, -, -, -⟩ := id h
  go_enter Try.func50, Try.ntmps50
  go_wp2_with (
    at_builtin
    refine wpList_append _ rfl (.tmp 3) (.tmp 4) 22 22 rfl 31 i0 _ 3 32 Try.underlying22 hi hz0 hz1 hz2 rfl (by decide) _ _ _ rfl (World.ownsRow_made w #[] 0 (Nat.zero_le _) (by simp [maxLen]) (by simp)) _ _ _ rfl ((h.alloc _).src Try.underlying22) ?_ ?_ ?_
    · have := Hl.out; unfold maxLen; omega
    · have := Hl.out; omega
    intro A5 c5 w5 hown5 hg5 hat5 _)
  go_ret
  refine ⟨_, rfl, ?_, ((Below.refl _ _).alloc (Nat.le_refl _) _).grown hg5 (by simp) (fun k hk => ?_)⟩
  · have h1 := own_base (B := w.heap.size) hown5 (fun g hg => by
      rcases hat5 with e | e
      · have h9 : some w.heap.size = some g := e.symm.trans hg
        injection h9 with h9
        omega
      · have h9 : some (w.heap.size + 1) = some g := (e.trans (by simp)).symm.trans hg
        injection h9 with h9
        omega)
    simpa using h1
  · have h9 : some w.heap.size = some k := hk
    injection h9 with h9
    omega

theorem sameB_refl (l : List Pc) : sameB l l = true := (sameB_iff l l).2 rfl
theorem sl_fresh (w : World) (l : List Pc) (t : TypeId) (h : l.length ≤ maxLen) : Sl pcE (w.alloc (.cells (pcE.flat l).toArray t)) (.slice (some ⟨w.heap.size, 0, none⟩) l.length l.length) l := by
  refine ⟨_, _, rfl, Nat.le_refl _, h, fun _ => ⟨_, _, rfl, by simp, fun i j x u hx hu => ?_⟩⟩
  rw [Lib.cell_of_heap (heap_alloc_new w _), Nat.zero_add]
  simpa using pcE.flat_at l i j x u hx hu
theorem sll_fresh {w : World} (vs : List SV) (L : List (List Pc)) (t : TypeId) (hl : vs.length = L.length) (hm : vs.length ≤ maxLen) (h : ∀ (i : Nat) (x : SV) (l : List Pc), vs[i]? = some x → L[i]? = some l → Sl pcE w x.v l) :
    Sll (w.alloc (.cells (vs.map SV.v).toArray t)) (.slice (some ⟨w.heap.size, 0, none⟩) vs.length vs.length) L := by
  refine ⟨vs, ⟨_, _, rfl, Nat.le_refl _, hm, fun _ => ⟨_, _, rfl, by simp, fun i j x u hx hu => ?_⟩⟩, hl, fun i x l hx hl => (h i x l hx hl).alloc _⟩
  rw [Lib.cell_of_heap (heap_alloc_new w _), Nat.zero_add]
  have hj : j = 0 := by
    have := (List.getElem?_eq_some_iff.1 hu).1
    simp [svE] at this
    omega
  subst hj
  simp only [svE, List.getElem?_cons_zero, Option.some.injEq] at hu
  subst hu
  simp [svE, hx]
theorem sll_one {w : World} {A : Option Addr} {c : Nat} {a : List Pc} (t : TypeId) (ha : Sl pcE w (.slice A a.length c) a) :
    Sll (w.alloc (.cells #[.slice A a.length c] t)) (.slice (some ⟨w.heap.size, 0, none⟩) 1 1) [a] := by
  refine sll_fresh [⟨A, a.length, c⟩] [a] t rfl (by simp [maxLen]) fun i x l hx hl => ?_
  match i with
  | 0 => simp at hx hl; subst hx hl; exact ha
  | n + 1 => simp at hx


def a7 : List Pc := [⟨1, 1, []⟩, ⟨2, 0, [65]⟩, ⟨1, 2, []⟩]
def b7 : List Pc := [⟨1, 1, []⟩, ⟨2, 0, [66]⟩, ⟨3, 1, []⟩, ⟨1, 1, []⟩]
def d7 : List Pc := [⟨1, 2, []⟩, ⟨2, 0, [66]⟩, ⟨3, 1, []⟩, ⟨1, 1, []⟩]
def g7 : List Pc := [⟨1, 1, []⟩, ⟨2, 0, [66]⟩, ⟨1, 1, []⟩, ⟨3, 1, []⟩, ⟨1, 1, []⟩]
def m7 : List Pc := [⟨1, 1, []⟩, ⟨2, 0, [65, 66]⟩, ⟨3, 1, []⟩, ⟨1, 1, []⟩]
def r7 : List Pc := [⟨2, 0, [100]⟩, ⟨1, 1, []⟩]
def u7 : List Pc := [⟨2, 0, [119]⟩, ⟨3, 1, []⟩]
def s7 : List Pc := [⟨1, 1, []⟩, ⟨2, 0, [100]⟩]
theorem wf_a7 : ∀ p, p ∈ a7 → p.wf := wf_of_err (by decide)
theorem wf_b7 : ∀ p, p ∈ b7 → p.wf := wf_of_err (by decide)
theorem wf_d7 : ∀ p, p ∈ d7 → p.wf := wf_of_err (by decide)
theorem wf_r7 : ∀ p, p ∈ r7 → p.wf := wf_of_err (by decide)
theorem wf_u7 : ∀ p, p ∈ u7 → p.wf := wf_of_err (by decide)
theorem t1 : trE true a7 b7 = 0 := by decide
theorem t3 : trE false a7 b7 = 0 := by decide
theorem t5 : tpE a7 b7 = 0 := by decide
theorem t8 : merE a7 b7 = 0 := by decide
theorem t10 : trE true a7 d7 = 21 := by decide
theorem t11 : prE a7 b7 = 0 := by decide
theorem t12 : disB a7 b7 = false := by decide
theorem t13 : rebE r7 [u7] = 0 := by decide
theorem t2 : trR true a7 b7 = d7 := (sameB_iff _ _).1 (by decide)
theorem t4 : trR false a7 b7 = g7 := (sameB_iff _ _).1 (by decide)
theorem t6 : tpA a7 b7 = a7 := (sameB_iff _ _).1 (by decide)
theorem t7 : tpB a7 b7 = d7 := (sameB_iff _ _).1 (by decide)
theorem t9 : merR a7 b7 = m7 := (sameB_iff _ _).1 (by decide)
theorem t14 : rebR r7 [u7] = s7 := (sameB_iff _ _).1 (by decide)

theorem kT1 (v u : Value) (w : World) (h : Sl pcE w v a7) (k : Sl pcE w u b7) :
    Calls Try.prog 52 #[v, u, .bool true] w fun e w' => ∃ v', e = .returned (.tuple #[v', .int .i64 0]) ∧ Sl pcE w' v' d7 ∧ Below w.heap.size w w' := by
  have := transform_any v u a7 b7 true w h k wf_a7 wf_b7
  rw [t1, t2] at this
  exact this.mono fun e w' ⟨v', a, b, c⟩ => ⟨v', a, Sl.of_own b, c⟩
theorem kT2 (v u : Value) (w : World) (h : Sl pcE w v a7) (k : Sl pcE w u b7) :
    Calls Try.prog 52 #[v, u, .bool false] w fun e w' => ∃ v', e = .returned (.tuple #[v', .int .i64 0]) ∧ Sl pcE w' v' g7 ∧ Below w.heap.size w w' := by
  have := transform_any v u a7 b7 false w h k wf_a7 wf_b7
  rw [t3, t4] at this
  exact this.mono fun e w' ⟨v', a, b, c⟩ => ⟨v', a, Sl.of_own b, c⟩
theorem kP (v u : Value) (w : World) (h : Sl pcE w v a7) (k : Sl pcE w u b7) :
    Calls Try.prog 53 #[v, u] w fun e w' => ∃ v' u', e = .returned (.tuple #[v', u', .int .i64 0]) ∧ Sl pcE w' v' a7 ∧ Sl pcE w' u' d7 ∧ Below w.heap.size w w' := by
  have := tpair_any v u a7 b7 w h k wf_a7 wf_b7
  rw [t5, t6, t7] at this
  exact this.mono fun e w' ⟨v', u', a, b, c, d⟩ => ⟨v', u', a, Sl.of_own b, Sl.of_own c, d⟩
theorem kM (v u : Value) (w : World) (h : Sl pcE w v a7) (k : Sl pcE w u b7) :
    Calls Try.prog 55 #[v, u] w fun e w' => ∃ v', e = .returned (.tuple #[v', .int .i64 0]) ∧ Sl pcE w' v' m7 ∧ Below w.heap.size w w' := by
  have := merge_any v u a7 b7 w h k wf_a7 wf_b7
  rw [t8, t9] at this
  exact this.mono fun e w' ⟨v', a, b, c⟩ => ⟨v', a, Sl.of_own b, c⟩
theorem kT3 (v u : Value) (w : World) (h : Sl pcE w v a7) (k : Sl pcE w u d7) :
    Calls Try.prog 52 #[v, u, .bool true] w fun e w' => ∃ v', e = .returned (.tuple #[v', .int .i64 21]) ∧ Below w.heap.size w w' := by
  have := transform_any v u a7 d7 true w h k wf_a7 wf_d7
  rw [t10] at this
  exact this.mono fun e w' ⟨v', a, b, c⟩ => ⟨v', a, c⟩
theorem kD (v u : Value) (w : World) (h : Sl pcE w v a7) (k : Sl pcE w u b7) :
    Calls Try.prog 59 #[v, u] w fun e w' => e = .returned (.tuple #[.bool false, .int .i64 0]) ∧ Below w.heap.size w w' := by
  have := disj_any v u a7 b7 w h k wf_a7 wf_b7
  rw [t11, t12] at this
  exact this
theorem kR (v u : Value) (w : World) (h : Sl pcE w v r7) (k : Sll w u [u7]) :
    Calls Try.prog 57 #[v, u] w fun e w' => ∃ v', e = .returned (.tuple #[v', .int .i64 0]) ∧ Sl pcE w' v' s7 ∧ Below w.heap.size w w' := by
  have := rebase_any v r7 u [u7] w h wf_r7 k (fun l hl => by rw [List.mem_singleton.1 hl]; exact wf_u7) (by decide)
  rw [t13, t14] at this
  exact this.mono fun e w' ⟨v', a, b, c⟩ => ⟨v', a, Sl.of_own b, c⟩
theorem kSame7 (v u : Value) (l : List Pc) (w : World) (h : Sl pcE w v l) (k : Sl pcE w u l) :
    Calls Try.prog 29 #[v, u] w fun e w' => e = .returned (.bool true) ∧ Below w.heap.size w w' := by
  have := same_any v u l l w h k
  rw [sameB_refl] at this
  exact this

set_option maxHeartbeats 8000000 in
set_option maxRecDepth 100000 in
theorem known7_any (w : World) :
    Calls Try.prog 49 #[] w fun e w' => e = .returned (.bool true) ∧ Below w.heap.size w w' := by
  have A0 := Lib.hid ((sl_fresh w a7 31 (by decide)).alloc (.cells (pcE.flat b7).toArray 31))
  have B0 := Lib.hid (sl_fresh (w.alloc (.cells (pcE.flat a7).toArray 31)) b7 31 (by decide))
  have L0 := Lib.hid (((Below.refl w.heap.size w).alloc (Nat.le_refl _) (.cells (pcE.flat a7).toArray 31)).alloc (by simp) (.cells (pcE.flat b7).toArray 31))
  rw [World.size_alloc] at B0
  go_enter Try.func49, Try.ntmps49
  go_wp2_with fail
  refine (kT1 _ _ _ A0.out B0.out).mono ?_
  rintro e w1 ⟨v1, rfl, hv, hb⟩
  have A1 := Lib.hid (A0.out.ext hb)
  have B1 := Lib.hid (B0.out.ext hb)
  have L1 := Lib.hid (L0.out.trans (hb.mono L0.out.size))
  obtain ⟨SD, cD, hvD, hlD, hmD, -⟩ := id hv
  have D1 := Lib.hid hv
  subst hvD
  simp only [show d7.length = 4 from rfl] at *
  clear hb hv A0 B0 L0
  go_wp2_with fail
  refine (kT2 _ _ _ A1.out B1.out).mono ?_
  rintro e w2 ⟨v1, rfl, hv, hb⟩
  have A2 := Lib.hid (A1.out.ext hb)
  have B2 := Lib.hid (B1.out.ext hb)
  have D2 := Lib.hid (D1.out.ext hb)
  have L2 := Lib.hid (L1.out.trans (hb.mono L1.out.size))
  obtain ⟨SG, cG, hvG, hlG, hmG, -⟩ := id hv
  have G2 := Lib.hid hv
  subst hvG
  simp only [show g7.length = 5 from rfl] at *
  clear hb hv A1 B1 D1 L1
  go_wp2_with fail
  refine (kP _ _ _ A2.out B2.out).mono ?_
  rintro e w3 ⟨v1, v2, rfl, hv, hu, hb⟩
  have A3 := Lib.hid (A2.out.ext hb)
  have B3 := Lib.hid (B2.out.ext hb)
  have D3 := Lib.hid (D2.out.ext hb)
  have G3 := Lib.hid (G2.out.ext hb)
  have L3 := Lib.hid (L2.out.trans (hb.mono L2.out.size))
  obtain ⟨SP, cP, hvP, hlP, hmP, -⟩ := id hv
  have P3 := Lib.hid hv
  subst hvP
  simp only [show a7.length = 3 from rfl] at *
  obtain ⟨SQ, cQ, hvQ, hlQ, hmQ, -⟩ := id hu
  have Q3 := Lib.hid hu
  subst hvQ
  simp only [show d7.length = 4 from rfl] at *
  clear hb hv hu A2 B2 D2 G2 L2
  go_wp2_with fail
  refine (kM _ _ _ A3.out B3.out).mono ?_
  rintro e w4 ⟨v1, rfl, hv, hb⟩
  have A4 := Lib.hid (A3.out.ext hb)
  have B4 := Lib.hid (B3.out.ext hb)
  have D4 := Lib.hid (D3.out.ext hb)
  have G4 := Lib.hid (G3.out.ext hb)
  have P4 := Lib.hid (P3.out.ext hb)
  have Q4 := Lib.hid (Q3.out.ext hb)
  have L4 := Lib.hid (L3.out.trans (hb.mono L3.out.size))
  obtain ⟨SM, cM, hvM, hlM, hmM, -⟩ := id hv
  have M4 := Lib.hid hv
  subst hvM
  simp only [show m7.length = 4 from rfl] at *
  clear hb hv A3 B3 D3 G3 P3 Q3 L3
  go_wp2_with fail
  refine (kT3 _ _ _ A4.out D4.out).mono ?_
  rintro e w5 ⟨v1, rfl, hb⟩
  have A5 := Lib.hid (A4.out.ext hb)
  have B5 := Lib.hid (B4.out.ext hb)
  have D5 := Lib.hid (D4.out.ext hb)
  have G5 := Lib.hid (G4.out.ext hb)
  have P5 := Lib.hid (P4.out.ext hb)
  have Q5 := Lib.hid (Q4.out.ext hb)
  have M5 := Lib.hid (M4.out.ext hb)
  have L5 := Lib.hid (L4.out.trans (hb.mono L4.out.size))
  clear hb  A4 B4 D4 G4 P4 Q4 M4 L4
  go_wp2_with fail
  refine (kD _ _ _ A5.out B5.out).mono ?_
  rintro e w6 ⟨rfl, hb⟩
  have A6 := Lib.hid (A5.out.ext hb)
  have B6 := Lib.hid (B5.out.ext hb)
  have D6 := Lib.hid (D5.out.ext hb)
  have G6 := Lib.hid (G5.out.ext hb)
  have P6 := Lib.hid (P5.out.ext hb)
  have Q6 := Lib.hid (Q5.out.ext hb)
  have M6 := Lib.hid (M5.out.ext hb)
  have L6 := Lib.hid (L5.out.trans (hb.mono L5.out.size))
  clear hb  A5 B5 D5 G5 P5 Q5 M5 L5
  have R0 := Lib.hid (((sl_fresh w6 r7 31 (by decide)).alloc (.cells (pcE.flat u7).toArray 31)).alloc (.cells #[.slice (some ⟨w6.heap.size + 1, 0, none⟩) 2 2] 22))
  have U0 := sl_fresh (w6.alloc (.cells (pcE.flat r7).toArray 31)) u7 31 (by decide)
  rw [World.size_alloc] at U0
  have V0 := Lib.hid (sll_one 22 U0)
  simp only [show r7.length = 2 from rfl, show u7.length = 2 from rfl, World.size_alloc] at R0 V0
  clear U0
  have Az := Lib.hid (((A6.out.alloc (.cells (pcE.flat r7).toArray 31)).alloc (.cells (pcE.flat u7).toArray 31)).alloc (.cells #[.slice (some ⟨w6.heap.size + 1, 0, none⟩) 2 2] 22))
  have Bz := Lib.hid (((B6.out.alloc (.cells (pcE.flat r7).toArray 31)).alloc (.cells (pcE.flat u7).toArray 31)).alloc (.cells #[.slice (some ⟨w6.heap.size + 1, 0, none⟩) 2 2] 22))
  have Dz := Lib.hid (((D6.out.alloc (.cells (pcE.flat r7).toArray 31)).alloc (.cells (pcE.flat u7).toArray 31)).alloc (.cells #[.slice (some ⟨w6.heap.size + 1, 0, none⟩) 2 2] 22))
  have Gz := Lib.hid (((G6.out.alloc (.cells (pcE.flat r7).toArray 31)).alloc (.cells (pcE.flat u7).toArray 31)).alloc (.cells #[.slice (some ⟨w6.heap.size + 1, 0, none⟩) 2 2] 22))
  have Pz := Lib.hid (((P6.out.alloc (.cells (pcE.flat r7).toArray 31)).alloc (.cells (pcE.flat u7).toArray 31)).alloc (.cells #[.slice (some ⟨w6.heap.size + 1, 0, none⟩) 2 2] 22))
  have Qz := Lib.hid (((Q6.out.alloc (.cells (pcE.flat r7).toArray 31)).alloc (.cells (pcE.flat u7).toArray 31)).alloc (.cells #[.slice (some ⟨w6.heap.size + 1, 0, none⟩) 2 2] 22))
  have Mz := Lib.hid (((M6.out.alloc (.cells (pcE.flat r7).toArray 31)).alloc (.cells (pcE.flat u7).toArray 31)).alloc (.cells #[.slice (some ⟨w6.heap.size + 1, 0, none⟩) 2 2] 22))
  have Lz := Lib.hid (((L6.out.alloc L6.out.size (.cells (pcE.flat r7).toArray 31)).alloc (by have := L6.out.size; simp; omega) (.cells (pcE.flat u7).toArray 31)).alloc (by have := L6.out.size; simp; omega) (.cells #[.slice (some ⟨w6.heap.size + 1, 0, none⟩) 2 2] 22))
  clear A6 B6 D6 G6 P6 Q6 M6 L6
  go_wp2_with fail
  refine (kR _ _ _ R0.out V0.out).mono ?_
  rintro e w7 ⟨v1, rfl, hv, hb⟩
  have A7 := Lib.hid (Az.out.ext hb)
  have B7 := Lib.hid (Bz.out.ext hb)
  have D7 := Lib.hid (Dz.out.ext hb)
  have G7 := Lib.hid (Gz.out.ext hb)
  have P7 := Lib.hid (Pz.out.ext hb)
  have Q7 := Lib.hid (Qz.out.ext hb)
  have M7 := Lib.hid (Mz.out.ext hb)
  have L7 := Lib.hid (Lz.out.trans (hb.mono Lz.out.size))
  obtain ⟨ST, cT, hvT, hlT, hmT, -⟩ := id hv
  have T7 := Lib.hid hv
  subst hvT
  simp only [show s7.length = 2 from rfl] at *
  clear hb hv Az Bz Dz Gz Pz Qz Mz Lz
  clear R0 V0
  obtain ⟨bd, od, pd, qd, ld, d00, d01, d02⟩ := D7.out.pc (k := 0) (by decide)
  obtain ⟨be, oe, pe, qe, le, d10, d11, d12⟩ := D7.out.pc (k := 1) (by decide)
  obtain ⟨rfl, rfl⟩ : SD = some ⟨bd, od, none⟩ ∧ cD = pd := by injection qd with e1 e2 e3; exact ⟨e1, e3⟩
  obtain ⟨rfl, rfl⟩ : bd = be ∧ od = oe := by injection qe with e1 e2 e3; injection e1 with e1; injection e1 with e4 e5; exact ⟨e4, e5⟩
  obtain ⟨bg, og, pg, qg, lg, g10, g11, g12⟩ := G7.out.pc (k := 1) (by decide)
  obtain ⟨rfl, rfl⟩ : SG = some ⟨bg, og, none⟩ ∧ cG = pg := by injection qg with e1 e2 e3; exact ⟨e1, e3⟩
  clear qd qe qg
  simp only [d7, g7, List.getElem_cons_succ, List.getElem_cons_zero, Nat.one_mul, Nat.zero_mul, Nat.add_zero] at d00 d01 d02 d10 d11 d12 g10 g11 g12
  unfold maxLen at *
  go_wp2_with fail
  refine (kSame7 _ _ _ _ P7.out A7.out).mono ?_
  rintro e w8 ⟨rfl, hb⟩
  have A8 := Lib.hid (A7.out.ext hb)
  have B8 := Lib.hid (B7.out.ext hb)
  have D8 := Lib.hid (D7.out.ext hb)
  have G8 := Lib.hid (G7.out.ext hb)
  have P8 := Lib.hid (P7.out.ext hb)
  have Q8 := Lib.hid (Q7.out.ext hb)
  have M8 := Lib.hid (M7.out.ext hb)
  have T8 := Lib.hid (T7.out.ext hb)
  have L8 := Lib.hid (L7.out.trans (hb.mono L7.out.size))
  clear hb A7 B7 D7 G7 P7 Q7 M7 T7 L7
  clear d00 d01 d02 d10 d11 d12 g10 g11 g12
  go_wp2_with fail
  refine (kSame7 _ _ _ _ Q8.out D8.out).mono ?_
  rintro e w9 ⟨rfl, hb⟩
  have A9 := Lib.hid (A8.out.ext hb)
  have B9 := Lib.hid (B8.out.ext hb)
  have D9 := Lib.hid (D8.out.ext hb)
  have G9 := Lib.hid (G8.out.ext hb)
  have P9 := Lib.hid (P8.out.ext hb)
  have Q9 := Lib.hid (Q8.out.ext hb)
  have M9 := Lib.hid (M8.out.ext hb)
  have T9 := Lib.hid (T8.out.ext hb)
  have L9 := Lib.hid (L8.out.trans (hb.mono L8.out.size))
  clear hb A8 B8 D8 G8 P8 Q8 M8 T8 L8
  obtain ⟨bm, om, pm, qm, lm, m10, m11, m12⟩ := M9.out.pc (k := 1) (by decide)
  obtain ⟨rfl, rfl⟩ : SM = some ⟨bm, om, none⟩ ∧ cM = pm := by injection qm with e1 e2 e3; exact ⟨e1, e3⟩
  obtain ⟨bt, ot, pt, qt, lt, t10, t11, t12⟩ := T9.out.pc (k := 1) (by decide)
  obtain ⟨rfl, rfl⟩ : ST = some ⟨bt, ot, none⟩ ∧ cT = pt := by injection qt with e1 e2 e3; exact ⟨e1, e3⟩
  clear qm qt
  simp only [m7, s7, List.getElem_cons_succ, List.getElem_cons_zero, Nat.one_mul] at m10 m11 m12 t10 t11 t12
  clear A9 B9 D9 G9 P9 Q9 M9 T9
  go_wp2
  go_ret
  exact ⟨rfl, L9.out⟩

end Go.Proofs.Ytdlbjfgpfjcpaaa
