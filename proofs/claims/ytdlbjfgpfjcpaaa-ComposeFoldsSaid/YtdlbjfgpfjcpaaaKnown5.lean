/- quartolaw05.own and known: what they return. Condition: the pieces read as values of their type. -/
import Derived.Test.YtdlbjfgpfjcpaaaSplit
import Derived.Test.YtdlbjfgpfjcpaaaRef3c
namespace Go.Proofs.Ytdlbjfgpfjcpaaa
open Go.RowKit

set_option maxHeartbeats 1000000 in
set_option maxRecDepth 100000 in
theorem own5_any (v : Value) (l : List Pc) (w : World) (h : Sl pcE w v l) (hl : l.length * 32 ≤ 140737488355328) :
    Calls Try.prog 24 #[v] w fun e w' => ∃ v', e = .returned v' ∧ w'.ownsRow w.heap.size 31 3 v' l.length (pcE.flat l) ∧ Below w.heap.size w w' := by
  obtain ⟨i0, hi, hz0, hz1, hz2⟩ := info_parts infoPiece
  have Hl := Lib.hid hl; clear hl
  obtain ⟨A, cap, rfl, -, -, -⟩ := id h
  go_enter Try.func24, Try.ntmps24
  go_wp2_with (
    at_builtin
    refine wpList_append _ rfl (.tmp 3) (.tmp 4) 22 22 rfl 31 i0 _ 3 32 Try.underlying22 hi hz0 hz1 hz2 rfl (by decide) _ _ _ rfl (World.ownsRow_made w #[] 0 (Nat.zero_le _) (by simp [maxLen]) (by simp)) _ _ _ rfl ((h.alloc _).src Try.underlying22) ?_ ?_ ?_
    · have := Hl.out; unfold maxLen; omega
    · have := Hl.out; omega
    intro A5 c5 w5 hown5 hg5 hat5 _)
  go_ret
  refine ⟨_, rfl, ?_, ((Below.refl _ _).alloc (Nat.le_refl _) _).grown hg5 (by simp) (fun k hk => ?_)⟩
  · have h1 := own_base (B := w.heap.size) hown5 (fun g hg => by
      rcases hat5 with e | e
      · have h9 : some w.heap.size = some g := e.symm.trans hg
        injection h9 with h9
        omega
      · have h9 : some (w.heap.size + 1) = some g := (e.trans (by simp)).symm.trans hg
        injection h9 with h9
        omega)
    simpa using h1
  · have h9 : some w.heap.size = some k := hk
    injection h9 with h9
    omega

theorem sameB_refl (l : List Pc) : sameB l l = true := (sameB_iff l l).2 rfl
theorem sl_fresh (w : World) (l : List Pc) (t : TypeId) (h : l.length ≤ maxLen) : Sl pcE (w.alloc (.cells (pcE.flat l).toArray t)) (.slice (some ⟨w.heap.size, 0, none⟩) l.length l.length) l := by
  refine ⟨_, _, rfl, Nat.le_refl _, h, fun _ => ⟨_, _, rfl, by simp, fun i j x u hx hu => ?_⟩⟩
  rw [Lib.cell_of_heap (heap_alloc_new w _), Nat.zero_add]
  simpa using pcE.flat_at l i j x u hx hu
theorem sll_fresh {w : World} (vs : List SV) (L : List (List Pc)) (t : TypeId) (hl : vs.length = L.length) (hm : vs.length ≤ maxLen) (h : ∀ (i : Nat) (x : SV) (l : List Pc), vs[i]? = some x → L[i]? = some l → Sl pcE w x.v l) :
    Sll (w.alloc (.cells (vs.map SV.v).toArray t)) (.slice (some ⟨w.heap.size, 0, none⟩) vs.length vs.length) L := by
  refine ⟨vs, ⟨_, _, rfl, Nat.le_refl _, hm, fun _ => ⟨_, _, rfl, by simp, fun i j x u hx hu => ?_⟩⟩, hl, fun i x l hx hl => (h i x l hx hl).alloc _⟩
  rw [Lib.cell_of_heap (heap_alloc_new w _), Nat.zero_add]
  have hj : j = 0 := by
    have := (List.getElem?_eq_some_iff.1 hu).1
    simp [svE] at this
    omega
  subst hj
  simp only [svE, List.getElem?_cons_zero, Option.some.injEq] at hu
  subst hu
  simp [svE, hx]
theorem sll_two {w : World} {A B : Option Addr} {c d : Nat} {a b : List Pc} (t : TypeId) (ha : Sl pcE w (.slice A a.length c) a) (hb : Sl pcE w (.slice B b.length d) b) :
    Sll (w.alloc (.cells #[.slice A a.length c, .slice B b.length d] t)) (.slice (some ⟨w.heap.size, 0, none⟩) 2 2) [a, b] := by
  refine sll_fresh [⟨A, a.length, c⟩, ⟨B, b.length, d⟩] [a, b] t rfl (by simp [maxLen]) fun i x l hx hl => ?_
  match i with
  | 0 => simp at hx hl; subst hx hl; exact ha
  | 1 => simp at hx hl; subst hx hl; exact hb
  | n + 2 => simp at hx

def aC : List Pc := [⟨1, 1, []⟩, ⟨2, 0, [120, 121]⟩, ⟨1, 1, []⟩]
def bC : List Pc := [⟨1, 2, []⟩, ⟨3, 1, []⟩, ⟨1, 1, []⟩]
def dC : List Pc := [⟨1, 1, []⟩, ⟨2, 0, [120]⟩, ⟨1, 1, []⟩]
def sC : List Pc := [⟨1, 1, []⟩, ⟨2, 0, [120]⟩, ⟨3, 2, []⟩]
def xC : List Pc := [⟨1, 1, []⟩, ⟨2, 0, [120]⟩, ⟨1, 2, []⟩]
def yC : List Pc := [⟨1, 2, []⟩, ⟨3, 2, []⟩]
theorem wfA : ∀ p, p ∈ aC → p.wf := wf_of_err (by decide)
theorem wfB : ∀ p, p ∈ bC → p.wf := wf_of_err (by decide)
theorem wfS : ∀ p, p ∈ sC → p.wf := wf_of_err (by decide)
theorem j1 : cmpE aC bC = 0 := by decide
theorem j2 : cmpR aC bC = dC := (sameB_iff _ _).1 (by decide)
theorem j3 : cmpE bC bC = 21 := by decide
theorem j4 : allE 2 [aC, bC] = 0 := by decide
theorem j5 : allR 2 [aC, bC] = dC := (sameB_iff _ _).1 (by decide)
theorem j6 : normS (splX sC) = xC := (sameB_iff _ _).1 (by decide)
theorem j7 : normS (splY sC) = yC := (sameB_iff _ _).1 (by decide)
theorem j8 : fitB aC bC = true := by decide
theorem j9 : fitB bC bC = false := by decide

theorem kComp (v u : Value) (w : World) (h : Sl pcE w v aC) (k : Sl pcE w u bC) :
    Calls Try.prog 28 #[v, u] w fun e w' => ∃ v', e = .returned (.tuple #[v', .int .i64 0]) ∧ Sl pcE w' v' dC ∧ Below w.heap.size w w' := by
  have := compose_any v u aC bC w h k wfA wfB
  rw [j1, j2] at this
  exact this.mono fun e w' ⟨v', a, b, c⟩ => ⟨v', a, Sl.of_own b, c⟩
theorem kComp2 (v : Value) (w : World) (k : Sl pcE w v bC) :
    Calls Try.prog 28 #[v, v] w fun e w' => ∃ v', e = .returned (.tuple #[v', .int .i64 21]) ∧ Below w.heap.size w w' := by
  have := compose_any v v bC bC w k k wfB wfB
  rw [j3] at this
  exact this.mono fun e w' ⟨v', a, b, c⟩ => ⟨v', a, c⟩
theorem kAll (v : Value) (w : World) (h : Sll w v [aC, bC]) :
    Calls Try.prog 31 #[.int .i64 2, v] w fun e w' => ∃ v', e = .returned (.tuple #[v', .int .i64 0]) ∧ Sl pcE w' v' dC ∧ Below w.heap.size w w' := by
  have := all_any 2 v [aC, bC] w h (fun l hl => by
    rcases List.mem_cons.1 hl with rfl | hl
    · exact wfA
    · rw [List.mem_singleton.1 hl]; exact wfB) (by decide)
  rw [j4, j5] at this
  exact this.mono fun e w' ⟨v', a, b, c⟩ => ⟨v', a, Sl.of_own b, c⟩
theorem kSplit (v : Value) (w : World) (h : Sl pcE w v sC) :
    Calls Try.prog 33 #[v] w fun e w' => ∃ x y, e = .returned (.tuple #[x, y, .int .i64 0]) ∧ Sl pcE w' x xC ∧ Sl pcE w' y yC ∧ Below w.heap.size w w' := by
  have := split_ok v sC w h wfS (by decide) (by decide)
  rw [j6, j7] at this
  exact this.mono fun e w' ⟨x, y, a, b, c, d⟩ => ⟨x, y, a, Sl.of_own b, Sl.of_own c, d⟩
theorem kSame (v u : Value) (w : World) (h : Sl pcE w v dC) (k : Sl pcE w u dC) :
    Calls Try.prog 29 #[v, u] w fun e w' => e = .returned (.bool true) ∧ Below w.heap.size w w' := by
  have := same_any v u dC dC w h k
  rw [sameB_refl] at this
  exact this
theorem kFits (v u : Value) (w : World) (h : Sl pcE w v aC) (k : Sl pcE w u bC) :
    Calls Try.prog 26 #[v, u] w fun e w' => e = .returned (.bool true) ∧ Below w.heap.size w w' := by
  have := cfits_any v u aC bC w h k wfA wfB
  rw [j8] at this
  exact this
theorem kFits2 (v : Value) (w : World) (k : Sl pcE w v bC) :
    Calls Try.prog 26 #[v, v] w fun e w' => e = .returned (.bool false) ∧ Below w.heap.size w w' := by
  have := cfits_any v v bC bC w k k wfB wfB
  rw [j9] at this
  exact this

set_option maxHeartbeats 8000000 in
set_option maxRecDepth 100000 in
theorem known5_any (w : World) :
    Calls Try.prog 23 #[] w fun e w' => e = .returned (.bool true) ∧ Below w.heap.size w w' := by
  have A0 := Lib.hid ((sl_fresh w aC 31 (by decide)).alloc (.cells (pcE.flat bC).toArray 31))
  have B0 := Lib.hid (sl_fresh (w.alloc (.cells (pcE.flat aC).toArray 31)) bC 31 (by decide))
  have L0 := Lib.hid (((Below.refl w.heap.size w).alloc (Nat.le_refl _) (.cells (pcE.flat aC).toArray 31)).alloc (by simp) (.cells (pcE.flat bC).toArray 31))
  rw [World.size_alloc] at B0
  go_enter Try.func23, Try.ntmps23
  go_wp2_with fail
  refine (kComp _ _ _ A0.out B0.out).mono ?_
  rintro e w1 ⟨v1, rfl, hv, hb⟩
  obtain ⟨A1, c1, hv1, hl1, hm1, -⟩ := id hv
  have D1 := Lib.hid hv
  have A1' := Lib.hid (A0.out.ext hb); have B1' := Lib.hid (B0.out.ext hb); have L1 := Lib.hid (L0.out.trans (hb.mono L0.out.size))
  subst hv1
  simp only [show dC.length = 3 from rfl] at *
  clear hb hv A0 B0 L0
  go_wp2_with fail
  refine (kComp2 _ _ B1'.out).mono ?_
  rintro e w2 ⟨v2, rfl, hb⟩
  have A2 := Lib.hid (A1'.out.ext hb); have B2 := Lib.hid (B1'.out.ext hb); have D2 := Lib.hid (D1.out.ext hb); have L2 := Lib.hid (L1.out.trans (hb.mono L1.out.size))
  clear hb A1' B1' D1 L1
  have SL := Lib.hid (sll_two 22 A2.out B2.out)
  have A3 := Lib.hid (A2.out.alloc (.cells #[.slice (some ⟨w.heap.size, 0, none⟩) 3 3, .slice (some ⟨w.heap.size + 1, 0, none⟩) 3 3] 22)); have B3 := Lib.hid (B2.out.alloc (.cells #[.slice (some ⟨w.heap.size, 0, none⟩) 3 3, .slice (some ⟨w.heap.size + 1, 0, none⟩) 3 3] 22)); have D3 := Lib.hid (D2.out.alloc (.cells #[.slice (some ⟨w.heap.size, 0, none⟩) 3 3, .slice (some ⟨w.heap.size + 1, 0, none⟩) 3 3] 22)); have L3 := Lib.hid (L2.out.alloc L2.out.size (.cells #[.slice (some ⟨w.heap.size, 0, none⟩) 3 3, .slice (some ⟨w.heap.size + 1, 0, none⟩) 3 3] 22))
  clear A2 B2 D2 L2
  go_wp2_with fail
  refine (kAll _ _ SL.out).mono ?_
  rintro e w3 ⟨v3, rfl, hv, hb⟩
  obtain ⟨A4, c4, hv4, hl4, hm4, -⟩ := id hv
  have E3 := Lib.hid (hv.alloc (.cells (pcE.flat sC).toArray 31))
  have A5 := Lib.hid ((A3.out.ext hb).alloc (.cells (pcE.flat sC).toArray 31)); have B5 := Lib.hid ((B3.out.ext hb).alloc (.cells (pcE.flat sC).toArray 31)); have D5 := Lib.hid ((D3.out.ext hb).alloc (.cells (pcE.flat sC).toArray 31)); have L4 := Lib.hid (L3.out.trans (hb.mono L3.out.size))
  have L5 := Lib.hid (L4.out.alloc L4.out.size (.cells (pcE.flat sC).toArray 31))
  have S5 := Lib.hid (sl_fresh w3 sC 31 (by decide))
  subst hv4
  simp only [show dC.length = 3 from rfl] at *
  clear hb hv A3 B3 D3 L3 L4 SL
  go_wp2_with fail
  refine (kSplit _ _ S5.out).mono ?_
  rintro e w6 ⟨vx, vy, rfl, hx, hy, hb⟩
  obtain ⟨A7, c7, hv7, hl7, hm7, -⟩ := id hx
  obtain ⟨A8, c8, hv8, hl8, hm8, -⟩ := id hy
  have A6 := Lib.hid (A5.out.ext hb); have B6 := Lib.hid (B5.out.ext hb); have D6 := Lib.hid (D5.out.ext hb); have E6 := Lib.hid (E3.out.ext hb); have L6 := Lib.hid (L5.out.trans (hb.mono L5.out.size))
  have X6 := Lib.hid hx; have Y6 := Lib.hid hy
  subst hv7 hv8
  simp only [show xC.length = 3 from rfl, show yC.length = 2 from rfl] at *
  clear hb hx hy A5 B5 D5 E3 L5 S5
  obtain ⟨b, off, cap, hv, hbl, m0, m1, m2⟩ := D6.out.pc (k := 1) (by decide)
  obtain ⟨b', off', cap', hv', hbl', n0, n1, n2⟩ := D6.out.pc (k := 2) (by decide)
  obtain ⟨rfl, rfl⟩ : A1 = some ⟨b, off, none⟩ ∧ c1 = cap := by injection hv with e1 e2 e3; exact ⟨e1, e3⟩
  obtain ⟨rfl, rfl⟩ : b = b' ∧ off = off' := by injection hv' with e1 e2 e3; injection e1 with e1; injection e1 with e4 e5; exact ⟨e4, e5⟩
  clear hv hv'
  simp only [dC, List.getElem_cons_succ, List.getElem_cons_zero, Nat.one_mul, Nat.reduceMul] at m0 m1 m2 n0 n1 n2
  unfold maxLen at *
  go_wp2_with fail
  refine (kSame _ _ _ E6.out D6.out).mono ?_
  rintro e w7 ⟨rfl, hb⟩
  have A9 := Lib.hid (A6.out.ext hb); have B9 := Lib.hid (B6.out.ext hb); have X9 := Lib.hid (X6.out.ext hb); have Y9 := Lib.hid (Y6.out.ext hb); have L9 := Lib.hid (L6.out.trans (hb.mono L6.out.size))
  clear hb m0 m1 m2 n0 n1 n2 A6 B6 D6 E6 X6 Y6 L6
  obtain ⟨f, of, cf, hf, hfl, x0, x1, x2⟩ := X9.out.pc (k := 2) (by decide)
  obtain ⟨rfl, rfl⟩ : A7 = some ⟨f, of, none⟩ ∧ c7 = cf := by injection hf with e1 e2 e3; exact ⟨e1, e3⟩
  obtain ⟨g, og, cg, hg, hgl, y0, y1, y2⟩ := Y9.out.pc (k := 1) (by decide)
  obtain ⟨rfl, rfl⟩ : A8 = some ⟨g, og, none⟩ ∧ c8 = cg := by injection hg with e1 e2 e3; exact ⟨e1, e3⟩
  clear hf hg
  simp only [xC, yC, List.getElem_cons_succ, List.getElem_cons_zero, Nat.one_mul, Nat.reduceMul] at x0 x1 x2 y0 y1 y2
  go_wp2_with fail
  refine (kFits _ _ _ A9.out B9.out).mono ?_
  rintro e w8 ⟨rfl, hb⟩
  have B10 := Lib.hid (B9.out.ext hb); have L10 := Lib.hid (L9.out.trans (hb.mono L9.out.size))
  clear hb x0 x1 x2 y0 y1 y2 A9 B9 X9 Y9 L9
  go_wp2_with fail
  refine (kFits2 _ _ B10.out).mono ?_
  rintro e w9 ⟨rfl, hb⟩
  have L11 := Lib.hid (L10.out.trans (hb.mono L10.out.size))
  clear hb B10 L10
  go_wp2
  go_ret
  exact ⟨rfl, L11.out⟩

end Go.Proofs.Ytdlbjfgpfjcpaaa
