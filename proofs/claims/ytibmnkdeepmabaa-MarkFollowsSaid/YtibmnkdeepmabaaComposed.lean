/- compose.composed: the pieces of a composition. Condition: valid pieces of moderate size, at most 8192. -/
import Derived.Test.YtibmnkdeepmabaaTake
import Derived.Test.YtibmnkdeepmabaaPlainC2
import Derived.Deep.LoopGhost
namespace Go.Proofs.Ytibmnkdeepmabaa
open Go.RowKit

def SmP (l : List Pc) : Prop := ∀ p ∈ l, p.valid = true ∧ p.n ≤ 1048576 ∧ p.t.length ≤ 1048576
theorem SmP.cons {p : Pc} {l : List Pc} : SmP (p :: l) ↔ (p.valid = true ∧ p.n ≤ 1048576 ∧ p.t.length ≤ 1048576) ∧ SmP l := by simp [SmP]
theorem SmP.snoc {p : Pc} {l : List Pc} (h : SmP l) (hp : p.valid = true ∧ p.n ≤ 1048576 ∧ p.t.length ≤ 1048576) : SmP (l ++ [p]) := fun q hq => by
  rcases List.mem_append.1 hq with hq | hq
  · exact h q hq
  · rw [List.mem_singleton.1 hq]; exact hp
theorem SmP.val {l : List Pc} (h : SmP l) : Val l := fun p hp => (h p hp).1
theorem tak_sm {p : Pc} {n : Int} {r : List Pc} (h : SmP (p :: r)) (h1 : 1 ≤ n) (h2 : n ≤ lg p) : ((takP n p).valid = true ∧ (takP n p).n ≤ 1048576 ∧ (takP n p).t.length ≤ 1048576) ∧ SmP (takL n p r) := by
  obtain ⟨⟨v1, v2, v3⟩, hr⟩ := SmP.cons.1 h
  obtain ⟨a1, -, -, a4, -⟩ := tak_ok v1 h1 h2 r hr.val
  refine ⟨⟨a1, ?_⟩, fun q hq => ⟨a4 q hq, ?_⟩⟩
  · unfold takP splA
    unfold lg at h2
    split
    · split
      · simp only [List.length_take]; omega
      · rename_i h3 h4
        have := Pc.valid_cases v1
        rcases Pc.valid_cases v1 with ⟨x, y, z⟩ | ⟨x, y, z⟩ | ⟨x, y, z⟩
        · rw [z] at h2 ⊢; simp at h2 ⊢; omega
        · rw [z] at h2 ⊢; simp at h2 ⊢; omega
        · exact absurd x h4
    · omega
  · unfold takL splB at hq
    split at hq
    · rcases List.mem_cons.1 hq with rfl | hq
      · split
        · simp only [List.length_drop]; omega
        · dsimp only; omega
      · exact (hr q hq).2
    · exact (hr q hq).2
/-- at the head of a round: what is written, and what is to be read -/
structure INV (a b : List Pc) (f : Nat) (X Y O : List Pc) : Prop where
  e : cmpS a b = O ++ cmpF f X Y
  f : szL X + szL Y ≤ f
  x : SmP X
  y : SmP Y
  o : SmP O
  n : O.length + X.length + Y.length ≤ a.length + b.length
theorem INV.pos {a b : List Pc} {f : Nat} {X Y O : List Pc} (h : INV a b f X Y O) (hn : ¬ (X = [] ∧ Y = [])) : ∃ g, f = g + 1 := by
  have := h.f
  cases f with
  | succ g => exact ⟨g, rfl⟩
  | zero =>
    refine absurd ⟨?_, ?_⟩ hn
    · exact Classical.byContradiction fun hh => by have := Val.szL h.x.val hh; omega
    · exact Classical.byContradiction fun hh => by have := Val.szL h.y.val hh; omega
theorem INV.gone {a b : List Pc} {f : Nat} {p : Pc} {x Y O : List Pc} (h : INV a b (f + 1) (p :: x) Y O) (hp : p.k = 3) : INV a b f x Y (O ++ [p]) := by
  obtain ⟨e, g, hx, hy, ho, n⟩ := h
  obtain ⟨h1, h2⟩ := SmP.cons.1 hx
  have := lg_pos h1.1
  simp only [szL] at g
  simp only [List.length_cons] at n
  refine ⟨?_, by omega, h2, hy, ho.snoc h1, by simp only [List.length_append, List.length_singleton]; omega⟩
  rw [e, List.append_assoc]
  congr 1
  cases Y <;> simp [cmpF, hp]
theorem INV.put {a b : List Pc} {f : Nat} {q : Pc} {X y O : List Pc} (h : INV a b (f + 1) X (q :: y) O) (hX : ∀ p x, X = p :: x → p.k ≠ 3) (hq : q.k = 2) : INV a b f X y (O ++ [q]) := by
  obtain ⟨e, g, hx, hy, ho, n⟩ := h
  obtain ⟨h1, h2⟩ := SmP.cons.1 hy
  have := lg_pos h1.1
  simp only [szL] at g
  simp only [List.length_cons] at n
  refine ⟨?_, by omega, hx, h2, ho.snoc h1, by simp only [List.length_append, List.length_singleton]; omega⟩
  rw [e, List.append_assoc]
  congr 1
  cases X with
  | nil => simp [cmpF, hq]
  | cons p x => rw [cmpF, if_neg (hX p x rfl), if_pos hq]; rfl
theorem INV.done {a b : List Pc} {f : Nat} {X Y O : List Pc} (h : INV a b f X Y O) (hX : ∀ p x, X = p :: x → p.k ≠ 3) (hY : ∀ q y, Y = q :: y → q.k ≠ 2) (hn : X = [] ∨ Y = []) : cmpS a b = O := by
  have e := h.e
  have : cmpF f X Y = [] := by
    cases f with
    | zero => simp [cmpF]
    | succ f =>
      cases X with
      | nil =>
        cases Y with
        | nil => simp [cmpF]
        | cons q y => rw [cmpF, if_neg (hY q y rfl)]
      | cons p x =>
        cases Y with
        | nil => rw [cmpF, if_neg (hX p x rfl)]
        | cons q y => simp at hn
  rw [e, this, List.append_nil]
theorem INV.both {a b : List Pc} {f : Nat} {p q : Pc} {x y O : List Pc} (h : INV a b (f + 1) (p :: x) (q :: y) O) (hp : p.k ≠ 3) (hq : q.k ≠ 2) :
    0 ≤ min (lg p) (lg q) ∧ INV a b f (takL (min (lg p) (lg q)) p x) (takL (min (lg p) (lg q)) q y) (O ++ cOut (takP (min (lg p) (lg q)) p) (takP (min (lg p) (lg q)) q)) := by
  obtain ⟨e, g, hx, hy, ho, n⟩ := h
  obtain ⟨u1, u2⟩ := SmP.cons.1 hx
  obtain ⟨v1, v2⟩ := SmP.cons.1 hy
  have hgp := lg_pos u1.1
  have hgq := lg_pos v1.1
  have hm1 : 1 ≤ min (lg p) (lg q) := by omega
  have hm2 : min (lg p) (lg q) ≤ lg p := by omega
  have hm3 : min (lg p) (lg q) ≤ lg q := by omega
  have hm4 : min (lg p) (lg q) = lg p ∨ min (lg p) (lg q) = lg q := by omega
  have hc : cmpF (f + 1) (p :: x) (q :: y) = cOut (takP (min (lg p) (lg q)) p) (takP (min (lg p) (lg q)) q) ++ cmpF f (takL (min (lg p) (lg q)) p x) (takL (min (lg p) (lg q)) q y) := by rw [cmpF, if_neg hp, if_neg hq]
  generalize min (lg p) (lg q) = m at *
  obtain ⟨a1, a2, a3, a4, a5, a6, a7, -⟩ := tak_ok u1.1 hm1 hm2 x u2.val
  obtain ⟨b1, b2, b3, b4, b5, b6, b7, -⟩ := tak_ok v1.1 hm1 hm3 y v2.val
  obtain ⟨s1, s2⟩ := tak_sm hx hm1 hm2
  obtain ⟨t1, t2⟩ := tak_sm hy hm1 hm3
  simp only [List.length_cons] at n
  have hlen : (takL m p x).length + (takL m q y).length + 1 ≤ x.length + y.length + 2 := by
    rcases hm4 with h | h
    · have := a6 h; omega
    · have := b6 h; omega
  have ho2 : (cOut (takP m p) (takP m q)).length ≤ 1 ∧ SmP (O ++ cOut (takP m p) (takP m q)) := by
    unfold cOut
    split
    · exact ⟨Nat.le_refl _, ho.snoc s1⟩
    · split
      · exact ⟨Nat.le_refl _, ho.snoc t1⟩
      · exact ⟨by simp, by rwa [List.append_nil]⟩
  refine ⟨by omega, ?_, by omega, s2, t2, ho2.2, by rw [List.length_append]; omega⟩
  rw [e, hc, List.append_assoc]

theorem new_cells3 {α : Type} {E : Enc α} (w : World) (o o' : Obj) (x : α) (t : TypeId) : ∀ j u, (E.cells x)[j]? = some u → (((w.alloc o).alloc o').alloc (.cells (E.cells x).toArray t)).cell? ⟨w.heap.size + 1 + 1, 0 + j, none⟩ = some u := by
  intro j u hu
  have := new_cells ((w.alloc o).alloc o') x t j u hu
  rwa [World.size_alloc, World.size_alloc] at this

set_option maxHeartbeats 8000000 in
set_option maxRecDepth 100000 in
theorem composed_any (v u : Value) (a b : List Pc) (w : World) (h : Sl pcE w v a) (k : Sl pcE w u b) (ha : SmP a) (hb : SmP b) (hla : a.length ≤ 4096) (hlb : b.length ≤ 4096) :
    Calls Try.prog 52 #[v, u] w fun e w' => ∃ v', e = .returned v' ∧ w'.ownsRow w.heap.size 53 3 v' (cmpS a b).length (pcE.flat (cmpS a b)) ∧ Below w.heap.size w w' := by
  obtain ⟨i0, hi, hz0, hz1, hz2⟩ := info_parts infoPiece
  have cRead := Lib.hid read_any
  have hI0 : INV a b (szL a + szL b) a b [] := ⟨rfl, Nat.le_refl _, ha, hb, (fun _ h => by cases h), by simp⟩
  have HI0 := Lib.hid hI0; have H := Lib.hid h; have K := Lib.hid k
  clear hI0 h k ha hb
  have cH := fun W p r d b h => head_any b d p r W h
  have cW := fun W p r d b h => whole_any b d p r W h
  have cT := fun W p r n d b h h1 hv h3 h4 => rtake_any b d p r n W h h1 hv h3 h4
  have cL := fun W p h1 h2 h3 => long_any p W h1 h2 h3
  unfold Pc.v at cH cW cT cL
  have CH := Lib.hid cH; have CW := Lib.hid cW; have CT := Lib.hid cT; have CL := Lib.hid cL
  clear cH cW cT cL
  have hfd : ∀ (p : Pc) (w : World), (Instr.field 53 (.agg #[.int .u8 p.k, .int .i64 p.n, .string ⟨p.t.toArray⟩]) 0).run Try.prog w = .ok (.int .u8 p.k) w := fun _ _ => by kernel_rfl
  go_enter Try.func52, Try.ntmps52
  go_wp2_with fail
  go_step3
  go_wp2_with fail
  refine (cRead.out v a w H.out (by omega)).mono ?_
  rintro e w1 ⟨b1, d1, rfl, R1, s1, s2, s3, hb1⟩
  have R1' := Lib.hid R1; have K1 := Lib.hid (K.out.ext hb1); have HB1 := Lib.hid hb1
  clear R1 hb1
  go_wp2_with fail
  refine (cRead.out u b w1 K1.out (by omega)).mono ?_
  rintro e w2 ⟨b2, d2, rfl, R2, s4, s5, s6, hb2⟩
  have C0 := Lib.hid (show CS w w2.heap.size b1 d1 b2 d2 a b [] none 0 w2 from ⟨R1'.out.ext hb2, R2, World.ownsRow_nil _ _ _ _, HB1.out.trans (hb2.mono HB1.out.size), by have := hb2.size; omega⟩)
  generalize hB1 : w2.heap.size = B1 at C0
  clear R1' R2 HB1 hb2 hB1 K1 H K s1 s2 s3 s4 s5 s6
  go_wp2_with fail
  go_step3
  go_wp2_with fail
  go_loopg [5] (szL a + szL b) (fun f vo wr => ∃ (X Y O : List Pc) (A : Option Addr) (c : Nat), vo = .slice A O.length c ∧ Hid (INV a b f X Y O) ∧ Hid (CS w B1 b1 d1 b2 d2 X Y O A c wr))
  case atStart => exact ⟨a, b, [], none, 0, rfl, HI0, C0⟩
  case round =>
    clear HI0 C0
    obtain ⟨X, Y, O, A, c, rfl, hI, C⟩ := hrel
    have hOl : O.length ≤ 8192 := by have := hI.out.n; omega
    have hBs : B1 ≤ wr.heap.size := C.out.s.2.2.2.2.2

    have hXY : X = [] ∨ ∃ p x, X = p :: x := by cases X with
      | nil => exact .inl rfl
      | cons p x => exact .inr ⟨p, x, rfl⟩
    have hYX : Y = [] ∨ ∃ q y, Y = q :: y := by cases Y with
      | nil => exact .inl rfl
      | cons q y => exact .inr ⟨q, y, rfl⟩
    rcases hXY with rfl | ⟨p, x, rfl⟩
    · rcases hYX with rfl | ⟨q, y, rfl⟩
      · clear CH CW CT CL
        go_wp2_with fail
        refine (done_any b1 d1 [] _ C.out.x).mono ?_
        rintro e wd ⟨rfl, hwd⟩
        subst hwd
        go_wp2_with fail
        refine (done_any b2 d2 [] _ C.out.y).mono ?_
        rintro e wd ⟨rfl, hwd⟩
        subst hwd
        go_wp2_with fail
        refine (done_any b1 d1 [] _ C.out.x).mono ?_
        rintro e wd ⟨rfl, hwd⟩
        subst hwd
        go_wp2
        have hE := hI.out.done (fun _ _ h => by cases h) (fun _ _ h => by cases h) (.inl rfl)
        have ho := C.out.o
        rw [← hE] at ho
        have hb := C.out.b
        have hs := C.out.s
        rw [← hE]
        rw [Exit.noGoto_ret]
        refine bodyPost_ret (v := .slice A (cmpS a b).length c) (by simp [results, Try.f52, go_sem]) rfl ⟨_, rfl, own_base (own_zero ho) (fun g hg => ?_), hb⟩
        have := (ho.lt g hg).1
        omega
      · by_cases hq2 : q.k = 2
        · have hq2' : (q.k == 2) = true := by rw [hq2]; rfl
          obtain ⟨g, rfl⟩ := hI.out.pos (by simp)
          have HQ := Lib.hid hq2
          clear hq2
          go_wp2_with fail
          refine (done_any b1 d1 [] _ C.out.x).mono ?_
          rintro e wd ⟨rfl, hwd⟩
          subst hwd
          go_wp2_with fail
          refine (done_any b2 d2 (q :: y) _ C.out.y).mono ?_
          rintro e wd ⟨rfl, hwd⟩
          subst hwd
          go_wp2_with fail
          refine (CH.out _ q y d2 b2 C.out.y).mono ?_
          rintro e w3 ⟨rfl, hb⟩
          have C1 := Lib.hid (C.out.ext hb)
          have hBs : B1 ≤ w3.heap.size := C1.out.s.2.2.2.2.2
          clear hb C
          go_wp2_with fail
          refine (CW.out _ q y d2 b2 C1.out.y).mono ?_
          rintro e w4 ⟨rfl, hR, hF⟩
          have C2 := Lib.hid (C1.out.stepY hR (hF.mono fun _ _ h => Or.inl h))
          have hBs : B1 ≤ w4.heap.size := C2.out.s.2.2.2.2.2
          clear hR hF C1
          go_wp2_with (at_builtin; refine Hid.out ?_)
          refine Lib.hid ?_
          refine wpListB_append _ rfl (.tmp 69) (.tmp 72) 39 39 rfl B1 (by simp; omega) 53 i0 _ 3 32 Try.underlying39 hi hz0 hz1 hz2 rfl (by decide) _ _ _ rfl ((C2.out.ext (bal (Below.refl _ _))).o) _ 1 _ rfl (src_one pcE Try.underlying39 (off := 0) q _ (new_cells _ _ _)) (by unfold maxLen; omega) (by omega) ?_
          intro A8 c8 w8 hown8 hg8 _ _
          have C9 := Lib.hid (CS.app (O' := O ++ [q]) (A' := A8) (c' := c8) (C2.out.ext (bal (Below.refl _ _))) (by rw [List.length_append, pcE.flat_append]; exact hown8) hg8)
          clear hown8 hg8
          go_wp2_with fail
          go_roundg g
          case measure => omega
          case rel => exact ⟨[], y, O ++ [q], A8, c8, by simp, Lib.hid (hI.out.put (fun _ _ h => by cases h) HQ.out), C9⟩

        · have hq2' : (q.k == 2) = false := by rw [beq_eq_false_iff_ne]; exact hq2
          have HQ := Lib.hid hq2
          clear hq2
          go_wp2_with fail
          refine (done_any b1 d1 [] _ C.out.x).mono ?_
          rintro e wd ⟨rfl, hwd⟩
          subst hwd
          go_wp2_with fail
          refine (done_any b2 d2 (q :: y) _ C.out.y).mono ?_
          rintro e wd ⟨rfl, hwd⟩
          subst hwd
          go_wp2_with fail
          refine (CH.out _ q y d2 b2 C.out.y).mono ?_
          rintro e w3 ⟨rfl, hb⟩
          have C1 := Lib.hid (C.out.ext hb)
          have hBs : B1 ≤ w3.heap.size := C1.out.s.2.2.2.2.2
          clear hb C
          go_wp2_with fail
          refine (done_any b1 d1 [] _ C1.out.x).mono ?_
          rintro e wd ⟨rfl, hwd⟩
          subst hwd
          go_wp2
          have hE := hI.out.done (fun _ _ h => by cases h) (fun _ _ h => by cases h; exact HQ.out) (.inl rfl)
          have ho := C1.out.o
          rw [← hE] at ho
          have hb := C1.out.b
          have hs := C1.out.s
          rw [← hE]
          rw [Exit.noGoto_ret]
          refine bodyPost_ret (v := .slice A (cmpS a b).length c) (by simp [results, Try.f52, go_sem]) rfl ⟨_, rfl, own_base (own_zero ho) (fun g hg => ?_), hb⟩
          have := (ho.lt g hg).1
          omega
    · by_cases hp3 : p.k = 3
      · have hp3' : (p.k == 3) = true := by rw [hp3]; rfl
        obtain ⟨g, rfl⟩ := hI.out.pos (by simp)
        have HP := Lib.hid hp3
        clear hp3
        go_wp2_with fail
        refine (done_any b1 d1 (p :: x) _ C.out.x).mono ?_
        rintro e wd ⟨rfl, hwd⟩
        subst hwd
        go_wp2_with fail
        refine (CH.out _ p x d1 b1 C.out.x).mono ?_
        rintro e w3 ⟨rfl, hb⟩
        have C1 := Lib.hid (C.out.ext hb)
        have hBs : B1 ≤ w3.heap.size := C1.out.s.2.2.2.2.2
        clear hb C
        go_wp2_with fail
        refine (CW.out _ p x d1 b1 C1.out.x).mono ?_
        rintro e w4 ⟨rfl, hR, hF⟩
        have C2 := Lib.hid (C1.out.stepX hR (hF.mono fun _ _ h => Or.inl h))
        have hBs : B1 ≤ w4.heap.size := C2.out.s.2.2.2.2.2
        clear hR hF C1
        go_wp2_with (at_builtin; refine Hid.out ?_)
        refine Lib.hid ?_
        refine wpListB_append _ rfl (.tmp 54) (.tmp 57) 39 39 rfl B1 (by simp; omega) 53 i0 _ 3 32 Try.underlying39 hi hz0 hz1 hz2 rfl (by decide) _ _ _ rfl ((C2.out.ext (bal (Below.refl _ _))).o) _ 1 _ rfl (src_one pcE Try.underlying39 (off := 0) p _ (new_cells _ _ _)) (by unfold maxLen; omega) (by omega) ?_
        intro A8 c8 w8 hown8 hg8 _ _
        have C9 := Lib.hid (CS.app (O' := O ++ [p]) (A' := A8) (c' := c8) (C2.out.ext (bal (Below.refl _ _))) (by rw [List.length_append, pcE.flat_append]; exact hown8) hg8)
        clear hown8 hg8
        go_wp2_with fail
        go_roundg g
        case measure => omega
        case rel => exact ⟨x, Y, O ++ [p], A8, c8, by simp, Lib.hid (hI.out.gone HP.out), C9⟩

      · have hp3' : (p.k == 3) = false := by rw [beq_eq_false_iff_ne]; exact hp3
        have HP := Lib.hid hp3
        clear hp3
        rcases hYX with rfl | ⟨q, y, rfl⟩
        · go_wp2_with fail
          refine (done_any b1 d1 (p :: x) _ C.out.x).mono ?_
          rintro e wd ⟨rfl, hwd⟩
          subst hwd
          go_wp2_with fail
          refine (CH.out _ p x d1 b1 C.out.x).mono ?_
          rintro e w3 ⟨rfl, hb⟩
          have C1 := Lib.hid (C.out.ext hb)
          have hBs : B1 ≤ w3.heap.size := C1.out.s.2.2.2.2.2
          clear hb C
          go_wp2_with fail
          refine (done_any b2 d2 [] _ C1.out.y).mono ?_
          rintro e wd ⟨rfl, hwd⟩
          subst hwd
          go_wp2_with fail
          refine (done_any b1 d1 (p :: x) _ C1.out.x).mono ?_
          rintro e wd ⟨rfl, hwd⟩
          subst hwd
          go_wp2_with fail
          refine (done_any b2 d2 [] _ C1.out.y).mono ?_
          rintro e wd ⟨rfl, hwd⟩
          subst hwd
          go_wp2
          have hE := hI.out.done (fun _ _ h => by cases h; exact HP.out) (fun _ _ h => by cases h) (.inr rfl)
          have ho := C1.out.o
          rw [← hE] at ho
          have hb := C1.out.b
          have hs := C1.out.s
          rw [← hE]
          rw [Exit.noGoto_ret]
          refine bodyPost_ret (v := .slice A (cmpS a b).length c) (by simp [results, Try.f52, go_sem]) rfl ⟨_, rfl, own_base (own_zero ho) (fun g hg => ?_), hb⟩
          have := (ho.lt g hg).1
          omega
        · by_cases hq2 : q.k = 2
          · have hq2' : (q.k == 2) = true := by rw [hq2]; rfl
            obtain ⟨g, rfl⟩ := hI.out.pos (by simp)
            have HQ := Lib.hid hq2
            clear hq2
            go_wp2_with fail
            refine (done_any b1 d1 (p :: x) _ C.out.x).mono ?_
            rintro e wd ⟨rfl, hwd⟩
            subst hwd
            go_wp2_with fail
            refine (CH.out _ p x d1 b1 C.out.x).mono ?_
            rintro e w3 ⟨rfl, hb⟩
            have C1 := Lib.hid (C.out.ext hb)
            have hBs : B1 ≤ w3.heap.size := C1.out.s.2.2.2.2.2
            clear hb C
            go_wp2_with fail
            refine (done_any b2 d2 (q :: y) _ C1.out.y).mono ?_
            rintro e wd ⟨rfl, hwd⟩
            subst hwd
            go_wp2_with fail
            refine (CH.out _ q y d2 b2 C1.out.y).mono ?_
            rintro e w4 ⟨rfl, hb⟩
            have C2 := Lib.hid (C1.out.ext hb)
            have hBs : B1 ≤ w4.heap.size := C2.out.s.2.2.2.2.2
            clear hb C1
            go_wp2_with fail
            refine (CW.out _ q y d2 b2 C2.out.y).mono ?_
            rintro e w5 ⟨rfl, hR, hF⟩
            have C3 := Lib.hid (C2.out.stepY hR (hF.mono fun _ _ h => Or.inl h))
            have hBs : B1 ≤ w5.heap.size := C3.out.s.2.2.2.2.2
            clear hR hF C2
            go_wp2_with (at_builtin; refine Hid.out ?_)
            refine Lib.hid ?_
            refine wpListB_append _ rfl (.tmp 69) (.tmp 72) 39 39 rfl B1 (by simp; omega) 53 i0 _ 3 32 Try.underlying39 hi hz0 hz1 hz2 rfl (by decide) _ _ _ rfl ((C3.out.ext (bal (Below.refl _ _))).o) _ 1 _ rfl (src_one pcE Try.underlying39 (off := 0) q _ (new_cells _ _ _)) (by unfold maxLen; omega) (by omega) ?_
            intro A8 c8 w8 hown8 hg8 _ _
            have C9 := Lib.hid (CS.app (O' := O ++ [q]) (A' := A8) (c' := c8) (C3.out.ext (bal (Below.refl _ _))) (by rw [List.length_append, pcE.flat_append]; exact hown8) hg8)
            clear hown8 hg8
            go_wp2_with fail
            go_roundg g
            case measure => omega
            case rel => exact ⟨p :: x, y, O ++ [q], A8, c8, by simp, Lib.hid (hI.out.put (fun _ _ h => by cases h; exact HP.out) HQ.out), C9⟩

          · have hq2' : (q.k == 2) = false := by rw [beq_eq_false_iff_ne]; exact hq2
            obtain ⟨g, rfl⟩ := hI.out.pos (by simp)
            have HQ := Lib.hid hq2
            clear hq2
            obtain ⟨hm0, hI2⟩ := hI.out.both HP.out HQ.out
            obtain ⟨hu1, hu2, hu3⟩ := (SmP.cons.1 hI.out.x).1
            obtain ⟨hv1, hv2, hv3⟩ := (SmP.cons.1 hI.out.y).1
            have cLp := fun W => CL.out W p (Val.n hu1) (by omega) (by omega)
            have cLq := fun W => CL.out W q (Val.n hv1) (by omega) (by omega)
            have cTp := fun W h => CT.out W p x (min (lg p) (lg q)) d1 b1 h hm0 hu1 (by omega) (by omega)
            have cTq := fun W h => CT.out W q y (min (lg p) (lg q)) d2 b2 h hm0 hv1 (by omega) (by omega)
            have CLp := Lib.hid cLp; have CLq := Lib.hid cLq
            clear cLp cLq CL CT hu1 hu2 hu3 hv1 hv2 hv3 hm0
            by_cases hle : lg p ≤ lg q
            · have hmin : min (lg p) (lg q) = lg p := by omega
              rw [hmin] at cTp cTq hI2
              generalize takP (lg p) p = P at *
              generalize takP (lg p) q = Q at *
              generalize takL (lg p) p x = X' at *
              generalize takL (lg p) q y = Y' at *
              have CTp := Lib.hid cTp; have CTq := Lib.hid cTq; have HI2 := Lib.hid hI2
              clear cTp cTq hI2 hI HP HQ hmin
              go_wp2_with fail
              refine (done_any b1 d1 (p :: x) _ C.out.x).mono ?_
              rintro e wd ⟨rfl, hwd⟩
              subst hwd
              go_wp2_with fail
              refine (CH.out _ p x d1 b1 C.out.x).mono ?_
              rintro e w3 ⟨rfl, hb⟩
              have C1 := Lib.hid (C.out.ext hb)
              have hBs : B1 ≤ w3.heap.size := C1.out.s.2.2.2.2.2
              clear hb C
              go_wp2_with fail
              refine (done_any b2 d2 (q :: y) _ C1.out.y).mono ?_
              rintro e wd ⟨rfl, hwd⟩
              subst hwd
              go_wp2_with fail
              refine (CH.out _ q y d2 b2 C1.out.y).mono ?_
              rintro e w4 ⟨rfl, hb⟩
              have C2 := Lib.hid (C1.out.ext hb)
              have hBs : B1 ≤ w4.heap.size := C2.out.s.2.2.2.2.2
              clear hb C1
              go_wp2_with fail
              refine (done_any b1 d1 (p :: x) _ C2.out.x).mono ?_
              rintro e wd ⟨rfl, hwd⟩
              subst hwd
              go_wp2_with fail
              refine (done_any b2 d2 (q :: y) _ C2.out.y).mono ?_
              rintro e wd ⟨rfl, hwd⟩
              subst hwd
              go_wp2_with fail
              refine (CH.out _ p x d1 b1 C2.out.x).mono ?_
              rintro e w5 ⟨rfl, hb⟩
              have C3 := Lib.hid (C2.out.ext hb)
              have hBs : B1 ≤ w5.heap.size := C3.out.s.2.2.2.2.2
              clear hb C2

              go_wp2_with fail
              refine (CLp.out _).mono ?_
              rintro e w6 ⟨rfl, hb⟩
              have C4 := Lib.hid (C3.out.ext hb)
              have hBs : B1 ≤ w6.heap.size := C4.out.s.2.2.2.2.2
              clear hb C3
              go_wp2_with fail
              refine (CH.out _ q y d2 b2 C4.out.y).mono ?_
              rintro e w7 ⟨rfl, hb⟩
              have C5 := Lib.hid (C4.out.ext hb)
              have hBs : B1 ≤ w7.heap.size := C5.out.s.2.2.2.2.2
              clear hb C4
              go_wp2_with fail
              refine (CLq.out _).mono ?_
              rintro e w8 ⟨rfl, hb⟩
              have C6 := Lib.hid (C5.out.ext hb)
              have hBs : B1 ≤ w8.heap.size := C6.out.s.2.2.2.2.2
              clear hb C5
              go_wp2_with fail
              refine (CTp.out _ C6.out.x).mono ?_
              rintro e w9 ⟨rfl, hR, hF⟩
              have C7 := Lib.hid (C6.out.stepX hR hF)
              have hBs : B1 ≤ w9.heap.size := C7.out.s.2.2.2.2.2
              clear hR hF C6
              go_wp2_with fail
              refine (CTq.out _ C7.out.y).mono ?_
              rintro e w10 ⟨rfl, hR, hF⟩
              have C8 := Lib.hid (C7.out.stepY hR hF)
              have hBs : B1 ≤ w10.heap.size := C8.out.s.2.2.2.2.2
              clear hR hF C7

              clear CH CW CLp CLq CTp CTq
              by_cases hQ : Q.k = 1
              · have hQ' : (Q.k == 1) = true := by rw [hQ]; rfl
                have hc : cOut P Q = [P] := by simp [cOut, hQ]
                rw [hc] at HI2
                clear hQ hc
                go_wp2_with (at_builtin; refine Hid.out ?_)
                refine Lib.hid ?_
                refine wpListB_append _ rfl (.tmp 32) (.tmp 34) 39 39 rfl B1 (by simp; omega) 53 i0 _ 3 32 Try.underlying39 hi hz0 hz1 hz2 rfl (by decide) _ _ _ rfl ((C8.out.ext (bal (bal (bal (Below.refl _ _))))).o) _ 1 _ rfl (src_one pcE Try.underlying39 (off := 0) P _ (new_cells3 _ _ _ _ _)) (by unfold maxLen; omega) (by omega) ?_
                intro A8 c8 w8 hown8 hg8 _ _
                have C9 := Lib.hid (CS.app (O' := O ++ [P]) (A' := A8) (c' := c8) (C8.out.ext (bal (bal (bal (Below.refl _ _))))) (by rw [List.length_append, pcE.flat_append]; exact hown8) hg8)
                clear hown8 hg8
                go_wp2_with fail
                go_roundg g
                case measure => omega
                case rel => exact ⟨X', Y', O ++ [P], A8, c8, by simp, Lib.hid (HI2.out), C9⟩

              · have hQ' : (Q.k == 1) = false := by rw [beq_eq_false_iff_ne]; exact hQ
                by_cases hP : P.k = 1
                · have hP' : (P.k == 1) = true := by rw [hP]; rfl
                  have hc : cOut P Q = [Q] := by simp [cOut, hQ, hP]
                  rw [hc] at HI2
                  clear hQ hc hP
                  go_wp2_with (at_builtin; refine Hid.out ?_)
                  refine Lib.hid ?_
                  refine wpListB_append _ rfl (.tmp 40) (.tmp 42) 39 39 rfl B1 (by simp; omega) 53 i0 _ 3 32 Try.underlying39 hi hz0 hz1 hz2 rfl (by decide) _ _ _ rfl ((C8.out.ext (bal (bal (bal (Below.refl _ _))))).o) _ 1 _ rfl (src_one pcE Try.underlying39 (off := 0) Q _ (new_cells3 _ _ _ _ _)) (by unfold maxLen; omega) (by omega) ?_
                  intro A8 c8 w8 hown8 hg8 _ _
                  have C9 := Lib.hid (CS.app (O' := O ++ [Q]) (A' := A8) (c' := c8) (C8.out.ext (bal (bal (bal (Below.refl _ _))))) (by rw [List.length_append, pcE.flat_append]; exact hown8) hg8)
                  clear hown8 hg8
                  go_wp2_with fail
                  go_roundg g
                  case measure => omega
                  case rel => exact ⟨X', Y', O ++ [Q], A8, c8, by simp, Lib.hid (HI2.out), C9⟩

                · have hP' : (P.k == 1) = false := by rw [beq_eq_false_iff_ne]; exact hP
                  have hc : cOut P Q = [] := by simp [cOut, hQ, hP]
                  rw [hc, List.append_nil] at HI2
                  clear hQ hc hP
                  go_wp2_with fail
                  go_roundg g
                  case measure => omega
                  case rel => exact ⟨X', Y', O, A, c, by simp, HI2, Lib.hid (C8.out.ext (bal (bal (Below.refl _ _))))⟩
            · have hmin : min (lg p) (lg q) = lg q := by omega
              rw [hmin] at cTp cTq hI2
              generalize takP (lg q) p = P at *
              generalize takP (lg q) q = Q at *
              generalize takL (lg q) p x = X' at *
              generalize takL (lg q) q y = Y' at *
              have CTp := Lib.hid cTp; have CTq := Lib.hid cTq; have HI2 := Lib.hid hI2
              clear cTp cTq hI2 hI HP HQ hmin
              go_wp2_with fail
              refine (done_any b1 d1 (p :: x) _ C.out.x).mono ?_
              rintro e wd ⟨rfl, hwd⟩
              subst hwd
              go_wp2_with fail
              refine (CH.out _ p x d1 b1 C.out.x).mono ?_
              rintro e w3 ⟨rfl, hb⟩
              have C1 := Lib.hid (C.out.ext hb)
              have hBs : B1 ≤ w3.heap.size := C1.out.s.2.2.2.2.2
              clear hb C
              go_wp2_with fail
              refine (done_any b2 d2 (q :: y) _ C1.out.y).mono ?_
              rintro e wd ⟨rfl, hwd⟩
              subst hwd
              go_wp2_with fail
              refine (CH.out _ q y d2 b2 C1.out.y).mono ?_
              rintro e w4 ⟨rfl, hb⟩
              have C2 := Lib.hid (C1.out.ext hb)
              have hBs : B1 ≤ w4.heap.size := C2.out.s.2.2.2.2.2
              clear hb C1
              go_wp2_with fail
              refine (done_any b1 d1 (p :: x) _ C2.out.x).mono ?_
              rintro e wd ⟨rfl, hwd⟩
              subst hwd
              go_wp2_with fail
              refine (done_any b2 d2 (q :: y) _ C2.out.y).mono ?_
              rintro e wd ⟨rfl, hwd⟩
              subst hwd
              go_wp2_with fail
              refine (CH.out _ p x d1 b1 C2.out.x).mono ?_
              rintro e w5 ⟨rfl, hb⟩
              have C3 := Lib.hid (C2.out.ext hb)
              have hBs : B1 ≤ w5.heap.size := C3.out.s.2.2.2.2.2
              clear hb C2

              go_wp2_with fail
              refine (CLp.out _).mono ?_
              rintro e w6 ⟨rfl, hb⟩
              have C4 := Lib.hid (C3.out.ext hb)
              have hBs : B1 ≤ w6.heap.size := C4.out.s.2.2.2.2.2
              clear hb C3
              go_wp2_with fail
              refine (CH.out _ q y d2 b2 C4.out.y).mono ?_
              rintro e w7 ⟨rfl, hb⟩
              have C5 := Lib.hid (C4.out.ext hb)
              have hBs : B1 ≤ w7.heap.size := C5.out.s.2.2.2.2.2
              clear hb C4
              go_wp2_with fail
              refine (CLq.out _).mono ?_
              rintro e w8 ⟨rfl, hb⟩
              have C6 := Lib.hid (C5.out.ext hb)
              have hBs : B1 ≤ w8.heap.size := C6.out.s.2.2.2.2.2
              clear hb C5
              go_wp2_with fail
              refine (CTp.out _ C6.out.x).mono ?_
              rintro e w9 ⟨rfl, hR, hF⟩
              have C7 := Lib.hid (C6.out.stepX hR hF)
              have hBs : B1 ≤ w9.heap.size := C7.out.s.2.2.2.2.2
              clear hR hF C6
              go_wp2_with fail
              refine (CTq.out _ C7.out.y).mono ?_
              rintro e w10 ⟨rfl, hR, hF⟩
              have C8 := Lib.hid (C7.out.stepY hR hF)
              have hBs : B1 ≤ w10.heap.size := C8.out.s.2.2.2.2.2
              clear hR hF C7

              clear CH CW CLp CLq CTp CTq
              by_cases hQ : Q.k = 1
              · have hQ' : (Q.k == 1) = true := by rw [hQ]; rfl
                have hc : cOut P Q = [P] := by simp [cOut, hQ]
                rw [hc] at HI2
                clear hQ hc
                go_wp2_with (at_builtin; refine Hid.out ?_)
                refine Lib.hid ?_
                refine wpListB_append _ rfl (.tmp 32) (.tmp 34) 39 39 rfl B1 (by simp; omega) 53 i0 _ 3 32 Try.underlying39 hi hz0 hz1 hz2 rfl (by decide) _ _ _ rfl ((C8.out.ext (bal (bal (bal (Below.refl _ _))))).o) _ 1 _ rfl (src_one pcE Try.underlying39 (off := 0) P _ (new_cells3 _ _ _ _ _)) (by unfold maxLen; omega) (by omega) ?_
                intro A8 c8 w8 hown8 hg8 _ _
                have C9 := Lib.hid (CS.app (O' := O ++ [P]) (A' := A8) (c' := c8) (C8.out.ext (bal (bal (bal (Below.refl _ _))))) (by rw [List.length_append, pcE.flat_append]; exact hown8) hg8)
                clear hown8 hg8
                go_wp2_with fail
                go_roundg g
                case measure => omega
                case rel => exact ⟨X', Y', O ++ [P], A8, c8, by simp, Lib.hid (HI2.out), C9⟩

              · have hQ' : (Q.k == 1) = false := by rw [beq_eq_false_iff_ne]; exact hQ
                by_cases hP : P.k = 1
                · have hP' : (P.k == 1) = true := by rw [hP]; rfl
                  have hc : cOut P Q = [Q] := by simp [cOut, hQ, hP]
                  rw [hc] at HI2
                  clear hQ hc hP
                  go_wp2_with (at_builtin; refine Hid.out ?_)
                  refine Lib.hid ?_
                  refine wpListB_append _ rfl (.tmp 40) (.tmp 42) 39 39 rfl B1 (by simp; omega) 53 i0 _ 3 32 Try.underlying39 hi hz0 hz1 hz2 rfl (by decide) _ _ _ rfl ((C8.out.ext (bal (bal (bal (Below.refl _ _))))).o) _ 1 _ rfl (src_one pcE Try.underlying39 (off := 0) Q _ (new_cells3 _ _ _ _ _)) (by unfold maxLen; omega) (by omega) ?_
                  intro A8 c8 w8 hown8 hg8 _ _
                  have C9 := Lib.hid (CS.app (O' := O ++ [Q]) (A' := A8) (c' := c8) (C8.out.ext (bal (bal (bal (Below.refl _ _))))) (by rw [List.length_append, pcE.flat_append]; exact hown8) hg8)
                  clear hown8 hg8
                  go_wp2_with fail
                  go_roundg g
                  case measure => omega
                  case rel => exact ⟨X', Y', O ++ [Q], A8, c8, by simp, Lib.hid (HI2.out), C9⟩

                · have hP' : (P.k == 1) = false := by rw [beq_eq_false_iff_ne]; exact hP
                  have hc : cOut P Q = [] := by simp [cOut, hQ, hP]
                  rw [hc, List.append_nil] at HI2
                  clear hQ hc hP
                  go_wp2_with fail
                  go_roundg g
                  case measure => omega
                  case rel => exact ⟨X', Y', O, A, c, by simp, HI2, Lib.hid (C8.out.ext (bal (bal (Below.refl _ _))))⟩

end Go.Proofs.Ytibmnkdeepmabaa