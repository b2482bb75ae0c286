/- rope.Begin. -/
import Derived.Test.YtclmjnobacepjaaGreatJ30
import Derived.Test.YtclmjnobacepjaaGreatTStats
namespace Go.Proofs.YtclmjnobacepjaaGreat
open Go.RowKit

theorem newE {G : Ar} (hG : ArOK G) {F : Nat → Prop} (c : TC) (I : PI) (w : World) (q : PE G F w c I) (hT : I.T.length ≤ 65536) :
    Calls Tryz.prog 64 #[c.v] w fun e w' => e = .returned (.int .i64 I.n) ∧ Below w.heap.size w w' := by
  rcases q with ⟨rfl, rfl⟩ | ⟨h, q⟩
  · exact new_flat 0 0 0 0 0 [] 1 0 w (.inr (.inr ⟨rfl, rfl⟩)) (fun W => kindE W)
  · have hn := (PE.news hG (.inr ⟨h, q⟩ : PE G F w c I))
    exact new_any hG h c I w q hT (by omega)

set_option maxHeartbeats 1000000 in
set_option maxRecDepth 100000 in
theorem add_zero (bp : Nat) (w : World) :
    Calls Tryz.prog 65 #[.pointer (some ⟨bp, 0, none⟩), TC.zero.v] w fun e w' => e = .returned (.pointer (some ⟨w.heap.size + 1, 0, none⟩)) ∧ Bk w' (w.heap.size + 1) #[.int .u64 (0 : Nat), .int .i64 (0 : Nat), .int .i64 (0 : Nat), .int .i64 (0 : Nat), .int .i64 (0 : Nat)] 39 ∧ Below w.heap.size w w' := by
  rw [zero_v]
  go_enter Tryz.func65, Tryz.ntmps65
  go_wp2_with fail
  go_ret
  exact ⟨rfl, bal2' w, bal (bal (Below.refl _ _))⟩

/-- what add gives for the whole plan -/
def AddE (G : Ar) (xs : List Nd) (bxs : List (Nat × Nat)) (c : TC) (I : PI) (_bp rb : Nat) (W : World) : Prop :=
  (c = TC.zero ∧ I = PI.zero ∧ xs = [] ∧ Bk W rb #[.int .u64 (0 : Nat), .int .i64 (0 : Nat), .int .i64 (0 : Nat), .int .i64 (0 : Nat), .int .i64 (0 : Nat)] 39) ∨ ∃ h k, (rb, k) ∈ bxs ∧ AddV G [] xs h I k
theorem add_pe (w0 : World) (A : AF) (G : Ar) (bp : Nat) (hG : ArOK G) (c : TC) (I : PI) (N : Nat → Prop) (w : World) (p : PenA w0 A G bp [] [] [] [] N w) (q : PE G FT w0 c I) (hle : G.length + I.n ≤ 1000) (hT : I.T.length ≤ 65536) :
    Calls Tryz.prog 65 #[.pointer (some ⟨bp, 0, none⟩), c.v] w fun e w' => ∃ (rb : Nat) (xs : List Nd) (js : List Jb) (rbs : List Nat) (bxs : List (Nat × Nat)) (N' : Nat → Prop), e = .returned (.pointer (some ⟨rb, 0, none⟩)) ∧ PenA w0 A G bp xs js rbs bxs N' w' ∧ AddE G xs bxs c I bp rb w' := by
  rcases q with ⟨rfl, rfl⟩ | ⟨h, q⟩
  · refine (add_zero bp w).mono fun e w' ⟨he, hb, hbl⟩ => ⟨_, [], [], [], [], N, he, p.ext hbl, .inl ⟨rfl, rfl, rfl, hb⟩⟩
  · refine (padd_any w0 A G bp hG h c I [] [] [] [] N w p q (by simpa using hle) hT).mono fun e w' ⟨rb, k, ys, js', rbs', bxs', N', he, hp, hb, _, hv, _, _⟩ => ⟨rb, ys, js', rbs', bxs', N', he, hp, .inr ⟨h, k, hb, hv⟩⟩
theorem Rch.len {G : Ar} (hG : ArOK G) {k x : Nat} (r : Rch G k x) : (txt G x).length ≤ (txt G k).length := by
  induction r with
  | refl => exact Nat.le_refl _
  | @step k j x h _ ih =>
    refine Nat.le_trans ih ?_
    have hk := ksOf_lt h
    have hx := List.getElem?_eq_getElem hk
    unfold ksOf at h
    rw [hx] at h
    rcases hG k _ hx with ⟨_, q, _⟩ | ⟨_, _, _, _, q, e⟩
    · simp only at h; rw [q] at h; cases h
    · rw [txt_of hx, e]
      have : txt G j ∈ G[k].ks.map (txt G) := List.mem_map_of_mem h
      exact flat_len_mem this
theorem AddV.sz {G : Ar} {xs : List Nd} {h k : Nat} {I : PI} (a : AddV G [] xs h I k) (hG : ArOK (G ++ xs)) (hT : I.T.length ≤ 65536) : ∀ x ∈ xs, x.T.length ≤ 65536 := by
  intro x hx
  obtain ⟨i, hi, e⟩ := List.getElem_of_mem hx
  have hg : (G ++ xs)[G.length + i]? = some x := by rw [List.getElem?_append_right (by omega), Nat.add_sub_cancel_left, List.getElem?_eq_getElem hi, e]
  have h1 := a.new (G.length + i) (by simp) (by simp; omega)
  have h2 := a.txt
  simp only [List.nil_append] at h1 h2
  have := h1.len hG
  rw [h2, txt_of hg] at this
  omega
/-- the pen when jobs begin to be run -/
theorem PenA.start {w0 : World} {A : AF} {G : Ar} {bp : Nat} {xs : List Nd} {js : List Jb} {rbs : List Nat} {bxs : List (Nat × Nat)} {N : Nat → Prop} {W : World} (p : PenA w0 A G bp xs js rbs bxs N W) (hA : ArM w0 A G) (hsz : ∀ x ∈ xs, x.T.length ≤ 65536) (hle : G.length + xs.length ≤ 1000) (rb : Nat) :
    PenR w0 A G bp xs js rbs bxs 0 N (W.setCell ⟨bp, 2, none⟩ (.pointer (some ⟨rb, 0, none⟩))) ∧ TodoS (W.setCell ⟨bp, 2, none⟩ (.pointer (some ⟨rb, 0, none⟩))) A bp (.pointer (some ⟨rb, 0, none⟩)) N js := by
  obtain ⟨Av, c, h1, h2, h3⟩ := p.pen
  have hbl := p.below.setCell (p := ⟨bp, 2, none⟩) (p.core.nlt bp p.nb).1 (.pointer (some ⟨rb, 0, none⟩))
  refine ⟨⟨FrT.of_below hbl, by rw [List.take_zero, List.append_nil]; exact hA.ext hbl, p.core.keep (fun b cur t _ ht q => q.other (bk_ne q h1 (fun e => ht (.inl e)))) (by rw [World.size_setCell]; exact Nat.le_refl _), p.nb, hsz, hle, fun k hk => hA.lt hk⟩, Av, c, h1.set 2 _, fun hne => ?_⟩
  rcases id h2.2 with ⟨e, e0⟩ | ⟨g, cap, cur, e, hB, hg, hl, hm, hcs, ht⟩
  · have : Av = none := by injection e
    have e1 : js.length = 0 := by injection e
    exact absurd (List.length_eq_zero_iff.1 e1) hne
  · injection e with e1 e2 e3
    subst e1; subst e3
    refine ⟨g, 0, cur, rfl, h3 g rfl, (show Bk W g cur 154 from hg).other (bk_ne (show Bk W g cur 154 from hg) h1 (by decide)), hl, fun m j hm => ?_⟩
    have hml := (List.getElem?_eq_some_iff.1 hm).1
    have h5 := jbE.flat_at js m 0 j j.v hm rfl
    rw [← ht, List.getElem?_take] at h5
    have h6 : (m * jbE.sz + 0) = m := by show m * 1 + 0 = m; omega
    rw [h6, if_pos (by show m < js.length * 1; omega), Array.getElem?_toList] at h5
    rw [Nat.zero_add]; exact h5

def TwoB1 (w : World) (c : TC) (W : World) : Prop := Below w.heap.size w W ∧ Bk W w.heap.size #[.int .u64 c.old, .int .i64 c.ht, .int .i64 c.b, .int .i64 c.r, .int .i64 c.n, .string ⟨c.t.toArray⟩, .slice c.kp c.kl c.kc] 76
theorem TwoB1.ext {w W W' : World} {c : TC} (h : TwoB1 w c W) (hb : Below W.heap.size W W') : TwoB1 w c W' := ⟨bcall h.1 hb, h.2.ext hb h.2.lt⟩
theorem PenA.nil {w0 : World} {A : AF} {G : Ar} (hG : ArOK G) {bp : Nat} {W : World} (hb : Below w0.heap.size w0 W) (h0 : w0.heap.size ≤ bp) (h : Bk W bp #[.pointer (some ⟨A.ba, 0, none⟩), .slice none 0 0, .pointer none] 132) : PenA w0 A G bp [] [] [] [] (fun b => b = bp) W :=
  ⟨hb, ⟨fun b e => by subst e; exact ⟨h0, h.lt⟩, rfl, rfl, by rw [List.append_nil]; exact hG, fun i j rb x a => (by simp at a), fun b k q => (by cases q), fun b k q => (by cases q), fun i rb q => (by simp at q), fun b k k' q => (by cases q)⟩, rfl, ⟨none, 0, h, Ow.nil _ _ _ _, fun g hg => (by cases hg)⟩⟩
theorem AddE.le {G : Ar} {xs : List Nd} {bxs : List (Nat × Nat)} {c : TC} {I : PI} {bp rb : Nat} {W : World} (h : AddE G xs bxs c I bp rb W) : xs.length = I.n := by
  rcases h with ⟨rfl, rfl, rfl, _⟩ | ⟨h, k, _, a⟩
  · rfl
  · exact a.n
theorem AddE.sz {G : Ar} {xs : List Nd} {bxs : List (Nat × Nat)} {c : TC} {I : PI} {bp rb : Nat} {W : World} (h : AddE G xs bxs c I bp rb W) (hG : ArOK (G ++ xs)) (hT : I.T.length ≤ 65536) : ∀ x ∈ xs, x.T.length ≤ 65536 := by
  rcases h with ⟨rfl, rfl, rfl, _⟩ | ⟨h, k, _, a⟩
  · exact fun x hx => (by cases hx)
  · exact a.sz hG hT
theorem AddE.set {G : Ar} {xs : List Nd} {bxs : List (Nat × Nat)} {c : TC} {I : PI} {bp rb : Nat} {W : World} {cs : Array Value} (h : AddE G xs bxs c I bp rb W) (hb : Bk W bp cs 132) (k : Nat) (u : Value) : AddE G xs bxs c I bp rb (W.setCell ⟨bp, k, none⟩ u) := by
  rcases h with ⟨h1, h2, h3, h4⟩ | h
  · exact .inl ⟨h1, h2, h3, h4.other (bk_ne h4 hb (by decide))⟩
  · exact .inr h

set_option maxHeartbeats 2000000 in
set_option maxRecDepth 100000 in
theorem begin_any (A : AF) (G : Ar) (c : TC) (I : PI) (w : World) (hA : ArM w A G) (q : PE G FT w c I) (hT : I.T.length ≤ 65536) (hn : G.length + I.n ≤ 999) :
    Calls Tryz.prog 48 #[.pointer (some ⟨A.ba, 0, none⟩), c.v] w fun e w' => ∃ (bp rb : Nat) (xs : List Nd) (js : List Jb) (rbs : List Nat) (bxs : List (Nat × Nat)) (N : Nat → Prop), e = .returned (.tuple #[.pointer (some ⟨bp, 0, none⟩), .int .i64 0]) ∧ PenR w A G bp xs js rbs bxs 0 N w' ∧ TodoS w' A bp (.pointer (some ⟨rb, 0, none⟩)) N js ∧ AddE G xs bxs c I bp rb w' ∧ Below w.heap.size w w' := by
  have cC := fun W (p : Below w.heap.size w W) => Check_any A G FT c I W (hA.ext p) (q.ext p) hT
  have cN := fun W (p : Below w.heap.size w W) => newE hA.ok c I W (q.ext p) hT
  have cS := fun W (p : Below w.heap.size w W) => (hA.ext p).stats (by omega)
  have cA := fun bp N W (p : PenA w A G bp [] [] [] [] N W) => add_pe w A G bp hA.ok c I N W p q (by omega) hT
  have HA := Lib.hid hA; have HN := Lib.hid hn; have HT := Lib.hid hT; have HQ := Lib.hid q
  have hle : (I.n : Int) ≤ (1000 - G.length : Nat) := by omega
  unfold TC.v at *
  have CC := Lib.hid cC; have CN := Lib.hid cN; have CS := Lib.hid cS; have CA := Lib.hid cA
  have hfd : ∀ (a b c d e f g : Value) (W : World), (Instr.field 51 (.agg #[a, b, c, d, e, f, g]) 1).run Tryz.prog W = .ok b W := fun _ _ _ _ _ _ _ _ => by kernel_rfl
  clear cC cN cS cA hA q hT hn
  go_enter Tryz.func48, Tryz.ntmps48
  go_wp2_with fail
  have T0 := Lib.hid (show TwoB1 w c (w.alloc (.cells #[.int .u64 c.old, .int .i64 c.ht, .int .i64 c.b, .int .i64 c.r, .int .i64 c.n, .string ⟨c.t.toArray⟩, .slice c.kp c.kl c.kc] 76)) from ⟨bal (Below.refl _ _), Bk.new _ _ _⟩)
  refine (CC.out _ T0.out.1).mono ?_
  rintro e w1 ⟨rfl, hb1⟩
  have T1 := Lib.hid (T0.out.ext hb1)
  obtain ⟨x0, x1, x2, x3, x4, x5, x6, -⟩ := T1.out.2.seven
  have hl1 := T1.out.2.lt
  clear hb1 CC
  go_wp2_with fail
  refine (CN.out _ T1.out.1).mono ?_
  rintro e w2 ⟨rfl, hb2⟩
  have T2 := Lib.hid (T1.out.ext hb2)
  clear hb2 CN x0 x1 x2 x3 x4 x5 x6 hl1
  go_wp2_with fail
  refine (CS.out _ T2.out.1).mono ?_
  rintro e w3 ⟨wd, rfl, hb3⟩
  have T3 := Lib.hid (T2.out.ext hb3)
  obtain ⟨x0, x1, x2, x3, x4, x5, x6, -⟩ := T3.out.2.seven
  have hl3 := T3.out.2.lt
  clear hb3 CS
  go_wp2_with fail
  refine (CA.out w3.heap.size (fun b => b = w3.heap.size) _ (PenA.nil HA.out.ok (bal T3.out.1) T3.out.1.size (Bk.new _ _ _))).mono ?_
  rintro e w5 ⟨rb, xs, js, rbs, bxs, N, rfl, hp5, ha5⟩
  obtain ⟨Av, c5, h5, -⟩ := hp5.pen
  obtain ⟨d0, d1, d2, f0, f1, f2⟩ := h5.three
  have hl5 := h5.lt
  have HP5 := Lib.hid hp5; have HA5 := Lib.hid ha5; have HB5 := Lib.hid h5
  clear hp5 ha5 h5 CA
  go_wp2_with fail
  go_ret2
  have hle5 : G.length + xs.length ≤ 1000 := by rw [HA5.out.le]; have := HN.out; omega
  obtain ⟨q1, q2⟩ := HP5.out.start HA.out (HA5.out.sz HP5.out.core.ok HT.out) hle5 rb
  exact ⟨w3.heap.size, rb, xs, js, rbs, bxs, N, rfl, q1, q2, HA5.out.set HB5.out 2 _, HP5.out.below.setCell (p := ⟨w3.heap.size, 2, none⟩) T3.out.1.size _⟩

end Go.Proofs.YtclmjnobacepjaaGreat

/- rope.Write. -/
namespace Go.Proofs.YtclmjnobacepjaaGreat
open Go.RowKit

/-- what writing a plan gives: the new nodes, the root -/
def WrV (G : Ar) (xs : List Nd) (r : Rt) (I : PI) : Prop := (r = Rt.zero ∧ I = PI.zero ∧ xs = []) ∨ ∃ h k, r = rtOf (G ++ xs) k ∧ AddV G [] xs h I k
/-- the handles of the new nodes -/
def frL (n i : Nat) : List Nat := (List.range i).map (fun m => hd (n + m))
theorem frL_len (n i : Nat) : (frL n i).length = i := by simp [frL]
theorem frL_succ (n i : Nat) : frL n (i + 1) = frL n i ++ [hd (n + i)] := by simp [frL, List.range_succ]
theorem AddE.root {w0 : World} {A : AF} {G : Ar} {bp rb : Nat} {xs : List Nd} {js : List Jb} {rbs : List Nat} {bxs : List (Nat × Nat)} {N : Nat → Prop} {c : TC} {I : PI} {W0 W : World} (h : AddE G xs bxs c I bp rb W0) (p : PenR w0 A G bp xs js rbs bxs xs.length N W) (hz : xs = [] → W = W0) : ∃ r : Rt, WrV G xs r I ∧ Bk W rb #[.int .u64 r.at_, .int .i64 r.ht, .int .i64 r.b, .int .i64 r.r, .int .i64 r.n] 39 := by
  rcases h with ⟨rfl, rfl, rfl, hb⟩ | ⟨h, k, hb, a⟩
  · exact ⟨Rt.zero, .inl ⟨rfl, rfl, rfl⟩, by rw [hz rfl]; exact hb⟩
  · have := (p.core.box rb k hb).2.2
    have hk := a.lt
    simp only [List.length_nil, Nat.add_zero] at hk
    unfold rbC at this
    rw [if_pos hk] at this
    exact ⟨rtOf (G ++ xs) k, .inr ⟨h, k, rfl, a⟩, this⟩

theorem PenR.other {w0 : World} {A : AF} {G : Ar} {bp : Nat} {xs : List Nd} {js : List Jb} {rbs : List Nat} {bxs : List (Nat × Nat)} {i : Nat} {N : Nat → Prop} {W W' : World} (p : PenR w0 A G bp xs js rbs bxs i N W) (hf : FrT (arT A) w0 W') (hs : W.heap.size ≤ W'.heap.size) (hN : ∀ b, N b → W'.heap[b]? = W.heap[b]?) (hA : ∀ b, arT A b → W'.heap[b]? = W.heap[b]?) (hk : ∀ b cs, Bk W b cs 114 → Bk W' b cs 114) : PenR w0 A G bp xs js rbs bxs i N W' :=
  ⟨hf, p.ar.setRt hA hs hk, p.core.keep (fun b _ _ hb _ q => (hN b hb).trans q) hs, p.nb, p.sz, p.le, p.lt⟩
theorem TodoS.other {W W' : World} {A : AF} {bp : Nat} {rt : Value} {N : Nat → Prop} {rem : List Jb} (h : TodoS W A bp rt N rem) (hb : N bp) (hN : ∀ b, N b → W'.heap[b]? = W.heap[b]?) : TodoS W' A bp rt N rem :=
  h.keep hb (fun b _ _ q _ r => (hN b q).trans r)

set_option maxHeartbeats 4000000 in
set_option maxRecDepth 100000 in
theorem write_any (A : AF) (G : Ar) (c : TC) (I : PI) (w : World) (hA : ArM w A G) (q : PE G FT w c I) (hT : I.T.length ≤ 65536) (hn : G.length + I.n ≤ 999) :
    Calls Tryz.prog 32 #[.pointer (some ⟨A.ba, 0, none⟩), c.v] w fun e w' => ∃ (xs : List Nd) (r : Rt) (Av : Option Addr) (cc : Nat), e = .returned (.tuple #[r.v, .slice Av xs.length cc, .int .i64 0]) ∧ ArM w' A (G ++ xs) ∧ FrT (arT A) w w' ∧ Ow hndE w' w.heap.size 35 (.slice Av xs.length cc) (frL G.length xs.length) ∧ WrV G xs r I := by
  have cB := fun W (p : Below w.heap.size w W) => begin_any A G c I W (hA.ext p) (q.ext p) hT hn
  have HN := Lib.hid hn
  have HAL := Lib.hid (fun k (hk : arT A k) => hA.lt hk)
  unfold TC.v at *
  have CB := Lib.hid cB
  clear cB hA q hT hn
  go_enter Tryz.func32, Tryz.ntmps32
  go_wp2_with fail
  have hz0 : ((w.alloc (.cells #[.int .u64 c.old, .int .i64 c.ht, .int .i64 c.b, .int .i64 c.r, .int .i64 c.n, .string ⟨c.t.toArray⟩, .slice c.kp c.kl c.kc] 76)).alloc (.cells #[.int .u64 0, .int .i64 0, .int .i64 0, .int .i64 0, .int .i64 0] 39)).heap.size = w.heap.size + 2 := by simp
  have hb0 : Below w.heap.size w ((w.alloc (.cells #[.int .u64 c.old, .int .i64 c.ht, .int .i64 c.b, .int .i64 c.r, .int .i64 c.n, .string ⟨c.t.toArray⟩, .slice c.kp c.kl c.kc] 76)).alloc (.cells #[.int .u64 0, .int .i64 0, .int .i64 0, .int .i64 0, .int .i64 0] 39)) := bal (bal (Below.refl _ _))
  have hk0 : Bk ((w.alloc (.cells #[.int .u64 c.old, .int .i64 c.ht, .int .i64 c.b, .int .i64 c.r, .int .i64 c.n, .string ⟨c.t.toArray⟩, .slice c.kp c.kl c.kc] 76)).alloc (.cells #[.int .u64 0, .int .i64 0, .int .i64 0, .int .i64 0, .int .i64 0] 39)) (w.heap.size + 1) #[.int .u64 0, .int .i64 0, .int .i64 0, .int .i64 0, .int .i64 0] 39 := bal2' w
  refine (CB.out _ hb0).mono ?_
  generalize ((w.alloc (.cells #[.int .u64 c.old, .int .i64 c.ht, .int .i64 c.b, .int .i64 c.r, .int .i64 c.n, .string ⟨c.t.toArray⟩, .slice c.kp c.kl c.kc] 76)).alloc (.cells #[.int .u64 0, .int .i64 0, .int .i64 0, .int .i64 0, .int .i64 0] 39)) = W0 at *
  rintro e w5 ⟨bp, rb, xs, js, rbs, bxs, N, rfl, hp, ht, ha, hb⟩
  have HZ0 := Lib.hid hz0; have HB0 := Lib.hid hb0
  have HP5 := Lib.hid hp; have HT5 := Lib.hid ht; have HA5 := Lib.hid ha; have HK5 := Lib.hid (hk0.ext hb hk0.lt); have HJL := Lib.hid hp.core.jl; have HXN := Lib.hid ha.le; have HB5 := Lib.hid hb
  clear hz0 hb0 hk0 hp ht ha hb CB
  go_wp2_with fail
  go_loopw [5] (fun o wr => ∃ i : Nat, i ≤ xs.length ∧ ∃ Av cc, o = .slice Av i cc ∧ Hid (PenR W0 A G bp xs js rbs bxs i N wr) ∧ Hid (TodoS wr A bp (.pointer (some ⟨rb, 0, none⟩)) N (js.drop i)) ∧ Hid (Ow hndE wr w5.heap.size 35 (.slice Av i cc) (frL G.length i)) ∧ Hid (Bk wr (w.heap.size + 1) #[.int .u64 0, .int .i64 0, .int .i64 0, .int .i64 0, .int .i64 0] 39) ∧ Hid (w5.heap.size ≤ wr.heap.size) ∧ Hid (i = 0 → wr = w5)) (fun o _ => xs.length - (match o with | .slice _ n _ => n | _ => 0))
  case atStart => exact ⟨0, by omega, none, 0, rfl, HP5, by rw [List.drop_zero]; exact HT5, Lib.hid (Ow.nil _ _ _ _), HK5, Lib.hid (Nat.le_refl _), Lib.hid (fun _ => rfl)⟩
  case round =>
    obtain ⟨i, hi, Av, cc, rfl, HP, HT, HO, HK, HSZ, HI0⟩ := hrel
    obtain ⟨a, c2, t1, -⟩ := id HT.out
    obtain ⟨d0, d1, d2, -⟩ := t1.three
    have hlb := t1.lt
    clear t1
    by_cases hlt : i < xs.length
    · have hlt2 : i < js.length := by rw [HJL.out]; exact hlt
      have hdr := List.drop_eq_getElem_cons hlt2
      have hjl := HJL.out
      have hxl := HXN.out
      have hnn := HN.out
      have hdl : (js.drop i).length = (js.drop (i + 1)).length + 1 := by rw [hdr]; rfl
      have hrl : (js.drop (i + 1)).length ≤ 1000 := by rw [List.length_drop]; omega
      have hT2 := HT.out
      rw [hdr] at hT2
      rw [hdl] at d1
      have CS := Lib.hid (step_any HP.out (List.getElem?_eq_getElem hlt2) hT2 hrl)
      have HFR := Lib.hid (frL_succ G.length i)
      have hll := frL_len G.length i
      have hrp : (0 : Int) < ((js.drop (i + 1)).length : Int) + 1 := by omega
      have hrq : ((js.drop (i + 1)).length : Int) ≤ 1000 := by omega
      have hi9 : i ≤ 999 := by omega
      have HNW := Lib.hid HP.out.core.nlt
      have hnb : ∀ b, b < wr.heap.size → W0.heap.size ≤ b → N b ∨ ¬ N b := fun b _ _ => Classical.em _
      clear hT2 hdr hdl hnb hjl hxl hnn
      generalize hREM : js.drop (i + 1) = rem at *
      have HREM := Lib.hid hREM
      clear hREM
      generalize js[i] = jb at *
      generalize hL : frL G.length i = L at *
      clear hL
      subst hll
      go_wp2_with (first | (go_at_call 49; refine (CS.out).mono ?_; rintro e w8 ⟨bb, rfl, hp8, ht8, hk8⟩) | (at_builtin; refine Hid.out ?_))
      have hN5 : ∀ b, N b → W0.heap.size ≤ b ∧ b < w5.heap.size := HP5.out.core.nlt
      have hA5 : ∀ b, arT A b → b < w.heap.size := HAL.out
      have hz0 := HZ0.out
      have hsz := HSZ.out
      have hz5 := HB5.out.size
      have hO8 : Ow hndE w8 w5.heap.size 35 (.slice Av L.length cc) L := HO.out.kept fun g hg => hk8.2 g (HO.out.lt g hg).2 (fun q => by
        have := (HO.out.lt g hg).1
        rcases q with q | q
        · have := hA5 g q; omega
        · have := (hN5 g q).2; omega)
      have hK8 : Bk w8 (w.heap.size + 1) #[.int .u64 0, .int .i64 0, .int .i64 0, .int .i64 0, .int .i64 0] 39 := hk8.bk HK.out (fun q => by
        rcases q with q | q
        · have := hA5 _ q; omega
        · have := (hN5 _ q).1; omega)
      have hs8 := hk8.1
      have HP8 := Lib.hid hp8; have HT8 := Lib.hid ht8; have HO8 := Lib.hid hO8; have HK8 := Lib.hid hK8; have HS8 := Lib.hid hs8; have HN5 := Lib.hid hN5
      clear hp8 ht8 hk8 hO8 hK8 CS HP HT HO HK HI0 hs8 hN5 hA5
      refine Lib.hid ?_
      refine wpOw1 _ hndOK rfl (.tmp 37) (.tmp 39) rfl w5.heap.size (by have := HS8.out; simp; omega) (.slice Av L.length cc) L rfl (HO8.out.alloc _) (hd (G.length + L.length)) _ 1 rfl (new_cells _ _ _) (by omega) ?_
      intro A9 c9 w9 hown9 hg9
      have hg9' : (w8.alloc (.cells #[.int .u64 (hd (G.length + L.length) : Nat)] 35)).grownBy w9 (Value.slice Av L.length cc).ownBlock := hg9
      have hza : (w8.alloc (.cells #[.int .u64 (hd (G.length + L.length) : Nat)] 35)).heap.size = w8.heap.size + 1 := by simp
      have hz9 := hg9'.size
      have hsame : ∀ b, b < w8.heap.size → (∀ g, (Value.slice Av L.length cc).ownBlock = some g → g ≠ b) → w9.heap[b]? = w8.heap[b]? := fun b hb hg => (hg9'.block b (by omega) (fun e => hg b e.symm rfl)).trans (Below.heap_alloc _ _ _ hb)
      have hN9 : ∀ b, N b → w9.heap[b]? = w8.heap[b]? := fun b q => hsame b (HP8.out.core.nlt b q).2 (fun g hg e => by have := (HO8.out.lt g hg).1; have := (HN5.out b q).2; omega)
      have hA9 : ∀ b, arT A b → w9.heap[b]? = w8.heap[b]? := fun b q => hsame b (by have := HAL.out b q; have := HS8.out; omega) (fun g hg e => by have := (HO8.out.lt g hg).1; have := HAL.out b q; omega)
      have hf9 : FrT (arT A) W0 w9 := (HP8.out.fr.alloc).grown hg9' (fun k hk => .inr (by have := (HO8.out.lt k hk).1; omega))
      have HP9 := Lib.hid (HP8.out.other hf9 (by omega) hN9 hA9 (fun b cs q => (hsame b q.lt (fun g hg => HO8.out.ne_bk q (by decide) g hg)).trans q))
      have HT9 := Lib.hid (HT8.out.other HP8.out.nb hN9)
      have HK9 := Lib.hid (show Bk w9 (w.heap.size + 1) #[.int .u64 0, .int .i64 0, .int .i64 0, .int .i64 0, .int .i64 0] 39 from (hsame _ HK8.out.lt (fun g hg e => by have := (HO8.out.lt g hg).1; omega)).trans HK8.out)
      have HO9 := Lib.hid hown9
      have hw9 := Lib.hid (show w5.heap.size ≤ w9.heap.size by have := HS8.out; omega)
      clear hg9 hg9' hza hz9 hsame hN9 hA9 hf9 hown9 HP8 HT8 HO8 HK8
      go_wp2_with fail
      go_roundw
      case rel => exact ⟨L.length + 1, by omega, A9, c9, rfl, HP9, Lib.hid (by rw [HREM.out]; exact HT9.out), Lib.hid (by rw [HFR.out]; exact HO9.out), HK9, hw9, Lib.hid (fun q => absurd q (by omega))⟩
      case measure => simp; omega
    · obtain rfl : i = xs.length := by omega
      have hdr : js.drop xs.length = [] := List.drop_eq_nil_of_le (by rw [HJL.out]; exact Nat.le_refl _)
      have hT2 := HT.out
      rw [hdr] at hT2
      rw [hdr, List.length_nil] at d1
      obtain ⟨r, hr, hrb⟩ := HA5.out.root HP.out (fun e => HI0.out (by rw [e]; rfl))
      have CR := Lib.hid (root_any r hT2 hrb)
      have HWR := Lib.hid hr
      have HTT := Lib.hid hrb
      unfold Rt.v at CR
      clear hT2 hdr hr hrb HT
      obtain ⟨u0, u1, u2, u3, u4⟩ := r
      simp only at CR
      go_wp2_with fail
      refine (CR.out).mono ?_
      rintro e w8 ⟨rfl, hb8⟩
      have K8 := HK.out.ext hb8 HK.out.lt
      have HB8 := Lib.hid hb8
      obtain ⟨k0, k1, k2, k3, k4, f0, f1, f2, f3, f4⟩ := K8.five
      have hl8 := K8.lt
      have HK8 := Lib.hid K8
      clear hb8 K8 CR
      go_upto_region 10 with (fail)
      have K9 : Bk (((((w8.setCell ⟨w.heap.size + 1, 0, none⟩ (.int .u64 u0)).setCell ⟨w.heap.size + 1, 1, none⟩ (.int .i64 u1)).setCell ⟨w.heap.size + 1, 2, none⟩ (.int .i64 u2)).setCell ⟨w.heap.size + 1, 3, none⟩ (.int .i64 u3)).setCell ⟨w.heap.size + 1, 4, none⟩ (.int .i64 u4)) (w.heap.size + 1) #[.int .u64 u0, .int .i64 u1, .int .i64 u2, .int .i64 u3, .int .i64 u4] 39 := ((((HK8.out.set 0 _).set 1 _).set 2 _).set 3 _).set 4 _
      have E9 : ∀ b, b ≠ w.heap.size + 1 → (((((w8.setCell ⟨w.heap.size + 1, 0, none⟩ (.int .u64 u0)).setCell ⟨w.heap.size + 1, 1, none⟩ (.int .i64 u1)).setCell ⟨w.heap.size + 1, 2, none⟩ (.int .i64 u2)).setCell ⟨w.heap.size + 1, 3, none⟩ (.int .i64 u3)).setCell ⟨w.heap.size + 1, 4, none⟩ (.int .i64 u4)).heap[b]? = w8.heap[b]? := fun b hb => by simp [Below.heap_setCell _ _ _ _ (show b ≠ (⟨w.heap.size + 1, _, none⟩ : Addr).block from hb)]
      have F9 : FrT (arT A) w (((((w8.setCell ⟨w.heap.size + 1, 0, none⟩ (.int .u64 u0)).setCell ⟨w.heap.size + 1, 1, none⟩ (.int .i64 u1)).setCell ⟨w.heap.size + 1, 2, none⟩ (.int .i64 u2)).setCell ⟨w.heap.size + 1, 3, none⟩ (.int .i64 u3)).setCell ⟨w.heap.size + 1, 4, none⟩ (.int .i64 u4)) := (((((((FrT.of_below HB0.out).trans HP.out.fr).below HB8.out).set (.inr (by simp)) _).set (.inr (by simp)) _).set (.inr (by simp)) _).set (.inr (by simp)) _).set (.inr (by simp)) _
      have S9 : (((((w8.setCell ⟨w.heap.size + 1, 0, none⟩ (.int .u64 u0)).setCell ⟨w.heap.size + 1, 1, none⟩ (.int .i64 u1)).setCell ⟨w.heap.size + 1, 2, none⟩ (.int .i64 u2)).setCell ⟨w.heap.size + 1, 3, none⟩ (.int .i64 u3)).setCell ⟨w.heap.size + 1, 4, none⟩ (.int .i64 u4)).heap.size = w8.heap.size := by simp
      generalize (((((w8.setCell ⟨w.heap.size + 1, 0, none⟩ (.int .u64 u0)).setCell ⟨w.heap.size + 1, 1, none⟩ (.int .i64 u1)).setCell ⟨w.heap.size + 1, 2, none⟩ (.int .i64 u2)).setCell ⟨w.heap.size + 1, 3, none⟩ (.int .i64 u3)).setCell ⟨w.heap.size + 1, 4, none⟩ (.int .i64 u4)) = W9 at *
      have HE9 := Lib.hid E9; have HF9 := Lib.hid F9; have HK9 := Lib.hid K9; have HS9 := Lib.hid S9
      clear k0 k1 k2 k3 k4 f0 f1 f2 f3 f4 hl8 E9 F9 S9
      obtain ⟨k0, k1, k2, k3, k4, f0, f1, f2, f3, f4⟩ := K9.five
      have hl9 := K9.lt
      clear K9
      go_wp2_with fail
      have K10 : Bk (((((W9.setCell ⟨w.heap.size + 1, 0, none⟩ (.int .u64 u0)).setCell ⟨w.heap.size + 1, 1, none⟩ (.int .i64 u1)).setCell ⟨w.heap.size + 1, 2, none⟩ (.int .i64 u2)).setCell ⟨w.heap.size + 1, 3, none⟩ (.int .i64 u3)).setCell ⟨w.heap.size + 1, 4, none⟩ (.int .i64 u4)) (w.heap.size + 1) #[.int .u64 u0, .int .i64 u1, .int .i64 u2, .int .i64 u3, .int .i64 u4] 39 := ((((HK9.out.set 0 _).set 1 _).set 2 _).set 3 _).set 4 _
      have E10 : ∀ b, b ≠ w.heap.size + 1 → (((((W9.setCell ⟨w.heap.size + 1, 0, none⟩ (.int .u64 u0)).setCell ⟨w.heap.size + 1, 1, none⟩ (.int .i64 u1)).setCell ⟨w.heap.size + 1, 2, none⟩ (.int .i64 u2)).setCell ⟨w.heap.size + 1, 3, none⟩ (.int .i64 u3)).setCell ⟨w.heap.size + 1, 4, none⟩ (.int .i64 u4)).heap[b]? = w8.heap[b]? := fun b hb => by
        have := HE9.out b hb
        simp [Below.heap_setCell _ _ _ _ (show b ≠ (⟨w.heap.size + 1, _, none⟩ : Addr).block from hb), this]
      have F10 : FrT (arT A) w (((((W9.setCell ⟨w.heap.size + 1, 0, none⟩ (.int .u64 u0)).setCell ⟨w.heap.size + 1, 1, none⟩ (.int .i64 u1)).setCell ⟨w.heap.size + 1, 2, none⟩ (.int .i64 u2)).setCell ⟨w.heap.size + 1, 3, none⟩ (.int .i64 u3)).setCell ⟨w.heap.size + 1, 4, none⟩ (.int .i64 u4)) := ((((HF9.out.set (.inr (by simp)) _).set (.inr (by simp)) _).set (.inr (by simp)) _).set (.inr (by simp)) _).set (.inr (by simp)) _
      have S10 : (((((W9.setCell ⟨w.heap.size + 1, 0, none⟩ (.int .u64 u0)).setCell ⟨w.heap.size + 1, 1, none⟩ (.int .i64 u1)).setCell ⟨w.heap.size + 1, 2, none⟩ (.int .i64 u2)).setCell ⟨w.heap.size + 1, 3, none⟩ (.int .i64 u3)).setCell ⟨w.heap.size + 1, 4, none⟩ (.int .i64 u4)).heap.size = w8.heap.size := by simp [HS9.out]
      generalize (((((W9.setCell ⟨w.heap.size + 1, 0, none⟩ (.int .u64 u0)).setCell ⟨w.heap.size + 1, 1, none⟩ (.int .i64 u1)).setCell ⟨w.heap.size + 1, 2, none⟩ (.int .i64 u2)).setCell ⟨w.heap.size + 1, 3, none⟩ (.int .i64 u3)).setCell ⟨w.heap.size + 1, 4, none⟩ (.int .i64 u4)) = W10 at *
      obtain ⟨j0, j1, j2, j3, j4, -⟩ := K10.five
      have hA8 := HP.out.ar.ext HB8.out
      rw [List.take_length] at hA8
      have hz0 := HZ0.out
      have hz5 := HB5.out.size
      have hO8 := HO.out.ext HB8.out (Nat.le_refl _)
      refine bodyPost_ret (v := .tuple #[.agg #[.int .u64 u0, .int .i64 u1, .int .i64 u2, .int .i64 u3, .int .i64 u4], .slice Av xs.length cc, .int .i64 0]) (by simp [results, Tryz.results32, go_sem, j0, j1, j2, j3, j4]) rfl ⟨xs, ⟨u0, u1, u2, u3, u4⟩, Av, cc, rfl, ?_, F10, ?_, HWR.out⟩
      · refine hA8.setRt (fun k hk => E10 k (by have := HAL.out k hk; omega)) (by omega) (fun b cs hq => (E10 b (fun e => ?_)).trans hq)
        have := bk_ne hq HK8.out (by decide)
        exact this e
      · exact (hO8.kept fun g hg => E10 g (by have := (hO8.lt g hg).1; omega)).base (by omega)

end Go.Proofs.YtclmjnobacepjaaGreat
