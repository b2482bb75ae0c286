/- rope.Nodes. -/
import Derived.Test.YtclmjnobacepjaaGreatJ35
import Derived.Lib.UnsafeStr
import Derived.Laws.IdiomStrings
import Derived.Lib.BufferRead
namespace Go.Proofs.YtclmjnobacepjaaGreat
open Go.RowKit Go.Shelf
attribute [local go_sem] Oper.semAt_some

/-- append of one element, inside a fence -/
theorem wpOw1In {F : Fence} {nF : Nat} {α : Type} {E : Enc α} {t e : TypeId} (w : World) {ops : Array Oper} {rest : List Oper} {o : Oper} {a : Act} {Q : Exit → Act → World → Prop} (K : EOK E t e) (hgd : o.guard = none) (s xo : Operand) (ho : o.op = .call { callee := .builtin .append, args := #[s, xo], argTypes := #[t, t] })
    (B : Nat) (hB : B ≤ w.heap.size) (v : Value) (l : List α) (hsv : a.eval s = v) (hown : Ow E w B e v l) (x : α) (b c : Nat) (hxv : a.eval xo = .slice (some ⟨b, 0, none⟩) 1 c) (hx : ∀ j u, (E.cells x)[j]? = some u → w.cell? ⟨b, 0 + j, none⟩ = some u) (hl : l.length ≤ 999999)
    (h : ∀ A' c' w', Ow E w' B e (.slice A' (l.length + 1) c') (l ++ [x]) → w.grownBy w' v.ownBlock → wpListIn F nF Tryz.prog ops Q rest (a.put o.dst (.slice A' (l.length + 1) c')) w') :
    wpListIn F nF Tryz.prog ops Q (o :: rest) a w := by
  obtain ⟨ht, i, z, hi, hz, hs, hzs, hby⟩ := K
  have hbb : (l.length + 1) * i.bytes ≤ 140737488355328 := Nat.le_trans (Nat.mul_le_mul (show l.length + 1 ≤ 1000000 by omega) hby) (by omega)
  refine wpListIn_plain hgd fun K hK => ?_
  obtain ⟨v', w', hr, h2, h3, h4, h5⟩ := append_ownB (P := Tryz.prog) w B hB t t o.type e i z E.sz i.bytes ht hi hz hs rfl hzs E.pos v l.length (E.flat l) hown _ 1 (E.flat [x]) (src_one E ht x c hx) (by unfold maxLen; omega) hbb
  obtain ⟨A', c', rfl⟩ := own_form w' (own_zero h2)
  unfold Oper.wpIn
  refine ⟨by simp [Oper.about, ho, resolve, Target.leads, Sem.run_pure], ?_⟩
  rw [Oper.semAt_plain F _ _ (by rw [ho]; intro c hc'; cases hc')]
  simp [execOp, ho, resolve, invoke, builtin, hsv, hxv, hr, Result.andThen]
  refine hK _ _ (h A' c' w' ?_ h3)
  unfold Ow
  rw [List.length_append, E.flat_append]
  exact h2
theorem Ow.fr {α : Type} {E : Enc α} {w w' : World} {B l : Nat} {e : TypeId} {v : Value} {xs : List α} {r : Loop} (h : Ow E w B e v xs) (hl : w.heap[l]? = some (.loop r)) (f : FrT (fun j => j = l) w w') : Ow E w' B e v xs :=
  h.kept fun g hg => f.block g (h.lt g hg).2 (fun e => by
    obtain ⟨cur, q⟩ := h.blk g hg
    subst e; unfold Bk at q; rw [hl] at q; cases q)
theorem SetM.fr {w w' : World} {b l : Nat} {L : List Nat} {r : Loop} (h : SetM w b L) (hl : w.heap[l]? = some (.loop r)) (f : FrT (fun j => j = l) w w') : SetM w' b L :=
  h.keep (f.block b h.lt (fun e => by
    obtain ⟨n, D, ⟨es, cl, hq, -⟩, -⟩ := h.1
    subst e; rw [hl] at hq; cases hq))
/-- the variables of Nodes: the row (bO), the set (bS, mS) -/
structure NdI (w : World) (bO bS mS : Nat) (L : List Nat) (W : World) : Prop where
  below : Below w.heap.size w W
  o : ∃ A c, Bk W bO #[.slice A L.length c] 43 ∧ Ow hndE W w.heap.size 35 (.slice A L.length c) (L.map hd)
  s : Bk W bS #[.map (some mS)] 107
  m : SetM W mS L
  gO : w.heap.size ≤ bO
  gm : w.heap.size ≤ mS
theorem NdI.ext {w : World} {bO bS mS : Nat} {L : List Nat} {W W' : World} (h : NdI w bO bS mS L W) (hb : Below W.heap.size W W') : NdI w bO bS mS L W' := by
  obtain ⟨A, c, h1, h2⟩ := h.o
  exact ⟨bcall h.below hb, ⟨A, c, h1.ext hb h1.lt, h2.ext hb (Nat.le_refl _)⟩, h.s.ext hb h.s.lt, h.m.ext hb h.m.lt, h.gO, h.gm⟩
theorem NdI.fr {w : World} {bO bS mS l : Nat} {L : List Nat} {W W' : World} {r : Loop} (h : NdI w bO bS mS L W) (hl : W.heap[l]? = some (.loop r)) (f : FrT (fun j => j = l) W W') (hm : w.heap.size ≤ l) : NdI w bO bS mS L W' := by
  obtain ⟨A, c, h1, h2⟩ := h.o
  exact ⟨below_fr (Nat.le_refl _) h.below f hm, ⟨A, c, h1.fr hl f, h2.fr hl f⟩, h.s.fr hl f, h.m.fr hl f, h.gO, h.gm⟩

set_option maxRecDepth 100000 in
set_option maxHeartbeats 4000000 in
theorem rnodes_any (A : AF) (G : Ar) (r : Rt) (T : List UInt8) (w : World) (hA : ArM w A G) (hr : RV G r T) (hG : ∀ x ∈ rpL G r, x < G.length) :
    Calls Tryz.prog 19 #[.pointer (some ⟨A.ba, 0, none⟩), r.v] w fun e w' => ∃ Av cc, e = .returned (.tuple #[.slice Av (kpL [] (rpL G r)).length cc, .int .i64 0]) ∧ Ow hndE w' w.heap.size 35 (.slice Av (kpL [] (rpL G r)).length cc) ((kpL [] (rpL G r)).map hd) ∧ Below w.heap.size w w' := by
  have hle := hA.le
  have cK := fun W (p : Below w.heap.size w W) => rcheck_any A G r T W (hA.ext p) hr
  have cN := fun W => nodes_any A r W
  have hit := fun b1 b2 W (p : Below w.heap.size w W) => nodes1_it A G r w hA hr.ok b1 b2 W p
  have HG := Lib.hid hG
  generalize rpL G r = xs at *
  obtain ⟨ro, rh, rb, rr, rn⟩ := r
  unfold Rt.v at *
  have CK := Lib.hid cK; have CN := Lib.hid cN; have HIT := Lib.hid hit
  have hmm := mkMap
  clear cK cN hit hA hr hG
  refine (callsIn_wide (n := 9)).1 ?_
  refine callsIn_of_wp_marks Tryz.func19 rfl trivial ?_ rfl
  simp only [Tryz.ntmps19, List.size_toArray, List.length_cons, List.length_nil, Nat.reduceAdd, Nat.reduceSub, Array.replicate_succ, Array.replicate_zero, List.push_toArray, List.append_toArray, List.nil_append, List.cons_append]
  gi_wp2_with fail
  refine ⟨trivial, (callsIn_wide.2 (CK.out _ (bal (Below.refl _ _)))).mono ?_⟩
  rintro e w1 ⟨rfl, hb1⟩
  have hk1 := (Bk.new w #[.int .u64 ro, .int .i64 rh, .int .i64 rb, .int .i64 rr, .int .i64 rn] 39).ext hb1 (by simp)
  have HB1 := Lib.hid (bcall (bal (Below.refl _ _)) hb1)
  clear hb1 CK
  have hk3 : Bk (((w1.alloc (.cells #[.slice none 0 0] 43)).alloc (.map #[] 0)).alloc (.cells #[.map (some (w1.heap.size + 1))] 107)) w.heap.size #[.int .u64 ro, .int .i64 rh, .int .i64 rb, .int .i64 rr, .int .i64 rn] 39 := hk1.alloc.alloc.alloc
  have hO3 : Bk (((w1.alloc (.cells #[.slice none 0 0] 43)).alloc (.map #[] 0)).alloc (.cells #[.map (some (w1.heap.size + 1))] 107)) w1.heap.size #[.slice none 0 0] 43 := (Bk.new _ _ _).alloc.alloc
  have hS3 : Bk (((w1.alloc (.cells #[.slice none 0 0] 43)).alloc (.map #[] 0)).alloc (.cells #[.map (some (w1.heap.size + 1))] 107)) (w1.heap.size + 1 + 1) #[.map (some (w1.heap.size + 1))] 107 := by
    have := bal2' (w1.alloc (.cells #[.slice none 0 0] 43)) (o := .map #[] 0) (cs := #[.map (some (w1.heap.size + 1))]) (t := 107)
    rw [World.size_alloc] at this
    exact this
  have hM3 : SetM (((w1.alloc (.cells #[.slice none 0 0] 43)).alloc (.map #[] 0)).alloc (.cells #[.map (some (w1.heap.size + 1))] 107)) (w1.heap.size + 1) [] := by
    have := (SetM.made (w1.alloc (.cells #[.slice none 0 0] 43))).alloc (.cells #[.map (some (w1.heap.size + 1))] 107)
    rw [World.size_alloc] at this
    exact this
  have hB3 : Below w.heap.size w (((w1.alloc (.cells #[.slice none 0 0] 43)).alloc (.map #[] 0)).alloc (.cells #[.map (some (w1.heap.size + 1))] 107)) := bal (bal (bal HB1.out))
  have hww := HB1.out.size
  have hN3 : NdI w w1.heap.size (w1.heap.size + 1 + 1) (w1.heap.size + 1) [] (((w1.alloc (.cells #[.slice none 0 0] 43)).alloc (.map #[] 0)).alloc (.cells #[.map (some (w1.heap.size + 1))] 107)) := ⟨hB3, ⟨none, 0, hO3, Ow.nil _ _ _ _⟩, hS3, hM3, hww, by omega⟩
  obtain ⟨r0, r1, r2, r3, r4, -⟩ := hk3.five
  have hlr := hk3.lt
  have HN3 := Lib.hid hN3
  clear hk1 hk3 hO3 hS3 hM3 hB3 hN3
  gi_wp2_with fail
  refine ⟨trivial, (callsIn_wide.2 (CN.out _)).mono ?_⟩
  rintro e w2 ⟨rfl, rfl⟩
  generalize (((w1.alloc (.cells #[.slice none 0 0] 43)).alloc (.map #[] 0)).alloc (.cells #[.map (some (w1.heap.size + 1))] 107)) = W3 at *
  have hN4 := HN3.out.ext (bal (o := .cells #[.int .u64 ro, .int .i64 rh, .int .i64 rb, .int .i64 rr, .int .i64 rn] 39) (bal (o := .cells #[.pointer (some ⟨A.ba, 0, none⟩)] 24) (Below.refl W3.heap.size W3)))
  have hit := HIT.out W3.heap.size (W3.heap.size + 1) _ hN4.below ((Bk.new _ _ _).alloc) (bal2' W3)
  have HIT2 := Lib.hid hit; have HN4 := Lib.hid hN4
  clear hit hN4 HIT HN3 CN r0 r1 r2 r3 r4 hlr
  gi_wp2_with fail
  generalize (W3.alloc (.cells #[.pointer (some ⟨A.ba, 0, none⟩)] 24)).alloc (.cells #[.int .u64 ro, .int .i64 rh, .int .i64 rb, .int .i64 rr, .int .i64 rn] 39) = W0 at *
  have hw0 := HN4.out.below.size
  refine wpIn_rangeC (w0 := w) (xs := xs) (gf := 37) (encs := encN G) rfl (enters_of Tryz.func37 (by kernel_rfl) rfl) HIT2.out (fun _ _ => rfl)
    (fun k W => NdI w w1.heap.size (w1.heap.size + 1 + 1) (w1.heap.size + 1) (kpL [] (xs.take k)) W) (fun _ _ => False) ?hI ?hIx ?hIr ?hIxr ?hIb ?h0 ?round ?done ?stop
  case hI => exact fun k C D hc hb => hc.ext hb
  case hIx => exact fun c C D hc _ => hc
  case hIr => exact fun k C D r hc hl hf hs => hc.fr hl hf (by omega)
  case hIxr => exact fun c C D r hc _ _ _ => hc
  case hIb => exact fun k C hc => hc.below
  case h0 => exact HN4.out
  case round =>
    intro l k x v W hx hi hz
    unfold encN
    generalize (if htOf G x = 0 then txt G x else []) = tx
    generalize htOf G x = hx'
    obtain ⟨va, vn, vc⟩ := v
    dsimp only
    have HX := Lib.hid hx
    clear hi hx
    gi_wp2_with fail
    refine ⟨Below.refl _ _, ?_⟩
    intro W2 r hf hs2 hl2 hd2 hi2
    have htk : xs.take (k + 1) = xs.take k ++ [x] := by rw [List.take_add_one, HX.out]; rfl
    have hxG := HG.out x (List.mem_of_getElem? HX.out)
    have hlen : (kpL [] (xs.take k)).length ≤ G.length := nodup_le hi2.m.2 (fun y hy => HG.out y (List.mem_of_mem_take ((mem_kpL.1 hy).elim (fun q => (by cases q)) id)))
    have hkp : kpL [] (xs.take (k + 1)) = if x ∈ kpL [] (xs.take k) then kpL [] (xs.take k) else kpL [] (xs.take k) ++ [x] := by rw [htk, kpL_app]; rfl
    have HKP := Lib.hid hkp
    have HI2 := Lib.hid hi2
    obtain ⟨s0, -⟩ := hi2.s.one
    have hls := hi2.s.lt
    have hlk := hi2.m.look (k := x) (by omega)
    clear hkp htk
    by_cases hm : x ∈ kpL [] (xs.take k)
    · rw [decide_eq_true hm] at hlk
      have hkp := HKP.out
      rw [if_pos hm] at hkp
      have HKP2 := Lib.hid hkp
      clear hkp hi2 hf
      gi_wp2_with fail
      exact ⟨⟨KpT.refl _, rfl, rfl⟩, show NdI w w1.heap.size (w1.heap.size + 1 + 1) (w1.heap.size + 1) (kpL [] (xs.take (k + 1))) W2 by rw [HKP2.out]; exact HI2.out⟩
    · rw [decide_eq_false hm] at hlk
      have hkp := HKP.out
      rw [if_neg hm] at hkp
      have HKP2 := Lib.hid hkp
      clear hkp
      generalize kpL [] (xs.take k) = L at *
      obtain ⟨w3, hst, hm3, hg3, hs3⟩ := hi2.m.store (by omega) (k := x) (by omega) hm
      obtain ⟨Ad, cd, hc1, hc2⟩ := hi2.o
      have hgm := hi2.gm
      have hC3 : Bk w3 w1.heap.size #[.slice Ad L.length cd] 43 := hc1.grown hg3 (fun e => hi2.m.ne_bk hc1 (Option.some.inj e))
      have hT3 := hi2.s.grown hg3 (fun e => hi2.m.ne_bk hi2.s (Option.some.inj e))
      obtain ⟨y0, f0⟩ := hC3.one
      have hl3 := hC3.lt
      have hR3 : Ow hndE w3 w.heap.size 35 (.slice Ad L.length cd) (L.map hd) := hc2.kept fun g hg => hg3.block g (hc2.lt g hg).2 (fun e => hc2.ne_map hi2.m g hg (Option.some.inj e))
      have HB3 := Lib.hid (hi2.below.grown hg3 hi2.below.size (fun q hq => by obtain rfl := Option.some.inj hq; exact hgm))
      have hKP3 : RndK W0.heap.size W2 w3 := ⟨⟨hg3.size, fun b cur t ht q => q.grown hg3 (fun e => hi2.m.ne_bk q (Option.some.inj e))⟩, hg3.block _ (by omega) (fun e => by
        obtain ⟨n, D, ⟨es, cl, hq, -⟩, -⟩ := hi2.m.1
        have e2 := Option.some.inj e
        rw [← e2, hd2] at hq; cases hq), hg3.block _ (by omega) (fun e => by
        obtain ⟨n, D, ⟨es, cl, hq, -⟩, -⟩ := hi2.m.1
        have e2 := Option.some.inj e
        rw [← e2, hl2] at hq; cases hq)⟩
      have HKP3 := Lib.hid hKP3
      have HC3 := Lib.hid hC3; have HT3 := Lib.hid hT3; have HR3 := Lib.hid hR3; have HM3 := Lib.hid hm3
      have HD3 := Lib.hid (hKP3.2.1.trans hd2); have HL3 := Lib.hid (hKP3.2.2.trans hl2)
      clear hc1 hc2 hC3 hT3 hR3 hm3 hg3 hs3 hKP3 hi2 hf HI2 hd2 hl2
      gi_wp2_with (gi_at_builtin; refine Hid.out ?_)
      refine Lib.hid ?_
      refine wpOw1In _ hndOK rfl (.tmp 28) (.tmp 30) rfl w.heap.size (by have := HB3.out.size; simp; omega) (.slice Ad L.length cd) (L.map hd) (by simp [go_sem, List.length_map]) (HR3.out.alloc _) (hd x) w3.heap.size 1 rfl (new_cells _ _ _) (by rw [List.length_map]; omega) ?_
      rw [List.length_map]
      intro A8 c8 w8 hown8 hg8
      have hOa := HR3.out.alloc (.cells #[.int .u64 (hd x : Nat)] 35)
      have hg9 : (w3.alloc (.cells #[.int .u64 (hd x : Nat)] 35)).grownBy w8 (Value.slice Ad L.length cd).ownBlock := hg8
      have hz3 : (w3.alloc (.cells #[.int .u64 (hd x : Nat)] 35)).heap.size = w3.heap.size + 1 := by simp
      have hz8 := hg9.size
      have mv : ∀ (b : Nat) (cs : Array Value) (t : TypeId), Bk w3 b cs t → 35 ≠ t → Bk w8 b cs t := fun b cs t hb hne => hb.alloc.grown hg9 (fun e => (hOa.ne_bk hb.alloc hne) b e.symm rfl)
      have hM8 : SetM w8 (w1.heap.size + 1) (L ++ [x]) := (HM3.out.alloc _).grown hg9 (fun e => hOa.ne_map (HM3.out.alloc _) _ e.symm rfl)
      have hC8 := mv _ _ _ HC3.out (by decide)
      obtain ⟨z0, h0⟩ := hC8.one
      have hl8 := hC8.lt
      have hT8 := mv _ _ _ HT3.out (by decide)
      have hB8 := (HB3.out.alloc HB3.out.size (.cells #[.int .u64 (hd x : Nat)] 35)).grown hg9 (by have := HB3.out.size; omega) (fun q hq => (HR3.out.lt q hq).1)
      have hobj : ∀ (b : Nat) (o : Obj), w3.heap[b]? = some o → (∀ cs t q, o ≠ .cells cs t q) → (w8.setCell ⟨w1.heap.size, 0, none⟩ (.slice A8 (L.length + 1) c8)).heap[b]? = some o := fun b o hb hne => by
        have hbl := (Array.getElem?_eq_some_iff.1 hb).1
        have h9 : w8.heap[b]? = some o := (hg9.block b (by omega) (fun e => by
          obtain ⟨cur, q⟩ := hOa.blk b e.symm
          have q2 : w3.heap[b]? = some (.cells cur 35 (0, 0)) := (Below.heap_alloc w3 _ b hbl).symm.trans q
          rw [hb] at q2
          exact hne _ _ _ (Option.some.inj q2))).trans ((Below.heap_alloc _ _ _ hbl).trans hb)
        exact (Below.heap_setCell _ _ _ _ (fun e => by
          have e2 : b = w1.heap.size := e
          unfold Bk at hC8
          rw [e2, hC8] at h9
          exact hne _ _ _ (Option.some.inj h9).symm)).trans h9
      have HF := Lib.hid (show NdI w w1.heap.size (w1.heap.size + 1 + 1) (w1.heap.size + 1) (L ++ [x]) (w8.setCell ⟨w1.heap.size, 0, none⟩ (.slice A8 (L.length + 1) c8)) from
        ⟨bset hB8 (by simp; omega), ⟨A8, c8, by rw [List.length_append]; exact hC8.set 0 _, by
          rw [List.length_append, List.map_append]
          exact hown8.kept fun g hg => Below.heap_setCell _ _ _ _ (hown8.ne_bk hC8 (by decide) g hg)⟩, hT8.other (bk_ne hT8 hC8 (by decide)), hM8.keep (Below.heap_setCell _ _ _ _ (fun e => SetM.ne_bk hM8 hC8 e.symm)), hww, hgm⟩)
      have HRK := Lib.hid (show RndK W0.heap.size W2 (w8.setCell ⟨w1.heap.size, 0, none⟩ (.slice A8 (L.length + 1) c8)) from
        ⟨HKP3.out.1.trans ⟨by rw [World.size_setCell]; omega, fun b cur t ht q => by
          have h8 := mv b cur t q (fun e => by subst e; revert ht; unfold KT; decide)
          exact h8.other (bk_ne h8 hC8 (fun e => by subst e; revert ht; unfold KT; decide))⟩, (hobj _ _ HD3.out (fun _ _ _ e => by cases e)).trans (HKP3.out.2.1.symm.trans HD3.out).symm, (hobj _ _ HL3.out (fun _ _ _ e => by cases e)).trans (HKP3.out.2.2.symm.trans HL3.out).symm⟩)
      clear hg8 hg9 hown8 mv hM8 hC8 hT8 hB8 hOa hz3 hz8 hobj
      gi_wp2_with fail
      exact ⟨HRK.out, show NdI w w1.heap.size (w1.heap.size + 1 + 1) (w1.heap.size + 1) (kpL [] (xs.take (k + 1))) _ by rw [HKP2.out]; exact HF.out⟩
  case done =>
    intro D W hD hi hK
    have hi' : NdI w w1.heap.size (w1.heap.size + 1 + 1) (w1.heap.size + 1) (kpL [] (xs.take xs.length)) W := hi
    rw [List.take_length] at hi'
    obtain ⟨Ad, cd, hc1, hc2⟩ := hi'.o
    obtain ⟨e0, -⟩ := hc1.one
    have hle := hc1.lt
    have HR := Lib.hid hc2; have HB := Lib.hid hi'.below
    clear hi hi' hc1 hc2
    gi_wp2_with fail
    refine ⟨by simp, .inl ⟨_, _, rfl, run_takeDeferred hK, ?_⟩⟩
    have hput : ∀ b, b ≠ D → (W.putObj D (.deferred none)).heap[b]? = W.heap[b]? := fun b hb => World.putObj_heap_other hb
    refine ⟨.tuple #[.slice Ad (kpL [] xs).length cd, .int .i64 0], by simp [results, Tryz.results19, go_sem], Ad, cd, rfl, ?_, HB.out.trans (below_putObj _ _ _ (by omega) HB.out.size)⟩
    exact HR.out.kept fun g hg => hput g (fun e => by
      obtain ⟨cur, q⟩ := HR.out.blk g hg
      subst e; unfold Bk at q; rw [hK] at q; cases q)
  case stop => exact fun D c W _ h _ => h.elim

end Go.Proofs.YtclmjnobacepjaaGreat

/- rope.Leaves. -/
namespace Go.Proofs.YtclmjnobacepjaaGreat
open Go.RowKit Go.Shelf
attribute [local go_sem] Oper.semAt_some

/-- the texts of the leaves among the nodes l -/
def lvT (G : Ar) (l : List Nat) : List (List UInt8) := (l.filter (fun k => decide (htOf G k = 0))).map (txt G)
theorem lvT_in {G : Ar} {l : List Nat} {k : Nat} (h : htOf G k = 0) : lvT G (l ++ [k]) = lvT G l ++ [txt G k] := by simp [lvT, h]
theorem lvT_out {G : Ar} {l : List Nat} {k : Nat} (h : htOf G k ≠ 0) : lvT G (l ++ [k]) = lvT G l := by simp [lvT, h]
theorem lvT_take (G : Ar) (l : List Nat) (k : Nat) : (lvT G (l.take k)).length ≤ (lvT G l).length := by
  unfold lvT
  rw [List.length_map, List.length_map]
  conv => rhs; rw [← List.take_append_drop k l]
  rw [List.filter_append, List.length_append]
  omega
/-- the row of Leaves -/
structure LvI (w : World) (bO : Nat) (L : List (List UInt8)) (W : World) : Prop where
  below : Below w.heap.size w W
  o : ∃ A c, Bk W bO #[.slice A L.length c] 70 ∧ Ow strE W w.heap.size 9 (.slice A L.length c) L
  gO : w.heap.size ≤ bO
theorem LvI.ext {w : World} {bO : Nat} {L : List (List UInt8)} {W W' : World} (h : LvI w bO L W) (hb : Below W.heap.size W W') : LvI w bO L W' := by
  obtain ⟨A, c, h1, h2⟩ := h.o
  exact ⟨bcall h.below hb, ⟨A, c, h1.ext hb h1.lt, h2.ext hb (Nat.le_refl _)⟩, h.gO⟩
theorem LvI.fr {w : World} {bO l : Nat} {L : List (List UInt8)} {W W' : World} {r : Loop} (h : LvI w bO L W) (hl : W.heap[l]? = some (.loop r)) (f : FrT (fun j => j = l) W W') (hm : w.heap.size ≤ l) : LvI w bO L W' := by
  obtain ⟨A, c, h1, h2⟩ := h.o
  exact ⟨below_fr (Nat.le_refl _) h.below f hm, ⟨A, c, h1.fr hl f, h2.fr hl f⟩, h.gO⟩

set_option maxRecDepth 100000 in
set_option maxHeartbeats 4000000 in
theorem rleaves_any (A : AF) (G : Ar) (r : Rt) (T : List UInt8) (w : World) (hA : ArM w A G) (hr : RV G r T) (hL : (lvT G (rpL G r)).length ≤ 100000) :
    Calls Tryz.prog 21 #[.pointer (some ⟨A.ba, 0, none⟩), r.v] w fun e w' => ∃ Av cc, e = .returned (.tuple #[.slice Av (lvT G (rpL G r)).length cc, .int .i64 0]) ∧ Ow strE w' w.heap.size 9 (.slice Av (lvT G (rpL G r)).length cc) (lvT G (rpL G r)) ∧ Below w.heap.size w w' := by
  have cK := fun W (p : Below w.heap.size w W) => rcheck_any A G r T W (hA.ext p) hr
  have cN := fun W => nodes_any A r W
  have hit := fun b1 b2 W (p : Below w.heap.size w W) => nodes1_it A G r w hA hr.ok b1 b2 W p
  have HL := Lib.hid hL
  generalize rpL G r = xs at *
  obtain ⟨ro, rh, rb, rr, rn⟩ := r
  unfold Rt.v at *
  have CK := Lib.hid cK; have CN := Lib.hid cN; have HIT := Lib.hid hit
  clear cK cN hit hA hr hL
  refine (callsIn_wide (n := 9)).1 ?_
  refine callsIn_of_wp_marks Tryz.func21 rfl trivial ?_ rfl
  simp only [Tryz.ntmps21, List.size_toArray, List.length_cons, List.length_nil, Nat.reduceAdd, Nat.reduceSub, Array.replicate_succ, Array.replicate_zero, List.push_toArray, List.append_toArray, List.nil_append, List.cons_append]
  gi_wp2_with fail
  refine ⟨trivial, (callsIn_wide.2 (CK.out _ (bal (Below.refl _ _)))).mono ?_⟩
  rintro e w1 ⟨rfl, hb1⟩
  have hk1 := (Bk.new w #[.int .u64 ro, .int .i64 rh, .int .i64 rb, .int .i64 rr, .int .i64 rn] 39).ext hb1 (by simp)
  have HB1 := Lib.hid (bcall (bal (Below.refl _ _)) hb1)
  clear hb1 CK
  have hk3 : Bk (w1.alloc (.cells #[.slice none 0 0] 70)) w.heap.size #[.int .u64 ro, .int .i64 rh, .int .i64 rb, .int .i64 rr, .int .i64 rn] 39 := hk1.alloc
  have hww := HB1.out.size
  have hN3 : LvI w w1.heap.size [] (w1.alloc (.cells #[.slice none 0 0] 70)) := ⟨bal HB1.out, ⟨none, 0, Bk.new _ _ _, Ow.nil _ _ _ _⟩, hww⟩
  obtain ⟨r0, r1, r2, r3, r4, -⟩ := hk3.five
  have hlr := hk3.lt
  have HN3 := Lib.hid hN3
  clear hk1 hk3 hN3
  gi_wp2_with fail
  refine ⟨trivial, (callsIn_wide.2 (CN.out _)).mono ?_⟩
  rintro e w2 ⟨rfl, rfl⟩
  generalize (w1.alloc (.cells #[.slice none 0 0] 70)) = W3 at *
  have hN4 := HN3.out.ext (bal (o := .cells #[.int .u64 ro, .int .i64 rh, .int .i64 rb, .int .i64 rr, .int .i64 rn] 39) (bal (o := .cells #[.pointer (some ⟨A.ba, 0, none⟩)] 24) (Below.refl W3.heap.size W3)))
  have hit := HIT.out W3.heap.size (W3.heap.size + 1) _ hN4.below ((Bk.new _ _ _).alloc) (bal2' W3)
  have HIT2 := Lib.hid hit; have HN4 := Lib.hid hN4
  clear hit hN4 HIT HN3 CN r0 r1 r2 r3 r4 hlr
  gi_wp2_with fail
  generalize (W3.alloc (.cells #[.pointer (some ⟨A.ba, 0, none⟩)] 24)).alloc (.cells #[.int .u64 ro, .int .i64 rh, .int .i64 rb, .int .i64 rr, .int .i64 rn] 39) = W0 at *
  have hw0 := HN4.out.below.size
  refine wpIn_rangeC (w0 := w) (xs := xs) (gf := 37) (encs := encN G) rfl (enters_of Tryz.func37 (by kernel_rfl) rfl) HIT2.out (fun _ _ => rfl)
    (fun k W => LvI w w1.heap.size (lvT G (xs.take k)) W) (fun _ _ => False) ?hI ?hIx ?hIr ?hIxr ?hIb ?h0 ?round ?done ?stop
  case hI => exact fun k C D hc hb => hc.ext hb
  case hIx => exact fun c C D hc _ => hc
  case hIr => exact fun k C D r hc hl hf hs => hc.fr hl hf (by omega)
  case hIxr => exact fun c C D r hc _ _ _ => hc
  case hIb => exact fun k C hc => hc.below
  case h0 => exact HN4.out
  case round =>
    intro l k x v W hx hi hz
    have htk : xs.take (k + 1) = xs.take k ++ [x] := by rw [List.take_add_one, hx]; rfl
    have hlt := lvT_take G xs k
    have hlL : (lvT G (xs.take k)).length ≤ 100000 := Nat.le_trans hlt HL.out
    unfold encN
    obtain ⟨va, vn, vc⟩ := v
    dsimp only
    have HI1 := Lib.hid hi
    clear hi hx hlt
    by_cases hh : htOf G x = 0
    · rw [hh, if_pos rfl]
      have hkp : lvT G (xs.take (k + 1)) = lvT G (xs.take k) ++ [txt G x] := by rw [htk, lvT_in hh]
      have HKP := Lib.hid hkp
      clear hkp htk hh
      generalize txt G x = tx at *
      gi_wp2_with fail
      refine ⟨bal (Below.refl _ _), ?_⟩
      intro W2 r hf hs2 hl2 hd2 hi2'
      have hi2 : LvI w w1.heap.size (lvT G (xs.take k)) W2 := hi2'
      generalize lvT G (xs.take k) = L at *
      have hk : Bk W2 W.heap.size #[.int .i64 (0 : Nat), .string ⟨tx.toArray⟩, .slice va vn vc, .int .i64 0] 86 := (hf.block W.heap.size (by simp) (by omega)).trans (Bk.new _ _ _)
      obtain ⟨k0, k1, k2, k3, -⟩ := hk.four
      have hlk := hk.lt
      obtain ⟨Ad, cd, hc1, hc2⟩ := hi2.o
      obtain ⟨y0, f0⟩ := hc1.one
      have hl3 := hc1.lt
      have HC3 := Lib.hid hc1; have HR3 := Lib.hid hc2; have HB3 := Lib.hid hi2.below; have HD3 := Lib.hid hd2; have HL3 := Lib.hid hl2
      clear hc1 hc2 hi2 hi2' hf hs2 hl2 hd2 hk HI1
      gi_wp2_with (gi_at_builtin; refine Hid.out ?_)
      refine Lib.hid ?_
      refine wpOw1In _ strOK rfl (.tmp 25) (.tmp 29) rfl w.heap.size (by have := HB3.out.size; simp; omega) (.slice Ad L.length cd) L rfl (HR3.out.alloc _) tx W2.heap.size 1 rfl (new_cells _ _ _) (by omega) ?_
      intro A8 c8 w8 hown8 hg8
      have hOa := HR3.out.alloc (.cells #[.string ⟨tx.toArray⟩] 9)
      have hg9 : (W2.alloc (.cells #[.string ⟨tx.toArray⟩] 9)).grownBy w8 (Value.slice Ad L.length cd).ownBlock := hg8
      have hz3 : (W2.alloc (.cells #[.string ⟨tx.toArray⟩] 9)).heap.size = W2.heap.size + 1 := by simp
      have hz8 := hg9.size
      have mv : ∀ (b : Nat) (cs : Array Value) (t : TypeId), Bk W2 b cs t → 9 ≠ t → Bk w8 b cs t := fun b cs t hb hne => hb.alloc.grown hg9 (fun e => (hOa.ne_bk hb.alloc hne) b e.symm rfl)
      have hC8 := mv _ _ _ HC3.out (by decide)
      obtain ⟨z0, h0⟩ := hC8.one
      have hl8 := hC8.lt
      have hB8 := (HB3.out.alloc HB3.out.size (.cells #[.string ⟨tx.toArray⟩] 9)).grown hg9 (by have := HB3.out.size; omega) (fun q hq => (HR3.out.lt q hq).1)
      have hobj : ∀ (b : Nat) (o : Obj), W2.heap[b]? = some o → (∀ cs t q, o ≠ .cells cs t q) → (w8.setCell ⟨w1.heap.size, 0, none⟩ (.slice A8 (L.length + 1) c8)).heap[b]? = some o := fun b o hb hne => by
        have hbl := (Array.getElem?_eq_some_iff.1 hb).1
        have h9 : w8.heap[b]? = some o := (hg9.block b (by omega) (fun e => by
          obtain ⟨cur, q⟩ := hOa.blk b e.symm
          have q2 : W2.heap[b]? = some (.cells cur 9 (0, 0)) := (Below.heap_alloc W2 _ b hbl).symm.trans q
          rw [hb] at q2
          exact hne _ _ _ (Option.some.inj q2))).trans ((Below.heap_alloc _ _ _ hbl).trans hb)
        exact (Below.heap_setCell _ _ _ _ (fun e => by
          have e2 : b = w1.heap.size := e
          unfold Bk at hC8
          rw [e2, hC8] at h9
          exact hne _ _ _ (Option.some.inj h9).symm)).trans h9
      have HF := Lib.hid (show LvI w w1.heap.size (L ++ [tx]) (w8.setCell ⟨w1.heap.size, 0, none⟩ (.slice A8 (L.length + 1) c8)) from
        ⟨bset hB8 hww, ⟨A8, c8, by rw [List.length_append]; exact hC8.set 0 _, by
          rw [List.length_append]
          exact hown8.kept fun g hg => Below.heap_setCell _ _ _ _ (hown8.ne_bk hC8 (by decide) g hg)⟩, hww⟩)
      have HRK := Lib.hid (show RndK W0.heap.size W2 (w8.setCell ⟨w1.heap.size, 0, none⟩ (.slice A8 (L.length + 1) c8)) from
        ⟨⟨by rw [World.size_setCell]; omega, fun b cur t ht q => by
          have h8 := mv b cur t q (fun e => by subst e; revert ht; unfold KT; decide)
          exact h8.other (bk_ne h8 hC8 (fun e => by subst e; revert ht; unfold KT; decide))⟩, (hobj _ _ HD3.out (fun _ _ _ e => by cases e)).trans HD3.out.symm, (hobj _ _ HL3.out (fun _ _ _ e => by cases e)).trans HL3.out.symm⟩)
      clear hg8 hg9 hown8 mv hC8 hB8 hOa hz3 hz8 hobj
      gi_wp2_with fail
      exact ⟨HRK.out, show LvI w w1.heap.size (lvT G (xs.take (k + 1))) _ by rw [HKP.out]; exact HF.out⟩
    · have hkp : lvT G (xs.take (k + 1)) = lvT G (xs.take k) := by rw [htk, lvT_out hh]
      have HKP := Lib.hid hkp
      rw [if_neg hh]
      have hh0 : ((htOf G x : Int) == 0) = false := by rw [beq_eq_false_iff_ne]; omega
      clear hkp htk hh
      generalize htOf G x = hx' at *
      gi_wp2_with fail
      refine ⟨bal (Below.refl _ _), ?_⟩
      intro W2 r hf hs2 hl2 hd2 hi2
      have hk : Bk W2 W.heap.size #[.int .i64 hx', .string ⟨#[]⟩, .slice va vn vc, .int .i64 0] 86 := (hf.block W.heap.size (by simp) (by omega)).trans (Bk.new _ _ _)
      obtain ⟨k0, k1, k2, k3, -⟩ := hk.four
      have hlk := hk.lt
      have HI2 := Lib.hid hi2
      clear hf hs2 hl2 hd2 hi2 hk HI1
      gi_wp2_with fail
      exact ⟨⟨KpT.refl _, rfl, rfl⟩, show LvI w w1.heap.size (lvT G (xs.take (k + 1))) W2 by rw [HKP.out]; exact HI2.out⟩
  case done =>
    intro D W hD hi hK
    have hi' : LvI w w1.heap.size (lvT G (xs.take xs.length)) W := hi
    rw [List.take_length] at hi'
    obtain ⟨Ad, cd, hc1, hc2⟩ := hi'.o
    obtain ⟨e0, -⟩ := hc1.one
    have hle := hc1.lt
    have HR := Lib.hid hc2; have HB := Lib.hid hi'.below
    clear hi hi' hc1 hc2
    gi_wp2_with fail
    refine ⟨by simp, .inl ⟨_, _, rfl, run_takeDeferred hK, ?_⟩⟩
    have hput : ∀ b, b ≠ D → (W.putObj D (.deferred none)).heap[b]? = W.heap[b]? := fun b hb => World.putObj_heap_other hb
    refine ⟨.tuple #[.slice Ad (lvT G xs).length cd, .int .i64 0], by simp [results, Tryz.results21, go_sem], Ad, cd, rfl, ?_, HB.out.trans (below_putObj _ _ _ (by omega) HB.out.size)⟩
    exact HR.out.kept fun g hg => hput g (fun e => by
      obtain ⟨cur, q⟩ := HR.out.blk g hg
      subst e; unfold Bk at q; rw [hK] at q; cases q)
  case stop => exact fun D c W _ h _ => h.elim

end Go.Proofs.YtclmjnobacepjaaGreat

/- rope.Text. -/
namespace Go.Proofs.YtclmjnobacepjaaGreat
open Go.RowKit

theorem infoByte : (Tryz.prog.info? 5).map (fun i => (i.zero, i.size, i.bytes)) = some (some (.int .u8 0), 1, 1) := by kernel_rfl
abbrev bcs (l : List UInt8) : List Value := Lib.byteCells l
/-- a row of bytes, as a string -/
theorem own_str {w : World} {B : Nat} {v : Value} {l : List UInt8} (h : w.ownsRow B 5 1 v l.length (bcs l)) : (convert 73 9 v).run Tryz.prog w = .ok (.string ⟨l.toArray⟩) w := by
  rcases h.2 with ⟨rfl, h0⟩ | ⟨g, cap, cur, rfl, _, hg, hnc, _, _, htake⟩
  · have : l = [] := List.eq_nil_of_length_eq_zero h0
    subst this
    exact Lib.run_convert_nil_bytes w _ _ _ 0 Tryz.underlying73 Tryz.underlying5 Tryz.underlying9
  · refine run_convert_bytes_back w _ _ _ ⟨g, 0, none⟩ cap l Tryz.underlying73 Tryz.underlying5 Tryz.underlying9 (fun j hj => ?_)
    exact h.cells (g := g) rfl j _ (by simp [Lib.byteCells, hj])

set_option maxRecDepth 100000 in
set_option maxHeartbeats 4000000 in
theorem rtext_any (A : AF) (G : Ar) (r : Rt) (T : List UInt8) (w : World) (hA : ArM w A G) (hr : RV G r T) (hL : (lvT G (rpL G r)).length ≤ 100000) (hT : (lvT G (rpL G r)).flatten.length ≤ 100000) :
    Calls Tryz.prog 7 #[.pointer (some ⟨A.ba, 0, none⟩), r.v] w fun e w' => e = .returned (.tuple #[.string ⟨(lvT G (rpL G r)).flatten.toArray⟩, .int .i64 0]) ∧ Below w.heap.size w w' := by
  have cL := fun W (p : Below w.heap.size w W) => rleaves_any A G r T W (hA.ext p) hr hL
  have HL := Lib.hid hL; have HT := Lib.hid hT
  generalize lvT G (rpL G r) = xs at *
  obtain ⟨ro, rh, rb, rr, rn⟩ := r
  unfold Rt.v at *
  have CL := Lib.hid cL
  obtain ⟨j0, hj, jz0, jz1, jz2⟩ := info_parts infoByte
  have hli : (xs.length : Int) ≤ 100000 := by omega
  clear cL hA hr hL hT
  go_enter Tryz.func7, Tryz.ntmps7
  go_wp2_with fail
  refine (CL.out _ (bal (Below.refl _ _))).mono ?_
  rintro e w2 ⟨Av, cc, rfl, ho, hb⟩
  have HO := Lib.hid ho; have HB := Lib.hid (bcall (bal (Below.refl _ _)) hb)
  clear ho hb CL
  go_wp2_with fail
  go_loopw [8, 22] (fun o i wr => ∃ j : Nat, j ≤ xs.length ∧ i = .int .i64 j ∧ ∃ A8 c8, o = .slice A8 (xs.take j).flatten.length c8 ∧ Hid (wr.ownsRow w2.heap.size 5 1 (.slice A8 (xs.take j).flatten.length c8) (xs.take j).flatten.length (bcs (xs.take j).flatten)) ∧ Hid (Below w2.heap.size w2 wr)) (fun _ i _ => xs.length - (intOf i).toNat)
  case atStart => exact ⟨0, by omega, rfl, none, 0, rfl, Lib.hid (World.ownsRow_nil _ _ _ _), Lib.hid (Below.refl _ _)⟩
  case round =>
    obtain ⟨j, hj', rfl, A8, c8, rfl, HR, HW⟩ := hrel
    by_cases hlt : j < xs.length
    · obtain ⟨b', off', cap', hv, hbl, hcc⟩ := HO.out.sl.str (k := j) hlt
      obtain ⟨rfl, rfl⟩ : Av = some ⟨b', off', none⟩ ∧ cc = cap' := by injection hv with e1 e2 e3; exact ⟨e1, e3⟩
      have q0 := hcc wr HW.out
      have htk : (xs.take (j + 1)).flatten = (xs.take j).flatten ++ xs[j] := by
        rw [List.take_add_one, List.getElem?_eq_getElem hlt, List.flatten_append]
        simp
      have hfl : (xs.take j).flatten.length + xs[j].length ≤ 100000 := by
        have h1 : (xs.take (j + 1)).flatten.length ≤ xs.flatten.length := by
          conv => rhs; rw [← List.take_append_drop (j + 1) xs]
          rw [List.flatten_append, List.length_append]; omega
        rw [htk, List.length_append] at h1
        have := HT.out
        omega
      have HTK := Lib.hid htk
      have hji : (j : Int) < (xs.length : Int) := by omega
      have hbw : b' < wr.heap.size := by have := HW.out.size; omega
      clear hcc hv htk
      generalize xs[j] = tx at *
      generalize (xs.take j).flatten = L at *
      go_wp2_with (at_builtin; refine Hid.out ?_)
      refine Lib.hid ?_
      refine wpListB_append _ rfl (.tmp 26) (.tmp 27) 73 9 rfl w2.heap.size HW.out.size 5 j0 _ 1 1 Tryz.underlying73 hj jz0 jz1 jz2 rfl (by decide) (.slice A8 L.length c8) L.length _ rfl HR.out _ _ _ rfl (Src.ofString _ Tryz.underlying9 ⟨tx.toArray⟩) ?_ ?_ ?_
      · simp [ByteArray.size, maxLen]; omega
      · simp [ByteArray.size]; omega
      intro A9 c9 w9 hown9 hg9 _ _
      have hsz : (⟨tx.toArray⟩ : ByteArray).size = tx.length := by simp [ByteArray.size]
      rw [hsz] at hown9 ⊢
      have HO9 := Lib.hid (show w9.ownsRow w2.heap.size 5 1 (.slice A9 (L ++ tx).length c9) (L ++ tx).length (bcs (L ++ tx)) by
        rw [List.length_append, show bcs (L ++ tx) = bcs L ++ bcs tx from Lib.byteCells_append L tx]; exact hown9)
      have HB9 := Lib.hid (HW.out.grown hg9 HW.out.size (fun k hk => (HR.out.lt k hk).1))
      clear hown9 hg9 hsz
      go_wp2_with fail
      go_roundw
      case rel => exact ⟨j + 1, by omega, by go_num, A9, c9, by rw [HTK.out, List.length_append], Lib.hid (by rw [HTK.out]; exact HO9.out), HB9⟩
      case measure => simp [intOf]; omega
    · obtain rfl : j = xs.length := by omega
      have hR := HR.out
      rw [List.take_length] at hR ⊢
      have hcv := own_str hR
      generalize hF : xs.flatten = F at *
      have HF := Lib.hid hF
      clear HR hF
      go_wp2_with fail
      go_ret2
      exact ⟨by rw [HF.out]; rfl, bcall HB.out HW.out⟩

end Go.Proofs.YtclmjnobacepjaaGreat

/- the nodes of a rope in preorder: which they are, what their leaves' texts join to. Plain. -/
namespace Go.Proofs.YtclmjnobacepjaaGreat
open Go.RowKit

theorem lvT_app (G : Ar) (a b : List Nat) : lvT G (a ++ b) = lvT G a ++ lvT G b := by simp [lvT]
theorem lvT_flat (G : Ar) (g : Nat → List Nat) (ks : List Nat) : (lvT G (ks.flatMap g)).flatten = (ks.map (fun k => (lvT G (g k)).flatten)).flatten := by
  induction ks with
  | nil => rfl
  | cons k ks ih => rw [List.flatMap_cons, lvT_app, List.flatten_append, ih, List.map_cons, List.flatten_cons]
theorem preL_mem {G : Ar} (hG : ArOK G) : ∀ (f k : Nat), k < f → ∀ x, x ∈ preL G f k ↔ Rch G k x := by
  intro f
  induction f with
  | zero => exact fun k h => absurd h (by omega)
  | succ f ih =>
    intro k hk x
    have hlt : ∀ j ∈ ksOf G k, j < k := fun j hj => by
      have hkl := ksOf_lt hj
      have hx := List.getElem?_eq_getElem hkl
      unfold ksOf at hj
      rw [hx] at hj
      rcases hG k _ hx with ⟨_, q, _⟩ | ⟨_, _, _, _, q, _⟩
      · simp only at hj; rw [q] at hj; cases hj
      · exact (q j hj).1
    show x ∈ k :: (ksOf G k).flatMap (preL G f) ↔ _
    rw [List.mem_cons, List.mem_flatMap]
    constructor
    · rintro (rfl | ⟨j, hj, q⟩)
      · exact .refl _
      · exact .step hj ((ih j (by have := hlt j hj; omega) x).1 q)
    · intro r
      cases r with
      | refl => exact .inl rfl
      | step hj r => exact .inr ⟨_, hj, (ih _ (by have := hlt _ hj; omega) x).2 r⟩
theorem preL_txt {G : Ar} (hG : ArOK G) : ∀ (f k : Nat), k < f → k < G.length → (lvT G (preL G f k)).flatten = txt G k := by
  intro f
  induction f with
  | zero => exact fun k h => absurd h (by omega)
  | succ f ih =>
    intro k hk hkG
    have hx := List.getElem?_eq_getElem hkG
    have hpre : preL G (f + 1) k = [k] ++ (ksOf G k).flatMap (preL G f) := rfl
    have hks : ksOf G k = G[k].ks := by unfold ksOf; rw [hx]
    rw [hpre, lvT_app, List.flatten_append, lvT_flat, hks, txt_of hx]
    rcases hG k _ hx with ⟨h0, q, _⟩ | ⟨h, h1, _, _, q, e⟩
    · rw [q]
      have hh : htOf G k = 0 := by rw [htOf_of hx]; exact h0
      simp [lvT, hh, txt_of hx]
    · have hh : htOf G k ≠ 0 := by rw [htOf_of hx, h1]; omega
      rw [show lvT G [k] = [] by simp [lvT, hh], List.flatten_nil, List.nil_append]
      conv => rhs; rw [e]
      congr 1
      exact List.map_congr_left fun j hj => ih j (by have := (q j hj).1; omega) (by have := (q j hj).1; omega)
theorem flat_len_ge {l : List (List UInt8)} (h : ∀ s ∈ l, 1 ≤ s.length) : l.length ≤ l.flatten.length := by
  induction l with
  | nil => simp
  | cons a l ih =>
    have h1 := h a (by simp)
    have h2 := ih fun s hs => h s (by simp [hs])
    rw [List.flatten_cons, List.length_append, List.length_cons]
    omega
theorem lvT_pos {G : Ar} (hG : ArOK G) {l : List Nat} (hl : ∀ k ∈ l, k < G.length) : ∀ s ∈ lvT G l, 1 ≤ s.length := by
  intro s hs
  obtain ⟨k, hk, rfl⟩ := List.mem_map.1 hs
  have hk := (List.mem_filter.1 hk).1
  have hx := List.getElem?_eq_getElem (hl k hk)
  rw [txt_of hx]
  exact nd_pos hG hx

/-- of a rope -/
theorem rpL_zero (G : Ar) : rpL G Rt.zero = [] := by unfold rpL; exact if_pos (show Rt.zero.at_ = 0 from rfl)
theorem rpL_rt (G : Ar) (k : Nat) : rpL G (rtOf G k) = preL G (k + 1) k := by
  have h : (rtOf G k).at_ = hd k := rfl
  unfold rpL
  rw [h, if_neg (by unfold hd; omega), show hd k - 65536 = k by unfold hd; omega]
theorem rpL_mem {G : Ar} (hG : ArOK G) {r : Rt} {T : List UInt8} (hr : RV G r T) (x : Nat) : x ∈ rpL G r ↔ RtR G r x := by
  rcases hr with ⟨rfl, rfl⟩ | ⟨k, y, hy, rfl, rfl⟩
  · rw [rpL_zero]
    exact ⟨fun h => (by cases h), fun ⟨k, e, _⟩ => by have e2 : (0 : Nat) = hd k := e; unfold hd at e2; omega⟩
  · have e := rpL_rt G k
    rw [e, preL_mem hG (k + 1) k (Nat.lt_succ_self k)]
    refine ⟨fun r => ⟨k, rfl, r⟩, fun ⟨k', e, r⟩ => ?_⟩
    have : k' = k := by have e2 : hd k = hd k' := e; unfold hd at e2; omega
    rw [← this]; exact r
theorem rpL_lt {G : Ar} (hG : ArOK G) {r : Rt} {T : List UInt8} (hr : RV G r T) : ∀ x ∈ rpL G r, x < G.length := by
  intro x hx
  obtain ⟨k, e, q⟩ := (rpL_mem hG hr x).1 hx
  rcases hr with ⟨rfl, rfl⟩ | ⟨k', y, hy, rfl, rfl⟩
  · have e2 : (0 : Nat) = hd k := e
    unfold hd at e2; omega
  · have : k = k' := by have e2 : hd k' = hd k := e; unfold hd at e2; omega
    have := (List.getElem?_eq_some_iff.1 hy).1
    have := q.le hG
    omega
theorem rpL_txt {G : Ar} (hG : ArOK G) {r : Rt} {T : List UInt8} (hr : RV G r T) : (lvT G (rpL G r)).flatten = T := by
  rcases hr with ⟨rfl, rfl⟩ | ⟨k, y, hy, rfl, rfl⟩
  · rw [rpL_zero]; rfl
  · have e := rpL_rt G k
    rw [e, preL_txt hG (k + 1) k (Nat.lt_succ_self k) (List.getElem?_eq_some_iff.1 hy).1, txt_of hy]
theorem text_any (A : AF) (G : Ar) (r : Rt) (T : List UInt8) (w : World) (hA : ArM w A G) (hr : RV G r T) (hT : T.length ≤ 100000) :
    Calls Tryz.prog 7 #[.pointer (some ⟨A.ba, 0, none⟩), r.v] w fun e w' => e = .returned (.tuple #[.string ⟨T.toArray⟩, .int .i64 0]) ∧ Below w.heap.size w w' := by
  have h1 := rpL_txt hA.ok hr
  have h2 := flat_len_ge (lvT_pos hA.ok (rpL_lt hA.ok hr))
  rw [h1] at h2
  have := rtext_any A G r T w hA hr (by omega) (by rw [h1]; exact hT)
  rw [h1] at this
  exact this
/-- the nodes of a rope, each once -/
def ndL (G : Ar) (r : Rt) : List Nat := kpL [] (rpL G r)
theorem kpL_nodup {K : List Nat} : ∀ {L : List Nat}, L.Nodup → (kpL L K).Nodup := by
  induction K with
  | nil => intro L h; exact h
  | cons k K ih =>
    intro L h
    show (kpL (if k ∈ L then L else L ++ [k]) K).Nodup
    by_cases q : k ∈ L
    · rw [if_pos q]; exact ih h
    · rw [if_neg q]
      refine ih ?_
      rw [List.nodup_append]
      refine ⟨h, by simp, fun a ha c hc e => ?_⟩
      obtain rfl : c = k := by simpa using hc
      exact q (e ▸ ha)
theorem ndL_mem {G : Ar} (hG : ArOK G) {r : Rt} {T : List UInt8} (hr : RV G r T) (x : Nat) : x ∈ ndL G r ↔ RtR G r x := by
  unfold ndL
  rw [mem_kpL, ← rpL_mem hG hr x]
  simp
theorem ndL_nodup (G : Ar) (r : Rt) : (ndL G r).Nodup := kpL_nodup List.nodup_nil
theorem ndL_lt {G : Ar} (hG : ArOK G) {r : Rt} {T : List UInt8} (hr : RV G r T) : ∀ x ∈ ndL G r, x < G.length := fun x hx => rpL_lt hG hr x ((rpL_mem hG hr x).2 ((ndL_mem hG hr x).1 hx))
theorem nodes_call (A : AF) (G : Ar) (r : Rt) (T : List UInt8) (w : World) (hA : ArM w A G) (hr : RV G r T) :
    Calls Tryz.prog 19 #[.pointer (some ⟨A.ba, 0, none⟩), r.v] w fun e w' => ∃ Av cc, e = .returned (.tuple #[.slice Av (ndL G r).length cc, .int .i64 0]) ∧ Ow hndE w' w.heap.size 35 (.slice Av (ndL G r).length cc) ((ndL G r).map hd) ∧ Below w.heap.size w w' :=
  rnodes_any A G r T w hA hr (rpL_lt hA.ok hr)

end Go.Proofs.YtclmjnobacepjaaGreat

/- which nodes a new version has. Plain. -/
namespace Go.Proofs.YtclmjnobacepjaaGreat
open Go.RowKit

theorem PE.kept_lt {G : Ar} {F : Nat → Prop} {w : World} {c : TC} {I : PI} (q : PE G F w c I) : ∀ k ∈ I.K, k < G.length := by
  intro k hk
  rcases q with ⟨rfl, rfl⟩ | ⟨h, q⟩
  · cases hk
  · obtain ⟨x, hx, -⟩ := q.keptIn k hk
    exact (List.getElem?_eq_some_iff.1 hx).1
theorem rtR_zero {G : Ar} {x : Nat} (h : RtR G Rt.zero x) : False := by
  obtain ⟨k, e, _⟩ := h
  have e2 : (0 : Nat) = hd k := e
  unfold hd at e2; omega
theorem rtR_rt {G H : Ar} {k x : Nat} : RtR G (rtOf H k) x ↔ Rch G k x := by
  refine ⟨fun ⟨k', e, r⟩ => ?_, fun r => ⟨k, rfl, r⟩⟩
  have : k = k' := by have e2 : hd k = hd k' := e; unfold hd at e2; omega
  rw [this]; exact r
theorem KpR.lt {G : Ar} (hG : ArOK G) {K : List Nat} (hK : ∀ k ∈ K, k < G.length) {x : Nat} (h : KpR G K x) : x < G.length := by
  obtain ⟨k, hk, r⟩ := h
  have := r.le hG
  have := hK k hk
  omega
/-- the nodes of what has been written: the new ones, and those below the kept ones -/
theorem WrV.now {G : Ar} (hG : ArOK G) {xs : List Nd} {r : Rt} {I : PI} (h : WrV G xs r I) (hK : ∀ k ∈ I.K, k < G.length) (hG' : ArOK (G ++ xs)) (x : Nat) : RtR (G ++ xs) r x ↔ (G.length ≤ x ∧ x < (G ++ xs).length) ∨ KpR G I.K x := by
  rcases h with ⟨rfl, rfl, rfl⟩ | ⟨h, k, rfl, a⟩
  · refine ⟨fun h => (rtR_zero h).elim, fun h => ?_⟩
    rcases h with ⟨h1, h2⟩ | ⟨k, hk, _⟩
    · rw [List.append_nil] at h2; omega
    · cases hk
  · rw [rtR_rt]
    have hlt : k < (G ++ xs).length := by have := a.lt; simp only [List.length_nil, Nat.add_zero] at this; rw [List.length_append]; exact this
    constructor
    · intro r
      have key : ∀ y x, Rch (G ++ xs) y x → ((G.length ≤ y ∧ y < (G ++ xs).length) ∨ KpR G I.K y) → ((G.length ≤ x ∧ x < (G ++ xs).length) ∨ KpR G I.K x) := by
        intro y x r
        induction r with
        | refl => exact id
        | @step y j x hj _ ih =>
          intro hy
          apply ih
          rcases hy with ⟨h1, h2⟩ | hy
          · have hx := List.getElem?_eq_getElem h2
            have hyj : j < y := by
              rcases hG' y _ hx with ⟨_, q, _⟩ | ⟨_, _, _, _, q, _⟩
              · unfold ksOf at hj; rw [hx] at hj; simp only at hj; rw [q] at hj; cases hj
              · unfold ksOf at hj; rw [hx] at hj; exact (q j hj).1
            have hm : (G ++ xs)[y] ∈ xs := by rw [List.getElem_append_right h1]; exact List.getElem_mem _
            have hj' : j ∈ (G ++ xs)[y].ks := by unfold ksOf at hj; rw [hx] at hj; exact hj
            rcases a.kid _ hm j hj' with q | q
            · exact .inr ⟨j, q, .refl _⟩
            · exact .inl ⟨by simp only [List.length_nil, Nat.add_zero] at q; exact q, by omega⟩
          · have hyG := hy.lt hG hK
            rw [ks_app hyG] at hj
            obtain ⟨k', hk', r'⟩ := hy
            exact .inr ⟨k', hk', r'.trans (.step hj (.refl _))⟩
      refine key k x r ?_
      rcases a.src with q | q
      · exact .inr ⟨k, q, .refl _⟩
      · exact .inl ⟨by simp only [List.length_nil, Nat.add_zero] at q; exact q, hlt⟩
    · rintro (⟨h1, h2⟩ | ⟨j, hj, r⟩)
      · have := a.new x (by simp only [List.length_nil, Nat.add_zero]; exact h1) (by simp only [List.length_nil, Nat.add_zero]; rw [List.length_append] at h2; exact h2)
        simpa using this
      · have := a.old j hj
        rw [List.nil_append] at this
        exact this.trans r.app
theorem WrV.rv {G : Ar} {xs : List Nd} {r : Rt} {I : PI} (h : WrV G xs r I) : RV (G ++ xs) r I.T := by
  rcases h with ⟨rfl, rfl, rfl⟩ | ⟨h, k, rfl, a⟩
  · exact .inl ⟨rfl, rfl⟩
  · have hlt : k < (G ++ xs).length := by have := a.lt; simp only [List.length_nil, Nat.add_zero] at this; rw [List.length_append]; exact this
    refine .inr ⟨k, _, List.getElem?_eq_getElem hlt, rfl, ?_⟩
    have := a.txt
    rw [List.nil_append, txt_of (List.getElem?_eq_getElem hlt)] at this
    exact this.symm
theorem rtR_app {G xs : Ar} (hG : ArOK G) {r : Rt} {T : List UInt8} (hr : RV G r T) (x : Nat) : RtR (G ++ xs) r x ↔ RtR G r x := by
  constructor
  · rintro ⟨k, e, q⟩
    refine ⟨k, e, q.back hG ?_⟩
    rcases hr with ⟨rfl, rfl⟩ | ⟨k', y, hy, rfl, rfl⟩
    · have e2 : (0 : Nat) = hd k := e
      unfold hd at e2; omega
    · have : k = k' := by have e2 : hd k' = hd k := e; unfold hd at e2; omega
      rw [this]; exact (List.getElem?_eq_some_iff.1 hy).1
  · rintro ⟨k, e, q⟩
    exact ⟨k, e, q.app⟩
theorem rtR_lt {G : Ar} (hG : ArOK G) {r : Rt} {T : List UInt8} (hr : RV G r T) {x : Nat} (h : RtR G r x) : x < G.length := rpL_lt hG hr x ((rpL_mem hG hr x).2 h)
/-- what versions asks of a change: of each node of the old version, of each of the new one -/
theorem ver_ok {G : Ar} (hG : ArOK G) {xs : List Nd} (hG' : ArOK (G ++ xs)) {r r' : Rt} {T : List UInt8} {I : PI} {D : List Nat} {F : Nat → Prop} {w1 : World} {c' : TC} (hr : RV G r T) (q : PE G F w1 c' I) (h : WrV G xs r' I) (hD : ∀ x, x ∈ D ↔ RtR G r x ∧ ¬ KpR G I.K x) (hk : ∀ S, Closed G S → RIn S r → KIn S I) :
    (∀ x, RtR (G ++ xs) r x → (RtR (G ++ xs) r' x ↔ ¬ x ∈ D) ∧ x < G.length) ∧ ∀ x, RtR (G ++ xs) r' x → (RtR (G ++ xs) r x ↔ ¬ (G.length ≤ x ∧ x < (G ++ xs).length)) := by
  have hK := q.kept_lt
  have hsub : ∀ x, KpR G I.K x → RtR G r x := by
    have hcl : Closed G (fun x => RtR G r x) := by
      intro k x hS hx j hj
      obtain ⟨k0, e, r0⟩ := hS
      exact ⟨k0, e, r0.trans (.step (by unfold ksOf; rw [hx]; exact hj) (.refl _))⟩
    have := hk (fun x => RtR G r x) hcl (fun k e => ⟨k, e, .refl _⟩)
    rintro x ⟨k, hk', r'⟩
    obtain ⟨k0, e, r0⟩ := this k hk'
    exact ⟨k0, e, r0.trans r'⟩
  refine ⟨fun x hx => ?_, fun x hx => ?_⟩
  · rw [rtR_app hG hr] at hx
    have hlt := rtR_lt hG hr hx
    refine ⟨?_, hlt⟩
    rw [h.now hG hK hG' x, hD x]
    constructor
    · rintro (⟨h1, _⟩ | h1)
      · omega
      · exact fun h2 => h2.2 h1
    · intro h1
      refine .inr (Classical.byContradiction fun h2 => h1 ⟨hx, h2⟩)
  · rw [rtR_app hG hr]
    rcases (h.now hG hK hG' x).1 hx with h1 | h1
    · exact ⟨fun h2 => by have := rtR_lt hG hr h2; omega, fun h2 => absurd h1 h2⟩
    · exact ⟨fun h2 h3 => by have := rtR_lt hG hr h2; omega, fun _ => hsub x h1⟩

end Go.Proofs.YtclmjnobacepjaaGreat

/- quartotop: within, has, few; quartokit.EqualHandles. -/
namespace Go.Proofs.YtclmjnobacepjaaGreat
open Go.RowKit

theorem within_eq (i : Int) (n : Nat) (hn : 1 ≤ n) : (i.tmod n + n).tmod n = i % (n : Int) ∧ -(n : Int) < i.tmod n ∧ i.tmod n < n := by
  have h1 : -(n : Int) < i.tmod n ∧ i.tmod n < n := by
    have h := Int.natAbs_tmod i n
    have h2 : (i.tmod n).natAbs < n := by rw [h]; exact Nat.mod_lt _ (by simp; omega)
    omega
  refine ⟨?_, h1⟩
  rw [Int.tmod_eq_emod_of_nonneg (by omega), Int.add_emod_right]
  conv => lhs; rw [Int.tmod_def]
  exact Int.sub_mul_emod_self_left i n _

set_option maxHeartbeats 1000000 in
set_option maxRecDepth 100000 in
theorem within_any (i : Int) (n : Nat) (hn : 1 ≤ n) (hn2 : n ≤ 100000) (w : World) :
    Calls Tryz.prog 17 #[.int .i64 i, .int .i64 n] w fun e w' => e = .returned (.int .i64 (i % (n : Int))) ∧ w' = w := by
  obtain ⟨h1, h2, h3⟩ := within_eq i n hn
  have hn3 : (1 : Int) ≤ n := by omega
  have hn4 : (n : Int) ≤ 100000 := by omega
  have hn0 : ((n : Int) == 0) = false := by rw [beq_eq_false_iff_ne]; omega
  have i1 := Lib.hid (IntWalk.i64_in (i.tmod n + (n : Int)) ⟨by omega, by omega⟩)
  have i2 := Lib.hid (IntWalk.i64_in (i.tmod n) ⟨by omega, by omega⟩)
  have i3 := Lib.hid (IntWalk.i64_in ((i.tmod n + (n : Int)).tmod n) ⟨by rw [h1]; have := Int.emod_nonneg i (show (n : Int) ≠ 0 by omega); omega, by rw [h1]; have := Int.emod_lt_of_pos i (show (0 : Int) < n by omega); omega⟩)
  have v1 := i1.out; have v2 := i2.out; have v3 := i3.out
  have H1 := Lib.hid h1
  clear hn hn2 h1 h2 h3
  go_enter Tryz.func17, Tryz.ntmps17
  go_wp2_with fail
  go_ret
  exact ⟨by rw [H1.out]; rfl, rfl⟩

set_option maxHeartbeats 1000000 in
set_option maxRecDepth 100000 in
theorem has_any (A : Option Addr) (c : Nat) (l : List Nat) (x : Nat) (w : World) (h : Sl hndE w (.slice A l.length c) (l.map hd)) (hl : l.length ≤ 100000) :
    Calls Tryz.prog 20 #[.slice A l.length c, .int .u64 (hd x : Nat)] w fun e w' => e = .returned (.bool (decide (x ∈ l))) ∧ w' = w := by
  have H := Lib.hid h
  have hli : (l.length : Int) ≤ 100000 := by omega
  clear h hl
  go_enter Tryz.func20, Tryz.ntmps20
  go_wp2_with fail
  go_loopw [5] (fun i wr => ∃ j : Nat, j ≤ l.length ∧ i = .int .i64 j ∧ Hid (x ∉ l.take j) ∧ wr = w) (fun i _ => l.length - (intOf i).toNat)
  case atStart => exact ⟨0, by omega, rfl, Lib.hid (by simp), rfl⟩
  case round =>
    obtain ⟨j, hj, rfl, HN, rfl⟩ := hrel
    by_cases hlt : j < l.length
    · obtain ⟨b', off', cap', hv, hbl, hcc⟩ := H.out.hnd (k := j) (by simpa using hlt)
      rw [List.length_map] at hv
      obtain ⟨rfl, rfl⟩ : A = some ⟨b', off', none⟩ ∧ c = cap' := by injection hv with e1 e2 e3; exact ⟨e1, e3⟩
      have q0 := hcc wr (Below.refl _ _)
      rw [List.getElem_map] at q0
      have htk : l.take (j + 1) = l.take j ++ [l[j]] := by rw [List.take_add_one, List.getElem?_eq_getElem hlt]; rfl
      have HTK := Lib.hid htk
      have hmem := Lib.hid (List.getElem_mem hlt)
      have hji : (j : Int) < (l.length : Int) := by omega
      clear hcc hv htk
      generalize l[j] = m at *
      by_cases e : m = x
      · subst e
        go_wp2_with fail
        go_ret
        exact ⟨by rw [decide_eq_true hmem.out]; rfl, rfl⟩
      · have hne : (((hd m : Nat) : Int) == ((hd x : Nat) : Int)) = false := by rw [beq_eq_false_iff_ne]; unfold hd; omega
        go_wp2_with fail
        go_roundw
        case rel => exact ⟨j + 1, by omega, by go_num, Lib.hid (by
          rw [HTK.out]
          intro q
          rcases List.mem_append.1 q with q | q
          · exact HN.out q
          · exact e (by simpa using q : x = m).symm), trivial⟩
        case measure => simp [intOf]; omega
    · obtain rfl : j = l.length := by omega
      have hn := HN.out
      rw [List.take_length] at hn
      have HN2 := Lib.hid hn
      clear hn HN
      go_wp2_with fail
      go_ret
      exact ⟨by rw [decide_eq_false HN2.out]; rfl, rfl⟩

/-- an edit -/
structure Ed where
  of : Int
  at_ : Int
  n : Int
  t : List UInt8
def edE : Enc Ed := ⟨4, by decide, fun e => [.int .i64 e.of, .int .i64 e.at_, .int .i64 e.n, .string ⟨e.t.toArray⟩], fun _ => rfl, by intro x u h; simp at h; rcases h with rfl | rfl | rfl | rfl <;> rfl⟩
theorem Sl.ed {w : World} {v : Value} {l : List Ed} (h : Sl edE w v l) {k : Nat} (hk : k < l.length) :
    ∃ b off cap, v = .slice (some ⟨b, off, none⟩) l.length cap ∧ b < w.heap.size ∧ ∀ w', Below w.heap.size w w' → w'.cell? ⟨b, off + k * 4, none⟩ = some (.int .i64 l[k].of) ∧ w'.cell? ⟨b, off + k * 4 + 1, none⟩ = some (.int .i64 l[k].at_) ∧ w'.cell? ⟨b, off + k * 4 + 2, none⟩ = some (.int .i64 l[k].n) ∧ w'.cell? ⟨b, off + k * 4 + 3, none⟩ = some (.string ⟨(l[k].t).toArray⟩) := by
  obtain ⟨A, cap, rfl, h2, h3, h4⟩ := h
  obtain ⟨b, off, rfl, hb, hc⟩ := h4 (by omega)
  have hx : l[k]? = some l[k] := List.getElem?_eq_getElem hk
  exact ⟨b, off, cap, rfl, hb, fun w' hb' => ⟨(hb'.cell (p := ⟨b, _, none⟩) hb).trans (hc k 0 _ _ hx rfl), (hb'.cell (p := ⟨b, _, none⟩) hb).trans (hc k 1 _ _ hx rfl), (hb'.cell (p := ⟨b, _, none⟩) hb).trans (hc k 2 _ _ hx rfl), (hb'.cell (p := ⟨b, _, none⟩) hb).trans (hc k 3 _ _ hx rfl)⟩⟩
/-- a run of versions that is short -/
def fewB (s : List UInt8) (l : List Ed) : Bool := decide (s.length ≤ 80 ∧ l.length ≤ 10 ∧ ∀ e ∈ l, e.t.length ≤ 40)

set_option maxHeartbeats 1000000 in
set_option maxRecDepth 100000 in
theorem few_any (s : List UInt8) (A : Option Addr) (c : Nat) (l : List Ed) (w : World) (h : Sl edE w (.slice A l.length c) l) :
    Calls Tryz.prog 4 #[.string ⟨s.toArray⟩, .slice A l.length c] w fun e w' => e = .returned (.bool (fewB s l)) ∧ w' = w := by
  have H := Lib.hid h
  by_cases h1 : s.length ≤ 80
  · by_cases h2 : l.length ≤ 10
    · have HF := Lib.hid (show fewB s l = decide (∀ e ∈ l, e.t.length ≤ 40) by unfold fewB; simp [h1, h2])
      have g1 : (s.length : Int) ≤ 80 := by omega
      have g2 : (l.length : Int) ≤ 10 := by omega
      clear h h1
      go_enter Tryz.func4, Tryz.ntmps4
      go_wp2_with fail
      go_loopw [5] (fun i wr => ∃ j : Nat, j ≤ l.length ∧ i = .int .i64 j ∧ Hid (∀ e ∈ l.take j, e.t.length ≤ 40) ∧ wr = w) (fun i _ => l.length - (intOf i).toNat)
      case atStart => exact ⟨0, by omega, rfl, Lib.hid (by simp), rfl⟩
      case round =>
        obtain ⟨j, hj, rfl, HN, rfl⟩ := hrel
        by_cases hlt : j < l.length
        · obtain ⟨b', off', cap', hv, hbl, hcc⟩ := H.out.ed (k := j) hlt
          obtain ⟨rfl, rfl⟩ : A = some ⟨b', off', none⟩ ∧ c = cap' := by injection hv with e1 e2 e3; exact ⟨e1, e3⟩
          obtain ⟨q0, q1, q2, q3⟩ := hcc wr (Below.refl _ _)
          have htk : l.take (j + 1) = l.take j ++ [l[j]] := by rw [List.take_add_one, List.getElem?_eq_getElem hlt]; rfl
          have HTK := Lib.hid htk
          have hmem := Lib.hid (List.getElem_mem hlt)
          have hji : (j : Int) < (l.length : Int) := by omega
          clear hcc hv htk
          generalize l[j] = m at *
          obtain ⟨m1, m2, m3, mt⟩ := m
          simp only at *
          by_cases e : mt.length ≤ 40
          · have ei : (mt.length : Int) ≤ 40 := by omega
            go_wp2_with fail
            go_roundw
            case rel => exact ⟨j + 1, by omega, by go_num, Lib.hid (by
              rw [HTK.out]
              intro y q
              rcases List.mem_append.1 q with q | q
              · exact HN.out y q
              · obtain rfl : y = ⟨m1, m2, m3, mt⟩ := by simpa using q
                exact e), trivial⟩
            case measure => simp [intOf]; omega
          · have ei : (40 : Int) < mt.length := by omega
            go_wp2_with fail
            go_ret
            have hfb : fewB s l = false := HF.out.trans (decide_eq_false (fun q => e (q _ hmem.out)))
            exact ⟨by rw [hfb]; rfl, rfl⟩
        · obtain rfl : j = l.length := by omega
          have hn := HN.out
          rw [List.take_length] at hn
          have HN2 := Lib.hid hn
          clear hn HN
          go_wp2_with fail
          go_ret
          have hfb : fewB s l = true := HF.out.trans (decide_eq_true HN2.out)
          exact ⟨by rw [hfb]; rfl, rfl⟩
    · have HF := Lib.hid (show fewB s l = false by unfold fewB; simp [h2])
      have g1 : (s.length : Int) ≤ 80 := by omega
      have g2 : (10 : Int) < l.length := by omega
      clear h h1 h2
      go_enter Tryz.func4, Tryz.ntmps4
      go_wp2_with fail
      go_ret
      exact ⟨by rw [HF.out]; rfl, rfl⟩
  · have HF := Lib.hid (show fewB s l = false by unfold fewB; simp [h1])
    have g1 : (80 : Int) < s.length := by omega
    clear h h1
    go_enter Tryz.func4, Tryz.ntmps4
    go_wp2_with fail
    go_ret
    exact ⟨by rw [HF.out]; rfl, rfl⟩

end Go.Proofs.YtclmjnobacepjaaGreat
