/- package arena: Alloc. Condition: a well formed node over the arena's nodes; a free slot. -/
import Derived.Test.YtclmjnobacepjaaGreatJ07
import Derived.Deep.RegionLaw
namespace Go.Proofs.YtclmjnobacepjaaGreat
open Go.RowKit

theorem bal2' (w : World) {o : Obj} {cs : Array Value} {t : TypeId} : Bk ((w.alloc o).alloc (.cells cs t)) (w.heap.size + 1) cs t := by
  have := Bk.new (w.alloc o) cs t
  rwa [World.size_alloc] at this

set_option maxHeartbeats 4000000 in
set_option maxRecDepth 100000 in
theorem alloc_any (A : AF) (G : Ar) (x : Nd) (kv : Value) (w : World) (h : ArM w A G) (hlt : G.length < 1000) (hN : NodeIn G G.length x kv w) (hfr : ∀ g, kv.ownBlock = some g → ¬ arT A g) :
    Calls Tryz.prog 105 #[.pointer (some ⟨A.ba, 0, none⟩), ndV x kv] w fun e w' => e = .returned (.tuple #[.int .u64 (hd G.length : Nat), .int .i64 0]) ∧ ArM w' A (G ++ [x]) ∧ FrT (arT A) w w' := by
  obtain ⟨Ak, capk, hkv, -⟩ := id hN.sl
  rw [List.length_map] at hkv
  subst hkv
  have hlen : (x.ks.map (kdOf G)).length ≤ 4 := by
    rw [List.length_map]
    rcases hN.nd with ⟨_, q, _⟩ | ⟨_, _, _, q, _⟩
    · rw [q]; simp
    · omega
  have hk4 : x.ks.length ≤ 4 := by rw [List.length_map] at hlen; exact hlen
  have hx13 : (x.ht : Int) ≤ 13 := by
    rcases id hN.nd with ⟨q, _⟩ | ⟨ht, q, _⟩
    · omega
    · have := ndok_ht hN.ar hN.nd q hN.hT; omega
  have cC := Lib.hid (fun W (q2 : NodeIn G G.length x (.slice Ak x.ks.length capk) W) => cloneK_any (.slice Ak x.ks.length capk) (x.ks.map (kdOf G)) W q2.sl (by omega) (fun e => q2.nil (List.map_eq_nil_iff.1 e)))
  have cK := Lib.hid (fun W (q2 : NodeIn G G.length x (.slice Ak x.ks.length capk) W) => ncheck_any G G.length x (.slice Ak x.ks.length capk) W q2)
  obtain ⟨c0, c1, c2, c3, c4, c5, f0, f1, f2, f3, f4, f5⟩ := h.ar.six
  have hba := h.ar.lt
  have HA := Lib.hid h; have HN := Lib.hid hN; have HFR := Lib.hid hfr
  clear hN h hfr
  unfold ndV at *
  go_enter Tryz.func105, Tryz.ntmps105
  go_wp2_with fail
  refine (cK.out _ (HN.out.ext (bal (Below.refl _ _)))).mono ?_
  rintro e w1 ⟨rfl, hb1⟩
  have hB1 := bcall (bal (Below.refl _ _)) hb1
  have hx1 := (Bk.new w #[.int .i64 x.ht, .string ⟨(ownT x).toArray⟩, .slice Ak x.ks.length capk] 84).ext hb1 (by simp)
  obtain ⟨d0, d1, d2, -⟩ := hx1.three
  have HX1 := Lib.hid hx1; have HB1 := Lib.hid hB1
  clear hx1 hB1 hb1 cK
  go_wp2_with fail
  go_loopw [25] (fun i wr => ∃ k : Nat, k ≤ x.ks.length ∧ i = .int .i64 k ∧ Hid (Below w1.heap.size w1 wr)) (fun i _ => x.ks.length - (intOf i).toNat)
  case atStart => exact ⟨0, by omega, rfl, Lib.hid (Below.refl _ _)⟩
  case round =>
    obtain ⟨k, hk, rfl, hB⟩ := hrel
    have hsz := hB.out.size
    have hsz1 := HB1.out.size
    have hxl := HX1.out.lt
    have HBw := Lib.hid (HB1.out.trans (hB.out.mono hsz1))
    have hbaw : A.ba < wr.heap.size := by omega
    obtain ⟨c0, c1, c2, c3, c4, c5, f0, f1, f2, f3, f4, f5⟩ := (HA.out.ext HBw.out).ar.six
    by_cases hkl : k < x.ks.length
    · have hkk : KidOK G G.length (x.ht - 1) x.ks[k] ∧ x.ht ≠ 0 := by
        rcases HN.out.nd with ⟨_, q, _⟩ | ⟨ht, e1, _, _, q, _⟩
        · rw [q] at hkl; simp at hkl
        · rw [e1]; exact ⟨q _ (List.getElem_mem hkl), by omega⟩
      obtain ⟨⟨hk1, y, hy, hyh, -⟩, hx0⟩ := hkk
      obtain ⟨b, off, cap', hv, hb, hcc⟩ := HN.out.sl.kd (k := k) (by rw [List.length_map]; exact hkl)
      rw [List.length_map] at hv
      obtain ⟨rfl, rfl⟩ : Ak = some ⟨b, off, none⟩ ∧ capk = cap' := by injection hv with e1 e2 e3; exact ⟨e1, e3⟩
      obtain ⟨e0, e1, e2, e3⟩ := hcc wr HBw.out
      rw [List.getElem_map] at e0 e1 e2 e3
      simp only [kdOf] at e0 e1 e2 e3
      rw [txt_of hy] at e1 e2 e3
      obtain ⟨kvy, hNy, hly⟩ := (HA.out.ext HBw.out).lookAll hy
      have hmlt := (HA.out.ext HBw.out).mlt
      obtain ⟨Ay, capy, hkvy, -⟩ := id hNy.sl
      rw [List.length_map] at hkvy
      subst hkvy
      have cM := Lib.hid (fun W (q : Below wr.heap.size wr W) => nmeas_any G x.ks[k] y (.slice Ay y.ks.length capy) W (hNy.ext q))
      have hki : (k : Int) < (x.ks.length : Int) := by omega
      have hyh2 : (y.ht : Int) = (x.ht : Int) - 1 := by omega
      have L1 := hly (wr.alloc (.cells #[.int .u64 (hd x.ks[k] : Nat), .int .i64 (meas y.T).b, .int .i64 (meas y.T).r, .int .i64 (meas y.T).n] 114)).drew (Below.heap_alloc _ _ _ hmlt)
      have L2 := fun o => hly ((wr.alloc (.cells #[.int .u64 (hd x.ks[k] : Nat), .int .i64 (meas y.T).b, .int .i64 (meas y.T).r, .int .i64 (meas y.T).n] 114)).alloc o).drew ((Below.heap_alloc _ _ _ (by simp; omega)).trans (Below.heap_alloc _ _ _ hmlt))
      have HNy := Lib.hid hNy
      have HHY := Lib.hid hyh2
      clear hcc hv hy hyh hk1 hNy hly hmlt hyh2 hx0
      unfold ndV at L1 L2
      generalize x.ks[k] = kk at *
      have hne : ∀ W, (binOp .neq 37 (.agg #[.int .i64 (meas y.T).b, .int .i64 (meas y.T).r, .int .i64 (meas y.T).n]) (.agg #[.int .i64 (meas y.T).b, .int .i64 (meas y.T).r, .int .i64 (meas y.T).n])).run Tryz.prog W = .ok (.bool false) W := fun W => by
        rw [eqMs_neq]; simp
      have hht : ((y.ht : Int) != (x.ht : Int) - 1) = false := by rw [HHY.out]; simp
      obtain ⟨x0, x1, x2, -⟩ := (HX1.out.ext hB.out hxl).three
      have hxw : w.heap.size < wr.heap.size := by omega
      unfold Ms.v at cM
      go_upto_region 9 with (fail)
      go_region
      go_wp2_with fail
      refine (cM.out _ (bdr (bal (bal (Below.refl _ _))))).mono ?_
      rintro e w3 ⟨rfl, hb3⟩
      have hB3 := bcall (bdr (bal (bal (Below.refl _ _)))) hb3
      obtain ⟨k0, k1, k2, k3, -⟩ := (((Bk.new wr #[.int .u64 (hd kk : Nat), .int .i64 (meas y.T).b, .int .i64 (meas y.T).r, .int .i64 (meas y.T).n] 114).alloc.drew).ext hb3 (by simp [World.drew]; omega)).four
      obtain ⟨y0, y1, y2, -⟩ := ((bal2' wr).drew.ext hb3 (by simp [World.drew])).three
      have hz3 : wr.heap.size + 1 < w3.heap.size := by have := hb3.size; simp [World.drew] at this; omega
      have hz4 : wr.heap.size < w3.heap.size := by omega
      have hz5 : w.heap.size < w3.heap.size := by omega
      obtain ⟨x0', x1', x2', -⟩ := ((HX1.out.ext hB.out hxl).ext hB3 hxw).three
      go_wp2_with fail
      go_roundw
      case rel => exact ⟨k + 1, by omega, by go_num, Lib.hid (hB.out.trans ((bal hB3).mono hsz))⟩
      case measure => simp [intOf]; omega
    · have hsz2 := HBw.out.size
      have hAr := HA.out.ext HBw.out
      have hfl := hAr.fl
      rw [stk_snoc hlt] at hfl
      have cT := Lib.hid (take_any A.F (stk (G.length + 1)) (stt G.length) (List.replicate 1000 1) G.length wr hfl (by rw [List.getElem?_replicate, if_pos hlt]))
      have HAr := Lib.hid hAr
      have hxr := HX1.out.ext hB.out hxl
      have hxw : w.heap.size < wr.heap.size := by omega
      obtain ⟨x0, x1, x2, -⟩ := hxr.three
      clear hfl hAr hB
      go_wp2_with (go_at_call 120; refine Hid.out ?_)
      refine Lib.hid ?_
      refine cT.out.mono ?_
      rintro e w2 ⟨rfl, hF2, hFr⟩
      have hnb : ∀ k, arT A k → k < w.heap.size := fun k hk => HA.out.lt hk
      have hk2 : Bk w2 w.heap.size #[.int .i64 x.ht, .string ⟨(ownT x).toArray⟩, .slice Ak x.ks.length capk] 84 := (hFr.block _ hxw (fun q => by have := hnb _ (.inr (.inr q)); omega)).trans hxr
      obtain ⟨x0, x1, x2, q0, q1, q2⟩ := hk2.three
      have hlt2 := hk2.lt
      have hN2 : NodeIn G G.length x (.slice Ak x.ks.length capk) w2 := by
        have h9 := HN.out.ext HBw.out
        refine ⟨h9.ar, h9.nd, h9.hi, h9.sl.keepB hFr.size (fun g hg => ?_), h9.nil, h9.hT⟩
        have hng := HFR.out g hg
        by_cases hgl : g < wr.heap.size
        · exact hFr.block g hgl (fun q => hng (.inr (.inr q)))
        · exfalso
          obtain ⟨A', cap', e, -, -, e4⟩ := h9.sl
          injection e with e1 e2 e3
          rcases Nat.eq_zero_or_pos (x.ks.map (kdOf G)).length with e0 | e0
          · have := h9.nil (by simpa using e0)
            rw [this] at hg; cases hg
          · obtain ⟨b', off, q, hb', -⟩ := e4 e0
            rw [e1, q] at hg
            cases hg; simp only at hgl; omega
      have HF2 := Lib.hid hF2; have HFr := Lib.hid hFr; have HK2 := Lib.hid hk2; have HNB := Lib.hid hnb
      have hs2 := hFr.size
      clear hF2 hFr hk2 cT c0 c1 c2 c3 c4 c5 f0 f1 f2 f3 f4 f5 hnb
      go_wp2_with fail
      refine (cC.out _ hN2).mono ?_
      rintro e w3 ⟨kv3, rfl, hO3, hn3, hb3⟩
      obtain ⟨A3, c3, hkv3, -⟩ := id hO3.sl
      rw [List.length_map] at hkv3
      subst hkv3
      have hk3 := HK2.out.ext hb3 hlt2
      obtain ⟨x0, x1, x2, q0, q1, q2⟩ := hk3.three
      have hs3 := hb3.size
      have hk3s := hk3.set 2 (.slice A3 x.ks.length c3)
      have hO3s := hO3.set (p := ⟨w.heap.size, 2, none⟩) hlt2 (.slice A3 x.ks.length c3)
      have hFr3 : FrT (arT A) w (w3.setCell ⟨w.heap.size, 2, none⟩ (.slice A3 x.ks.length c3)) := ((((FrT.of_below HBw.out).trans (HFr.out.mono fun k q => .inr (.inr q))).below hb3).set (.inr (Nat.le_refl _)) _)
      have hba3 : Bk (w3.setCell ⟨w.heap.size, 2, none⟩ (.slice A3 x.ks.length c3)) A.ba #[.int .i64 1000, .pointer (some ⟨A.F.lb, 0, none⟩), .map (some A.mb), .int .i64 G.length, .int .i64 0, .int .i64 0] 60 := by
        have e1 := HAr.out.ar
        have e2 : Bk w2 A.ba _ _ := (HFr.out.block A.ba e1.lt (fun q => by
          obtain ⟨n1, n2, n3, n4, n5, -⟩ := HA.out.nd
          rcases q with q | q | q | q <;> exact absurd q (by assumption))).trans e1
        exact (e2.ext hb3 e2.lt).other (by have := HNB.out A.ba (.inl rfl); simp only; omega)
      have hmp : ∃ f, MapIs (w3.setCell ⟨w.heap.size, 2, none⟩ (.slice A3 x.ks.length c3)) A.mb f G.length ∧ NdMap A G w f := by
        obtain ⟨f, m1, m2⟩ := HA.out.map
        refine ⟨f, ?_, m2⟩
        have e1 := m1.ext HBw.out m1.lt
        have e2 := e1.keep (HFr.out.block A.mb e1.lt (fun q => by
          obtain ⟨n1, n2, n3, n4, n5, n6, n7, n8, n9⟩ := HA.out.nd
          rcases q with q | q | q | q <;> exact absurd q (by assumption)))
        exact (e2.ext hb3 e2.lt).keep (Below.heap_setCell _ _ _ _ (by have := HNB.out A.mb (.inr (.inl rfl)); simp only; omega))
      have hF3 : FL (w3.setCell ⟨w.heap.size, 2, none⟩ (.slice A3 x.ks.length c3)) A.F (stk (G.length + 1)) (stt (G.length + 1)) (List.replicate 1000 1) := by
        rw [← stt_set hlt]
        exact (HF2.out.ext hb3).keep (fun k hk => Below.heap_setCell _ _ _ _ (by have := HNB.out k (.inr (.inr hk)); simp only; omega))
      obtain ⟨f, hm3, hnd3⟩ := hmp
      have hba3' := hba3.drew
      obtain ⟨w5, hst, hm5, hg5, hz5⟩ := (hm3.keep (w' := (w3.setCell ⟨w.heap.size, 2, none⟩ (.slice A3 x.ks.length c3)).drew) rfl).store (by omega) Tryz.underlying58 (inH_hd (i := G.length) (by omega)) (ndV x (.slice A3 x.ks.length c3))
      obtain ⟨c0, c1, c2, c3', c4, c5, f0, f1, f2, f3, f4, f5⟩ := hba3.six
      have hlb := hba3.lt
      have HM5 := Lib.hid hm5; have HG5 := Lib.hid hg5; have HF3 := Lib.hid hF3; have HFr3 := Lib.hid hFr3; have HND3 := Lib.hid hnd3; have HN3 := Lib.hid hn3; have HO3 := Lib.hid hO3s; have HK3 := Lib.hid hk3s; have HBA := Lib.hid hba3
      have hb5 : Bk w5 A.ba #[.int .i64 1000, .pointer (some ⟨A.F.lb, 0, none⟩), .map (some A.mb), .int .i64 G.length, .int .i64 0, .int .i64 0] 60 := hba3'.grown hg5 (fun e => HA.out.nd.1 (Option.some.inj e))
      obtain ⟨r0, r1, r2, r3, r4, r5, s0, s1, s2, s3, s4, s5⟩ := hb5.six
      have HB5 := Lib.hid hb5
      have k2c := Lib.hid hk3s.three
      clear hm5 hg5 hF3 hFr3 hnd3 hn3 hO3s hk3s hba3 hba3' hb5 hk3 hO3 hm3 hs3 hs2 hb3 cC
      unfold ndV at hst
      go_upto_region 20 with (fail)
      obtain ⟨y0, y1, y2, -⟩ := k2c.out
      generalize hWW : w3.setCell ⟨w.heap.size, 2, none⟩ (.slice A3 x.ks.length c3) = w4 at *
      have HWW := Lib.hid hWW
      clear hWW x0 x1 x2 q0 q1 q2
      have hw4 := HK3.out.lt
      go_region
      go_wp2_with fail
      go_ret2
      have hFr5 : FrT (arT A) w w5 := (HFr3.out.drew).grown HG5.out (fun k e => by cases e; exact .inl (.inr (.inl rfl)))
      refine ⟨rfl, ?_, hFr5.set (.inl (.inl rfl)) _⟩
      have hnl : ∀ g, (Value.slice A3 x.ks.length c3).ownBlock = some g → w2.heap.size ≤ g := fun g hg => (HO3.out.lt g hg).1
      have h2w : w.heap.size ≤ w2.heap.size := by omega
      have hin : A.mb ≠ A.ba := Ne.symm HA.out.nd.1
      refine HA.out.grow (kv := .slice A3 x.ks.length c3) (f := f) hlt HN.out.nd HN.out.hT ?_ ?_ ?_ HND3.out ?_ ?_ ?_ ?_ ?_
      · exact (hFr5.set (.inl (.inl rfl)) _).size
      · have := HB5.out.set 3 (.int .i64 ((G.length : Int) + 1))
        exact this
      · refine HF3.out.keep (fun k hk => ?_)
        rw [Below.heap_setCell _ _ _ _ (fun e => ?_)]
        · exact HG5.out.block k (by have := HNB.out k (.inr (.inr hk)); show k < w4.heap.size; omega) (fun e => by
            obtain ⟨n1, n2, n3, n4, n5, n6, n7, n8, n9⟩ := HA.out.nd
            cases e
            rcases hk with q | q | q | q <;> exact absurd q (by assumption))
        · simp only at e
          obtain ⟨n1, n2, n3, n4, n5, -⟩ := HA.out.nd
          subst e
          rcases hk with q | q | q | q <;> exact absurd q (by assumption)
      · have h9 := HM5.out
        have hnone : (f (hd G.length : Nat)).isSome = false := by
          cases hh : (f (hd G.length : Nat)).isSome
          · rfl
          · obtain ⟨i, hi, e⟩ := HND3.out.2 _ hh
            unfold hd at e; omega
        rw [hnone] at h9
        exact h9.keep (Below.heap_setCell _ _ _ _ hin)
      · refine Ow.sl (B := w2.heap.size) (e := 114) (HO3.out.kept (fun g hg => ?_))
        have h8 := hnl g hg
        rw [Below.heap_setCell _ _ _ _ (by have := HNB.out A.ba (.inl rfl); simp only; omega)]
        exact HG5.out.block g ((HO3.out.lt g hg).2) (fun e => by have := HNB.out A.mb (.inr (.inl rfl)); cases e; omega)
      · exact fun q => HN3.out (by rw [q]; rfl)
      · intro g hg
        refine ⟨fun q => by have := hnl g hg; have := HNB.out g q; omega, ?_⟩
        refine Ow.blk (E := kdE) (l := x.ks.map (kdOf G)) (B := w2.heap.size) (e := 114) (HO3.out.kept (fun g hg => ?_)) g hg
        have h8 := hnl g hg
        rw [Below.heap_setCell _ _ _ _ (by have := HNB.out A.ba (.inl rfl); simp only; omega)]
        exact HG5.out.block g ((HO3.out.lt g hg).2) (fun e => by have := HNB.out A.mb (.inr (.inl rfl)); cases e; omega)
      · intro k hk hT
        exact (hFr5.set (p := ⟨A.ba, 3, none⟩) (.inl (.inl rfl)) _).block k hk hT

end Go.Proofs.YtclmjnobacepjaaGreat

/- Plans in memory: cells, what a plan's value stands for. No condition. -/
namespace Go.Proofs.YtclmjnobacepjaaGreat
open Go.RowKit

/-- two lists, place by place -/
def All2 {α β : Type} (P : α → β → Prop) : List α → List β → Prop
  | [], [] => True
  | a :: l, b :: m => P a b ∧ All2 P l m
  | _, _ => False
section
variable {α β : Type} {P Q : α → β → Prop}
theorem All2.len : ∀ {l : List α} {m : List β}, All2 P l m → l.length = m.length
  | [], [], _ => rfl
  | _ :: _, _ :: _, h => by rw [List.length_cons, List.length_cons, All2.len h.2]
theorem All2.imp : ∀ {l : List α} {m : List β}, All2 P l m → (∀ a b, a ∈ l → b ∈ m → P a b → Q a b) → All2 Q l m
  | [], [], _, _ => trivial
  | a :: l, b :: m, h, q => ⟨q a b (by simp) (by simp) h.1, All2.imp h.2 (fun x y hx hy => q x y (by simp [hx]) (by simp [hy]))⟩
theorem All2.append : ∀ {l : List α} {m : List β} {l' : List α} {m' : List β}, All2 P l m → All2 P l' m' → All2 P (l ++ l') (m ++ m')
  | [], [], _, _, _, h' => h'
  | _ :: _, _ :: _, _, _, h, h' => ⟨h.1, All2.append h.2 h'⟩
theorem All2.take : ∀ {l : List α} {m : List β} (k : Nat), All2 P l m → All2 P (l.take k) (m.take k)
  | [], [], k, _ => by simp [All2]
  | _ :: _, _ :: _, 0, _ => trivial
  | _ :: _, _ :: _, k + 1, h => ⟨h.1, All2.take k h.2⟩
theorem All2.drop : ∀ {l : List α} {m : List β} (k : Nat), All2 P l m → All2 P (l.drop k) (m.drop k)
  | [], [], k, _ => by simp [All2]
  | _ :: _, _ :: _, 0, h => h
  | _ :: _, _ :: _, k + 1, h => All2.drop k h.2
theorem All2.get : ∀ {l : List α} {m : List β} {k : Nat} {a : α}, All2 P l m → l[k]? = some a → ∃ b, m[k]? = some b ∧ P a b
  | [], [], _, _, _, h => by simp at h
  | x :: _, y :: _, 0, _, h, e => by simp at e; subst e; exact ⟨y, rfl, h.1⟩
  | _ :: _, _ :: _, k + 1, _, h, e => All2.get (k := k) h.2 (by simpa using e)
theorem All2.mem : ∀ {l : List α} {m : List β} {b : β}, All2 P l m → b ∈ m → ∃ a, a ∈ l ∧ P a b
  | [], [], _, _, h => by cases h
  | x :: _, y :: _, _, h, e => by
    rcases List.mem_cons.1 e with rfl | e
    · exact ⟨x, by simp, h.1⟩
    · obtain ⟨a, ha, hp⟩ := All2.mem h.2 e
      exact ⟨a, by simp [ha], hp⟩
end

/-- a plan's own cells -/
structure TC where
  old : Nat
  ht : Nat
  b : Nat
  r : Nat
  n : Nat
  t : List UInt8
  kp : Option Addr
  kl : Nat
  kc : Nat
def TC.cells (c : TC) : List Value := [.int .u64 c.old, .int .i64 c.ht, .int .i64 c.b, .int .i64 c.r, .int .i64 c.n, .string ⟨c.t.toArray⟩, .slice c.kp c.kl c.kc]
def TC.v (c : TC) : Value := .agg #[.int .u64 c.old, .int .i64 c.ht, .int .i64 c.b, .int .i64 c.r, .int .i64 c.n, .string ⟨c.t.toArray⟩, .slice c.kp c.kl c.kc]
def tcE : Enc TC := ⟨7, by decide, TC.cells, fun _ => rfl, by intro x u h; simp [TC.cells] at h; rcases h with rfl | rfl | rfl | rfl | rfl | rfl | rfl <;> rfl⟩
def TC.zero : TC := ⟨0, 0, 0, 0, 0, [], none, 0, 0⟩
theorem infoTc : (Tryz.prog.info? 76).map (fun i => (i.zero, i.size, i.bytes)) = some (some (.agg #[.int .u64 0, .int .i64 0, .int .i64 0, .int .i64 0, .int .i64 0, .string ⟨#[]⟩, .slice none 0 0]), 7, 80) := by kernel_rfl
theorem tcOK : EOK tcE 74 76 := EOK.mk' Tryz.underlying74 infoTc rfl rfl (by omega)

/-- what a plan stands for: its text, the nodes that it keeps, how many are new -/
structure PI where
  T : List UInt8
  K : List Nat
  n : Nat
def PI.zero : PI := ⟨[], [], 0⟩
/-- the plan that keeps node k -/
def kpC (G : Ar) (h k : Nat) : TC := ⟨hd k, h, (meas (txt G k)).b, (meas (txt G k)).r, (meas (txt G k)).n, [], none, 0, 0⟩
def lfC (T : List UInt8) : TC := ⟨0, 0, 0, 0, 0, T, none, 0, 0⟩
def inC (h : Nat) (A : Option Addr) (l c : Nat) : TC := ⟨0, h + 1, 0, 0, 0, [], A, l, c⟩
theorem inC_v (h : Nat) (A : Option Addr) (l c : Nat) : (inC h A l c).v = .agg #[.int .u64 0, .int .i64 ((h : Int) + 1), .int .i64 0, .int .i64 0, .int .i64 0, .string ⟨#[]⟩, .slice A l c] := rfl
theorem lfC_v (T : List UInt8) : (lfC T).v = .agg #[.int .u64 0, .int .i64 0, .int .i64 0, .int .i64 0, .int .i64 0, .string ⟨T.toArray⟩, .slice none 0 0] := rfl
theorem kpC_v (G : Ar) (h k : Nat) : (kpC G h k).v = .agg #[.int .u64 (hd k : Nat), .int .i64 h, .int .i64 (meas (txt G k)).b, .int .i64 (meas (txt G k)).r, .int .i64 (meas (txt G k)).n, .string ⟨#[]⟩, .slice none 0 0] := rfl
theorem zero_v : TC.zero.v = .agg #[.int .u64 0, .int .i64 0, .int .i64 0, .int .i64 0, .int .i64 0, .string ⟨#[]⟩, .slice none 0 0] := rfl
def Kept (G : Ar) (h : Nat) (c : TC) (I : PI) : Prop := ∃ k x, G[k]? = some x ∧ x.ht = h ∧ c = kpC G h k ∧ I = ⟨x.T, [k], 0⟩
def sumPI (Is : List PI) : PI := ⟨(Is.map PI.T).flatten, (Is.map PI.K).flatten, 1 + (Is.map PI.n).sum⟩

/-- c is a plan of height h, all slices of which lie in blocks of F -/
def PV (G : Ar) (F : Nat → Prop) (w : World) : Nat → TC → PI → Prop
  | 0, c, I => Kept G 0 c I ∨ (c = lfC I.T ∧ 1 ≤ I.T.length ∧ I.T.length ≤ 16 ∧ I.K = [] ∧ I.n = 1)
  | h + 1, c, I => Kept G (h + 1) c I ∨ ∃ A cap l Is, c = inC h A l.length cap ∧ Sl tcE w (.slice A l.length cap) l ∧ (∀ g, (Value.slice A l.length cap).ownBlock = some g → F g) ∧ 2 ≤ l.length ∧ l.length ≤ 4 ∧
      All2 (fun c I => PV G F w h c I ∧ (h = 0 → 8 ≤ I.T.length)) l Is ∧ I = sumPI Is
/-- .. as a kid -/
def KV (G : Ar) (F : Nat → Prop) (w : World) (h : Nat) (c : TC) (I : PI) : Prop := PV G F w h c I ∧ (h = 0 → 8 ≤ I.T.length)
/-- .. or nothing -/
def PE (G : Ar) (F : Nat → Prop) (w : World) (c : TC) (I : PI) : Prop := (c = TC.zero ∧ I = PI.zero) ∨ ∃ h, PV G F w h c I

theorem PV.succ {G : Ar} {F : Nat → Prop} {w : World} {h : Nat} {c : TC} {I : PI} : PV G F w (h + 1) c I ↔ (Kept G (h + 1) c I ∨ ∃ A cap l Is, c = inC h A l.length cap ∧ Sl tcE w (.slice A l.length cap) l ∧ (∀ g, (Value.slice A l.length cap).ownBlock = some g → F g) ∧ 2 ≤ l.length ∧ l.length ≤ 4 ∧ All2 (KV G F w h) l Is ∧ I = sumPI Is) := Iff.rfl
theorem PV.zero' {G : Ar} {F : Nat → Prop} {w : World} {c : TC} {I : PI} : PV G F w 0 c I ↔ (Kept G 0 c I ∨ (c = lfC I.T ∧ 1 ≤ I.T.length ∧ I.T.length ≤ 16 ∧ I.K = [] ∧ I.n = 1)) := Iff.rfl
theorem PV.of_kept {G : Ar} {F : Nat → Prop} {w : World} {h : Nat} {c : TC} {I : PI} (q : Kept G h c I) : PV G F w h c I := by
  cases h with
  | zero => exact .inl q
  | succ h => exact .inl q

theorem sl_block {α : Type} {E : Enc α} {w : World} {v : Value} {l : List α} (h : Sl E w v l) (hp : 0 < l.length) {g : Nat} (hg : v.ownBlock = some g) : g < w.heap.size := by
  obtain ⟨A, cap, rfl, _, _, h4⟩ := h
  obtain ⟨b, off, rfl, hb, _⟩ := h4 hp
  cases hg; exact hb

theorem PV.keep {G : Ar} {F : Nat → Prop} {w w' : World} (hs : w.heap.size ≤ w'.heap.size) (hk : ∀ g, F g → g < w.heap.size → w'.heap[g]? = w.heap[g]?) : ∀ {h : Nat} {c : TC} {I : PI}, PV G F w h c I → PV G F w' h c I := by
  intro h
  induction h with
  | zero => intro c I q; exact q
  | succ h ih =>
    intro c I q
    rcases PV.succ.1 q with q | ⟨A, cap, l, Is, e, hsl, hF, h2, h4, ha, hI⟩
    · exact .inl q
    · exact .inr ⟨A, cap, l, Is, e, hsl.keepB hs (fun g hg => hk g (hF g hg) (sl_block hsl (by omega) hg)), hF, h2, h4, ha.imp (fun c I _ _ p => ⟨ih p.1, p.2⟩), hI⟩
theorem PV.ext {G : Ar} {F : Nat → Prop} {w w' : World} {h : Nat} {c : TC} {I : PI} (q : PV G F w h c I) (hb : Below w.heap.size w w') : PV G F w' h c I := q.keep hb.size (fun g _ hg => hb.block g hg)
theorem PV.mono {G : Ar} {F F' : Nat → Prop} {w : World} (hF : ∀ g, F g → F' g) : ∀ {h : Nat} {c : TC} {I : PI}, PV G F w h c I → PV G F' w h c I := by
  intro h
  induction h with
  | zero => intro c I q; exact q
  | succ h ih =>
    intro c I q
    rcases PV.succ.1 q with q | ⟨A, cap, l, Is, e, hsl, hf, h2, h4, ha, hI⟩
    · exact .inl q
    · exact .inr ⟨A, cap, l, Is, e, hsl, fun g hg => hF g (hf g hg), h2, h4, ha.imp (fun c I _ _ p => ⟨ih p.1, p.2⟩), hI⟩
theorem KV.ext {G : Ar} {F : Nat → Prop} {w w' : World} {h : Nat} {c : TC} {I : PI} (q : KV G F w h c I) (hb : Below w.heap.size w w') : KV G F w' h c I := ⟨q.1.ext hb, q.2⟩
theorem KVs.ext {G : Ar} {F : Nat → Prop} {w w' : World} {h : Nat} {l : List TC} {Is : List PI} (q : All2 (KV G F w h) l Is) (hb : Below w.heap.size w w') : All2 (KV G F w' h) l Is := q.imp (fun _ _ _ _ p => p.ext hb)
theorem PE.ext {G : Ar} {F : Nat → Prop} {w w' : World} {c : TC} {I : PI} (q : PE G F w c I) (hb : Below w.heap.size w w') : PE G F w' c I := by
  rcases q with q | ⟨h, q⟩
  · exact .inl q
  · exact .inr ⟨h, q.ext hb⟩

/-- how many bytes -/
theorem PV.size {G : Ar} (hG : ArOK G) {F : Nat → Prop} {w : World} : ∀ {h : Nat} {c : TC} {I : PI}, PV G F w h c I → 1 ≤ I.T.length ∧ (0 < h → 8 * 2 ^ h ≤ I.T.length) ∧ I.T.length ≤ 16 * 4 ^ h := by
  intro h
  induction h with
  | zero =>
    intro c I q
    rcases PV.zero'.1 q with ⟨k, x, hx, hh, _, rfl⟩ | ⟨_, h1, h2, _⟩
    · exact ⟨nd_pos hG hx, fun q => absurd q (by omega), (nd_size hG 0 k x hx hh).1⟩
    · exact ⟨h1, fun q => absurd q (by omega), by simpa using h2⟩
  | succ h ih =>
    intro c I q
    rcases PV.succ.1 q with ⟨k, x, hx, hh, _, rfl⟩ | ⟨A, cap, l, Is, e, hsl, hf, h2, h4, ha, rfl⟩
    · exact ⟨nd_pos hG hx, (nd_size hG _ k x hx hh).2, (nd_size hG _ k x hx hh).1⟩
    · have hk : ∀ T ∈ Is.map PI.T, 8 * 2 ^ h ≤ T.length ∧ T.length ≤ 16 * 4 ^ h := by
        intro T hT
        obtain ⟨I, hI, rfl⟩ := List.mem_map.1 hT
        obtain ⟨c', _, p, p8⟩ := ha.mem hI
        obtain ⟨a, b, d⟩ := ih p
        refine ⟨?_, d⟩
        rcases Nat.eq_zero_or_pos h with e0 | e0
        · subst e0; simpa using p8 rfl
        · exact b e0
      have := pow2_le _ _ _ hk
      rw [List.length_map, ← ha.len] at this
      have e2 : 8 * 2 ^ (h + 1) = 2 * (8 * 2 ^ h) := by rw [Nat.pow_succ]; omega
      have e4 : 16 * 4 ^ (h + 1) = 4 * (16 * 4 ^ h) := by rw [Nat.pow_succ]; omega
      have a1 := Nat.le_trans (Nat.mul_le_mul_right (8 * 2 ^ h) h2) this.1
      have a2 := Nat.le_trans this.2 (Nat.mul_le_mul_right (16 * 4 ^ h) h4)
      have : 0 < 2 ^ h := Nat.pow_pos (by omega)
      rw [e2, e4]
      exact ⟨by show 1 ≤ (Is.map PI.T).flatten.length; omega, fun _ => a1, a2⟩
theorem PV.ht_le {G : Ar} (hG : ArOK G) {F : Nat → Prop} {w : World} {h : Nat} {c : TC} {I : PI} (q : PV G F w h c I) (hT : I.T.length ≤ 65536) : h ≤ 13 := by
  by_cases h13 : h ≤ 13
  · exact h13
  · have := (q.size hG).2.1 (by omega)
    have h2 : 2 ^ 14 ≤ 2 ^ h := Nat.pow_le_pow_right (by omega) (by omega)
    omega
theorem sum4 : ∀ (l : List PI), (∀ I ∈ l, 4 * (I.n + 1) ≤ I.T.length) → 4 * (l.map PI.n).sum + 4 * l.length ≤ (l.map PI.T).flatten.length := by
  intro l h
  induction l with
  | nil => simp
  | cons I l ih =>
    have h1 := h I (by simp)
    have h2 := ih fun J hJ => h J (by simp [hJ])
    simp only [List.map_cons, List.sum_cons, List.flatten_cons, List.length_append, List.length_cons]
    omega
theorem PV.news {G : Ar} (hG : ArOK G) {F : Nat → Prop} {w : World} : ∀ {h : Nat} {c : TC} {I : PI}, PV G F w h c I → 8 ≤ I.T.length → 4 * (I.n + 1) ≤ I.T.length := by
  intro h
  induction h with
  | zero =>
    intro c I q h8
    rcases PV.zero'.1 q with ⟨k, x, hx, hh, _, rfl⟩ | ⟨_, h1, h2, _, h4⟩
    · simp only at *; omega
    · omega
  | succ h ih =>
    intro c I q h8
    rcases PV.succ.1 q with ⟨k, x, hx, hh, _, rfl⟩ | ⟨A, cap, l, Is, e, hsl, hf, h2, h4, ha, rfl⟩
    · simp only at *; omega
    · have hk : ∀ I ∈ Is, 4 * (I.n + 1) ≤ I.T.length := by
        intro I hI
        obtain ⟨c', _, p, p8⟩ := ha.mem hI
        refine ih p ?_
        rcases Nat.eq_zero_or_pos h with e0 | e0
        · exact p8 e0
        · have := (p.size hG).2.1 e0
          have : 0 < 2 ^ h := Nat.pow_pos (by omega)
          omega
      have := sum4 Is hk
      rw [← ha.len] at this
      show 4 * (1 + (Is.map PI.n).sum + 1) ≤ (Is.map PI.T).flatten.length
      omega
/-- so many nodes are new at most -/
theorem PE.news {G : Ar} (hG : ArOK G) {F : Nat → Prop} {w : World} {c : TC} {I : PI} (q : PE G F w c I) : I.n ≤ I.T.length / 4 + 1 := by
  rcases q with ⟨_, rfl⟩ | ⟨h, q⟩
  · simp [PI.zero]
  · by_cases h8 : 8 ≤ I.T.length
    · have := q.news hG h8; omega
    · cases h with
      | zero =>
        rcases PV.zero'.1 q with ⟨k, x, hx, hh, _, rfl⟩ | ⟨_, h1, h2, _, h4⟩
        · simp
        · omega
      | succ h =>
        have := (q.size hG).2.1 (by omega)
        have : 0 < 2 ^ (h + 1) := Nat.pow_pos (by omega)
        omega
theorem PV.keptIn {G : Ar} {F : Nat → Prop} {w : World} : ∀ {h : Nat} {c : TC} {I : PI}, PV G F w h c I → ∀ k ∈ I.K, ∃ x, G[k]? = some x ∧ x.ht ≤ h := by
  intro h
  induction h with
  | zero =>
    intro c I q k hk
    rcases PV.zero'.1 q with ⟨k', x, hx, hh, _, rfl⟩ | ⟨_, _, _, h3, _⟩
    · simp at hk; subst hk; exact ⟨x, hx, by omega⟩
    · rw [h3] at hk; cases hk
  | succ h ih =>
    intro c I q k hk
    rcases PV.succ.1 q with ⟨k', x, hx, hh, _, rfl⟩ | ⟨A, cap, l, Is, e, hsl, hf, h2, h4, ha, rfl⟩
    · simp at hk; subst hk; exact ⟨x, hx, by omega⟩
    · obtain ⟨K, hK, hkK⟩ := List.mem_flatten.1 hk
      obtain ⟨I, hI, rfl⟩ := List.mem_map.1 hK
      obtain ⟨c', _, p, _⟩ := ha.mem hI
      obtain ⟨x, hx, hle⟩ := ih p k hkK
      exact ⟨x, hx, by omega⟩

theorem Sl.tc {w : World} {v : Value} {l : List TC} (h : Sl tcE w v l) {k : Nat} (hk : k < l.length) :
    ∃ b off cap, v = .slice (some ⟨b, off, none⟩) l.length cap ∧ b < w.heap.size ∧ ∀ w', Below w.heap.size w w' → w'.cell? ⟨b, off + k * 7, none⟩ = some (.int .u64 l[k].old) ∧ w'.cell? ⟨b, off + k * 7 + 1, none⟩ = some (.int .i64 l[k].ht) ∧ w'.cell? ⟨b, off + k * 7 + 2, none⟩ = some (.int .i64 l[k].b) ∧ w'.cell? ⟨b, off + k * 7 + 3, none⟩ = some (.int .i64 l[k].r) ∧ w'.cell? ⟨b, off + k * 7 + 4, none⟩ = some (.int .i64 l[k].n) ∧ w'.cell? ⟨b, off + k * 7 + 5, none⟩ = some (.string ⟨(l[k].t).toArray⟩) ∧ w'.cell? ⟨b, off + k * 7 + 6, none⟩ = some (.slice l[k].kp l[k].kl l[k].kc) := by
  obtain ⟨A, cap, rfl, h2, h3, h4⟩ := h
  obtain ⟨b, off, rfl, hb, hc⟩ := h4 (by omega)
  have hx : l[k]? = some l[k] := List.getElem?_eq_getElem hk
  exact ⟨b, off, cap, rfl, hb, fun w' hb' => ⟨(hb'.cell (p := ⟨b, _, none⟩) hb).trans (hc k 0 _ _ hx rfl), (hb'.cell (p := ⟨b, _, none⟩) hb).trans (hc k 1 _ _ hx rfl), (hb'.cell (p := ⟨b, _, none⟩) hb).trans (hc k 2 _ _ hx rfl), (hb'.cell (p := ⟨b, _, none⟩) hb).trans (hc k 3 _ _ hx rfl), (hb'.cell (p := ⟨b, _, none⟩) hb).trans (hc k 4 _ _ hx rfl), (hb'.cell (p := ⟨b, _, none⟩) hb).trans (hc k 5 _ _ hx rfl), (hb'.cell (p := ⟨b, _, none⟩) hb).trans (hc k 6 _ _ hx rfl)⟩⟩

end Go.Proofs.YtclmjnobacepjaaGreat
