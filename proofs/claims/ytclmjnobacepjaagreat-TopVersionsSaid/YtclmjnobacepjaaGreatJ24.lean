/- plan.Dropped: the two closures. -/
import Derived.Test.YtclmjnobacepjaaGreatJ23
namespace Go.Proofs.YtclmjnobacepjaaGreat
open Go.RowKit

/-- all blocks but bm are as in Wb -/
def EqB (Wb : World) (bm : Nat) (W : World) : Prop := Wb.heap.size ≤ W.heap.size ∧ ∀ b, b < Wb.heap.size → b ≠ bm → W.heap[b]? = Wb.heap[b]?
theorem EqB.refl (W : World) (bm : Nat) : EqB W bm W := ⟨Nat.le_refl _, fun _ _ _ => rfl⟩
theorem EqB.below {Wb W W' : World} {bm : Nat} (h : EqB Wb bm W) (hb : Below W.heap.size W W') : EqB Wb bm W' :=
  ⟨Nat.le_trans h.1 hb.size, fun b hl hn => (hb.block b (Nat.lt_of_lt_of_le hl h.1)).trans (h.2 b hl hn)⟩
theorem EqB.grown {Wb W W' : World} {bm : Nat} (h : EqB Wb bm W) (hg : W.grownBy W' (some bm)) : EqB Wb bm W' :=
  ⟨Nat.le_trans h.1 hg.size, fun b hl hn => (hg.block b (Nat.lt_of_lt_of_le hl h.1) (fun e => hn (Option.some.inj e))).trans (h.2 b hl hn)⟩
theorem EqB.bk {Wb W : World} {bm b : Nat} {cs : Array Value} {t : TypeId} (h : EqB Wb bm W) (q : Bk Wb b cs t) (hn : b ≠ bm) : Bk W b cs t := (h.2 b q.lt hn).trans q

/-- the walk that marks what is kept: P -/
def HasP (w0 Wb : World) (bm : Nat) (L _V : List Nat) (W : World) : Prop := Below w0.heap.size w0 W ∧ SetM W bm L ∧ EqB Wb bm W
theorem HasP.ok (w0 Wb : World) (bm : Nat) (h0 : w0.heap.size ≤ bm) : VisOK w0 bm (HasP w0 Wb bm) :=
  ⟨fun hb p => ⟨bcall p.1 hb, p.2.1.ext hb p.2.1.lt, p.2.2.below hb⟩, fun p => p.1, fun p => p.2.1, fun p hg _ hs => ⟨p.1.grown hg p.1.size (fun q hq => by obtain rfl := Option.some.inj hq; exact h0), hs, p.2.2.grown hg⟩⟩

set_option maxHeartbeats 1000000 in
set_option maxRecDepth 100000 in
theorem has_vis (G : Ar) (w0 Wb : World) (bm : Nat) : VisH G (HasP w0 Wb bm) := by
  intro L V k W p _ _ _
  have HP := Lib.hid p
  clear p
  go_enter Tryz.func68, Tryz.ntmps68
  go_wp2_with fail
  exact bodyPost_end (v := .tuple #[]) (by simp [results, Tryz.results68, go_sem]) rfl ⟨rfl, HP.out, KeepK.refl _⟩

/-- the nodes that are not in H -/
def outL (H V : List Nat) : List Nat := V.filter (fun x => !decide (x ∈ H))
theorem outL_in {H V : List Nat} {k : Nat} (h : k ∈ H) : outL H (V ++ [k]) = outL H V := by simp [outL, h]
theorem outL_out {H V : List Nat} {k : Nat} (h : k ∉ H) : outL H (V ++ [k]) = outL H V ++ [k] := by simp [outL, h]
theorem outL_len (H V : List Nat) : (outL H V).length ≤ V.length := List.length_filter_le _ _
theorem mem_outL {H V : List Nat} {x : Nat} : x ∈ outL H V ↔ x ∈ V ∧ x ∉ H := by simp [outL]

/-- the walk that lists what is not kept: P -/
structure OutP (w0 : World) (bm bH bO mH : Nat) (H : List Nat) (L V : List Nat) (W : World) : Prop where
  below : Below w0.heap.size w0 W
  set : SetM W bm L
  h : Bk W bH #[.map (some mH)] 107
  m : SetM W mH H
  o : ∃ A c, Bk W bO #[.slice A (outL H V).length c] 43 ∧ Ow hndE W w0.heap.size 35 (.slice A (outL H V).length c) ((outL H V).map hd)
  gm : w0.heap.size ≤ bm
  gO : w0.heap.size ≤ bO
  ne : mH ≠ bm
theorem OutP.ok (w0 : World) (bm bH bO mH : Nat) (H : List Nat) : VisOK w0 bm (OutP w0 bm bH bO mH H) := by
  refine ⟨fun hb p => ?_, fun p => p.below, fun p => p.set, fun p hg hs hm => ?_⟩
  · obtain ⟨A, c, h1, h2⟩ := p.o
    exact ⟨bcall p.below hb, p.set.ext hb p.set.lt, p.h.ext hb p.h.lt, p.m.ext hb p.m.lt, ⟨A, c, h1.ext hb h1.lt, h2.ext hb (Nat.le_refl _)⟩, p.gm, p.gO, p.ne⟩
  · obtain ⟨A, c, h1, h2⟩ := p.o
    refine ⟨p.below.grown hg p.below.size (fun q hq => by obtain rfl := Option.some.inj hq; exact p.gm), hm, p.h.grown hg (fun e => p.set.ne_bk p.h (Option.some.inj e)), p.m.grown hg (fun e => p.ne (Option.some.inj e)), ⟨A, c, h1.grown hg (fun e => p.set.ne_bk h1 (Option.some.inj e)), ?_⟩, p.gm, p.gO, p.ne⟩
    exact h2.kept fun g hq => hg.block g (h2.lt g hq).2 (fun e => h2.ne_map p.set g hq (Option.some.inj e))

set_option maxHeartbeats 1000000 in
set_option maxRecDepth 100000 in
theorem out_vis (G : Ar) (hG : G.length ≤ 1000) (w0 : World) (bm bH bO mH : Nat) (H : List Nat) : VisO G bH bO (OutP w0 bm bH bO mH H) := by
  intro L V k W p hk hV hL
  have hlk := p.m.look (k := k) (by omega)
  obtain ⟨c0, -⟩ := p.h.one
  have hlt := p.h.lt
  have hol := outL_len H V
  have HP := Lib.hid p
  by_cases hH : k ∈ H
  · rw [decide_eq_true hH] at hlk
    have HO := Lib.hid (outL_in (V := V) hH)
    clear p
    go_enter Tryz.func69, Tryz.ntmps69
    go_wp2_with fail
    refine bodyPost_end (v := .tuple #[]) (by simp [results, Tryz.results69, go_sem]) rfl ⟨rfl, ?_, KeepK.refl _⟩
    have q := HP.out
    exact ⟨q.below, q.set, q.h, q.m, by rw [HO.out]; exact q.o, q.gm, q.gO, q.ne⟩
  · rw [decide_eq_false hH] at hlk
    have HO := Lib.hid (outL_out (V := V) hH)
    obtain ⟨A, c, hO, hR⟩ := p.o
    obtain ⟨o0, of0⟩ := hO.one
    have hlO := hO.lt
    have HR := Lib.hid hR; have HOB := Lib.hid hO
    have hw0 := p.below.size
    have hll : (outL H V).length ≤ 1000 := by omega
    clear p hR
    go_enter Tryz.func69, Tryz.ntmps69
    go_wp2_with (at_builtin; refine Hid.out ?_)
    refine Lib.hid ?_
    refine wpOw1 _ hndOK rfl (.tmp 8) (.tmp 10) rfl w0.heap.size (by first | (simp; done) | (simp; omega)) _ ((outL H V).map hd) (by simp [go_sem, List.length_map]) (HR.out.alloc _) (hd k) W.heap.size 1 rfl (new_cells _ _ _) (by rw [List.length_map]; omega) ?_
    rw [List.length_map]
    intro A8 c8 w8 hown8 hg8
    have hOa := HR.out.alloc (.cells #[.int .u64 (hd k : Nat)] 35)
    have hg9 : (W.alloc (.cells #[.int .u64 (hd k : Nat)] 35)).grownBy w8 (Value.slice A (outL H V).length c).ownBlock := hg8
    have mv : ∀ (b : Nat) (cs : Array Value) (t : TypeId), Bk W b cs t → 35 ≠ t → Bk w8 b cs t := fun b cs t hb hne => hb.alloc.grown hg9 (fun e => (hOa.ne_bk hb.alloc hne) b e.symm rfl)
    have mvm : ∀ b L, SetM W b L → SetM w8 b L := fun b L h => (h.alloc _).grown hg9 (fun e => hOa.ne_map (h.alloc _) b e.symm rfl)
    have hO8 := mv _ _ _ HOB.out (by decide)
    have hB8 := (bal (o := .cells #[.int .u64 (hd k : Nat)] 35) HP.out.below).grown hg9 (by have := HP.out.below.size; simp; omega) (fun q hq => (hOa.lt q hq).1)
    obtain ⟨o8, of8⟩ := hO8.one
    have hl8 := hO8.lt
    have hH8 := mv _ _ _ HP.out.h (by decide)
    have HF := Lib.hid (show OutP w0 bm bH bO mH H L (V ++ [k]) (w8.setCell ⟨bO, 0, none⟩ (.slice A8 ((outL H V).length + 1) c8)) from by
      refine ⟨bset hB8 HP.out.gO, (mvm _ _ HP.out.set).keep (Below.heap_setCell _ _ _ _ (fun e => SetM.ne_bk (mvm _ _ HP.out.set) hO8 e.symm)), hH8.other (bk_ne hH8 hO8 (by decide)), (mvm _ _ HP.out.m).keep (Below.heap_setCell _ _ _ _ (fun e => SetM.ne_bk (mvm _ _ HP.out.m) hO8 e.symm)), ⟨A8, c8, ?_, ?_⟩, HP.out.gm, HP.out.gO, HP.out.ne⟩
      · rw [HO.out, List.length_append]; exact hO8.set 0 _
      · rw [HO.out, List.length_append, List.map_append]
        exact hown8.kept fun g hg => Below.heap_setCell _ _ _ _ (hown8.ne_bk hO8 (by decide) g hg))
    have HKK := Lib.hid (show KeepK W (w8.setCell ⟨bO, 0, none⟩ (.slice A8 ((outL H V).length + 1) c8)) from ⟨by have := hg9.size; simp at this ⊢; omega, fun b cur t ht hb => by
      have h8 := mv b cur t hb (by rcases ht with rfl | rfl <;> decide)
      exact h8.other (bk_ne h8 hO8 (by rcases ht with rfl | rfl <;> decide))⟩)
    clear hg8 hg9 hown8 mv mvm hB8 hOa hH8
    go_wp2_with fail
    exact bodyPost_end (v := .tuple #[]) (by simp [results, Tryz.results69, go_sem]) rfl ⟨rfl, HF.out, HKK.out⟩

end Go.Proofs.YtclmjnobacepjaaGreat

/- plan.Dropped. -/
namespace Go.Proofs.YtclmjnobacepjaaGreat
open Go.RowKit

/-- x is a node of the rope with root r -/
def RtR (G : Ar) (r : Rt) (x : Nat) : Prop := ∃ k, r.at_ = hd k ∧ Rch G k x
/-- .. of the kept ones -/
def KpR (G : Ar) (K : List Nat) (x : Nat) : Prop := ∃ k ∈ K, Rch G k x
theorem BV.all0 {G : Ar} {ks M : List Nat} (h : BV G [] ks M) (x : Nat) : x ∈ M ↔ KpR G ks x := by
  constructor
  · exact fun hx => h.frm x hx
  · rintro ⟨k, hk, r⟩
    have := (h.all (fun _ q => (by cases q))).2 k hk x r
    simpa using this

/-- Dropped's two boxes -/
def TwoD (w : World) (ro rh rb rr rn : Nat) (c : TC) (W : World) : Prop := Below w.heap.size w W ∧ Bk W w.heap.size #[.int .u64 ro, .int .i64 rh, .int .i64 rb, .int .i64 rr, .int .i64 rn] 39 ∧ Bk W (w.heap.size + 1) #[.int .u64 c.old, .int .i64 c.ht, .int .i64 c.b, .int .i64 c.r, .int .i64 c.n, .string ⟨c.t.toArray⟩, .slice c.kp c.kl c.kc] 76
theorem TwoD.ext {w W W' : World} {ro rh rb rr rn : Nat} {c : TC} (h : TwoD w ro rh rb rr rn c W) (hb : Below W.heap.size W W') : TwoD w ro rh rb rr rn c W' := ⟨bcall h.1 hb, h.2.1.ext hb h.2.1.lt, h.2.2.ext hb h.2.2.lt⟩
theorem TwoD.start (w : World) (ro rh rb rr rn : Nat) (c : TC) : TwoD w ro rh rb rr rn c ((w.alloc (.cells #[.int .u64 ro, .int .i64 rh, .int .i64 rb, .int .i64 rr, .int .i64 rn] 39)).alloc (.cells #[.int .u64 c.old, .int .i64 c.ht, .int .i64 c.b, .int .i64 c.r, .int .i64 c.n, .string ⟨c.t.toArray⟩, .slice c.kp c.kl c.kc] 76)) :=
  ⟨bal (bal (Below.refl _ _)), (Bk.new _ _ _).alloc, bal2' w⟩
theorem TwoD.lt {w W : World} {ro rh rb rr rn : Nat} {c : TC} (h : TwoD w ro rh rb rr rn c W) : w.heap.size + 2 ≤ W.heap.size := by have := h.2.2.lt; omega

set_option maxHeartbeats 4000000 in
set_option maxRecDepth 100000 in
theorem dropped_any (A : AF) (G : Ar) (r : Rt) (T : List UInt8) (c : TC) (I : PI) (w : World) (hA : ArM w A G) (hr : RV G r T) (q : PE G FT w c I) (hT : I.T.length ≤ 65536) :
    Calls Tryz.prog 51 #[.pointer (some ⟨A.ba, 0, none⟩), r.v, c.v] w fun e w' => ∃ Av cc, ∃ D : List Nat, e = .returned (.tuple #[.slice Av D.length cc, .int .i64 0]) ∧ Ow hndE w' w.heap.size 35 (.slice Av D.length cc) (D.map hd) ∧ D.Nodup ∧ (∀ x, x ∈ D ↔ RtR G r x ∧ ¬ KpR G I.K x) ∧ Below w.heap.size w w' := by
  have hro : r.at_ = 0 ∨ ∃ k, r.at_ = hd k ∧ k < G.length := by
    rcases hr with ⟨rfl, rfl⟩ | ⟨k, x, hx, rfl, rfl⟩
    · exact .inl rfl
    · exact .inr ⟨k, rfl, (List.getElem?_eq_some_iff.1 hx).1⟩
  have hle := hA.le
  have cK := fun W (p : Below w.heap.size w W) => keep_rv A G r T W (hA.ext p) hr
  have cC := fun W (p : Below w.heap.size w W) => Check_any A G FT c I W (hA.ext p) (q.ext p) hT
  have cX := fun W (p : Below w.heap.size w W) => kept_any G hA.ok (by omega) c I W (q.ext p) hT
  have cH := fun Wb bm (h0 : w.heap.size ≤ bm) => belowH_any w A G bm (HasP w Wb bm) (HasP.ok w Wb bm h0) (has_vis G w Wb bm) hA G.length
  have cO := fun bm bH bO mH H => belowO_any w A G bm bH bO (OutP w bm bH bO mH H) (OutP.ok w bm bH bO mH H) (out_vis G hle w bm bH bO mH H) hA G.length
  have hin : ∀ k ∈ I.K, k < G.length := fun k hk => by
    rcases q with ⟨rfl, rfl⟩ | ⟨h, q⟩
    · cases hk
    · obtain ⟨x, hx, -⟩ := q.keptIn k hk
      exact (List.getElem?_eq_some_iff.1 hx).1
  have HIN := Lib.hid hin
  have HLE := Lib.hid hle
  unfold Rt.v TC.v at *
  obtain ⟨ro, rh, rb, rr, rn⟩ := r
  have CK := Lib.hid cK; have CC := Lib.hid cC; have CX := Lib.hid cX; have CH := Lib.hid cH; have CO := Lib.hid cO
  have HRO := Lib.hid hro
  have hmf : ∀ (fn : Fn) (first cap : Array Value) (w : World), (Instr.makeFunc fn first cap).run Tryz.prog w = .ok (.func fn first cap) w := fun _ _ _ _ => rfl
  have hmm := mkMap
  clear cK cC cX cH cO hA hr q hT hin hro hle
  go_enter Tryz.func51, Tryz.ntmps51
  go_wp2_with fail
  refine (CK.out _ (TwoD.start w ro rh rb rr rn c).1).mono ?_
  rintro e w1 ⟨c1, I1, rfl, -, -, -, hb1⟩
  have T1 := Lib.hid ((TwoD.start w ro rh rb rr rn c).ext hb1)
  have T1' := Lib.hid (T1.out.ext (bal (o := .cells #[.int .u64 c1.old, .int .i64 c1.ht, .int .i64 c1.b, .int .i64 c1.r, .int .i64 c1.n, .string ⟨c1.t.toArray⟩, .slice c1.kp c1.kl c1.kc] 76) (Below.refl w1.heap.size w1)))
  obtain ⟨x0, x1, x2, x3, x4, x5, x6, -⟩ := T1.out.2.2.seven
  have hl1 := T1.out.2.2.lt
  clear hb1 CK
  go_wp2_with fail
  refine (CC.out _ T1'.out.1).mono ?_
  rintro e w2 ⟨rfl, hb2⟩
  have T2 := Lib.hid (T1'.out.ext hb2)
  have T2' := Lib.hid ((T2.out.ext (bal (o := .map #[] 0) (Below.refl w2.heap.size w2))).ext (bal (o := .cells #[.map (some w2.heap.size)] 107) (Below.refl _ _)))
  clear hb2 CC x0 x1 x2 x3 x4 x5 x6 T1' T1 hl1
  obtain ⟨x0, x1, x2, x3, x4, x5, x6, -⟩ := T2'.out.2.2.seven
  have hl2 := T2.out.2.2.lt
  go_wp2_with fail
  refine (CX.out _ T2'.out.1).mono ?_
  rintro e w3 ⟨A3, cc3, L, rfl, hO3, hmem, hnd, hb3⟩
  have T3 := Lib.hid (T2'.out.ext hb3)
  have hm3 : SetM w3 w2.heap.size [] := ((SetM.made w2).alloc _).ext hb3 (by simp; omega)
  have hbh : Bk w3 (w2.heap.size + 1) #[.map (some w2.heap.size)] 107 := by
    have := (bal2' w2 (o := .map #[] 0) (cs := #[.map (some w2.heap.size)]) (t := 107))
    exact this.ext hb3 this.lt
  have HM3 := Lib.hid hm3; have HBH := Lib.hid hbh; have HO3 := Lib.hid hO3; have HMEM := Lib.hid hmem
  have hlen : (L.length : Int) ≤ 1000 := by
    have := nodup_le hnd (fun k hk => HIN.out k ((hmem k).1 hk))
    have := HLE.out; omega
  clear hm3 hbh hO3 hmem hnd hb3 CX x0 x1 x2 x3 x4 x5 x6
  go_wp2_with fail
  go_loopw [36] (fun i wr => ∃ j : Nat, j ≤ L.length ∧ i = .int .i64 j ∧ ∃ M, Hid (BV G [] (L.take j) M) ∧ Hid (HasP w w3 w2.heap.size M M wr) ∧ Hid (∀ y ∈ M, y < G.length)) (fun i _ => L.length - (intOf i).toNat)
  case atStart => exact ⟨0, by omega, rfl, [], Lib.hid (BV.nil G _), Lib.hid ⟨T3.out.1, HM3.out, EqB.refl _ _⟩, Lib.hid (fun _ h => (by cases h))⟩
  case round =>
    obtain ⟨j, hj, rfl, M, HBM, HPM, HMG⟩ := hrel
    by_cases hlt : j < L.length
    · have hOr : Ow hndE wr (((w2.alloc (.map #[] 0)).alloc (.cells #[.map (some w2.heap.size)] 107)).heap.size) 35 (.slice A3 L.length cc3) (L.map hd) := HO3.out.kept fun g hg => HPM.out.2.2.2 g (HO3.out.lt g hg).2 (fun e => HO3.out.ne_map HM3.out g hg e)
      obtain ⟨b', off', cap', hv, hbl, hcc⟩ := hOr.sl.hnd (k := j) (by simpa using hlt)
      rw [List.length_map] at hv
      obtain ⟨rfl, rfl⟩ : A3 = some ⟨b', off', none⟩ ∧ cc3 = cap' := by injection hv with e1 e2 e3; exact ⟨e1, e3⟩
      have q0 := hcc wr (Below.refl _ _)
      have hjl : L[j] ∈ L := List.getElem_mem hlt
      have htk : L.take (j + 1) = L.take j ++ [L[j]] := by rw [List.take_add_one, List.getElem?_eq_getElem hlt]; rfl
      have hgl := HIN.out _ ((HMEM.out _).1 hjl)
      have CK := Lib.hid (CH.out w3 w2.heap.size (by omega) L[j] hgl hgl M M wr HPM.out (Nat.le_refl _) HMG.out)
      have HTK := Lib.hid htk
      rw [List.getElem_map] at q0
      have hbk := HPM.out.2.2.bk HBH.out (by omega)
      obtain ⟨h0, -⟩ := hbk.one
      have hhl := hbk.lt
      generalize L[j] = m at *
      have hji : (j : Int) < (L.length : Int) := by omega
      clear hOr hcc hv htk hjl hgl hbk
      go_wp2_with fail
      refine (CK.out).mono ?_
      rintro e w8 ⟨M', rfl, hb8, hp8, -, hg8⟩
      have H8 := Lib.hid hp8
      have HB8 := Lib.hid (HBM.out.comp hb8)
      have HG8 := Lib.hid hg8
      clear hb8 hp8 hg8 CK HPM HBM
      go_wp2_with fail
      go_roundw
      case rel => exact ⟨j + 1, by omega, by go_num, M ++ M', Lib.hid (by rw [HTK.out]; exact HB8.out), H8, Lib.hid (fun y hy => (List.mem_append.1 hy).elim (HMG.out y) (HG8.out y))⟩
      case measure => simp [intOf]; omega
    · obtain rfl : j = L.length := by omega
      have hB := HBM.out
      rw [List.take_length] at hB
      have HREL := Lib.hid (fun x => (hB.all0 x).trans (show KpR G L x ↔ KpR G I.K x from ⟨fun ⟨k, hk, r⟩ => ⟨k, (HMEM.out k).1 hk, r⟩, fun ⟨k, hk, r⟩ => ⟨k, (HMEM.out k).2 hk, r⟩⟩))
      have hbk := HPM.out.2.2.bk HBH.out (by omega)
      have hbr := HPM.out.2.2.bk T3.out.2.1 (by omega)
      have HBK := Lib.hid hbk
      obtain ⟨r0, r1, r2, r3, r4, -⟩ := hbr.five
      have hrl := hbr.lt
      clear hB HBM HMEM HIN CH hbk hbr HO3
      rcases HRO.out with rfl | ⟨k, rfl, hk⟩
      · have HPM2 := Lib.hid HPM.out.1
        clear HPM
        go_wp2_with fail
        go_ret2
        exact ⟨none, 0, [], rfl, Ow.nil _ _ _ _, List.nodup_nil, fun x => ⟨fun h => (by cases h), fun ⟨⟨k, e, _⟩, _⟩ => by simp only [hd] at e; omega⟩, bal HPM2.out⟩
      · have hk0 : (((hd k : Nat) : Int) == 0) = false := by rw [beq_eq_false_iff_ne]; unfold hd; omega
        have hw2r := HPM.out.2.2.1
        have hw23 := HM3.out.lt
        have hww := HPM.out.1.size
        have hst : OutP w (wr.heap.size + 1) (w2.heap.size + 1) wr.heap.size w2.heap.size M [] [] ((wr.alloc (.cells #[.slice none 0 0] 43)).alloc (.map #[] 0)) := by
          refine ⟨bal (bal HPM.out.1), ?_, HBK.out.alloc.alloc, (HPM.out.2.1.alloc _).alloc _, ⟨none, 0, (Bk.new _ _ _).alloc, Ow.nil _ _ _ _⟩, by omega, by omega, by omega⟩
          have := SetM.made (wr.alloc (.cells #[.slice none 0 0] 43))
          rw [World.size_alloc] at this
          exact this
        have CL := Lib.hid (CO.out (wr.heap.size + 1) (w2.heap.size + 1) wr.heap.size w2.heap.size M k hk hk [] [] _ hst (Nat.le_refl _) (fun _ h => (by cases h)))
        clear hst CO HPM
        go_wp2_with fail
        refine (CL.out).mono ?_
        rintro e w9 ⟨M9, rfl, hb9, hp9, -, -⟩
        have HP9 := Lib.hid hp9
        have HB9 := Lib.hid hb9
        rw [List.nil_append] at hp9
        obtain ⟨A9, c9, hO9, hR9⟩ := hp9.o
        have HR9 := Lib.hid hR9
        obtain ⟨o0, -⟩ := hO9.one
        have hl9 := hO9.lt
        clear hb9 hp9 hO9 hR9 CL
        go_wp2_with fail
        go_ret2
        refine ⟨A9, c9, outL M M9, rfl, HR9.out, ?_, fun x => ?_, HP9.out.below⟩
        · have := HP9.out.set.2
          rw [List.nil_append] at this
          exact this.filter _
        · rw [mem_outL, HB9.out.all0 x, HREL.out x]
          refine and_congr ⟨fun ⟨k', hk', r⟩ => ⟨k, rfl, by rw [List.mem_singleton] at hk'; rw [← hk']; exact r⟩, fun ⟨k', e, r⟩ => ⟨k, by simp, ?_⟩⟩ Iff.rfl
          have : k' = k := by simp only [hd] at e; omega
          rw [← this]; exact r
end Go.Proofs.YtclmjnobacepjaaGreat
