/- versions: what holds at the head of the loop, and how a round keeps it. -/
import Derived.Test.YtclmjnobacepjaaGreatTFreeG
namespace Go.Proofs.YtclmjnobacepjaaGreat
open Go.RowKit

/-- a version: a rope and its text -/
structure Vr where
  r : Rt
  T : List UInt8
def vrE : Enc Vr := ⟨6, by decide, fun v => [.int .u64 v.r.at_, .int .i64 v.r.ht, .int .i64 v.r.b, .int .i64 v.r.r, .int .i64 v.r.n, .string ⟨v.T.toArray⟩], fun _ => rfl, by intro x u h; simp at h; rcases h with rfl | rfl | rfl | rfl | rfl | rfl <;> rfl⟩
theorem infoVr : (Tryz.prog.info? 41).map (fun i => (i.zero, i.size, i.bytes)) = some (some (.agg #[.int .u64 0, .int .i64 0, .int .i64 0, .int .i64 0, .int .i64 0, .string ⟨#[]⟩]), 6, 56) := by kernel_rfl
theorem vrOK : EOK vrE 29 41 := EOK.mk' Tryz.underlying29 infoVr rfl rfl (by omega)
theorem Sl.vr {w : World} {v : Value} {l : List Vr} (h : Sl vrE w v l) {k : Nat} (hk : k < l.length) :
    ∃ b off cap, v = .slice (some ⟨b, off, none⟩) l.length cap ∧ b < w.heap.size ∧ ∀ w', Below w.heap.size w w' → w'.cell? ⟨b, off + k * 6, none⟩ = some (.int .u64 l[k].r.at_) ∧ w'.cell? ⟨b, off + k * 6 + 1, none⟩ = some (.int .i64 l[k].r.ht) ∧ w'.cell? ⟨b, off + k * 6 + 2, none⟩ = some (.int .i64 l[k].r.b) ∧ w'.cell? ⟨b, off + k * 6 + 3, none⟩ = some (.int .i64 l[k].r.r) ∧ w'.cell? ⟨b, off + k * 6 + 4, none⟩ = some (.int .i64 l[k].r.n) ∧ w'.cell? ⟨b, off + k * 6 + 5, none⟩ = some (.string ⟨l[k].T.toArray⟩) := by
  obtain ⟨A, cap, rfl, h2, h3, h4⟩ := h
  obtain ⟨b, off, rfl, hb, hc⟩ := h4 (by omega)
  have hx : l[k]? = some l[k] := List.getElem?_eq_getElem hk
  exact ⟨b, off, cap, rfl, hb, fun w' hb' => ⟨(hb'.cell (p := ⟨b, _, none⟩) hb).trans (hc k 0 _ _ hx rfl), (hb'.cell (p := ⟨b, _, none⟩) hb).trans (hc k 1 _ _ hx rfl), (hb'.cell (p := ⟨b, _, none⟩) hb).trans (hc k 2 _ _ hx rfl), (hb'.cell (p := ⟨b, _, none⟩) hb).trans (hc k 3 _ _ hx rfl), (hb'.cell (p := ⟨b, _, none⟩) hb).trans (hc k 4 _ _ hx rfl), (hb'.cell (p := ⟨b, _, none⟩) hb).trans (hc k 5 _ _ hx rfl)⟩⟩

/-- how many nodes there are at most, behind j edits -/
def bnd : Nat → Nat
  | 0 => 21
  | j + 1 => bnd j + (31 + 10 * j)
theorem bnd_le {j : Nat} (h : j ≤ 10) : bnd j ≤ 781 := by
  have : ∀ j : Fin 11, bnd j.1 ≤ 781 := by decide
  exact this ⟨j, by omega⟩

/-- what holds of the versions behind j edits -/
structure VP (G : Ar) (vs : List Vr) (j : Nat) : Prop where
  rv : ∀ v ∈ vs, RV G v.r v.T ∧ v.T.length ≤ 80 + 40 * j
  cov : ∀ x, (∃ v ∈ vs, RtR G v.r x) ↔ x < G.length
  len : vs.length = j + 1
  sz : G.length ≤ bnd j
theorem VP.start {xs : List Nd} {r : Rt} {I : PI} {s : List UInt8} (hG : ArOK ([] ++ xs)) (h : WrV [] xs r I) (hT : I.T = s) (hK : I.K = []) (hs : s.length ≤ 80) (hx : xs.length ≤ s.length / 4 + 1) : VP ([] ++ xs) [⟨r, s⟩] 0 := by
  have hn := h.now (fun i x q => by simp at q) (by rw [hK]; simp) hG
  refine ⟨fun v hv => ?_, fun x => ?_, rfl, by rw [List.nil_append]; show xs.length ≤ 21; omega⟩
  · obtain rfl := List.mem_singleton.1 hv
    exact ⟨hT ▸ h.rv, by simp only; omega⟩
  · constructor
    · rintro ⟨v, hv, q⟩
      obtain rfl := List.mem_singleton.1 hv
      rcases (hn x).1 q with a | ⟨k, a, -⟩
      · exact a.2
      · rw [hK] at a; cases a
    · intro q
      exact ⟨_, List.mem_singleton.2 rfl, (hn x).2 (.inl ⟨Nat.zero_le _, q⟩)⟩
theorem VP.step {G : Ar} {vs : List Vr} {j : Nat} (p : VP G vs j) (hG : ArOK G) {v : Vr} (hv : v ∈ vs) {A : AF} {T' s : List UInt8} {w w' : World} {xs : List Nd} {r' : Rt} {fv dv : Value} {D : List Nat} (q : RepV A G v.r T' w xs r' fv dv D w') (hT : T'.length ≤ v.T.length + s.length) (hs : s.length ≤ 40) : VP (G ++ xs) (vs ++ [⟨r', T'⟩]) (j + 1) := by
  obtain ⟨c', I', w1, h1, h2, h3, h4, h5⟩ := q.plan
  have hG' := q.ar.ok
  have hK := h1.kept_lt
  have hn := h2.now hG hK hG'
  have hl := h1.news hG
  rw [h3, ← h2.len] at hl
  have hvl := (p.rv v hv).2
  have hr' := h2.rv
  rw [h3] at hr'
  refine ⟨fun u hu => ?_, fun x => ?_, by rw [List.length_append, p.len]; rfl, ?_⟩
  · rcases List.mem_append.1 hu with a | a
    · exact ⟨(p.rv u a).1.app, by have := (p.rv u a).2; omega⟩
    · obtain rfl := List.mem_singleton.1 a
      exact ⟨hr', by simp only; omega⟩
  · constructor
    · rintro ⟨u, hu, a⟩
      rcases List.mem_append.1 hu with b | b
      · exact rtR_lt hG' (p.rv u b).1.app a
      · obtain rfl := List.mem_singleton.1 b
        exact rtR_lt hG' hr' a
    · intro a
      by_cases b : x < G.length
      · obtain ⟨u, hu, c⟩ := (p.cov x).2 b
        exact ⟨u, List.mem_append.2 (.inl hu), (rtR_app hG (p.rv u hu).1 x).2 c⟩
      · exact ⟨_, List.mem_append.2 (.inr (List.mem_singleton.2 rfl)), (hn x).2 (.inl ⟨by omega, a⟩)⟩
  · rw [List.length_append]
    have := p.sz
    show _ ≤ bnd j + (31 + 10 * j)
    omega
/-- what the checks find -/
theorem VP.checks {G : Ar} {vs : List Vr} {j : Nat} (p : VP G vs j) (hG : ArOK G) {v : Vr} (hv : v ∈ vs) {A : AF} {T' : List UInt8} {w w' : World} {xs : List Nd} {r' : Rt} {fv dv : Value} {D : List Nat} (q : RepV A G v.r T' w xs r' fv dv D w') :
    (∀ x ∈ ndL (G ++ xs) v.r, (x ∈ ndL (G ++ xs) r' ↔ ¬ x ∈ D) ∧ ¬ G.length ≤ x) ∧ ∀ x ∈ ndL (G ++ xs) r', (x ∈ ndL (G ++ xs) v.r ↔ ¬ (G.length ≤ x ∧ x < (G ++ xs).length)) := by
  obtain ⟨c', I', w1, h1, h2, h3, h4, h5⟩ := q.plan
  have hG' := q.ar.ok
  obtain ⟨k1, k2⟩ := ver_ok hG hG' (p.rv v hv).1 h1 h2 h4 h5
  have m1 := ndL_mem hG' (p.rv v hv).1.app (G := G ++ xs)
  have m2 := ndL_mem hG' h2.rv
  refine ⟨fun x hx => ?_, fun x hx => ?_⟩
  · rw [m2 x]
    have := k1 x ((m1 x).1 hx)
    exact ⟨this.1, by have := this.2; omega⟩
  · rw [m1 x]
    exact k2 x ((m2 x).1 hx)

/-- the fresh nodes as a list of nodes -/
def frI (n i : Nat) : List Nat := (List.range i).map (n + ·)
theorem frI_hd (n i : Nat) : (frI n i).map hd = frL n i := by unfold frI frL; rw [List.map_map]; rfl
theorem frI_mem (n i x : Nat) : x ∈ frI n i ↔ n ≤ x ∧ x < n + i := by
  unfold frI
  rw [List.mem_map]
  constructor
  · rintro ⟨k, hk, rfl⟩
    have := List.mem_range.1 hk
    omega
  · intro h
    exact ⟨x - n, List.mem_range.2 (by omega), by omega⟩
theorem frI_len (n i : Nat) : (frI n i).length = i := by unfold frI; rw [List.length_map, List.length_range]

/-- a round behind the edit: block b is the version that was edited, block bx the change -/
structure Chg (w : World) (A : AF) (G : Ar) (vs : List Vr) (v : Vr) (T' : List UInt8) (Av : Option Addr) (cv b bx : Nat) (xs : List Nd) (r' : Rt) (Af : Option Addr) (cf : Nat) (Ad : Option Addr) (cd : Nat) (D : List Nat) (W : World) : Prop where
  ar : ArM W A (G ++ xs)
  fr : FrT (arT A) w W
  ver : Bk W b #[.int .u64 v.r.at_, .int .i64 v.r.ht, .int .i64 v.r.b, .int .i64 v.r.r, .int .i64 v.r.n, .string ⟨v.T.toArray⟩] 41
  chg : Bk W bx #[.int .u64 r'.at_, .int .i64 r'.ht, .int .i64 r'.b, .int .i64 r'.r, .int .i64 r'.n, .slice Af xs.length cf, .slice Ad D.length cd] 65
  fresh : Ow hndE W 0 35 (.slice Af xs.length cf) (frL G.length xs.length)
  drop : Ow hndE W 0 35 (.slice Ad D.length cd) (D.map hd)
  row : Ow vrE W w.heap.size 41 (.slice Av vs.length cv) vs
  rep : ∃ w0 w1, RepV A G v.r T' w0 xs r' (.slice Af xs.length cf) (.slice Ad D.length cd) D w1
theorem Chg.ext {w : World} {A : AF} {G : Ar} {vs : List Vr} {v : Vr} {T' : List UInt8} {Av : Option Addr} {cv b bx : Nat} {xs : List Nd} {r' : Rt} {Af : Option Addr} {cf : Nat} {Ad : Option Addr} {cd : Nat} {D : List Nat} {W W' : World} (h : Chg w A G vs v T' Av cv b bx xs r' Af cf Ad cd D W) (hb : Below W.heap.size W W') : Chg w A G vs v T' Av cv b bx xs r' Af cf Ad cd D W' :=
  ⟨h.ar.ext hb, h.fr.below hb, h.ver.ext hb h.ver.lt, h.chg.ext hb h.chg.lt, h.fresh.ext hb (Nat.le_refl _), h.drop.ext hb (Nat.le_refl _), h.row.ext hb (Nat.le_refl _), h.rep⟩
/-- the change in a new block -/
theorem Chg.new {w W0 W W5 : World} {A : AF} {G : Ar} {vs : List Vr} {v : Vr} {T' : List UInt8} {Av : Option Addr} {cv b : Nat} {xs : List Nd} {r' : Rt} {Af : Option Addr} {cf : Nat} {Ad : Option Addr} {cd : Nat} {D : List Nat} (hal : ∀ k, arT A k → k < w.heap.size) (hfr : FrT (arT A) w W0) (hv : Bk W0 b #[.int .u64 v.r.at_, .int .i64 v.r.ht, .int .i64 v.r.b, .int .i64 v.r.r, .int .i64 v.r.n, .string ⟨v.T.toArray⟩] 41) (hb : w.heap.size ≤ b) (ho : Ow vrE W0 w.heap.size 41 (.slice Av vs.length cv) vs)
    (hW : Below W0.heap.size W0 W) (q : RepV A G v.r T' W xs r' (.slice Af xs.length cf) (.slice Ad D.length cd) D W5) : Chg w A G vs v T' Av cv b W5.heap.size xs r' Af cf Ad cd D (W5.alloc (.cells #[.int .u64 r'.at_, .int .i64 r'.ht, .int .i64 r'.b, .int .i64 r'.r, .int .i64 r'.n, .slice Af xs.length cf, .slice Ad D.length cd] 65)) := by
  have hx : Below W5.heap.size W5 (W5.alloc (.cells #[.int .u64 r'.at_, .int .i64 r'.ht, .int .i64 r'.b, .int .i64 r'.r, .int .i64 r'.n, .slice Af xs.length cf, .slice Ad D.length cd] 65)) := bal (Below.refl _ _)
  have hv1 := hv.ext hW hv.lt
  have ho1 := ho.ext hW (Nat.le_refl _)
  refine ⟨q.ar.ext hx, ((hfr.below hW).trans q.fr).below hx, ?_, Bk.new _ _ _, (q.fresh.base (Nat.zero_le _)).ext hx (Nat.le_refl _), (q.drop.base (Nat.zero_le _)).ext hx (Nat.le_refl _), Ow.ext ?_ hx (Nat.le_refl _), ⟨_, _, q⟩⟩
  · have h5 : Bk W5 b _ _ := (q.fr.block b hv1.lt (fun e => by have := hal b e; omega)).trans hv1
    exact h5.ext hx h5.lt
  · exact ho1.kept fun g hg => q.fr.block g (ho1.lt g hg).2 (fun e => by have := hal g e; have := (ho1.lt g hg).1; omega)
/-- the change in a block that was laid ahead of the edit -/
theorem Chg.old {w W0 W W5 W9 : World} {A : AF} {G : Ar} {vs : List Vr} {v : Vr} {T' : List UInt8} {Av : Option Addr} {cv b bx : Nat} {xs : List Nd} {r' : Rt} {Af : Option Addr} {cf : Nat} {Ad : Option Addr} {cd : Nat} {D : List Nat} (hal : ∀ k, arT A k → k < w.heap.size) (hfr : FrT (arT A) w W0) (hv : Bk W0 b #[.int .u64 v.r.at_, .int .i64 v.r.ht, .int .i64 v.r.b, .int .i64 v.r.r, .int .i64 v.r.n, .string ⟨v.T.toArray⟩] 41) (hb : w.heap.size ≤ b) (ho : Ow vrE W0 w.heap.size 41 (.slice Av vs.length cv) vs)
    (hW : Below W0.heap.size W0 W) (q : RepV A G v.r T' W xs r' (.slice Af xs.length cf) (.slice Ad D.length cd) D W5) (hbx : w.heap.size ≤ bx) {cs : Array Value} (h5 : Bk W5 bx cs 65) (h9 : Bk W9 bx #[.int .u64 r'.at_, .int .i64 r'.ht, .int .i64 r'.b, .int .i64 r'.r, .int .i64 r'.n, .slice Af xs.length cf, .slice Ad D.length cd] 65) (he : ∀ k, k ≠ bx → W9.heap[k]? = W5.heap[k]?) (f9 : FrT (arT A) w W5 → FrT (arT A) w W9) (hs : W5.heap.size ≤ W9.heap.size) : Chg w A G vs v T' Av cv b bx xs r' Af cf Ad cd D W9 := by
  have hv1 := hv.ext hW hv.lt
  have ho1 := ho.ext hW (Nat.le_refl _)
  have hv5 : Bk W5 b _ _ := (q.fr.block b hv1.lt (fun e => by have := hal b e; omega)).trans hv1
  have ho5 := ho1.kept (w' := W5) fun g hg => q.fr.block g (ho1.lt g hg).2 (fun e => by have := hal g e; have := (ho1.lt g hg).1; omega)
  refine ⟨q.ar.setRt (fun k hk => he k (by have := hal k hk; omega)) hs (fun c cs hq => (he c (bk_ne hq h5 (by decide))).trans hq), f9 ((hfr.below hW).trans q.fr), (he b (bk_ne hv5 h5 (by decide))).trans hv5, h9, ?_, ?_, ?_, ⟨_, _, q⟩⟩
  · exact (q.fresh.base (Nat.zero_le _)).kept fun g hg => he g (q.fresh.ne_bk h5 (by decide) g hg)
  · exact (q.drop.base (Nat.zero_le _)).kept fun g hg => he g (q.drop.ne_bk h5 (by decide) g hg)
  · exact ho5.kept fun g hg => he g (ho5.ne_bk h5 (by decide) g hg)

theorem Chg.old7 {w W0 W W5 : World} {A : AF} {G : Ar} {vs : List Vr} {v : Vr} {T' : List UInt8} {Av : Option Addr} {cv b bx : Nat} {xs : List Nd} {r' : Rt} {Af : Option Addr} {cf : Nat} {Ad : Option Addr} {cd : Nat} {D : List Nat} (hal : ∀ k, arT A k → k < w.heap.size) (hfr : FrT (arT A) w W0) (hv : Bk W0 b #[.int .u64 v.r.at_, .int .i64 v.r.ht, .int .i64 v.r.b, .int .i64 v.r.r, .int .i64 v.r.n, .string ⟨v.T.toArray⟩] 41) (hb : w.heap.size ≤ b) (ho : Ow vrE W0 w.heap.size 41 (.slice Av vs.length cv) vs)
    (hW : Below W0.heap.size W0 W) (q : RepV A G v.r T' W xs r' (.slice Af xs.length cf) (.slice Ad D.length cd) D W5) (hbx : w.heap.size ≤ bx) (h5 : Bk W5 bx #[.int .u64 0, .int .i64 0, .int .i64 0, .int .i64 0, .int .i64 0, .slice none 0 0, .slice none 0 0] 65) : Chg w A G vs v T' Av cv b bx xs r' Af cf Ad cd D (((((((W5.setCell ⟨bx, 0, none⟩ (.int .u64 r'.at_)).setCell ⟨bx, 1, none⟩ (.int .i64 r'.ht)).setCell ⟨bx, 2, none⟩ (.int .i64 r'.b)).setCell ⟨bx, 3, none⟩ (.int .i64 r'.r)).setCell ⟨bx, 4, none⟩ (.int .i64 r'.n)).setCell ⟨bx, 5, none⟩ (.slice Af xs.length cf)).setCell ⟨bx, 6, none⟩ (.slice Ad D.length cd)) :=
  show Chg w A G vs v T' Av cv b bx xs r' Af cf Ad cd D (wset7 W5 bx (.int .u64 r'.at_) (.int .i64 r'.ht) (.int .i64 r'.b) (.int .i64 r'.r) (.int .i64 r'.n) (.slice Af xs.length cf) (.slice Ad D.length cd)) from Chg.old hal hfr hv hb ho hW q hbx h5 (((((((h5.set 0 _).set 1 _).set 2 _).set 3 _).set 4 _).set 5 _).set 6 _) (fun _ hk => wset7_other hk) (fun f => ((((((f.set (.inr hbx) _).set (.inr hbx) _).set (.inr hbx) _).set (.inr hbx) _).set (.inr hbx) _).set (.inr hbx) _).set (.inr hbx) _) (Nat.le_of_eq wset7_size.symm)

end Go.Proofs.YtclmjnobacepjaaGreat
