/- edit.Plan. -/
import Derived.Test.YtclmjnobacepjaaGreatTRepl
namespace Go.Proofs.YtclmjnobacepjaaGreat
open Go.RowKit

/-- the root lies in a set of nodes -/
def RIn (S : Nat → Prop) (r : Rt) : Prop := ∀ k, r.at_ = hd k → S k
theorem keep_rv (A : AF) (G : Ar) (r : Rt) (T : List UInt8) (w : World) (hA : ArM w A G) (hr : RV G r T) :
    Calls Tryz.prog 22 #[.pointer (some ⟨A.ba, 0, none⟩), r.v] w fun e w' => ∃ c I, e = .returned (.tuple #[c.v, .int .i64 0]) ∧ PE G FT w' c I ∧ I.T = T ∧ (∀ S, RIn S r → KIn S I) ∧ Below w.heap.size w w' := by
  rcases hr with ⟨rfl, rfl⟩ | ⟨k, x, hx, rfl, rfl⟩
  · exact (keep_zero _ w).mono fun e w' ⟨he, hb⟩ => ⟨TC.zero, PI.zero, he, .inl ⟨rfl, rfl⟩, rfl, fun S _ k hk => (by cases hk), hb⟩
  · exact (keep_any A G k x w hA hx).mono fun e w' ⟨he, hb⟩ => ⟨kpC G x.ht k, ⟨x.T, [k], 0⟩, he, .inr ⟨x.ht, PV.of_kept ⟨k, x, hx, rfl, rfl, rfl⟩⟩, rfl, fun S hS j hj => (by
      obtain rfl : j = k := by simpa using hj
      exact hS j rfl), hb⟩

/-- the plan of an edit of a rope -/
structure EdV (G : Ar) (B : Nat) (w : World) (r : Rt) (T : List UInt8) (at_ n : Nat) (s : List UInt8) (c' : TC) (I' : PI) : Prop where
  pe : PE G (FG B) w c' I'
  txt : I'.T = T.take at_ ++ s ++ T.drop (at_ + n)
  kin : ∀ S, Closed G S → RIn S r → KIn S I'

set_option maxHeartbeats 4000000 in
set_option maxRecDepth 100000 in
theorem plan_any (A : AF) (G : Ar) (r : Rt) (T : List UInt8) (at_ n : Nat) (s : List UInt8) (w : World) (hA : ArM w A G) (hr : RV G r T) (hT : T.length ≤ 4096) (hs : s.length ≤ 4096) (ha : at_ ≤ T.length) (hn : at_ + n ≤ T.length) :
    Calls Tryz.prog 35 #[.pointer (some ⟨A.ba, 0, none⟩), r.v, .int .i64 at_, .int .i64 n, .string ⟨s.toArray⟩] w fun e w' => ∃ c' I', e = .returned (.tuple #[c'.v, .int .i64 0]) ∧ EdV G w.heap.size w' r T at_ n s c' I' ∧ Below w.heap.size w w' := by
  have cK := fun W (p : Below w.heap.size w W) => keep_rv A G r T W (hA.ext p) hr
  have cR := fun c I W (p : Below w.heap.size w W) (q : PE G FT W c I) (t : I.T = T) => replace_any A G c I at_ n s W (hA.ext p) q (by rw [t]; exact hT) hs (by rw [t]; exact ha) (by rw [t]; exact hn)
  unfold TC.v Rt.v at *
  have CK := Lib.hid cK; have CR := Lib.hid cR
  clear cK cR hA hr hT hs ha hn
  go_enter Tryz.func35, Tryz.ntmps35
  go_wp2_with fail
  have T0 := Lib.hid (show Below w.heap.size w ((w.alloc (.cells #[.int .u64 r.at_, .int .i64 r.ht, .int .i64 r.b, .int .i64 r.r, .int .i64 r.n] 39)).alloc (.cells #[.int .u64 0, .int .i64 0, .int .i64 0, .int .i64 0, .int .i64 0, .string ⟨#[]⟩, .slice none 0 0] 76)) ∧ Bk ((w.alloc (.cells #[.int .u64 r.at_, .int .i64 r.ht, .int .i64 r.b, .int .i64 r.r, .int .i64 r.n] 39)).alloc (.cells #[.int .u64 0, .int .i64 0, .int .i64 0, .int .i64 0, .int .i64 0, .string ⟨#[]⟩, .slice none 0 0] 76)) (w.heap.size + 1) #[.int .u64 0, .int .i64 0, .int .i64 0, .int .i64 0, .int .i64 0, .string ⟨#[]⟩, .slice none 0 0] 76 from ⟨bal (bal (Below.refl _ _)), bal2' w⟩)
  refine (CK.out _ T0.out.1).mono ?_
  rintro e w1 ⟨c1, I1, rfl, hp, ht, hk, hb⟩
  have HP := Lib.hid hp; have HT := Lib.hid ht; have HK := Lib.hid hk
  have T1 := Lib.hid (show Below w.heap.size w (w1.alloc (.cells #[.int .u64 c1.old, .int .i64 c1.ht, .int .i64 c1.b, .int .i64 c1.r, .int .i64 c1.n, .string ⟨c1.t.toArray⟩, .slice c1.kp c1.kl c1.kc] 76)) ∧ Bk (w1.alloc (.cells #[.int .u64 c1.old, .int .i64 c1.ht, .int .i64 c1.b, .int .i64 c1.r, .int .i64 c1.n, .string ⟨c1.t.toArray⟩, .slice c1.kp c1.kl c1.kc] 76)) (w.heap.size + 1) #[.int .u64 0, .int .i64 0, .int .i64 0, .int .i64 0, .int .i64 0, .string ⟨#[]⟩, .slice none 0 0] 76 from ⟨bal (bcall T0.out.1 hb), (T0.out.2.ext hb T0.out.2.lt).alloc⟩)
  have HP1 := Lib.hid (hp.ext (bal (Below.refl w1.heap.size w1) : Below w1.heap.size w1 (w1.alloc (.cells #[.int .u64 c1.old, .int .i64 c1.ht, .int .i64 c1.b, .int .i64 c1.r, .int .i64 c1.n, .string ⟨c1.t.toArray⟩, .slice c1.kp c1.kl c1.kc] 76))))
  clear hp ht hk hb CK
  go_wp2_with fail
  refine (CR.out c1 I1 _ T1.out.1 HP1.out HT.out).mono ?_
  rintro e w2 ⟨c2, I2, rfl, hr2, hb2⟩
  have HR2 := Lib.hid hr2
  have T2 := Lib.hid (show Below w.heap.size w w2 ∧ Bk w2 (w.heap.size + 1) #[.int .u64 0, .int .i64 0, .int .i64 0, .int .i64 0, .int .i64 0, .string ⟨#[]⟩, .slice none 0 0] 76 from ⟨bcall T1.out.1 hb2, T1.out.2.ext hb2 T1.out.2.lt⟩)
  have HL := Lib.hid T1.out.1.size
  obtain ⟨r0, r1, r2, r3, r4, r5, r6, f0, f1, f2, f3, f4, f5, f6⟩ := T2.out.2.seven
  have hrl := T2.out.2.lt
  clear hr2 hb2 CR
  go_wp2_with fail
  refine bodyPost_ret (v := .tuple #[.agg #[.int .u64 c2.old, .int .i64 c2.ht, .int .i64 c2.b, .int .i64 c2.r, .int .i64 c2.n, .string ⟨c2.t.toArray⟩, .slice c2.kp c2.kl c2.kc], .int .i64 0]) (by simp [results, Tryz.results35, go_sem, r0, r1, r2, r3, r4, r5, r6]) rfl ⟨c2, I2, rfl, ⟨(HR2.out.pe.mono fun g hg => Nat.le_trans HL.out hg).set7 T2.out.2 (by simp), by rw [HR2.out.txt, HT.out], fun S hS hi => HR2.out.kin S hS (HK.out S hi)⟩, bset7 T2.out.1 (by omega)⟩

end Go.Proofs.YtclmjnobacepjaaGreat

/- sets of nodes: a map from handles to booleans whose keys are the handles of a list's nodes. -/
namespace Go.Proofs.YtclmjnobacepjaaGreat
open Go.RowKit

theorem infoBool : (Tryz.prog.info? 4).map (fun i => (i.zero, i.size, i.bytes)) = some (some (.bool false), 1, 1) := by kernel_rfl
theorem zeroBool (w : World) : (zeroValue 4).run Tryz.prog w = .ok (.bool false) w := by
  obtain ⟨j0, hj, jz0, -, -⟩ := info_parts infoBool
  simp [zeroValue, typeInfo, hj, jz0, go_sem]
def setF (L : List Nat) : Int → Option Value := fun x => if x ∈ L.map (fun k => (hd k : Int)) then some (.bool true) else none
/-- block b is the set of the nodes in L, each once -/
def SetM (w : World) (b : Nat) (L : List Nat) : Prop := MapIs w b (setF L) L.length ∧ L.Nodup
theorem mem_hd {L : List Nat} {k : Nat} : ((hd k : Nat) : Int) ∈ L.map (fun k => (hd k : Int)) ↔ k ∈ L := by
  constructor
  · intro h
    obtain ⟨j, hj, e⟩ := List.mem_map.1 h
    obtain rfl : j = k := by unfold hd at e; omega
    exact hj
  · intro h
    exact List.mem_map.2 ⟨k, h, rfl⟩
theorem SetM.keep {w w' : World} {b : Nat} {L : List Nat} (h : SetM w b L) (hk : w'.heap[b]? = w.heap[b]?) : SetM w' b L := ⟨h.1.keep hk, h.2⟩
theorem SetM.lt {w : World} {b : Nat} {L : List Nat} (h : SetM w b L) : b < w.heap.size := h.1.lt
theorem SetM.alloc {w : World} {b : Nat} {L : List Nat} (h : SetM w b L) (o : Obj) : SetM (w.alloc o) b L := ⟨h.1.alloc o, h.2⟩
theorem SetM.ext {w w' : World} {b B : Nat} {L : List Nat} (h : SetM w b L) (hb : Below B w w') (hB : b < B) : SetM w' b L := ⟨h.1.ext hb hB, h.2⟩
theorem SetM.grown {w w' : World} {b : Nat} {L : List Nat} {row : Option Nat} (h : SetM w b L) (hg : w.grownBy w' row) (hne : some b ≠ row) : SetM w' b L := ⟨h.1.grown hg hne, h.2⟩
theorem SetM.made (w : World) : SetM (w.alloc (.map #[] 0)) w.heap.size [] := ⟨(MapIs.made w).congr fun k _ => by simp [setF], List.nodup_nil⟩
theorem SetM.look {w : World} {b : Nat} {L : List Nat} (h : SetM w b L) {k : Nat} (hk : k ≤ 16384) :
    (Instr.lookup 107 (.map (some b)) (.int .u64 (hd k : Nat)) false).run Tryz.prog w = .ok (.bool (decide (k ∈ L))) w := by
  rw [h.1.look Tryz.underlying107 (zeroBool w) (inH_hd hk)]
  by_cases e : k ∈ L
  · rw [setF, if_pos (mem_hd.2 e), decide_eq_true e]; rfl
  · rw [setF, if_neg (fun q => e (mem_hd.1 q)), decide_eq_false e]; rfl
theorem SetM.store {w : World} {b : Nat} {L : List Nat} (h : SetM w b L) (hl : L.length ≤ 1000000) {k : Nat} (hk : k ≤ 16384) (hn : k ∉ L) :
    ∃ w', (Instr.mapUpdate 107 (.map (some b)) (.int .u64 (hd k : Nat)) (.bool true)).run Tryz.prog w = .ok () w' ∧ SetM w' b (L ++ [k]) ∧ w.grownBy w' (some b) ∧ w'.heap.size = w.heap.size := by
  obtain ⟨w', h1, h2, h3, h4⟩ := h.1.store hl Tryz.underlying107 (inH_hd hk) (.bool true)
  refine ⟨w', h1, ⟨?_, ?_⟩, h3, h4⟩
  · have e : setF L (hd k : Nat) = none := by rw [setF, if_neg (fun q => hn (mem_hd.1 q))]
    rw [e] at h2
    have h2' : MapIs w' b (upd (setF L) (hd k : Nat) (.bool true)) (L.length + 1) := by simpa using h2
    rw [List.length_append]
    refine h2'.congr fun x _ => ?_
    unfold upd setF
    by_cases hx : x = (hd k : Nat)
    · subst hx
      rw [if_pos rfl, if_pos (mem_hd.2 (by simp))]
    · rw [if_neg hx, List.map_append]
      by_cases hm : x ∈ L.map (fun k => (hd k : Int))
      · rw [if_pos hm, if_pos (List.mem_append.2 (.inl hm))]
      · rw [if_neg hm, if_neg (by
          intro q
          rcases List.mem_append.1 q with q | q
          · exact hm q
          · exact hx (by simpa using q))]
  · rw [List.nodup_append]
    refine ⟨h.2, by simp, fun a ha c hc e => ?_⟩
    obtain rfl : c = k := by simpa using hc
    exact hn (e ▸ ha)
theorem nodup_le {L : List Nat} (h : L.Nodup) {n : Nat} (hn : ∀ k ∈ L, k < n) : L.length ≤ n := by
  induction n generalizing L with
  | zero =>
    cases L with
    | nil => simp
    | cons a L => exact absurd (hn a (by simp)) (by omega)
  | succ n ih =>
    have h2 := ih (L := L.erase n) (h.erase n) (fun k hk => by
      have := (h.mem_erase_iff).1 hk
      have := hn k this.2
      omega)
    have := List.length_erase (a := n) (l := L)
    split at this <;> omega

end Go.Proofs.YtclmjnobacepjaaGreat

/- plan.Kept: its closure at a plan without kids. -/
namespace Go.Proofs.YtclmjnobacepjaaGreat
open Go.RowKit

/-- the nodes of K that are not in L yet, in order, behind L -/
def kpL (L K : List Nat) : List Nat := K.foldl (fun L k => if k ∈ L then L else L ++ [k]) L
theorem kpL_nil (L : List Nat) : kpL L [] = L := rfl
theorem kpL_app (L K K' : List Nat) : kpL L (K ++ K') = kpL (kpL L K) K' := by simp [kpL, List.foldl_append]
theorem mem_kpL {K : List Nat} : ∀ {L : List Nat} {x : Nat}, x ∈ kpL L K ↔ x ∈ L ∨ x ∈ K := by
  induction K with
  | nil => intro L x; simp [kpL]
  | cons k K ih =>
    intro L x
    have e : kpL L (k :: K) = kpL (if k ∈ L then L else L ++ [k]) K := rfl
    rw [e, ih]
    by_cases h : k ∈ L
    · rw [if_pos h]
      constructor
      · rintro (q | q)
        · exact .inl q
        · exact .inr (List.mem_cons_of_mem _ q)
      · rintro (q | q)
        · exact .inl q
        · rcases List.mem_cons.1 q with rfl | q
          · exact .inl h
          · exact .inr q
    · rw [if_neg h]
      simp only [List.mem_append, List.mem_cons, List.not_mem_nil, or_false]
      constructor
      · rintro ((q | q) | q)
        · exact .inl q
        · exact .inr (.inl q)
        · exact .inr (.inr q)
      · rintro (q | q | q)
        · exact .inl (.inl q)
        · exact .inl (.inr q)
        · exact .inr q

/-- the variables of Kept: the map (bS, bm), the row (bO), the closure (bW) -/
structure KS (w0 : World) (bS bO bW bm : Nat) (L : List Nat) (W : World) : Prop where
  below : Below w0.heap.size w0 W
  s : Bk W bS #[.map (some bm)] 107
  o : ∃ A c, Bk W bO #[.slice A L.length c] 43 ∧ Ow hndE W w0.heap.size 35 (.slice A L.length c) (L.map hd)
  f : Bk W bW #[.func (.func 86) #[] #[.pointer (some ⟨bS, 0, none⟩), .pointer (some ⟨bO, 0, none⟩), .pointer (some ⟨bW, 0, none⟩)]] 173
  m : SetM W bm L
  gS : w0.heap.size ≤ bS
  gO : w0.heap.size ≤ bO
  gW : w0.heap.size ≤ bW
  gm : w0.heap.size ≤ bm
theorem KS.ext {w0 W W' : World} {bS bO bW bm : Nat} {L : List Nat} (hb : Below W.heap.size W W') (s : KS w0 bS bO bW bm L W) : KS w0 bS bO bW bm L W' := by
  obtain ⟨A, c, h1, h2⟩ := s.o
  exact ⟨bcall s.below hb, s.s.ext hb s.s.lt, ⟨A, c, h1.ext hb h1.lt, h2.ext hb (Nat.le_refl _)⟩, s.f.ext hb s.f.lt, s.m.ext hb s.m.lt, s.gS, s.gO, s.gW, s.gm⟩

set_option maxHeartbeats 1000000 in
set_option maxRecDepth 100000 in
theorem kept_leaf (w0 : World) (bS bO bW bm : Nat) (L : List Nat) (T : List UInt8) (w : World) (s : KS w0 bS bO bW bm L w) :
    Calls Tryz.prog 86 #[(lfC T).v, .pointer (some ⟨bS, 0, none⟩), .pointer (some ⟨bO, 0, none⟩), .pointer (some ⟨bW, 0, none⟩)] w fun e w' => e = .returned (.tuple #[]) ∧ KS w0 bS bO bW bm L w' := by
  rw [lfC_v]
  have S := Lib.hid s
  clear s
  go_enter Tryz.func86, Tryz.ntmps86
  go_wp2_with fail
  refine wp_loop_rounds 1 ?_
  rw [rounds_succ]
  go_wp2_with fail
  refine bodyPost_end (v := .tuple #[]) (by simp [results, Tryz.results86, go_sem]) rfl ⟨rfl, S.out.ext (bal (Below.refl _ _))⟩

set_option maxHeartbeats 1000000 in
set_option maxRecDepth 100000 in
theorem kept_old (G : Ar) (w0 : World) (bS bO bW bm : Nat) (L : List Nat) (h k : Nat) (w : World) (s : KS w0 bS bO bW bm L w) (hk : k ≤ 16384) (hL : k ∈ L) :
    Calls Tryz.prog 86 #[(kpC G h k).v, .pointer (some ⟨bS, 0, none⟩), .pointer (some ⟨bO, 0, none⟩), .pointer (some ⟨bW, 0, none⟩)] w fun e w' => e = .returned (.tuple #[]) ∧ KS w0 bS bO bW bm L w' := by
  rw [kpC_v]
  have S := Lib.hid s
  have hk0 : (((hd k : Nat) : Int) != 0) = true := by rw [bne_iff_ne]; unfold hd; omega
  obtain ⟨c0, -⟩ := s.s.one
  have hlt := s.s.lt
  have hlk := (s.m.alloc (.cells #[.int .u64 (hd k : Nat), .int .i64 h, .int .i64 (meas (txt G k)).b, .int .i64 (meas (txt G k)).r, .int .i64 (meas (txt G k)).n, .string ⟨#[]⟩, .slice none 0 0] 76)).look hk
  rw [decide_eq_true hL] at hlk
  clear s
  go_enter Tryz.func86, Tryz.ntmps86
  go_wp2_with fail
  refine wp_loop_rounds 1 ?_
  rw [rounds_succ]
  go_wp2_with fail
  refine bodyPost_end (v := .tuple #[]) (by simp [results, Tryz.results86, go_sem]) rfl ⟨rfl, S.out.ext (bal (Below.refl _ _))⟩

end Go.Proofs.YtclmjnobacepjaaGreat

/- plan.Kept: its closure at a kept node that has not been seen. -/
namespace Go.Proofs.YtclmjnobacepjaaGreat
open Go.RowKit

theorem Ow.ne_map {α : Type} {E : Enc α} {w : World} {B bm : Nat} {e : TypeId} {v : Value} {l : List α} {L : List Nat} (h : Ow E w B e v l) (m : SetM w bm L) : ∀ g, v.ownBlock = some g → g ≠ bm := by
  intro g hg e
  subst e
  obtain ⟨n, D, ⟨es, cl, hq, -⟩, -⟩ := m.1
  rcases h.2 with ⟨rfl, _⟩ | ⟨g', cap, cur, rfl, _, hg', _⟩
  · cases hg
  · have e2 : g' = g := Option.some.inj hg
    subst e2
    rw [hq] at hg'
    cases hg'
theorem bk_ne {w : World} {b b' : Nat} {cs cs' : Array Value} {t t' : TypeId} (h : Bk w b cs t) (h' : Bk w b' cs' t') (hne : t ≠ t') : b ≠ b' := fun e => by
  subst e
  unfold Bk at h h'
  rw [h] at h'
  have := Option.some.inj h'
  injection this with e1 e3
  exact hne e3
theorem SetM.ne_bk {w : World} {b bm : Nat} {cs : Array Value} {t : TypeId} {L : List Nat} (m : SetM w bm L) (h : Bk w b cs t) : b ≠ bm := fun e => by
  obtain ⟨n, D, ⟨es, cl, hq, -⟩, -⟩ := m.1
  subst e
  unfold Bk at h
  rw [h] at hq
  cases hq
theorem Ow.ne_bk {α : Type} {E : Enc α} {w : World} {B b : Nat} {e t : TypeId} {cs : Array Value} {v : Value} {l : List α} (h : Ow E w B e v l) (m : Bk w b cs t) (hne : e ≠ t) : ∀ g, v.ownBlock = some g → g ≠ b := by
  intro g hg e
  subst e
  rcases h.2 with ⟨rfl, _⟩ | ⟨g', cap, cur, rfl, _, hg', _⟩
  · cases hg
  · have e2 : g' = g := Option.some.inj hg
    subst e2
    unfold Bk at m
    rw [m] at hg'
    have := Option.some.inj hg'
    injection this with e1 e3
    exact hne e3.symm

set_option maxHeartbeats 1000000 in
set_option maxRecDepth 100000 in
theorem kept_new (G : Ar) (w0 : World) (bS bO bW bm : Nat) (L : List Nat) (h k : Nat) (w : World) (s : KS w0 bS bO bW bm L w) (hk : k ≤ 16384) (hL : k ∉ L) (hn : L.length ≤ 16384) :
    Calls Tryz.prog 86 #[(kpC G h k).v, .pointer (some ⟨bS, 0, none⟩), .pointer (some ⟨bO, 0, none⟩), .pointer (some ⟨bW, 0, none⟩)] w fun e w' => e = .returned (.tuple #[]) ∧ KS w0 bS bO bW bm (L ++ [k]) w' := by
  rw [kpC_v]
  have S := Lib.hid s
  have hk0 : (((hd k : Nat) : Int) != 0) = true := by rw [bne_iff_ne]; unfold hd; omega
  have HB1 := Lib.hid (bal (Below.refl _ _) : Below w.heap.size w (w.alloc (.cells #[.int .u64 (hd k : Nat), .int .i64 h, .int .i64 (meas (txt G k)).b, .int .i64 (meas (txt G k)).r, .int .i64 (meas (txt G k)).n, .string ⟨#[]⟩, .slice none 0 0] 76)))
  obtain ⟨c0, -⟩ := s.s.one
  have hlt := s.s.lt
  have hm1 := s.m.alloc (.cells #[.int .u64 (hd k : Nat), .int .i64 h, .int .i64 (meas (txt G k)).b, .int .i64 (meas (txt G k)).r, .int .i64 (meas (txt G k)).n, .string ⟨#[]⟩, .slice none 0 0] 76)
  have hlk := hm1.look hk
  rw [decide_eq_false hL] at hlk
  obtain ⟨w2, hst, hm2, hg2, hs2⟩ := hm1.store (by omega) hk hL
  have hmb := s.m.lt
  have hbx : w2.heap[w.heap.size]? = some (.cells #[.int .u64 (hd k : Nat), .int .i64 h, .int .i64 (meas (txt G k)).b, .int .i64 (meas (txt G k)).r, .int .i64 (meas (txt G k)).n, .string ⟨#[]⟩, .slice none 0 0] 76 (0, 0)) :=
    (hg2.block _ (by simp) (fun e => by have := Option.some.inj e; omega)).trans (Bk.new _ _ _)
  obtain ⟨x0, x1, x2, x3, x4, x5, x6, -⟩ := (show Bk w2 w.heap.size #[.int .u64 (hd k : Nat), .int .i64 h, .int .i64 (meas (txt G k)).b, .int .i64 (meas (txt G k)).r, .int .i64 (meas (txt G k)).n, .string ⟨#[]⟩, .slice none 0 0] 76 from hbx).seven
  obtain ⟨A, c, hO, hR⟩ := s.o
  have hneO : bO ≠ bm := fun e => by
    obtain ⟨n, D, ⟨es, cl, hq, -⟩, -⟩ := s.m.1
    rw [← e, hO] at hq; cases hq
  have hO2 : Bk w2 bO #[.slice A L.length c] 43 := (hO.alloc).grown hg2 (fun e => hneO (Option.some.inj e))
  have hlO := hO2.lt
  obtain ⟨o0, of0⟩ := hO2.one
  have hR2 := hR.alloc (.cells #[.int .u64 (hd k : Nat), .int .i64 h, .int .i64 (meas (txt G k)).b, .int .i64 (meas (txt G k)).r, .int .i64 (meas (txt G k)).n, .string ⟨#[]⟩, .slice none 0 0] 76)
  have HR2 := Lib.hid (show Ow hndE w2 w0.heap.size 35 (.slice A L.length c) (L.map hd) from hR2.kept fun g hg => hg2.block g (hR2.lt g hg).2 (fun e => hR2.ne_map hm1 g hg (Option.some.inj e)))
  have hs3 : w2.heap.size = w.heap.size + 1 := by rw [hs2]; simp
  have hw0 : w0.heap.size ≤ w2.heap.size := by have := S.out.below.size; simp at hs2; omega
  clear s hR2
  go_enter Tryz.func86, Tryz.ntmps86
  go_wp2_with (at_builtin; refine Hid.out ?_)
  refine Lib.hid ?_
  refine wpOw1 _ hndOK rfl (.tmp 20) (.tmp 23) rfl w0.heap.size (by first | (simp; done) | (simp; omega)) _ (L.map hd) rfl (HR2.out.alloc _) (hd k) (w.heap.size + 1) 1 rfl (new_cells_at _ _ hs3 _ _) (by rw [List.length_map]; omega) ?_
  rw [List.length_map]
  intro A8 c8 w8 hown8 hg8
  have hOa := HR2.out.alloc (.cells #[.int .u64 (hd k : Nat)] 35)
  have hg9 : (w2.alloc (.cells #[.int .u64 (hd k : Nat)] 35)).grownBy w8 (Value.slice A L.length c).ownBlock := hg8
  have mv : ∀ (b : Nat) (cs : Array Value) (t : TypeId), Bk w2 b cs t → 35 ≠ t → Bk w8 b cs t := fun b cs t hb hne => hb.alloc.grown hg9 (fun e => (hOa.ne_bk hb.alloc hne) b e.symm rfl)
  have mv2 : ∀ (b : Nat) (cs : Array Value) (t : TypeId), Bk w b cs t → Bk w2 b cs t := fun b cs t hb => hb.alloc.grown hg2 (fun e => SetM.ne_bk S.out.m hb (Option.some.inj e))
  have hO8 := mv _ _ _ hO2 (by decide)
  obtain ⟨o8, of8⟩ := hO8.one
  have hl8 := hO8.lt
  obtain ⟨x0, x1, x2, x3, x4, x5, x6, -⟩ := (mv _ _ _ (show Bk w2 w.heap.size #[.int .u64 (hd k : Nat), .int .i64 h, .int .i64 (meas (txt G k)).b, .int .i64 (meas (txt G k)).r, .int .i64 (meas (txt G k)).n, .string ⟨#[]⟩, .slice none 0 0] 76 from hbx) (by decide)).seven
  have hwO : bO < w.heap.size := hO.lt
  have hB2 := (bal (o := .cells #[.int .u64 (hd k : Nat), .int .i64 h, .int .i64 (meas (txt G k)).b, .int .i64 (meas (txt G k)).r, .int .i64 (meas (txt G k)).n, .string ⟨#[]⟩, .slice none 0 0] 76) S.out.below).grown hg2 (by have := S.out.below.size; simp; omega) (fun q hq => by obtain rfl := Option.some.inj hq; exact S.out.gm)
  have hB8 := (bal (o := .cells #[.int .u64 (hd k : Nat)] 35) hB2).grown hg9 (by have := hB2.size; simp; omega) (fun q hq => (hOa.lt q hq).1)
  have hS8 := mv _ _ _ (mv2 _ _ _ S.out.s) (by decide)
  have hF8 := mv _ _ _ (mv2 _ _ _ S.out.f) (by decide)
  have hM8 : SetM w8 bm (L ++ [k]) := (hm2.alloc _).grown hg9 (fun e => hOa.ne_map (hm2.alloc _) bm e.symm rfl)
  have HKS := Lib.hid (show KS w0 bS bO bW bm (L ++ [k]) (w8.setCell ⟨bO, 0, none⟩ (.slice A8 (L.length + 1) c8)) from
    ⟨bset hB8 S.out.gO, hS8.other (bk_ne hS8 hO8 (by decide)), ⟨A8, c8, by rw [List.length_append]; exact hO8.set 0 _, by
      rw [List.length_append, List.map_append]
      exact hown8.kept fun g hg => Below.heap_setCell _ _ _ _ (hown8.ne_bk hO8 (by decide) g hg)⟩, hF8.other (bk_ne hF8 hO8 (by decide)), hM8.keep (Below.heap_setCell _ _ _ _ (fun e => SetM.ne_bk hM8 hO8 e.symm)), S.out.gS, S.out.gO, S.out.gW, S.out.gm⟩)
  clear hg8 hg9 hown8 mv mv2 hB2 hB8 hS8 hF8 hM8 hOa
  go_wp2_with fail
  refine wp_loop_rounds 1 ?_
  rw [rounds_succ]
  go_wp2_with fail
  refine bodyPost_end (v := .tuple #[]) (by simp [results, Tryz.results86, go_sem]) rfl ⟨rfl, HKS.out⟩

end Go.Proofs.YtclmjnobacepjaaGreat

/- plan.Kept: its closure at any plan. -/
namespace Go.Proofs.YtclmjnobacepjaaGreat
open Go.RowKit

def WalkSays (G : Ar) (w0 : World) (bS bO bW bm h : Nat) : Prop := ∀ (c : TC) (I : PI) (L : List Nat) (w : World), KS w0 bS bO bW bm L w → PV G FT w0 h c I → (∀ k ∈ L, k < G.length) →
    Calls Tryz.prog 86 #[c.v, .pointer (some ⟨bS, 0, none⟩), .pointer (some ⟨bO, 0, none⟩), .pointer (some ⟨bW, 0, none⟩)] w fun e w' => e = .returned (.tuple #[]) ∧ KS w0 bS bO bW bm (kpL L I.K) w'
def keysT (Is : List PI) : List Nat := (Is.map PI.K).flatten
theorem keysT_take {Is : List PI} {k : Nat} {J : PI} (h : Is[k]? = some J) : keysT (Is.take (k + 1)) = keysT (Is.take k) ++ J.K := by
  rw [List.take_add_one, h]
  simp [keysT]
theorem flat_walk (G : Ar) (hG : G.length ≤ 16384) (w0 : World) (bS bO bW bm : Nat) (h : Nat) (c : TC) (I : PI) (L : List Nat) (w : World) (s : KS w0 bS bO bW bm L w) (q : Kept G h c I) (hL : ∀ k ∈ L, k < G.length) :
    Calls Tryz.prog 86 #[c.v, .pointer (some ⟨bS, 0, none⟩), .pointer (some ⟨bO, 0, none⟩), .pointer (some ⟨bW, 0, none⟩)] w fun e w' => e = .returned (.tuple #[]) ∧ KS w0 bS bO bW bm (kpL L I.K) w' := by
  obtain ⟨k, x, hx, -, rfl, rfl⟩ := q
  have hk : k < G.length := (List.getElem?_eq_some_iff.1 hx).1
  have hn := nodup_le s.m.2 hL
  by_cases e : k ∈ L
  · rw [show kpL L [k] = L by simp [kpL, e]]
    exact kept_old G w0 bS bO bW bm L h k w s (by omega) e
  · rw [show kpL L [k] = L ++ [k] by simp [kpL, e]]
    exact kept_new G w0 bS bO bW bm L h k w s (by omega) e (by omega)

set_option maxHeartbeats 1000000 in
set_option maxRecDepth 100000 in
theorem walkInn (G : Ar) (w0 : World) (bS bO bW bm h : Nat) (IH : WalkSays G w0 bS bO bW bm h) (ap : Option Addr) (cap : Nat) (l : List TC) (Is : List PI) (L : List Nat) (w : World) (s : KS w0 bS bO bW bm L w) (hsl : Sl tcE w0 (.slice ap l.length cap) l) (h2 : 2 ≤ l.length) (h4 : l.length ≤ 4) (ha : All2 (KV G FT w0 h) l Is) (hL : ∀ k ∈ kpL L (keysT Is), k < G.length) (h14 : (h : Int) ≤ 14) :
    Calls Tryz.prog 86 #[(inC h ap l.length cap).v, .pointer (some ⟨bS, 0, none⟩), .pointer (some ⟨bO, 0, none⟩), .pointer (some ⟨bW, 0, none⟩)] w fun e w' => e = .returned (.tuple #[]) ∧ KS w0 bS bO bW bm (kpL L (keysT Is)) w' := by
  rw [inC_v]
  have S := Lib.hid s; have HS := Lib.hid hsl; have HA := Lib.hid ha; have HL := Lib.hid hL
  have hlen := Lib.hid ha.len
  obtain ⟨b, off, cap', hv, hb, -⟩ := hsl.tc (k := 0) (by omega)
  obtain ⟨rfl, rfl⟩ : ap = some ⟨b, off, none⟩ ∧ cap = cap' := by injection hv with e1 e2 e3; exact ⟨e1, e3⟩
  have l4i : (l.length : Int) ≤ 4 := by omega
  have cIH := IH
  unfold WalkSays TC.v at cIH
  have CI := Lib.hid cIH
  clear s hsl ha hL IH cIH hv
  go_enter Tryz.func86, Tryz.ntmps86
  go_wp2_with fail
  go_loopw [28] (fun i wr => ∃ k : Nat, k ≤ l.length ∧ i = .int .i64 k ∧ Hid (KS w0 bS bO bW bm (kpL L (keysT (Is.take k))) wr)) (fun i _ => l.length - (intOf i).toNat)
  case atStart => exact ⟨0, by omega, rfl, Lib.hid (S.out.ext (bal (Below.refl _ _)))⟩
  case round =>
    obtain ⟨k, hk, rfl, hO⟩ := hrel
    by_cases hlt : k < l.length
    · obtain ⟨b', off', cap', hv, -, hcc⟩ := HS.out.tc (k := k) hlt
      obtain ⟨rfl, rfl, rfl⟩ : b = b' ∧ off = off' ∧ cap = cap' := by injection hv with e1 e2 e3; injection e1 with e1; injection e1 with e4 e5; exact ⟨e4, e5, e3⟩
      obtain ⟨J, hJ, hP⟩ := HA.out.get (List.getElem?_eq_getElem hlt)
      obtain ⟨q0, q1, q2, q3, q4, q5, q6⟩ := hcc wr hO.out.below
      have hsub : ∀ x ∈ kpL L (keysT (Is.take k)), x < G.length := fun x hx => HL.out x (mem_kpL.2 ((mem_kpL.1 hx).imp id fun q => by
        obtain ⟨K, hK, hx⟩ := List.mem_flatten.1 q
        obtain ⟨I, hI, rfl⟩ := List.mem_map.1 hK
        exact List.mem_flatten.2 ⟨_, List.mem_map_of_mem (List.mem_of_mem_take hI), hx⟩))
      have cik := fun W (s : KS w0 bS bO bW bm (kpL L (keysT (Is.take k))) W) => CI.out l[k] J _ W s hP.1 hsub
      have CIK := Lib.hid cik
      have HJ := Lib.hid (show kpL L (keysT (Is.take (k + 1))) = kpL (kpL L (keysT (Is.take k))) J.K by rw [keysT_take hJ, kpL_app])
      have hki : (k : Int) < (l.length : Int) := by omega
      have hbw : b < wr.heap.size := by have := hO.out.below.size; omega
      obtain ⟨w0c, -⟩ := hO.out.f.one
      have hWl := hO.out.f.lt
      clear hJ hP cik hcc hv hsub
      generalize l[k] = m at *
      go_wp2_with fail
      refine (CIK.out _ (hO.out.ext (bal (Below.refl _ _)))).mono ?_
      rintro e w8 ⟨rfl, hs8⟩
      have H8 := Lib.hid hs8
      clear hs8 hO
      go_wp2_with fail
      go_roundw
      case rel => exact ⟨k + 1, by omega, by go_num, Lib.hid (by rw [HJ.out]; exact H8.out)⟩
      case measure => simp [intOf]; omega
    · obtain rfl : k = l.length := by omega
      have hO' := hO.out
      rw [List.take_of_length_le (by have := hlen.out; omega)] at hO'
      have HO := Lib.hid hO'
      clear hO hO'
      go_wp2_with fail
      refine bodyPost_end (v := .tuple #[]) (by simp [results, Tryz.results86, go_sem]) rfl ⟨rfl, HO.out⟩

theorem walk_any (G : Ar) (hG : G.length ≤ 16384) (w0 : World) (bS bO bW bm : Nat) : ∀ h, h ≤ 15 → WalkSays G w0 bS bO bW bm h := by
  intro h
  induction h with
  | zero =>
    intro _ c I L w s q hL
    rcases PV.zero'.1 q with q | ⟨e, -, -, e2, -⟩
    · exact flat_walk G hG w0 bS bO bW bm 0 c I L w s q hL
    · rw [e, e2]
      exact kept_leaf w0 bS bO bW bm L I.T w s
  | succ h ih =>
    intro hh c I L w s q hL
    rcases PV.succ.1 q with q' | ⟨A, cap, l, Is, rfl, hsl, _, h2, h4, ha, rfl⟩
    · exact flat_walk G hG w0 bS bO bW bm (h + 1) c I L w s q' hL
    · refine walkInn G w0 bS bO bW bm h (ih (by omega)) A cap l Is L w s hsl h2 h4 ha (fun k hk => ?_) (by omega)
      rcases mem_kpL.1 hk with hk | hk
      · exact hL k hk
      · obtain ⟨x, hx, -⟩ := q.keptIn k hk
        exact (List.getElem?_eq_some_iff.1 hx).1

end Go.Proofs.YtclmjnobacepjaaGreat
