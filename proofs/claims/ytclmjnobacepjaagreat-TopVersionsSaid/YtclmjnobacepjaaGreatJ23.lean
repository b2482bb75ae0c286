/- plan.Kept. -/
import Derived.Test.YtclmjnobacepjaaGreatJ22
namespace Go.Proofs.YtclmjnobacepjaaGreat
open Go.RowKit

@[go_sem] theorem run_store_func {P : Program} {w : World} {a : Addr} {m : Mode} (f : Fn) (x y : Array Value) : (store a (.func f x y) m).run P w = stored P w a (.func f x y) m := run_store P w a _ m rfl
theorem mkMap (W : World) : (Instr.makeMap 107 none).run Tryz.prog W = .ok (.map (some W.heap.size)) (W.alloc (.map #[] 0)) := by
  simp [Instr.makeMap, go_sem, Tryz.underlying107]

theorem KS.start (w : World) (X : Array Value) : KS w (w.heap.size + 1 + 1 + 1) (w.heap.size + 1) (w.heap.size + 1 + 1 + 1 + 1) (w.heap.size + 1 + 1) [] (((((w.alloc (.cells X 76)).alloc (.cells #[.slice none 0 0] 43)).alloc (.map #[] 0)).alloc (.cells #[.map (some (w.heap.size + 1 + 1))] 107)).alloc (.cells #[.func (.func 86) #[] #[.pointer (some ⟨w.heap.size + 1 + 1 + 1, 0, none⟩), .pointer (some ⟨w.heap.size + 1, 0, none⟩), .pointer (some ⟨w.heap.size + 1 + 1 + 1 + 1, 0, none⟩)]] 173)) := by
  refine ⟨bal (bal (bal (bal (bal (Below.refl _ _))))), ?_, ⟨none, 0, ?_, Ow.nil _ _ _ _⟩, ?_, ?_, by omega, by omega, by omega, by omega⟩
  · have := (Bk.new (((w.alloc (.cells X 76)).alloc (.cells #[.slice none 0 0] 43)).alloc (.map #[] 0)) #[.map (some (w.heap.size + 1 + 1))] 107).alloc (o := .cells #[.func (.func 86) #[] #[.pointer (some ⟨w.heap.size + 1 + 1 + 1, 0, none⟩), .pointer (some ⟨w.heap.size + 1, 0, none⟩), .pointer (some ⟨w.heap.size + 1 + 1 + 1 + 1, 0, none⟩)]] 173)
    simp only [World.size_alloc] at this
    exact this
  · exact (bal2' w).alloc.alloc.alloc
  · have := Bk.new ((((w.alloc (.cells X 76)).alloc (.cells #[.slice none 0 0] 43)).alloc (.map #[] 0)).alloc (.cells #[.map (some (w.heap.size + 1 + 1))] 107)) #[.func (.func 86) #[] #[.pointer (some ⟨w.heap.size + 1 + 1 + 1, 0, none⟩), .pointer (some ⟨w.heap.size + 1, 0, none⟩), .pointer (some ⟨w.heap.size + 1 + 1 + 1 + 1, 0, none⟩)]] 173
    simp only [World.size_alloc] at this
    exact this
  · have := ((SetM.made ((w.alloc (.cells X 76)).alloc (.cells #[.slice none 0 0] 43))).alloc (.cells #[.map (some (w.heap.size + 1 + 1))] 107)).alloc (.cells #[.func (.func 86) #[] #[.pointer (some ⟨w.heap.size + 1 + 1 + 1, 0, none⟩), .pointer (some ⟨w.heap.size + 1, 0, none⟩), .pointer (some ⟨w.heap.size + 1 + 1 + 1 + 1, 0, none⟩)]] 173)
    simp only [World.size_alloc] at this
    exact this

set_option maxHeartbeats 1000000 in
set_option maxRecDepth 100000 in
theorem kept_any (G : Ar) (hG : ArOK G) (hn : G.length ≤ 16384) (c : TC) (I : PI) (w : World) (q : PE G FT w c I) (hT : I.T.length ≤ 65536) :
    Calls Tryz.prog 66 #[c.v] w fun e w' => ∃ A cc, ∃ L : List Nat, e = .returned (.slice A L.length cc) ∧ Ow hndE w' w.heap.size 35 (.slice A L.length cc) (L.map hd) ∧ (∀ k, k ∈ L ↔ k ∈ I.K) ∧ L.Nodup ∧ Below w.heap.size w w' := by
  have cW : ∀ bS bO bW bm W, KS w bS bO bW bm [] W → Calls Tryz.prog 86 #[c.v, .pointer (some ⟨bS, 0, none⟩), .pointer (some ⟨bO, 0, none⟩), .pointer (some ⟨bW, 0, none⟩)] W fun e w' => e = .returned (.tuple #[]) ∧ KS w bS bO bW bm (kpL [] I.K) w' := fun bS bO bW bm W s => by
    rcases q with ⟨rfl, rfl⟩ | ⟨h, q⟩
    · exact kept_leaf w bS bO bW bm [] [] W s
    · exact walk_any G hn w bS bO bW bm h (by have := q.ht_le hG hT; omega) c I [] W s q (fun k hk => (by cases hk))
  unfold TC.v at *
  have CW := Lib.hid cW
  have hmf : ∀ (fn : Fn) (first cap : Array Value) (w : World), (Instr.makeFunc fn first cap).run Tryz.prog w = .ok (.func fn first cap) w := fun _ _ _ _ => rfl
  have hmm := mkMap
  clear cW q hT
  go_enter Tryz.func66, Tryz.ntmps66
  go_wp2_with fail
  refine (CW.out _ _ _ _ _ (KS.start w _)).mono ?_
  rintro e w8 ⟨rfl, hs⟩
  have S := Lib.hid hs
  obtain ⟨A, cc, hO, hR⟩ := hs.o
  obtain ⟨o0, -⟩ := hO.one
  have hlo := hO.lt
  have HR := Lib.hid hR
  clear hs hO hR CW
  go_wp2_with fail
  go_ret
  exact ⟨A, cc, kpL [] I.K, rfl, HR.out, fun k => by rw [mem_kpL]; simp, S.out.m.2, S.out.below⟩

end Go.Proofs.YtclmjnobacepjaaGreat

/- going through the nodes below a node, each once: what has been seen. Plain. -/
namespace Go.Proofs.YtclmjnobacepjaaGreat
open Go.RowKit

/-- x is k, or below k -/
inductive Rch (G : Ar) : Nat → Nat → Prop
  | refl (k : Nat) : Rch G k k
  | step {k j x : Nat} (h : j ∈ ksOf G k) (r : Rch G j x) : Rch G k x
/-- M is what is newly seen when all of ks are gone through and L has been seen -/
structure BV (G : Ar) (L ks M : List Nat) : Prop where
  inn : ∀ k ∈ ks, k ∈ L ++ M
  frm : ∀ x ∈ M, ∃ k ∈ ks, Rch G k x
  shut : ∀ x ∈ M, ∀ j ∈ ksOf G x, j ∈ L ++ M
theorem BV.nil (G : Ar) (L : List Nat) : BV G L [] [] := ⟨fun _ h => (by cases h), fun _ h => (by cases h), fun _ h => (by cases h)⟩
theorem BV.seen (G : Ar) {L : List Nat} {k : Nat} (h : k ∈ L) : BV G L [k] [] := ⟨fun j hj => by rw [List.mem_singleton] at hj; subst hj; simpa using h, fun _ h => (by cases h), fun _ h => (by cases h)⟩
theorem BV.comp {G : Ar} {L ks ks' M M' : List Nat} (h : BV G L ks M) (h' : BV G (L ++ M) ks' M') : BV G L (ks ++ ks') (M ++ M') := by
  refine ⟨fun k hk => ?_, fun x hx => ?_, fun x hx j hj => ?_⟩
  · rw [← List.append_assoc]
    rcases List.mem_append.1 hk with hk | hk
    · exact List.mem_append.2 (.inl (h.inn k hk))
    · exact h'.inn k hk
  · rcases List.mem_append.1 hx with hx | hx
    · obtain ⟨k, hk, r⟩ := h.frm x hx
      exact ⟨k, by simp [hk], r⟩
    · obtain ⟨k, hk, r⟩ := h'.frm x hx
      exact ⟨k, by simp [hk], r⟩
  · rw [← List.append_assoc]
    rcases List.mem_append.1 hx with hx | hx
    · exact List.mem_append.2 (.inl (h.shut x hx j hj))
    · exact h'.shut x hx j hj
theorem BV.node {G : Ar} {L M : List Nat} {k : Nat} (h : BV G (L ++ [k]) (ksOf G k) M) : BV G L [k] (k :: M) := by
  have e : ∀ x, x ∈ L ++ [k] ++ M ↔ x ∈ L ++ k :: M := fun x => by simp
  refine ⟨fun j hj => by rw [List.mem_singleton] at hj; subst hj; simp, fun x hx => ⟨k, by simp, ?_⟩, fun x hx j hj => ?_⟩
  · rcases List.mem_cons.1 hx with rfl | hx
    · exact .refl _
    · obtain ⟨j, hj, r⟩ := h.frm x hx
      exact .step hj r
  · rcases List.mem_cons.1 hx with rfl | hx
    · exact (e j).1 (h.inn j hj)
    · exact (e j).1 (h.shut x hx j hj)
/-- where all below what has been seen has been seen, all below what is gone through is then seen -/
theorem BV.all {G : Ar} {L ks M : List Nat} (h : BV G L ks M) (hL : ∀ x ∈ L, ∀ j ∈ ksOf G x, j ∈ L) : (∀ x ∈ L ++ M, ∀ j ∈ ksOf G x, j ∈ L ++ M) ∧ ∀ k ∈ ks, ∀ x, Rch G k x → x ∈ L ++ M := by
  have hs : ∀ x ∈ L ++ M, ∀ j ∈ ksOf G x, j ∈ L ++ M := fun x hx j hj => by
    rcases List.mem_append.1 hx with hx | hx
    · exact List.mem_append.2 (.inl (hL x hx j hj))
    · exact h.shut x hx j hj
  refine ⟨hs, fun k hk x r => ?_⟩
  have hk2 := h.inn k hk
  clear hk
  induction r with
  | refl => exact hk2
  | step hj _ ih => exact ih (hs _ hk2 _ hj)

end Go.Proofs.YtclmjnobacepjaaGreat

/- arena.Get: the kids that it gives are a row of their own. -/
namespace Go.Proofs.YtclmjnobacepjaaGreat
open Go.RowKit

set_option maxHeartbeats 1000000 in
set_option maxRecDepth 100000 in
theorem get_own (A : AF) (G : Ar) (i : Nat) (x : Nd) (w : World) (h : ArM w A G) (hx : G[i]? = some x) :
    Calls Tryz.prog 39 #[.pointer (some ⟨A.ba, 0, none⟩), .int .u64 (hd i : Nat)] w fun e w' => ∃ kv, e = .returned (.tuple #[ndV x kv, .int .i64 0]) ∧ NodeIn G i x kv w' ∧ Ow kdE w' w.heap.size 114 kv (x.ks.map (kdOf G)) ∧ Below w.heap.size w w' := by
  obtain ⟨kv, hl, hN⟩ := (h.ext (bal (o := .cells #[.int .i64 0, .string ⟨#[]⟩, .slice none 0 0] 84) (Below.refl w.heap.size w))).look hx
  obtain ⟨Ak, capk, hkv, -⟩ := id hN.sl
  rw [List.length_map] at hkv
  subst hkv
  have hlen : (x.ks.map (kdOf G)).length ≤ 1000 := by
    rw [List.length_map]
    rcases hN.nd with ⟨_, q, _⟩ | ⟨_, _, _, q, _⟩
    · rw [q]; simp
    · omega
  have cC := Lib.hid (fun W (_ : Below w.heap.size w W) (q2 : NodeIn G i x (.slice Ak x.ks.length capk) W) => cloneK_any (.slice Ak x.ks.length capk) (x.ks.map (kdOf G)) W q2.sl hlen (fun e => q2.nil (List.map_eq_nil_iff.1 e)))
  obtain ⟨c0, c1, c2, c3, c4, c5, -⟩ := h.ar.six
  have hba := h.ar.lt
  have HN := Lib.hid hN; have HX := Lib.hid hx
  clear hN hx hlen h
  unfold ndV at *
  go_enter Tryz.func39, Tryz.ntmps39
  go_wp2_with fail
  refine (cC.out _ (bal (bal (Below.refl _ _))) (HN.out.ext (bal (Below.refl _ _)))).mono ?_
  rintro e w2 ⟨kv', rfl, hs, hn, hb⟩
  obtain ⟨Ak', capk', hkv', -⟩ := id hs.sl
  rw [List.length_map] at hkv'
  subst hkv'
  have hB := bcall (bal (bal (Below.refl _ _))) hb
  have hk := bal2 w hb
  obtain ⟨d0, d1, d2, g0, g1, g2⟩ := hk.three
  obtain ⟨e0, e1, e2, g3, g4, g5⟩ := (((Bk.new w #[.int .i64 0, .string ⟨#[]⟩, .slice none 0 0] 84).alloc).ext hb (by simp; omega)).three
  have hlt := hk.lt
  have HNN := Lib.hid ((HN.out.ext (bal (o := .cells #[.int .i64 x.ht, .string ⟨(ownT x).toArray⟩, .slice Ak x.ks.length capk] 84) (Below.refl _ _))).ext hb)
  have HS := Lib.hid hs; have HNL := Lib.hid hn; have HB := Lib.hid hB
  clear hs hn hB hb hk cC
  go_wp2_with fail
  refine bodyPost_ret (v := .tuple #[.agg #[.int .i64 x.ht, .string ⟨(ownT x).toArray⟩, .slice Ak' x.ks.length capk'], .int .i64 0]) (by simp [results, Tryz.results39, go_sem, d0, d1, d2, e0, e1, e2]) rfl ⟨_, rfl, ?_, ?_, ?_⟩
  · have hq1 : w.heap.size + 1 < ((w.alloc (.cells #[.int .i64 0, .string ⟨#[]⟩, .slice none 0 0] 84)).alloc (.cells #[.int .i64 x.ht, .string ⟨(ownT x).toArray⟩, .slice Ak x.ks.length capk] 84)).heap.size := by simp
    have hq2 : w.heap.size < ((w.alloc (.cells #[.int .i64 0, .string ⟨#[]⟩, .slice none 0 0] 84)).alloc (.cells #[.int .i64 x.ht, .string ⟨(ownT x).toArray⟩, .slice Ak x.ks.length capk] 84)).heap.size := by simp; omega
    exact ⟨HNN.out.ar, HNN.out.nd, HNN.out.hi, ((((HS.out.set hq1 _).set hq2 _).set hq2 _).set hq2 _).sl, fun q => HNL.out (by rw [q]; rfl), HNN.out.hT⟩
  · have hq1 : w.heap.size + 1 < ((w.alloc (.cells #[.int .i64 0, .string ⟨#[]⟩, .slice none 0 0] 84)).alloc (.cells #[.int .i64 x.ht, .string ⟨(ownT x).toArray⟩, .slice Ak x.ks.length capk] 84)).heap.size := by simp
    have hq2 : w.heap.size < ((w.alloc (.cells #[.int .i64 0, .string ⟨#[]⟩, .slice none 0 0] 84)).alloc (.cells #[.int .i64 x.ht, .string ⟨(ownT x).toArray⟩, .slice Ak x.ks.length capk] 84)).heap.size := by simp; omega
    exact ((((HS.out.set hq1 _).set hq2 _).set hq2 _).set hq2 _).base (by simp; omega)
  · refine bset (bset (bset (bset HB.out ?_) ?_) ?_) ?_ <;> simp

end Go.Proofs.YtclmjnobacepjaaGreat

/- plan.below: all nodes below a node, each once, for the two closures of plan.Dropped. -/
namespace Go.Proofs.YtclmjnobacepjaaGreat
open Go.RowKit

/-- no row of kids changes, and no node -/
def KeepK (w w' : World) : Prop := w.heap.size ≤ w'.heap.size ∧ ∀ b cur t, (t = 114 ∨ t = 84) → Bk w b cur t → Bk w' b cur t
theorem KeepK.refl (w : World) : KeepK w w := ⟨Nat.le_refl _, fun _ _ _ _ h => h⟩
theorem KeepK.trans {a b c : World} (h : KeepK a b) (h' : KeepK b c) : KeepK a c := ⟨Nat.le_trans h.1 h'.1, fun n cur t ht q => h'.2 n cur t ht (h.2 n cur t ht q)⟩
theorem KeepK.of_below {w w' : World} (h : Below w.heap.size w w') : KeepK w w' := ⟨h.size, fun _ _ _ _ hb => hb.ext h hb.lt⟩
theorem KeepK.grown {w w' : World} {bm : Nat} {L : List Nat} (hg : w.grownBy w' (some bm)) (m : SetM w bm L) (hs : w'.heap.size = w.heap.size) : KeepK w w' :=
  ⟨by omega, fun _ _ _ _ hb => hb.grown hg (fun e => m.ne_bk hb (Option.some.inj e))⟩
theorem Ow.keepK {w w' : World} {B : Nat} {v : Value} {l : List Kd} (h : Ow kdE w B 114 v l) (hk : KeepK w w') : Ow kdE w' B 114 v l := by
  refine h.kept fun g hg => ?_
  rcases h.2 with ⟨rfl, _⟩ | ⟨g', cap, cur, rfl, _, hg', _⟩
  · cases hg
  · have e2 : g' = g := Option.some.inj hg
    subst e2
    exact (hk.2 g' cur _ (.inl rfl) hg').trans hg'.symm

/-- what a walk keeps: P holds of what has been seen, what has been visited, and the world -/
structure VisOK (w0 : World) (bm : Nat) (P : List Nat → List Nat → World → Prop) : Prop where
  ext : ∀ {L V : List Nat} {W W' : World}, Below W.heap.size W W' → P L V W → P L V W'
  below : ∀ {L V : List Nat} {W : World}, P L V W → Below w0.heap.size w0 W
  set : ∀ {L V : List Nat} {W : World}, P L V W → SetM W bm L
  put : ∀ {L V : List Nat} {W W' : World} {k : Nat}, P L V W → W.grownBy W' (some bm) → W'.heap.size = W.heap.size → SetM W' bm (L ++ [k]) → P (L ++ [k]) V W'

def VisH (G : Ar) (P : List Nat → List Nat → World → Prop) : Prop := ∀ (L V : List Nat) (k : Nat) (W : World), P L V W → k < G.length → V.length < L.length → L.length ≤ 1000 →
    Calls Tryz.prog 68 #[.int .u64 (hd k : Nat)] W fun e W' => e = .returned (.tuple #[]) ∧ P L (V ++ [k]) W' ∧ KeepK W W'
def BelowH (A : AF) (G : Ar) (bm : Nat) (P : List Nat → List Nat → World → Prop) (n : Nat) : Prop := ∀ (k : Nat), k < n → k < G.length → ∀ (L V : List Nat) (W : World), P L V W → V.length ≤ L.length → (∀ x ∈ L, x < G.length) →
    Calls Tryz.prog 67 #[.pointer (some ⟨A.ba, 0, none⟩), .int .u64 (hd k : Nat), .map (some bm), .func (.func 68) #[] #[]] W fun e W' => ∃ M, e = .returned (.int .i64 0) ∧ BV G L [k] M ∧ P (L ++ M) (V ++ M) W' ∧ KeepK W W' ∧ ∀ x ∈ M, x < G.length

set_option maxHeartbeats 1000000 in
set_option maxRecDepth 100000 in
theorem belowH_seen (w0 : World) (A : AF) (G : Ar) (bm : Nat) (P : List Nat → List Nat → World → Prop) (hP : VisOK w0 bm P) (h0 : ArM w0 A G) (k : Nat) (hk : k < G.length) (L V : List Nat) (w : World) (p : P L V w) (hL : k ∈ L) :
    Calls Tryz.prog 67 #[.pointer (some ⟨A.ba, 0, none⟩), .int .u64 (hd k : Nat), .map (some bm), .func (.func 68) #[] #[]] w fun e w' => ∃ M, e = .returned (.int .i64 0) ∧ BV G L [k] M ∧ P (L ++ M) (V ++ M) w' ∧ KeepK w w' ∧ ∀ x ∈ M, x < G.length := by
  have hle := h0.le
  have hlk := (hP.set p).look (k := k) (by omega)
  rw [decide_eq_true hL] at hlk
  have HP := Lib.hid p
  have HB := Lib.hid (BV.seen G hL)
  clear p hP h0 hL
  go_enter Tryz.func67, Tryz.ntmps67
  go_wp2_with fail
  go_ret
  exact ⟨[], rfl, HB.out, by simpa using HP.out, KeepK.refl _, fun _ h => (by cases h)⟩

set_option maxHeartbeats 1000000 in
set_option maxRecDepth 100000 in
theorem belowH_new (w0 : World) (A : AF) (G : Ar) (bm : Nat) (P : List Nat → List Nat → World → Prop) (hP : VisOK w0 bm P) (hv : VisH G  P) (h0 : ArM w0 A G) (k : Nat) (x : Nd) (hx : G[k]? = some x) (IH : BelowH A G bm  P k) (L V : List Nat) (w : World) (p : P L V w) (hVL : V.length ≤ L.length) (hLG : ∀ x ∈ L, x < G.length) (hL : k ∉ L) :
    Calls Tryz.prog 67 #[.pointer (some ⟨A.ba, 0, none⟩), .int .u64 (hd k : Nat), .map (some bm), .func (.func 68) #[] #[]] w fun e w' => ∃ M, e = .returned (.int .i64 0) ∧ BV G L [k] M ∧ P (L ++ M) (V ++ M) w' ∧ KeepK w w' ∧ ∀ x ∈ M, x < G.length := by
  have hle := h0.le
  have hk : k < G.length := (List.getElem?_eq_some_iff.1 hx).1
  have hset := hP.set p
  have hlk := hset.look (k := k) (by omega)
  rw [decide_eq_false hL] at hlk
  have hLk : L.length ≤ G.length := nodup_le hset.2 hLG
  have hlen1 : (L ++ [k]).length ≤ 1000 := by
    have := nodup_le (L := L ++ [k]) (n := G.length) (by
      rw [List.nodup_append]
      refine ⟨hset.2, by simp, fun a ha c hc e => ?_⟩
      obtain rfl : c = k := by simpa using hc
      exact hL (e ▸ ha)) (fun y hy => by
      rcases List.mem_append.1 hy with q | q
      · exact hLG y q
      · obtain rfl : y = k := by simpa using q
        exact hk)
    omega
  obtain ⟨w2, hst, hm2, hg2, hs2⟩ := hset.store (by omega) (k := k) (by omega) hL
  have hp2 := hP.put p hg2 hs2 hm2
  have cG := get_own A G k x w2 (h0.ext (hP.below hp2)) hx
  have HV := Lib.hid (fun W (q : P (L ++ [k]) V W) => hv (L ++ [k]) V k W q hk (by simp; omega) hlen1)
  have HX := Lib.hid (fun W W' (hb : Below W.heap.size W W') (q : P (L ++ [k]) V W) => hP.ext hb q)
  have HE := Lib.hid hP
  have HP2 := Lib.hid hp2
  have HK2 := Lib.hid (KeepK.grown hg2 hset hs2)
  have hok := h0.ok k x hx
  have hks : ∀ j ∈ x.ks, j < k := fun j hj => by
    rcases hok with ⟨_, q, _⟩ | ⟨_, _, _, _, q, _⟩
    · rw [q] at hj; cases hj
    · exact (q j hj).1
  have hkl : x.ks.length ≤ 4 := by
    rcases hok with ⟨_, q, _⟩ | ⟨_, _, _, q, _⟩
    · rw [q]; simp
    · omega
  have HKS := Lib.hid hks
  have hkl4 : (x.ks.length : Int) ≤ 4 := by omega
  have HLG := Lib.hid hLG
  have hIH : ∀ j ∈ x.ks, ∀ (M : List Nat) (W : World), P (L ++ [k] ++ M) (V ++ [k] ++ M) W → (∀ y ∈ M, y < G.length) → Calls Tryz.prog 67 #[.pointer (some ⟨A.ba, 0, none⟩), .int .u64 (hd j : Nat), .map (some bm), .func (.func 68) #[] #[]] W fun e W' => ∃ M', e = .returned (.int .i64 0) ∧ BV G (L ++ [k] ++ M) [j] M' ∧ P (L ++ [k] ++ M ++ M') (V ++ [k] ++ M ++ M') W' ∧ KeepK W W' ∧ ∀ x ∈ M', x < G.length := fun j hj M W q hM =>
    IH j (hks j hj) (by have := hks j hj; omega) _ _ W q (by simp; omega) (fun y hy => by
      rcases List.mem_append.1 hy with hy | hy
      · rcases List.mem_append.1 hy with hy | hy
        · exact hLG y hy
        · obtain rfl : y = k := by simpa using hy
          exact hk
      · exact hM y hy)
  have CI := Lib.hid hIH
  have hksO : ksOf G k = x.ks := by unfold ksOf; rw [hx]
  have HKO := Lib.hid hksO
  have CG := Lib.hid cG
  unfold ndV at CG
  clear hIH hLG hks hok hp2 hg2 hm2 hset hv hP IH p hL hx cG hLk hksO h0
  go_enter Tryz.func67, Tryz.ntmps67
  go_wp2_with fail
  refine (CG.out).mono ?_
  rintro e w3 ⟨kv, rfl, hN, hO, hb⟩
  have hp3 := HX.out _ _ hb HP2.out
  obtain ⟨Ak, capk, hkv, -⟩ := id hO.sl
  rw [List.length_map] at hkv
  subst hkv
  have HK3 := Lib.hid (HK2.out.trans (KeepK.of_below hb))
  have HO := Lib.hid hO; have HP3 := Lib.hid hp3
  obtain ⟨d0, d1, d2, -⟩ := (Bk.new w3 #[.int .i64 x.ht, .string ⟨(ownT x).toArray⟩, .slice Ak x.ks.length capk] 84).three
  clear hN hO hb hp3 CG HK2 HP2
  go_wp2_with fail
  refine (HV.out _ (HX.out _ _ (bal (Below.refl _ _)) HP3.out)).mono ?_
  rintro e w5 ⟨rfl, hp5, hk5⟩
  have hb4 : Below w3.heap.size w3 (w3.alloc (.cells #[.int .i64 x.ht, .string ⟨(ownT x).toArray⟩, .slice Ak x.ks.length capk] 84)) := bal (Below.refl _ _)
  obtain ⟨e0, e1, e2, -⟩ := (show Bk w5 w3.heap.size #[.int .i64 x.ht, .string ⟨(ownT x).toArray⟩, .slice Ak x.ks.length capk] 84 from hk5.2 _ _ _ (.inr rfl) (Bk.new _ _ _)).three
  have HK5 := Lib.hid ((HK3.out.trans (KeepK.of_below hb4)).trans hk5)
  have HO5 := Lib.hid ((HO.out.ext hb4 (Nat.le_refl _)).keepK hk5)
  have HP5 := Lib.hid hp5
  have hk5s := hk5.1
  clear hp5 hk5 HP3 HO HK3 HV
  have hlk5 : w3.heap.size < w5.heap.size := by have := hk5s; simp at this; omega
  go_wp2_with fail
  go_loopw [34] (fun i wr => ∃ j : Nat, j ≤ x.ks.length ∧ i = .int .i64 j ∧ ∃ M, Hid (BV G (L ++ [k]) (x.ks.take j) M) ∧ Hid (P (L ++ [k] ++ M) (V ++ [k] ++ M) wr) ∧ Hid (KeepK w5 wr) ∧ Hid (∀ y ∈ M, y < G.length)) (fun i _ => x.ks.length - (intOf i).toNat)
  case atStart => exact ⟨0, by omega, rfl, [], Lib.hid (BV.nil G _), Lib.hid (by rw [List.append_nil, List.append_nil]; exact HP5.out), Lib.hid (KeepK.refl _), Lib.hid (fun _ h => (by cases h))⟩
  case round =>
    obtain ⟨j, hj, rfl, M, HBM, HPM, HKM, HMG⟩ := hrel
    by_cases hlt : j < x.ks.length
    · have hOr := HO5.out.keepK HKM.out
      obtain ⟨b', off', cap', hv, hbl, hcc⟩ := hOr.sl.kd (k := j) (by simpa using hlt)
      rw [List.length_map] at hv
      obtain ⟨rfl, rfl⟩ : Ak = some ⟨b', off', none⟩ ∧ capk = cap' := by injection hv with e1 e2 e3; exact ⟨e1, e3⟩
      obtain ⟨q0, q1, q2, q3⟩ := hcc wr (Below.refl _ _)
      have hjl : x.ks[j] ∈ x.ks := List.getElem_mem hlt
      have htk : x.ks.take (j + 1) = x.ks.take j ++ [x.ks[j]] := by rw [List.take_add_one, List.getElem?_eq_getElem hlt]; rfl
      have CK := Lib.hid (fun W q => CI.out x.ks[j] hjl M W q HMG.out)
      have HTK := Lib.hid htk
      have hkd : (x.ks.map (kdOf G))[j]'(by simpa using hlt) = kdOf G x.ks[j] := by simp
      rw [hkd] at q0 q1 q2 q3
      generalize x.ks[j] = m at *
      have hji : (j : Int) < (x.ks.length : Int) := by omega
      have HE2 := Lib.hid (fun W W' (hb : Below W.heap.size W W') (q : P (L ++ [k] ++ M) (V ++ [k] ++ M) W) => HE.out.ext hb q)
      clear hOr hcc hv htk hkd hjl
      go_wp2_with fail
      refine (CK.out _ (HE2.out _ _ (bal (Below.refl _ _)) HPM.out)).mono ?_
      rintro e w8 ⟨M', rfl, hb8, hp8, hk8, hg8⟩
      have H8 := Lib.hid hp8
      have HB8 := Lib.hid (HBM.out.comp hb8)
      have HK8 := Lib.hid ((HKM.out.trans (KeepK.of_below (bal (Below.refl _ _)))).trans hk8)
      have HG8 := Lib.hid hg8
      clear hb8 hp8 hk8 hg8 CK HPM HBM HKM HE2
      go_wp2_with fail
      go_roundw
      case rel => exact ⟨j + 1, by omega, by go_num, M ++ M', Lib.hid (by rw [HTK.out]; exact HB8.out), Lib.hid (by rw [← List.append_assoc, ← List.append_assoc]; exact H8.out), HK8, Lib.hid (fun y hy => (List.mem_append.1 hy).elim (HMG.out y) (HG8.out y))⟩
      case measure => simp [intOf]; omega
    · obtain rfl : j = x.ks.length := by omega
      have hB := HBM.out
      rw [List.take_length, ← HKO.out] at hB
      have HBN := Lib.hid hB.node
      have HK9 := Lib.hid (HK5.out.trans HKM.out)
      clear hB HBM HKM HK5 HKO
      go_wp2_with fail
      go_ret
      exact ⟨k :: M, rfl, HBN.out, by simpa using HPM.out, HK9.out, fun y hy => (List.mem_cons.1 hy).elim (fun e => by rw [e]; exact hk) (HMG.out y)⟩

theorem belowH_any (w0 : World) (A : AF) (G : Ar) (bm : Nat) (P : List Nat → List Nat → World → Prop) (hP : VisOK w0 bm P) (hv : VisH G  P) (h0 : ArM w0 A G) : ∀ n, BelowH A G bm  P n := by
  intro n
  induction n with
  | zero => exact fun k h => absurd h (by omega)
  | succ n ih =>
    intro k hk hkG L V W p hVL hLG
    by_cases e : k < n
    · exact ih k e hkG L V W p hVL hLG
    · obtain rfl : k = n := by omega
      by_cases hL : k ∈ L
      · exact belowH_seen w0 A G bm  P hP h0 k hkG L V W p hL
      · exact belowH_new w0 A G bm  P hP hv h0 k G[k] (List.getElem?_eq_getElem hkG) ih L V W p hVL hLG hL

def VisO (G : Ar) (bH bO : Nat) (P : List Nat → List Nat → World → Prop) : Prop := ∀ (L V : List Nat) (k : Nat) (W : World), P L V W → k < G.length → V.length < L.length → L.length ≤ 1000 →
    Calls Tryz.prog 69 #[.int .u64 (hd k : Nat), .pointer (some ⟨bH, 0, none⟩), .pointer (some ⟨bO, 0, none⟩)] W fun e W' => e = .returned (.tuple #[]) ∧ P L (V ++ [k]) W' ∧ KeepK W W'
def BelowO (A : AF) (G : Ar) (bm : Nat) (bH bO : Nat) (P : List Nat → List Nat → World → Prop) (n : Nat) : Prop := ∀ (k : Nat), k < n → k < G.length → ∀ (L V : List Nat) (W : World), P L V W → V.length ≤ L.length → (∀ x ∈ L, x < G.length) →
    Calls Tryz.prog 67 #[.pointer (some ⟨A.ba, 0, none⟩), .int .u64 (hd k : Nat), .map (some bm), .func (.func 69) #[] #[.pointer (some ⟨bH, 0, none⟩), .pointer (some ⟨bO, 0, none⟩)]] W fun e W' => ∃ M, e = .returned (.int .i64 0) ∧ BV G L [k] M ∧ P (L ++ M) (V ++ M) W' ∧ KeepK W W' ∧ ∀ x ∈ M, x < G.length

set_option maxHeartbeats 1000000 in
set_option maxRecDepth 100000 in
theorem belowO_seen (w0 : World) (A : AF) (G : Ar) (bm : Nat) (bH bO : Nat) (P : List Nat → List Nat → World → Prop) (hP : VisOK w0 bm P) (h0 : ArM w0 A G) (k : Nat) (hk : k < G.length) (L V : List Nat) (w : World) (p : P L V w) (hL : k ∈ L) :
    Calls Tryz.prog 67 #[.pointer (some ⟨A.ba, 0, none⟩), .int .u64 (hd k : Nat), .map (some bm), .func (.func 69) #[] #[.pointer (some ⟨bH, 0, none⟩), .pointer (some ⟨bO, 0, none⟩)]] w fun e w' => ∃ M, e = .returned (.int .i64 0) ∧ BV G L [k] M ∧ P (L ++ M) (V ++ M) w' ∧ KeepK w w' ∧ ∀ x ∈ M, x < G.length := by
  have hle := h0.le
  have hlk := (hP.set p).look (k := k) (by omega)
  rw [decide_eq_true hL] at hlk
  have HP := Lib.hid p
  have HB := Lib.hid (BV.seen G hL)
  clear p hP h0 hL
  go_enter Tryz.func67, Tryz.ntmps67
  go_wp2_with fail
  go_ret
  exact ⟨[], rfl, HB.out, by simpa using HP.out, KeepK.refl _, fun _ h => (by cases h)⟩

set_option maxHeartbeats 1000000 in
set_option maxRecDepth 100000 in
theorem belowO_new (w0 : World) (A : AF) (G : Ar) (bm : Nat) (bH bO : Nat) (P : List Nat → List Nat → World → Prop) (hP : VisOK w0 bm P) (hv : VisO G bH bO P) (h0 : ArM w0 A G) (k : Nat) (x : Nd) (hx : G[k]? = some x) (IH : BelowO A G bm bH bO P k) (L V : List Nat) (w : World) (p : P L V w) (hVL : V.length ≤ L.length) (hLG : ∀ x ∈ L, x < G.length) (hL : k ∉ L) :
    Calls Tryz.prog 67 #[.pointer (some ⟨A.ba, 0, none⟩), .int .u64 (hd k : Nat), .map (some bm), .func (.func 69) #[] #[.pointer (some ⟨bH, 0, none⟩), .pointer (some ⟨bO, 0, none⟩)]] w fun e w' => ∃ M, e = .returned (.int .i64 0) ∧ BV G L [k] M ∧ P (L ++ M) (V ++ M) w' ∧ KeepK w w' ∧ ∀ x ∈ M, x < G.length := by
  have hle := h0.le
  have hk : k < G.length := (List.getElem?_eq_some_iff.1 hx).1
  have hset := hP.set p
  have hlk := hset.look (k := k) (by omega)
  rw [decide_eq_false hL] at hlk
  have hLk : L.length ≤ G.length := nodup_le hset.2 hLG
  have hlen1 : (L ++ [k]).length ≤ 1000 := by
    have := nodup_le (L := L ++ [k]) (n := G.length) (by
      rw [List.nodup_append]
      refine ⟨hset.2, by simp, fun a ha c hc e => ?_⟩
      obtain rfl : c = k := by simpa using hc
      exact hL (e ▸ ha)) (fun y hy => by
      rcases List.mem_append.1 hy with q | q
      · exact hLG y q
      · obtain rfl : y = k := by simpa using q
        exact hk)
    omega
  obtain ⟨w2, hst, hm2, hg2, hs2⟩ := hset.store (by omega) (k := k) (by omega) hL
  have hp2 := hP.put p hg2 hs2 hm2
  have cG := get_own A G k x w2 (h0.ext (hP.below hp2)) hx
  have HV := Lib.hid (fun W (q : P (L ++ [k]) V W) => hv (L ++ [k]) V k W q hk (by simp; omega) hlen1)
  have HX := Lib.hid (fun W W' (hb : Below W.heap.size W W') (q : P (L ++ [k]) V W) => hP.ext hb q)
  have HE := Lib.hid hP
  have HP2 := Lib.hid hp2
  have HK2 := Lib.hid (KeepK.grown hg2 hset hs2)
  have hok := h0.ok k x hx
  have hks : ∀ j ∈ x.ks, j < k := fun j hj => by
    rcases hok with ⟨_, q, _⟩ | ⟨_, _, _, _, q, _⟩
    · rw [q] at hj; cases hj
    · exact (q j hj).1
  have hkl : x.ks.length ≤ 4 := by
    rcases hok with ⟨_, q, _⟩ | ⟨_, _, _, q, _⟩
    · rw [q]; simp
    · omega
  have HKS := Lib.hid hks
  have hkl4 : (x.ks.length : Int) ≤ 4 := by omega
  have HLG := Lib.hid hLG
  have hIH : ∀ j ∈ x.ks, ∀ (M : List Nat) (W : World), P (L ++ [k] ++ M) (V ++ [k] ++ M) W → (∀ y ∈ M, y < G.length) → Calls Tryz.prog 67 #[.pointer (some ⟨A.ba, 0, none⟩), .int .u64 (hd j : Nat), .map (some bm), .func (.func 69) #[] #[.pointer (some ⟨bH, 0, none⟩), .pointer (some ⟨bO, 0, none⟩)]] W fun e W' => ∃ M', e = .returned (.int .i64 0) ∧ BV G (L ++ [k] ++ M) [j] M' ∧ P (L ++ [k] ++ M ++ M') (V ++ [k] ++ M ++ M') W' ∧ KeepK W W' ∧ ∀ x ∈ M', x < G.length := fun j hj M W q hM =>
    IH j (hks j hj) (by have := hks j hj; omega) _ _ W q (by simp; omega) (fun y hy => by
      rcases List.mem_append.1 hy with hy | hy
      · rcases List.mem_append.1 hy with hy | hy
        · exact hLG y hy
        · obtain rfl : y = k := by simpa using hy
          exact hk
      · exact hM y hy)
  have CI := Lib.hid hIH
  have hksO : ksOf G k = x.ks := by unfold ksOf; rw [hx]
  have HKO := Lib.hid hksO
  have CG := Lib.hid cG
  unfold ndV at CG
  clear hIH hLG hks hok hp2 hg2 hm2 hset hv hP IH p hL hx cG hLk hksO h0
  go_enter Tryz.func67, Tryz.ntmps67
  go_wp2_with fail
  refine (CG.out).mono ?_
  rintro e w3 ⟨kv, rfl, hN, hO, hb⟩
  have hp3 := HX.out _ _ hb HP2.out
  obtain ⟨Ak, capk, hkv, -⟩ := id hO.sl
  rw [List.length_map] at hkv
  subst hkv
  have HK3 := Lib.hid (HK2.out.trans (KeepK.of_below hb))
  have HO := Lib.hid hO; have HP3 := Lib.hid hp3
  obtain ⟨d0, d1, d2, -⟩ := (Bk.new w3 #[.int .i64 x.ht, .string ⟨(ownT x).toArray⟩, .slice Ak x.ks.length capk] 84).three
  clear hN hO hb hp3 CG HK2 HP2
  go_wp2_with fail
  refine (HV.out _ (HX.out _ _ (bal (Below.refl _ _)) HP3.out)).mono ?_
  rintro e w5 ⟨rfl, hp5, hk5⟩
  have hb4 : Below w3.heap.size w3 (w3.alloc (.cells #[.int .i64 x.ht, .string ⟨(ownT x).toArray⟩, .slice Ak x.ks.length capk] 84)) := bal (Below.refl _ _)
  obtain ⟨e0, e1, e2, -⟩ := (show Bk w5 w3.heap.size #[.int .i64 x.ht, .string ⟨(ownT x).toArray⟩, .slice Ak x.ks.length capk] 84 from hk5.2 _ _ _ (.inr rfl) (Bk.new _ _ _)).three
  have HK5 := Lib.hid ((HK3.out.trans (KeepK.of_below hb4)).trans hk5)
  have HO5 := Lib.hid ((HO.out.ext hb4 (Nat.le_refl _)).keepK hk5)
  have HP5 := Lib.hid hp5
  have hk5s := hk5.1
  clear hp5 hk5 HP3 HO HK3 HV
  have hlk5 : w3.heap.size < w5.heap.size := by have := hk5s; simp at this; omega
  go_wp2_with fail
  go_loopw [34] (fun i wr => ∃ j : Nat, j ≤ x.ks.length ∧ i = .int .i64 j ∧ ∃ M, Hid (BV G (L ++ [k]) (x.ks.take j) M) ∧ Hid (P (L ++ [k] ++ M) (V ++ [k] ++ M) wr) ∧ Hid (KeepK w5 wr) ∧ Hid (∀ y ∈ M, y < G.length)) (fun i _ => x.ks.length - (intOf i).toNat)
  case atStart => exact ⟨0, by omega, rfl, [], Lib.hid (BV.nil G _), Lib.hid (by rw [List.append_nil, List.append_nil]; exact HP5.out), Lib.hid (KeepK.refl _), Lib.hid (fun _ h => (by cases h))⟩
  case round =>
    obtain ⟨j, hj, rfl, M, HBM, HPM, HKM, HMG⟩ := hrel
    by_cases hlt : j < x.ks.length
    · have hOr := HO5.out.keepK HKM.out
      obtain ⟨b', off', cap', hv, hbl, hcc⟩ := hOr.sl.kd (k := j) (by simpa using hlt)
      rw [List.length_map] at hv
      obtain ⟨rfl, rfl⟩ : Ak = some ⟨b', off', none⟩ ∧ capk = cap' := by injection hv with e1 e2 e3; exact ⟨e1, e3⟩
      obtain ⟨q0, q1, q2, q3⟩ := hcc wr (Below.refl _ _)
      have hjl : x.ks[j] ∈ x.ks := List.getElem_mem hlt
      have htk : x.ks.take (j + 1) = x.ks.take j ++ [x.ks[j]] := by rw [List.take_add_one, List.getElem?_eq_getElem hlt]; rfl
      have CK := Lib.hid (fun W q => CI.out x.ks[j] hjl M W q HMG.out)
      have HTK := Lib.hid htk
      have hkd : (x.ks.map (kdOf G))[j]'(by simpa using hlt) = kdOf G x.ks[j] := by simp
      rw [hkd] at q0 q1 q2 q3
      generalize x.ks[j] = m at *
      have hji : (j : Int) < (x.ks.length : Int) := by omega
      have HE2 := Lib.hid (fun W W' (hb : Below W.heap.size W W') (q : P (L ++ [k] ++ M) (V ++ [k] ++ M) W) => HE.out.ext hb q)
      clear hOr hcc hv htk hkd hjl
      go_wp2_with fail
      refine (CK.out _ (HE2.out _ _ (bal (Below.refl _ _)) HPM.out)).mono ?_
      rintro e w8 ⟨M', rfl, hb8, hp8, hk8, hg8⟩
      have H8 := Lib.hid hp8
      have HB8 := Lib.hid (HBM.out.comp hb8)
      have HK8 := Lib.hid ((HKM.out.trans (KeepK.of_below (bal (Below.refl _ _)))).trans hk8)
      have HG8 := Lib.hid hg8
      clear hb8 hp8 hk8 hg8 CK HPM HBM HKM HE2
      go_wp2_with fail
      go_roundw
      case rel => exact ⟨j + 1, by omega, by go_num, M ++ M', Lib.hid (by rw [HTK.out]; exact HB8.out), Lib.hid (by rw [← List.append_assoc, ← List.append_assoc]; exact H8.out), HK8, Lib.hid (fun y hy => (List.mem_append.1 hy).elim (HMG.out y) (HG8.out y))⟩
      case measure => simp [intOf]; omega
    · obtain rfl : j = x.ks.length := by omega
      have hB := HBM.out
      rw [List.take_length, ← HKO.out] at hB
      have HBN := Lib.hid hB.node
      have HK9 := Lib.hid (HK5.out.trans HKM.out)
      clear hB HBM HKM HK5 HKO
      go_wp2_with fail
      go_ret
      exact ⟨k :: M, rfl, HBN.out, by simpa using HPM.out, HK9.out, fun y hy => (List.mem_cons.1 hy).elim (fun e => by rw [e]; exact hk) (HMG.out y)⟩

theorem belowO_any (w0 : World) (A : AF) (G : Ar) (bm : Nat) (bH bO : Nat) (P : List Nat → List Nat → World → Prop) (hP : VisOK w0 bm P) (hv : VisO G bH bO P) (h0 : ArM w0 A G) : ∀ n, BelowO A G bm bH bO P n := by
  intro n
  induction n with
  | zero => exact fun k h => absurd h (by omega)
  | succ n ih =>
    intro k hk hkG L V W p hVL hLG
    by_cases e : k < n
    · exact ih k e hkG L V W p hVL hLG
    · obtain rfl : k = n := by omega
      by_cases hL : k ∈ L
      · exact belowO_seen w0 A G bm bH bO P hP h0 k hkG L V W p hL
      · exact belowO_new w0 A G bm bH bO P hP hv h0 k G[k] (List.getElem?_eq_getElem hkG) ih L V W p hVL hLG hL

end Go.Proofs.YtclmjnobacepjaaGreat
