/- rope.nodes: its walk hands over the nodes of a rope in preorder. -/
import Derived.Test.YtclmjnobacepjaaGreatJ34
namespace Go.Proofs.YtclmjnobacepjaaGreat
open Go.RowKit Go.Shelf
attribute [local go_sem] Oper.semAt_some

/-- the nodes below node k in preorder, each as often as it occurs -/
def preL (G : Ar) : Nat → Nat → List Nat
  | 0, _ => []
  | f + 1, k => k :: (ksOf G k).flatMap (preL G f)
/-- what is handed over with node k: its height, its text, the kids' slice -/
def encN (G : Ar) (k : Nat) (v : Option Addr × Nat × Nat) : Array Value := #[.int .u64 (hd k : Nat), .agg #[.int .i64 (htOf G k), .string ⟨(if htOf G k = 0 then txt G k else []).toArray⟩, .slice v.1 v.2.1 v.2.2, .int .i64 0]]
theorem encN_of {G : Ar} {k : Nat} {x : Nd} (h : G[k]? = some x) (v : Option Addr × Nat × Nat) : encN G k v = #[.int .u64 (hd k : Nat), .agg #[.int .i64 x.ht, .string ⟨(ownT x).toArray⟩, .slice v.1 v.2.1 v.2.2, .int .i64 0]] := by
  unfold encN ownT
  rw [htOf_of h, txt_of h]
/-- the boxes of the walk -/
structure WkB (b1 b3 b4 l : Nat) (A : AF) (W : World) : Prop where
  a : Bk W b1 #[.pointer (some ⟨A.ba, 0, none⟩)] 24
  y : Bk W b3 #[.func (.yield l) #[] #[]] 109
  k : Bk W b4 #[.func (.func 38) #[] #[.pointer (some ⟨b1, 0, none⟩), .pointer (some ⟨b3, 0, none⟩), .pointer (some ⟨b4, 0, none⟩)]] 110
theorem WkB.keep {b1 b3 b4 l : Nat} {A : AF} {W W' : World} (s : WkB b1 b3 b4 l A W) (h : KpT W W') : WkB b1 b3 b4 l A W' :=
  ⟨h.2 _ _ _ (by unfold KT; decide) s.a, h.2 _ _ _ (by unfold KT; decide) s.y, h.2 _ _ _ (by unfold KT; decide) s.k⟩

def WalkIt (w0 : World) (A : AF) (G : Ar) (b1 b3 b4 l : Nat) (xs : List Nat) (J : Nat → World → Prop) (Jx : World → Prop) (f : Nat) : Prop :=
  ∀ (m k p : Nat) (W : World), k < f → k < G.length → (∃ t, xs.drop p = preL G f k ++ t) → J p W → WkB b1 b3 b4 l A W →
    CallsIn Fence.wide m Tryz.prog 38 #[.int .u64 (hd k : Nat), .pointer (some ⟨b1, 0, none⟩), .pointer (some ⟨b3, 0, none⟩), .pointer (some ⟨b4, 0, none⟩)] W fun e B => (e = .returned (.bool true) ∧ J (p + (preL G f k).length) B ∧ KpT W B) ∨ (e = .returned (.bool false) ∧ Jx B)

set_option maxRecDepth 100000 in
set_option maxHeartbeats 4000000 in
theorem walk_step (w0 : World) (A : AF) (G : Ar) (hA : ArM w0 A G) (b1 b3 b4 l : Nat) (xs : List Nat) (J : Nat → World → Prop) (Jx : World → Prop)
    (hJ : ∀ k A B, J k A → Below A.heap.size A B → J k B) (hJx : ∀ A B, Jx A → Below A.heap.size A B → Jx B) (hJb : ∀ k A, J k A → Below w0.heap.size w0 A)
    (hY : ∀ (m k x : Nat) (v : Option Addr × Nat × Nat) (A : World), xs[k]? = some x → J k A → YieldAt Fence.wide m Tryz.prog l (encN G x v) A fun e B => (e = .returned (.bool true) ∧ J (k + 1) B ∧ KpT A B) ∨ (e = .returned (.bool false) ∧ Jx B))
    (f : Nat) (IH : WalkIt w0 A G b1 b3 b4 l xs J Jx f) : WalkIt w0 A G b1 b3 b4 l xs J Jx (f + 1) := by
  intro m k p W hk hkG ⟨t, ht⟩ h0 hB
  obtain ⟨x, hx⟩ : ∃ x, G[k]? = some x := ⟨_, List.getElem?_eq_getElem hkG⟩
  have hle := hA.le
  have hks : ∀ j ∈ x.ks, j < k := fun j hj => by
    rcases hA.ok k x hx with ⟨_, q, _⟩ | ⟨_, _, _, _, q, _⟩
    · rw [q] at hj; cases hj
    · exact (q j hj).1
  have hkl : x.ks.length ≤ 4 := by
    rcases hA.ok k x hx with ⟨_, q, _⟩ | ⟨_, _, _, q, _⟩
    · rw [q]; simp
    · omega
  have hpre : preL G (f + 1) k = k :: x.ks.flatMap (preL G f) := by
    show k :: (ksOf G k).flatMap (preL G f) = _
    rw [show ksOf G k = x.ks by unfold ksOf; rw [hx]]
  rw [hpre] at ht ⊢
  have hxp : xs[p]? = some k := by
    have := congrArg (fun l => l[0]?) ht
    simpa using this
  have cG := fun W (q : Below w0.heap.size w0 W) => get_own A G k x W (hA.ext q) hx
  have CG := Lib.hid cG
  obtain ⟨a0, -⟩ := hB.a.one
  have hla := hB.a.lt
  have HB := Lib.hid hB; have H0 := Lib.hid h0; have HJ := Lib.hid hJ; have HJx := Lib.hid hJx; have HJb := Lib.hid hJb; have HY := Lib.hid hY; have IHH := Lib.hid IH
  have HX := Lib.hid hx; have HKS := Lib.hid hks; have HXP := Lib.hid hxp; have HT := Lib.hid ht
  have hkl4 : (x.ks.length : Int) ≤ 4 := by omega
  unfold ndV at CG
  clear hB h0 hJ hJx hJb hY IH hx hks hxp ht cG hpre
  refine callsIn_of_wp Tryz.func38 rfl trivial ?_ rfl
  simp only [Tryz.ntmps38, List.size_toArray, List.length_cons, List.length_nil, Nat.reduceAdd, Nat.reduceSub, Array.replicate_succ, Array.replicate_zero, List.push_toArray, List.append_toArray, List.nil_append, List.cons_append]
  gi_wp2_with fail
  refine ⟨trivial, fun h => by simp [Fence.wide] at h, (callsIn_wide.2 (CG.out W (HJb.out _ _ H0.out))).mono ?_⟩
  rintro e w1 ⟨kv, rfl, hN, hO, hb⟩
  obtain ⟨Ak, capk, hkv, -⟩ := id hO.sl
  rw [List.length_map] at hkv
  subst hkv
  have hb1 : Below W.heap.size W (w1.alloc (.cells #[.int .i64 x.ht, .string ⟨(ownT x).toArray⟩, .slice Ak x.ks.length capk] 84)) := bal hb
  have hJ1 := HJ.out _ _ _ H0.out hb1
  obtain ⟨fn, tmps, assign, body, hy, hR⟩ := HY.out 5 p k (Ak, x.ks.length, capk) _ HXP.out hJ1
  rw [encN_of HX.out] at hy
  dsimp only at hy
  have HRd := Lib.hid hR
  have HO := Lib.hid (hO.alloc (.cells #[.int .i64 x.ht, .string ⟨(ownT x).toArray⟩, .slice Ak x.ks.length capk] 84))
  have HN1 := Lib.hid (Bk.new w1 #[.int .i64 x.ht, .string ⟨(ownT x).toArray⟩, .slice Ak x.ks.length capk] 84)
  have hB1 := HB.out.keep (KpT.of_below hb1)
  obtain ⟨y0, -⟩ := hB1.y.one
  have hly := hB1.y.lt
  have HB1 := Lib.hid hB1; have HK1 := Lib.hid (KpT.of_below hb1)
  have y0' : w1.cell? ⟨b3, 0, none⟩ = some (.func (.yield l) #[] #[]) := (HB.out.y.ext hb HB.out.y.lt).one.1
  have hly' : b3 < w1.heap.size := (HB.out.y.ext hb HB.out.y.lt).lt
  clear hN hO hb hJ1 hR hB1 CG hb1 H0
  gi_wp2_with fail
  refine ⟨fun h => by simp [Fence.wide] at h, (RoundIn.anyD rfl HRd.out).mono ?_⟩
  rintro e B (⟨rfl, hJ', hk'⟩ | ⟨rfl, hJx'⟩)
  · have hn := hk'.2 _ _ _ (by unfold KT; decide) HN1.out
    obtain ⟨n0, n1, n2, -⟩ := hn.three
    have hln := hn.lt
    have HO2 := Lib.hid (HO.out.keepP hk'); have HB2 := Lib.hid (HB1.out.keep hk'); have HK2 := Lib.hid (HK1.out.trans hk'); have HJ2 := Lib.hid hJ'
    clear hk' hJ' hn HO HB1 HK1 HN1 hy HRd y0 y0' hly hly'
    gi_wp2_with fail
    gi_loopw [30] (fun i wr => ∃ j : Nat, j ≤ x.ks.length ∧ i = .int .i64 j ∧ Hid (J (p + 1 + ((x.ks.take j).flatMap (preL G f)).length) wr) ∧ Hid (KpT B wr)) (fun i _ => x.ks.length - (intOf i).toNat)
    case atStart => exact ⟨0, by omega, rfl, HJ2, Lib.hid (KpT.refl _)⟩
    case round =>
      obtain ⟨j, hj, rfl, HJr, HKr⟩ := hrel
      by_cases hlt : j < x.ks.length
      · have hOr := HO2.out.keepP HKr.out
        obtain ⟨b', off', cap', hv, hbl, hcc⟩ := hOr.sl.kd (k := j) (by simpa using hlt)
        rw [List.length_map] at hv
        obtain ⟨rfl, rfl⟩ : Ak = some ⟨b', off', none⟩ ∧ capk = cap' := by injection hv with e1 e2 e3; exact ⟨e1, e3⟩
        obtain ⟨q0, q1, q2, q3⟩ := hcc wr (Below.refl _ _)
        have hjl : x.ks[j] ∈ x.ks := List.getElem_mem hlt
        have htk : x.ks.take (j + 1) = x.ks.take j ++ [x.ks[j]] := by rw [List.take_add_one, List.getElem?_eq_getElem hlt]; rfl
        have hkd : (x.ks.map (kdOf G))[j]'(by simpa using hlt) = kdOf G x.ks[j] := by simp
        rw [hkd] at q0 q1 q2 q3
        have hjk := HKS.out _ hjl
        have hdr : ∃ t', xs.drop (p + 1 + ((x.ks.take j).flatMap (preL G f)).length) = preL G f x.ks[j] ++ t' := by
          refine ⟨((x.ks.drop (j + 1)).flatMap (preL G f)) ++ t, ?_⟩
          have e1 : x.ks = x.ks.take j ++ x.ks[j] :: x.ks.drop (j + 1) := by rw [← List.drop_eq_getElem_cons hlt, List.take_append_drop]
          have e2 := HT.out
          rw [show x.ks.flatMap (preL G f) = (x.ks.take j).flatMap (preL G f) ++ (preL G f x.ks[j] ++ (x.ks.drop (j + 1)).flatMap (preL G f)) by
            conv => lhs; rw [e1]
            rw [List.flatMap_append, List.flatMap_cons]] at e2
          rw [Nat.add_assoc, ← List.drop_drop, e2, Nat.add_comm 1, List.cons_append, List.drop_succ_cons, List.append_assoc, List.drop_append_of_le_length (Nat.le_refl _), List.drop_length, List.nil_append, List.append_assoc]
        have CK := Lib.hid (fun m W q => IHH.out m x.ks[j] (p + 1 + ((x.ks.take j).flatMap (preL G f)).length) W (by omega) (by omega) hdr q)
        have HTK := Lib.hid (show ((x.ks.take (j + 1)).flatMap (preL G f)).length = ((x.ks.take j).flatMap (preL G f)).length + (preL G f x.ks[j]).length by rw [htk, List.flatMap_append, List.length_append]; simp)
        have hji : (j : Int) < (x.ks.length : Int) := by omega
        clear hOr hcc hv htk hkd hjl hdr
        generalize x.ks[j] = kk at *
        generalize ((x.ks.take j).flatMap (preL G f)).length = la at *
        have hbr : Below wr.heap.size wr (wr.alloc (.cells #[.int .u64 (hd kk : Nat), .int .i64 (meas (txt G kk)).b, .int .i64 (meas (txt G kk)).r, .int .i64 (meas (txt G kk)).n] 114)) := bal (Below.refl _ _)
        have HJr2 := Lib.hid (HJ.out _ _ _ HJr.out hbr)
        have hBr := HB2.out.keep HKr.out
        obtain ⟨k0, -⟩ := hBr.k.one
        have hlk := hBr.k.lt
        have HBr := Lib.hid (hBr.keep (KpT.of_below hbr)); have HKr2 := Lib.hid (HKr.out.trans (KpT.of_below hbr))
        clear hbr hBr HJr HKr
        gi_wp2_with fail
        refine ⟨trivial, fun h => by simp [Fence.wide] at h, (CK.out _ _ HJr2.out HBr.out).mono ?_⟩
        rintro e B3 (⟨rfl, hJ3, hk3⟩ | ⟨rfl, hJx3⟩)
        · have HJ3 := Lib.hid hJ3; have HK3 := Lib.hid (HKr2.out.trans hk3)
          clear hJ3 hk3 CK
          gi_wp2_with fail
          go_roundw
          case rel => exact ⟨j + 1, by omega, by go_num, Lib.hid (by rw [HTK.out, ← Nat.add_assoc]; exact HJ3.out), HK3⟩
          case measure => simp [intOf]; omega
        · have HX3 := Lib.hid hJx3
          clear hJx3 CK
          gi_wp2_with fail
          go_ret
          exact .inr ⟨rfl, HX3.out⟩
      · obtain rfl : j = x.ks.length := by omega
        have hJ9 := HJr.out
        rw [List.take_length] at hJ9
        have HJ9 := Lib.hid hJ9; have HK9 := Lib.hid (HK2.out.trans HKr.out)
        clear hJ9 HJr HKr
        gi_wp2_with fail
        go_ret
        refine .inl ⟨rfl, ?_, HK9.out⟩
        have e := HJ9.out
        rw [Nat.add_assoc, Nat.add_comm 1] at e
        exact e
  · have HX3 := Lib.hid hJx'
    clear hJx' hy HRd
    gi_wp2_with fail
    go_ret
    exact .inr ⟨rfl, HX3.out⟩
theorem walk_it (w0 : World) (A : AF) (G : Ar) (hA : ArM w0 A G) (b1 b3 b4 l : Nat) (xs : List Nat) (J : Nat → World → Prop) (Jx : World → Prop)
    (hJ : ∀ k A B, J k A → Below A.heap.size A B → J k B) (hJx : ∀ A B, Jx A → Below A.heap.size A B → Jx B) (hJb : ∀ k A, J k A → Below w0.heap.size w0 A)
    (hY : ∀ (m k x : Nat) (v : Option Addr × Nat × Nat) (A : World), xs[k]? = some x → J k A → YieldAt Fence.wide m Tryz.prog l (encN G x v) A fun e B => (e = .returned (.bool true) ∧ J (k + 1) B ∧ KpT A B) ∨ (e = .returned (.bool false) ∧ Jx B)) :
    ∀ f, WalkIt w0 A G b1 b3 b4 l xs J Jx f := by
  intro f
  induction f with
  | zero => exact fun m k p W hk => absurd hk (by omega)
  | succ f ih => exact walk_step w0 A G hA b1 b3 b4 l xs J Jx hJ hJx hJb hY f ih

/-- the nodes of a rope in preorder -/
def rpL (G : Ar) (r : Rt) : List Nat := if r.at_ = 0 then [] else preL G (r.at_ - 65536 + 1) (r.at_ - 65536)

set_option maxRecDepth 100000 in
set_option maxHeartbeats 4000000 in
theorem nodes1_it (A : AF) (G : Ar) (r : Rt) (w0 : World) (hA : ArM w0 A G) (hr : r.at_ = 0 ∨ ∃ k, r.at_ = hd k ∧ k < G.length) (b1 b2 : Nat) (w : World) (hb : Below w0.heap.size w0 w) (k1 : Bk w b1 #[.pointer (some ⟨A.ba, 0, none⟩)] 24) (k2 : Bk w b2 #[.int .u64 r.at_, .int .i64 r.ht, .int .i64 r.b, .int .i64 r.r, .int .i64 r.n] 39) :
    CIter Tryz.prog 37 #[.pointer (some ⟨b1, 0, none⟩), .pointer (some ⟨b2, 0, none⟩)] (encN G) w0 (rpL G r) w := by
  intro n l J Jx W hW hJ hJx hJb hY h0
  have CW := Lib.hid (fun b3 b4 => walk_it w0 A G hA b1 b3 b4 l (rpL G r) J Jx hJ hJx hJb (fun m k x v A' h1 h2 => YieldAt.anyD rfl m (hY k x v A' h1 h2)))
  have q1 := k1.ext hW k1.lt
  have q2 := k2.ext hW k2.lt
  obtain ⟨c0, -⟩ := q2.five
  have hl2 := q2.lt
  have Q1 := Lib.hid q1
  have HJ := Lib.hid hJ; have H0 := Lib.hid h0
  have hmf : ∀ (fn : Fn) (first cap : Array Value) (w : World), (Instr.makeFunc fn first cap).run Tryz.prog w = .ok (.func fn first cap) w := fun _ _ _ _ => rfl
  have hbb : Below W.heap.size W ((W.alloc (.cells #[.func (.yield l) #[] #[]] 109)).alloc (.cells #[.func (.func 38) #[] #[.pointer (some ⟨b1, 0, none⟩), .pointer (some ⟨W.heap.size, 0, none⟩), .pointer (some ⟨W.heap.size + 1, 0, none⟩)]] 110)) := bal (bal (Below.refl _ _))
  have hwk : WkB b1 W.heap.size (W.heap.size + 1) l A ((W.alloc (.cells #[.func (.yield l) #[] #[]] 109)).alloc (.cells #[.func (.func 38) #[] #[.pointer (some ⟨b1, 0, none⟩), .pointer (some ⟨W.heap.size, 0, none⟩), .pointer (some ⟨W.heap.size + 1, 0, none⟩)]] 110)) := ⟨q1.alloc.alloc, (Bk.new _ _ _).alloc, bal2' W⟩
  have HBB := Lib.hid hbb; have HWK := Lib.hid hwk
  clear hA hW hJ hJx hJb hY h0 q1 q2 k1 k2 hb hbb hwk
  rcases hr with e0 | ⟨k, e0, hkG⟩
  · have hrl : rpL G r = [] := by unfold rpL; rw [if_pos e0]
    rw [hrl]
    rw [e0] at c0
    refine callsIn_of_wp Tryz.func37 rfl trivial ?_ rfl
    simp only [Tryz.ntmps37, List.size_toArray, List.length_cons, List.length_nil, Nat.reduceAdd, Nat.reduceSub, Array.replicate_succ, Array.replicate_zero, List.push_toArray, List.append_toArray, List.nil_append, List.cons_append]
    gi_wp2_with fail
    refine bodyPost_end (v := .tuple #[]) (by simp [results, Tryz.results37, go_sem]) rfl ?_
    exact ⟨⟨_, rfl⟩, .inl (HJ.out _ _ _ H0.out HBB.out)⟩
  · have hrl : rpL G r = preL G (k + 1) k := by
      unfold rpL
      rw [if_neg (by rw [e0]; unfold hd; omega), e0, show hd k - 65536 = k by unfold hd; omega]
    rw [hrl] at CW ⊢
    rw [e0] at c0
    have hk0 : (((hd k : Nat) : Int) != 0) = true := by rw [bne_iff_ne]; unfold hd; omega
    have CK := Lib.hid (fun m => CW.out W.heap.size (W.heap.size + 1) (k + 1) m k 0 _ (Nat.lt_succ_self k) hkG ⟨[], by simp⟩ (HJ.out _ _ _ H0.out HBB.out) HWK.out)
    clear CW HWK HBB
    refine callsIn_of_wp Tryz.func37 rfl trivial ?_ rfl
    simp only [Tryz.ntmps37, List.size_toArray, List.length_cons, List.length_nil, Nat.reduceAdd, Nat.reduceSub, Array.replicate_succ, Array.replicate_zero, List.push_toArray, List.append_toArray, List.nil_append, List.cons_append]
    gi_wp2_with fail
    refine ⟨trivial, fun h => by simp [Fence.wide] at h, (CK.out _).mono ?_⟩
    rintro e B (⟨rfl, hJ9, -⟩ | ⟨rfl, hX9⟩)
    · have HJ9 := Lib.hid hJ9
      clear hJ9 CK
      gi_wp2_with fail
      refine bodyPost_end (v := .tuple #[]) (by simp [results, Tryz.results37, go_sem]) rfl ?_
      exact ⟨⟨_, rfl⟩, .inl (by have := HJ9.out; rw [Nat.zero_add] at this; exact this)⟩
    · have HX9 := Lib.hid hX9
      clear hX9 CK
      gi_wp2_with fail
      refine bodyPost_end (v := .tuple #[]) (by simp [results, Tryz.results37, go_sem]) rfl ?_
      exact ⟨⟨_, rfl⟩, .inr HX9.out⟩

set_option maxRecDepth 100000 in
set_option maxHeartbeats 1000000 in
theorem nodes_any (A : AF) (r : Rt) (w : World) :
    Calls Tryz.prog 23 #[.pointer (some ⟨A.ba, 0, none⟩), r.v] w fun e w' => e = .returned (.func (.func 37) #[] #[.pointer (some ⟨w.heap.size, 0, none⟩), .pointer (some ⟨w.heap.size + 1, 0, none⟩)]) ∧ w' = (w.alloc (.cells #[.pointer (some ⟨A.ba, 0, none⟩)] 24)).alloc (.cells #[.int .u64 r.at_, .int .i64 r.ht, .int .i64 r.b, .int .i64 r.r, .int .i64 r.n] 39) := by
  unfold Rt.v
  have hmf : ∀ (fn : Fn) (first cap : Array Value) (w : World), (Instr.makeFunc fn first cap).run Tryz.prog w = .ok (.func fn first cap) w := fun _ _ _ _ => rfl
  go_enter Tryz.func23, Tryz.ntmps23
  go_wp2_with fail
  go_ret
  exact ⟨rfl, rfl⟩

end Go.Proofs.YtclmjnobacepjaaGreat

/- rope.Check. -/
namespace Go.Proofs.YtclmjnobacepjaaGreat
open Go.RowKit Go.Shelf
attribute [local go_sem] Oper.semAt_some

theorem wpIn_scopeW {n : Nat} {P : Program} {c : Code} {Q : Exit → Act → World → Prop} {a : Act} {w : World} (h : c.wpIn Fence.wide n P (Exit.noGoto Q) a w) : (Code.scope c).wpIn Fence.wide n P Q a w := wpIn_wide.2 (wp_scope_straight (wpIn_wide.1 h))
theorem wpIn_labelW {n : Nat} {P : Program} {l : Nat} {Q : Exit → Act → World → Prop} {a : Act} {w : World} (h : Q .normal a w) : (Code.label l).wpIn Fence.wide n P Q a w := wpIn_wide.2 (wp_label h)
theorem below_fr {m l : Nat} {w A B : World} (hm : m ≤ w.heap.size) (h : Below m w A) (f : FrT (fun j => j = l) A B) (hl : m ≤ l) : Below m w B :=
  ⟨f.os.trans h.os, f.tape.trans h.tape, f.output.trans h.output, Nat.le_trans h.size f.size, fun k hk => (f.block k (by have := h.size; omega) (by omega)).trans (h.block k hk)⟩
theorem Bk.fr {l b : Nat} {A B : World} {cs : Array Value} {t : TypeId} {r : Loop} (h : Bk A b cs t) (hl : A.heap[l]? = some (.loop r)) (f : FrT (fun j => j = l) A B) : Bk B b cs t :=
  (f.block b h.lt (fun e => by subst e; unfold Bk at h; rw [hl] at h; cases h)).trans h
theorem below_putObj {m : Nat} (A : World) (l : Nat) (o : Obj) (h : m ≤ l) (hl : m ≤ A.heap.size) : Below m A (A.putObj l o) :=
  (Below.refl m A).grown (grownBy_putObj' A l o) hl (fun k e => by cases e; exact h)
theorem RV.ok {G : Ar} {r : Rt} {T : List UInt8} (h : RV G r T) : r.at_ = 0 ∨ ∃ k, r.at_ = hd k ∧ k < G.length := by
  rcases h with ⟨rfl, rfl⟩ | ⟨k, x, hx, rfl, rfl⟩
  · exact .inl rfl
  · exact .inr ⟨k, rfl, (List.getElem?_eq_some_iff.1 hx).1⟩

set_option maxRecDepth 100000 in
set_option maxHeartbeats 4000000 in
theorem rcheck_any (A : AF) (G : Ar) (r : Rt) (T : List UInt8) (w : World) (hA : ArM w A G) (hr : RV G r T) :
    Calls Tryz.prog 8 #[.pointer (some ⟨A.ba, 0, none⟩), r.v] w fun e w' => e = .returned (.int .i64 0) ∧ Below w.heap.size w w' := by
  have cK := fun W (p : Below w.heap.size w W) => keep_rv A G r T W (hA.ext p) hr
  have cN := fun W => nodes_any A r W
  have hit := fun b1 b2 W (p : Below w.heap.size w W) => nodes1_it A G r w hA hr.ok b1 b2 W p
  generalize rpL G r = xs at *
  obtain ⟨ro, rh, rb, rr, rn⟩ := r
  unfold Rt.v TC.v at *
  have CK := Lib.hid cK; have CN := Lib.hid cN; have HIT := Lib.hid hit
  clear cK cN hit hA hr
  refine (callsIn_wide (n := 9)).1 ?_
  refine callsIn_of_wp_marks Tryz.func8 rfl trivial ?_ rfl
  simp only [Tryz.ntmps8, List.size_toArray, List.length_cons, List.length_nil, Nat.reduceAdd, Nat.reduceSub, Array.replicate_succ, Array.replicate_zero, List.push_toArray, List.append_toArray, List.nil_append, List.cons_append]
  gi_wp2_with fail
  refine wpIn_scopeW ?_
  gi_wp2_with fail
  refine ⟨trivial, (callsIn_wide.2 (CK.out _ (bal (Below.refl _ _)))).mono ?_⟩
  rintro e w1 ⟨c1, I1, rfl, -, -, -, hb1⟩
  have hB1 := bcall (bal (Below.refl _ _)) hb1
  have hk1 := (Bk.new w #[.int .u64 ro, .int .i64 rh, .int .i64 rb, .int .i64 rr, .int .i64 rn] 39).ext hb1 (by simp)
  obtain ⟨r0, r1, r2, r3, r4, -⟩ := hk1.five
  have hlr := hk1.lt
  have HB1 := Lib.hid hB1
  clear hb1 hk1 hB1 CK
  gi_wp2_with fail
  refine wpIn_labelW ?_
  gi_wp2_with fail
  refine ⟨trivial, (callsIn_wide.2 (CN.out _)).mono ?_⟩
  rintro e w2 ⟨rfl, rfl⟩
  have hB2 : Below w.heap.size w ((((w1.alloc (.cells #[.int .u64 c1.old, .int .i64 c1.ht, .int .i64 c1.b, .int .i64 c1.r, .int .i64 c1.n, .string ⟨c1.t.toArray⟩, .slice c1.kp c1.kl c1.kc] 76)).alloc (.cells #[.int .i64 0] 25)).alloc (.cells #[.pointer (some ⟨A.ba, 0, none⟩)] 24)).alloc (.cells #[.int .u64 ro, .int .i64 rh, .int .i64 rb, .int .i64 rr, .int .i64 rn] 39)) := bal (bal (bal (bal HB1.out)))
  have hE : Bk ((((w1.alloc (.cells #[.int .u64 c1.old, .int .i64 c1.ht, .int .i64 c1.b, .int .i64 c1.r, .int .i64 c1.n, .string ⟨c1.t.toArray⟩, .slice c1.kp c1.kl c1.kc] 76)).alloc (.cells #[.int .i64 0] 25)).alloc (.cells #[.pointer (some ⟨A.ba, 0, none⟩)] 24)).alloc (.cells #[.int .u64 ro, .int .i64 rh, .int .i64 rb, .int .i64 rr, .int .i64 rn] 39)) (w1.heap.size + 1) #[.int .i64 0] 25 := (bal2' w1).alloc.alloc
  have hP : Bk ((((w1.alloc (.cells #[.int .u64 c1.old, .int .i64 c1.ht, .int .i64 c1.b, .int .i64 c1.r, .int .i64 c1.n, .string ⟨c1.t.toArray⟩, .slice c1.kp c1.kl c1.kc] 76)).alloc (.cells #[.int .i64 0] 25)).alloc (.cells #[.pointer (some ⟨A.ba, 0, none⟩)] 24)).alloc (.cells #[.int .u64 ro, .int .i64 rh, .int .i64 rb, .int .i64 rr, .int .i64 rn] 39)) ((w1.alloc (.cells #[.int .u64 c1.old, .int .i64 c1.ht, .int .i64 c1.b, .int .i64 c1.r, .int .i64 c1.n, .string ⟨c1.t.toArray⟩, .slice c1.kp c1.kl c1.kc] 76)).alloc (.cells #[.int .i64 0] 25)).heap.size #[.pointer (some ⟨A.ba, 0, none⟩)] 24 := (Bk.new _ _ _).alloc
  have hR := bal2' ((w1.alloc (.cells #[.int .u64 c1.old, .int .i64 c1.ht, .int .i64 c1.b, .int .i64 c1.r, .int .i64 c1.n, .string ⟨c1.t.toArray⟩, .slice c1.kp c1.kl c1.kc] 76)).alloc (.cells #[.int .i64 0] 25)) (o := .cells #[.pointer (some ⟨A.ba, 0, none⟩)] 24) (cs := #[.int .u64 ro, .int .i64 rh, .int .i64 rb, .int .i64 rr, .int .i64 rn]) (t := 39)
  have hit := HIT.out _ _ _ hB2 hP hR
  simp only [World.size_alloc] at hit
  have hB2sz := hB2.size
  have HIT2 := Lib.hid hit; have HB2 := Lib.hid hB2; have HE2 := Lib.hid hE
  clear hit hB2 hE hP hR HIT
  gi_wp2_with fail
  have hww : w.heap.size ≤ w1.heap.size := HB1.out.size
  generalize ((((w1.alloc (.cells #[.int .u64 c1.old, .int .i64 c1.ht, .int .i64 c1.b, .int .i64 c1.r, .int .i64 c1.n, .string ⟨c1.t.toArray⟩, .slice c1.kp c1.kl c1.kc] 76)).alloc (.cells #[.int .i64 0] 25)).alloc (.cells #[.pointer (some ⟨A.ba, 0, none⟩)] 24)).alloc (.cells #[.int .u64 ro, .int .i64 rh, .int .i64 rb, .int .i64 rr, .int .i64 rn] 39)) = W0 at *
  refine wpIn_rangeC (w0 := w) (xs := xs) (gf := 37) (encs := encN G) rfl (enters_of Tryz.func37 (by kernel_rfl) rfl) HIT2.out (fun _ _ => rfl)
    (fun _ W => Below w.heap.size w W ∧ Bk W (w1.heap.size + 1) #[.int .i64 0] 25) (fun _ _ => False) ?hI ?hIx ?hIr ?hIxr ?hIb ?h0 ?round ?done ?stop
  case hI => exact fun k C D hc hb => ⟨bcall hc.1 hb, hc.2.ext hb hc.2.lt⟩
  case hIx => exact fun c C D hc _ => hc
  case hIr => exact fun k C D r hc hl hf hs => ⟨below_fr (Nat.le_refl _) hc.1 hf (by omega), hc.2.fr hl hf⟩
  case hIxr => exact fun c C D r hc _ _ _ => hc
  case hIb => exact fun k C hc => hc.1
  case h0 => exact ⟨HB2.out, HE2.out⟩
  case round =>
    intro l k x v W hx hi hz
    unfold encN
    generalize (if htOf G x = 0 then txt G x else []) = tx
    generalize htOf G x = hx'
    obtain ⟨va, vn, vc⟩ := v
    dsimp only
    have HI := Lib.hid hi
    clear hi hx
    gi_wp2_with fail
    refine ⟨bal (Below.refl _ _), ?_⟩
    intro W2 r hf hs2 hl2 hd2 hi2
    have hk : Bk W2 W.heap.size #[.int .i64 hx', .string ⟨tx.toArray⟩, .slice va vn vc, .int .i64 0] 86 := (hf.block W.heap.size (by simp) (by omega)).trans (Bk.new _ _ _)
    obtain ⟨k0, k1, k2, k3, -⟩ := hk.four
    have hlk := hk.lt
    have HI2 := Lib.hid hi2
    clear hf hs2 hl2 hd2 hi2 hk HI
    gi_wp2_with fail
    exact ⟨⟨KpT.refl _, rfl, rfl⟩, HI2.out⟩
  case done =>
    intro D W hD hi hK
    have HI := Lib.hid hi
    obtain ⟨e0, -⟩ := hi.2.one
    have hle := hi.2.lt
    clear hi
    gi_wp2_with fail
    rw [Exit.noGoto_ret]
    refine ⟨by simp, .inl ⟨_, _, rfl, run_takeDeferred hK, ?_⟩⟩
    exact ⟨_, results_tmp rfl _ _ _, rfl, HI.out.1.trans (below_putObj _ _ _ (by omega) HI.out.1.size)⟩
  case stop => exact fun D c W _ h _ => h.elim
end Go.Proofs.YtclmjnobacepjaaGreat
