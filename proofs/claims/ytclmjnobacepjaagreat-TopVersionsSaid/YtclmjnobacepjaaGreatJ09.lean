/- plan.kind at the four kinds of plans. -/
import Derived.Test.YtclmjnobacepjaaGreatJ08
namespace Go.Proofs.YtclmjnobacepjaaGreat
open Go.RowKit

set_option maxHeartbeats 400000 in
set_option maxRecDepth 100000 in
theorem kindK (old h b r n : Nat) (ho : 0 < old) (hb : 0 < b) (w : World) : Calls Tryz.prog 81 #[.agg #[.int .u64 old, .int .i64 h, .int .i64 b, .int .i64 r, .int .i64 n, .string ⟨([] : List UInt8).toArray⟩, .slice none 0 0]] w fun e w' => e = .returned (.int .i64 2) ∧ Below w.heap.size w w' := by
  have he : ∀ w, (binOp .eql 37 (.agg #[.int .i64 b, .int .i64 r, .int .i64 n]) (.agg #[.int .i64 0, .int .i64 0, .int .i64 0])).run Tryz.prog w = .ok (.bool false) w := fun w => by
    rw [eqMs_eql, decide_eq_false (by omega : ¬ (b : Int) = 0)]; rfl
  have h1 : ((old : Int) != 0) = true := by rw [bne_iff_ne]; omega
  clear ho hb
  go_enter Tryz.func81, Tryz.ntmps81
  go_wp2
  go_ret
  exact ⟨rfl, bal (Below.refl _ _)⟩

set_option maxHeartbeats 400000 in
set_option maxRecDepth 100000 in
theorem kindL (T : List UInt8) (h1 : 1 ≤ T.length) (h2 : T.length ≤ 16) (w : World) : Calls Tryz.prog 81 #[.agg #[.int .u64 0, .int .i64 0, .int .i64 0, .int .i64 0, .int .i64 0, .string ⟨T.toArray⟩, .slice none 0 0]] w fun e w' => e = .returned (.int .i64 3) ∧ Below w.heap.size w w' := by
  have he : ∀ w, (binOp .eql 37 (.agg #[.int .i64 0, .int .i64 0, .int .i64 0]) (.agg #[.int .i64 0, .int .i64 0, .int .i64 0])).run Tryz.prog w = .ok (.bool true) w := fun w => by rw [eqMs_eql]; rfl
  have hn : (T.toArray.toList == ([] : List UInt8)) = false := by cases T with | nil => simp at h1 | cons => rfl
  have hn2 : T ≠ [] := by intro q; subst q; simp at h1
  have hb0 : T.isEmpty = false := by cases T with | nil => simp at h1 | cons => rfl
  have d2 : (T.length : Int) ≤ 16 := by omega
  clear h1 h2 hn2
  go_enter Tryz.func81, Tryz.ntmps81
  go_wp2
  go_ret
  exact ⟨rfl, bal (Below.refl _ _)⟩

set_option maxHeartbeats 400000 in
set_option maxRecDepth 100000 in
theorem kindI (h l c : Nat) (A : Option Addr) (hh : h ≤ 14) (h2 : 2 ≤ l) (h4 : l ≤ 4) (w : World) : Calls Tryz.prog 81 #[.agg #[.int .u64 0, .int .i64 ((h : Int) + 1), .int .i64 0, .int .i64 0, .int .i64 0, .string ⟨([] : List UInt8).toArray⟩, .slice A l c]] w fun e w' => e = .returned (.int .i64 4) ∧ Below w.heap.size w w' := by
  have he : ∀ w, (binOp .eql 37 (.agg #[.int .i64 0, .int .i64 0, .int .i64 0]) (.agg #[.int .i64 0, .int .i64 0, .int .i64 0])).run Tryz.prog w = .ok (.bool true) w := fun w => by rw [eqMs_eql]; rfl
  have d1 : ((h : Int) + 1 == 0) = false := by rw [beq_eq_false_iff_ne]; omega
  have d2 : ((l : Int) == 0) = false := by rw [beq_eq_false_iff_ne]; omega
  have d3 : (h : Int) ≤ 14 := by omega
  have d4 : (2 : Int) ≤ l := by omega
  have d5 : (l : Int) ≤ 4 := by omega
  clear hh h2 h4
  go_enter Tryz.func81, Tryz.ntmps81
  go_wp2
  go_ret
  exact ⟨rfl, bal (Below.refl _ _)⟩

set_option maxHeartbeats 400000 in
set_option maxRecDepth 100000 in
theorem kindE  (w : World) : Calls Tryz.prog 81 #[.agg #[.int .u64 0, .int .i64 0, .int .i64 0, .int .i64 0, .int .i64 0, .string ⟨([] : List UInt8).toArray⟩, .slice none 0 0]] w fun e w' => e = .returned (.int .i64 1) ∧ Below w.heap.size w w' := by
  have he : ∀ w, (binOp .eql 37 (.agg #[.int .i64 0, .int .i64 0, .int .i64 0]) (.agg #[.int .i64 0, .int .i64 0, .int .i64 0])).run Tryz.prog w = .ok (.bool true) w := fun w => by rw [eqMs_eql]; rfl
  go_enter Tryz.func81, Tryz.ntmps81
  go_wp2
  go_ret
  exact ⟨rfl, bal (Below.refl _ _)⟩

end Go.Proofs.YtclmjnobacepjaaGreat

/- plan.bytes: how long a plan's text is. Condition: texts of moderate size. -/
namespace Go.Proofs.YtclmjnobacepjaaGreat
open Go.RowKit

def lenT (Is : List PI) : Nat := (Is.map PI.T).flatten.length
theorem lenT_app (a b : List PI) : lenT (a ++ b) = lenT a + lenT b := by
  unfold lenT; rw [List.map_append, List.flatten_append, List.length_append]
theorem lenT_one (I : PI) : lenT [I] = I.T.length := by simp [lenT]
theorem lenT_take {Is : List PI} {k : Nat} {I : PI} (h : Is[k]? = some I) : lenT (Is.take (k + 1)) = lenT (Is.take k) + I.T.length := by
  obtain ⟨hk, rfl⟩ := List.getElem?_eq_some_iff.1 h
  rw [snoc_take Is k hk, lenT_app, lenT_one]
theorem lenT_le (Is : List PI) (k : Nat) : lenT (Is.take k) ≤ lenT Is := by
  have h : lenT Is = lenT (Is.take k) + lenT (Is.drop k) := by rw [← lenT_app, List.take_append_drop]
  omega

set_option maxHeartbeats 400000 in
set_option maxRecDepth 100000 in
theorem bytes_flat (old h b r n : Nat) (T : List UInt8) (w : World) (hb : b ≤ 1000000) (hT : T.length ≤ 1000000) :
    Calls Tryz.prog 70 #[.agg #[.int .u64 old, .int .i64 h, .int .i64 b, .int .i64 r, .int .i64 n, .string ⟨T.toArray⟩, .slice none 0 0]] w fun e w' => e = .returned (.int .i64 (b + T.length : Nat)) ∧ Below w.heap.size w w' := by
  go_enter Tryz.func70, Tryz.ntmps70
  go_wp2_with fail
  refine wp_loop_rounds 1 ?_
  rw [rounds_succ]
  go_wp2_with fail
  go_ret
  exact ⟨rfl, bal (Below.refl _ _)⟩

set_option maxHeartbeats 1000000 in
set_option maxRecDepth 100000 in
theorem bytes_any {G : Ar} (hG : ArOK G) {F : Nat → Prop} : ∀ (h : Nat) (c : TC) (I : PI) (w : World), PV G F w h c I → I.T.length ≤ 1000000 →
    Calls Tryz.prog 70 #[c.v] w fun e w' => e = .returned (.int .i64 I.T.length) ∧ Below w.heap.size w w' := by
  have hkept : ∀ h c I w, Kept G h c I → I.T.length ≤ 1000000 → Calls Tryz.prog 70 #[c.v] w fun e w' => e = .returned (.int .i64 I.T.length) ∧ Below w.heap.size w w' := by
    rintro h c I w ⟨k, x, hx, _, rfl, rfl⟩ hT
    have := bytes_flat (hd k) h (meas (txt G k)).b (meas (txt G k)).r (meas (txt G k)).n [] w (by rw [meas_b, txt_of hx]; exact hT) (by simp)
    rw [meas_b, txt_of hx] at this
    unfold TC.v kpC
    rw [txt_of hx]
    exact this
  intro h
  induction h with
  | zero =>
    intro c I w q hT
    rcases PV.zero'.1 q with q | ⟨rfl, -⟩
    · exact hkept _ _ _ _ q hT
    · have := bytes_flat 0 0 0 0 0 I.T w (by omega) hT
      rw [Nat.zero_add] at this
      exact this
  | succ h ih =>
    intro c I w q hT
    rcases PV.succ.1 q with q | ⟨A, cap, l, Is, rfl, hsl, hf, h2, h4, ha, rfl⟩
    · exact hkept _ _ _ _ q hT
    · have hTT : (sumPI Is).T.length = lenT Is := rfl
      rw [hTT] at hT ⊢
      have HS := Lib.hid hsl; have HA := Lib.hid ha; have IH := Lib.hid ih
      have hll := Lib.hid ha.len
      rw [inC_v]
      clear q hsl ha ih hf hkept hTT
      go_enter Tryz.func70, Tryz.ntmps70
      go_wp2_with fail
      go_loopw [3, 16] (fun n i wr => ∃ k : Nat, k ≤ l.length ∧ i = .int .i64 k ∧ n = .int .i64 (lenT (Is.take k)) ∧ Hid (Below w.heap.size w wr)) (fun _ i _ => l.length - (intOf i).toNat)
      case atStart => exact ⟨0, by omega, rfl, rfl, Lib.hid (bal (Below.refl _ _))⟩
      case round =>
        obtain ⟨k, hk, rfl, rfl, hB⟩ := hrel
        have hsz := hB.out.size
        by_cases hlt : k < l.length
        · obtain ⟨b, off, cap', hv, hb, hcc⟩ := HS.out.tc hlt
          obtain ⟨rfl, rfl⟩ : A = some ⟨b, off, none⟩ ∧ cap = cap' := by injection hv with e1 e2 e3; exact ⟨e1, e3⟩
          obtain ⟨e0, e1, e2, e3, e4, e5, e6⟩ := hcc wr hB.out
          obtain ⟨I, hI, hp⟩ := HA.out.get (List.getElem?_eq_getElem hlt)
          have hle := lenT_take hI
          have hle2 := lenT_le Is (k + 1)
          have cI := IH.out l[k] I (wr.alloc (.cells #[.int .u64 l[k].old, .int .i64 l[k].ht, .int .i64 l[k].b, .int .i64 l[k].r, .int .i64 l[k].n, .string ⟨(l[k].t).toArray⟩, .slice l[k].kp l[k].kl l[k].kc] 76)) ((hp.1.ext hB.out).ext (bal (Below.refl _ _))) (by omega)
          have hki : (k : Int) < (l.length : Int) := by omega
          have HLE := Lib.hid hle
          rw [hle] at hle2
          unfold TC.v at cI
          have CI := Lib.hid cI
          clear hcc hv hI hp hle cI
          generalize l[k] = m at *
          obtain ⟨mo, mh, mb, mr, mn, mt, mp, ml, mc⟩ := m
          simp only at *
          generalize lenT (Is.take k) = s at *
          go_wp2_with (go_at_call 70; refine CI.out.mono ?_; rintro e w2 ⟨rfl, hb2⟩)
          go_roundw
          case rel => exact ⟨k + 1, by omega, by go_num, by rw [HLE.out]; go_num, Lib.hid (bcall (bal hB.out) hb2)⟩
          case measure => simp [intOf]; omega
        · have hkl : Is.take k = Is := List.take_of_length_le (by rw [← hll.out]; omega)
          rw [hkl]
          go_wp2
          go_ret
          exact ⟨rfl, hB.out⟩

end Go.Proofs.YtclmjnobacepjaaGreat

/- plan.same, plan.Keep: a root of a rope as a plan. -/
namespace Go.Proofs.YtclmjnobacepjaaGreat
open Go.RowKit

/-- a root -/
structure Rt where
  at_ : Nat
  ht : Nat
  b : Nat
  r : Nat
  n : Nat
def Rt.v (c : Rt) : Value := .agg #[.int .u64 c.at_, .int .i64 c.ht, .int .i64 c.b, .int .i64 c.r, .int .i64 c.n]
def Rt.zero : Rt := ⟨0, 0, 0, 0, 0⟩
def rtOf (G : Ar) (k : Nat) : Rt := ⟨hd k, htOf G k, (meas (txt G k)).b, (meas (txt G k)).r, (meas (txt G k)).n⟩
/-- the root of a rope with that text -/
def RV (G : Ar) (r : Rt) (T : List UInt8) : Prop := (r = Rt.zero ∧ T = []) ∨ ∃ k x, G[k]? = some x ∧ r = rtOf G k ∧ T = x.T
theorem htOf_of {G : Ar} {k : Nat} {x : Nd} (h : G[k]? = some x) : htOf G k = x.ht := by rw [htOf, h]
theorem RV.app {G H : Ar} {r : Rt} {T : List UInt8} (h : RV G r T) : RV (G ++ H) r T := by
  rcases h with h | ⟨k, x, hx, rfl, rfl⟩
  · exact .inl h
  · refine .inr ⟨k, x, get_app hx, ?_, rfl⟩
    unfold rtOf
    rw [txt_of hx, txt_of (get_app hx), htOf_of hx, htOf_of (get_app hx)]

set_option maxHeartbeats 400000 in
set_option maxRecDepth 100000 in
theorem same_any (A : AF) (G : Ar) (k : Nat) (x : Nd) (w : World) (h : ArM w A G) (hx : G[k]? = some x) :
    Calls Tryz.prog 36 #[.pointer (some ⟨A.ba, 0, none⟩), .int .u64 (hd k : Nat), .int .i64 x.ht, (meas x.T).v] w fun e w' => e = .returned (.int .i64 0) ∧ Below w.heap.size w w' := by
  have cG := Lib.hid (fun W (q : Below w.heap.size w W) => get_any A G k x W (h.ext q) hx)
  have hne : ∀ W, (binOp .neq 37 (.agg #[.int .i64 (meas x.T).b, .int .i64 (meas x.T).r, .int .i64 (meas x.T).n]) (.agg #[.int .i64 (meas x.T).b, .int .i64 (meas x.T).r, .int .i64 (meas x.T).n])).run Tryz.prog W = .ok (.bool false) W := fun W => by
    rw [eqMs_neq]; simp
  have hht : ((x.ht : Int) != (x.ht : Int)) = false := by simp
  clear h hx
  unfold Ms.v
  go_enter Tryz.func36, Tryz.ntmps36
  go_wp2_with fail
  refine (cG.out _ (bal (Below.refl _ _))).mono ?_
  rintro e w1 ⟨kv, rfl, hN, hb1⟩
  obtain ⟨Ak, capk, hkv, -⟩ := id hN.sl
  rw [List.length_map] at hkv
  subst hkv
  have hB1 := bcall (bal (Below.refl _ _)) hb1
  have m1 := (Bk.new w #[.int .i64 (meas x.T).b, .int .i64 (meas x.T).r, .int .i64 (meas x.T).n] 37).ext hb1 (by simp)
  obtain ⟨m0, m2, m3, -⟩ := m1.three
  have hm1 := m1.lt
  have cM := fun W (q : Below w1.heap.size w1 W) => nmeas_any G k x _ W (hN.ext q)
  unfold Ms.v at cM
  unfold ndV at *
  have CM := Lib.hid cM
  have HB1 := Lib.hid hB1
  clear cM hN hB1 hb1 cG
  go_wp2_with fail
  refine (CM.out _ (bal (Below.refl _ _))).mono ?_
  rintro e w2 ⟨rfl, hb2⟩
  have hB2 := bcall (bal (Below.refl _ _)) hb2
  obtain ⟨y0, y1, y2, -⟩ := ((Bk.new w1 #[.int .i64 x.ht, .string ⟨(ownT x).toArray⟩, .slice Ak x.ks.length capk] 84).ext hb2 (by simp)).three
  obtain ⟨m0', m2', m3', -⟩ := (m1.ext hB2 hm1).three
  have hz1 : w1.heap.size < w2.heap.size := by have := hb2.size; simp at this; omega
  have hz2 : w.heap.size < w2.heap.size := by omega
  go_wp2_with fail
  go_ret
  exact ⟨rfl, bal (bcall HB1.out hB2)⟩

set_option maxHeartbeats 400000 in
set_option maxRecDepth 100000 in
theorem keep_any (A : AF) (G : Ar) (k : Nat) (x : Nd) (w : World) (h : ArM w A G) (hx : G[k]? = some x) :
    Calls Tryz.prog 22 #[.pointer (some ⟨A.ba, 0, none⟩), (rtOf G k).v] w fun e w' => e = .returned (.tuple #[(kpC G x.ht k).v, .int .i64 0]) ∧ Below w.heap.size w w' := by
  have cS := fun W (q : Below w.heap.size w W) => same_any A G k x W (h.ext q) hx
  have hp := nd_pos h.ok hx
  rw [kpC_v, Rt.v, rtOf]
  simp only
  rw [htOf_of hx, txt_of hx]
  have he : ∀ W, (binOp .eql 39 (.agg #[.int .u64 (hd k : Nat), .int .i64 x.ht, .int .i64 (meas x.T).b, .int .i64 (meas x.T).r, .int .i64 (meas x.T).n]) (.agg #[.int .u64 0, .int .i64 0, .int .i64 0, .int .i64 0, .int .i64 0])).run Tryz.prog W = .ok (.bool false) W := fun W => by
    rw [eqRt, decide_eq_false (by unfold hd; omega : ¬ ((hd k : Nat) : Int) = 0)]; rfl
  have hh0 : (((hd k : Nat) : Int) == 0) = false := by rw [beq_eq_false_iff_ne]; unfold hd; omega
  unfold Ms.v at cS
  have CS := Lib.hid cS
  clear h hx hp cS
  go_enter Tryz.func22, Tryz.ntmps22
  go_wp2_with fail
  refine (CS.out _ (bal (bal (Below.refl _ _)))).mono ?_
  rintro e w2 ⟨rfl, hb2⟩
  obtain ⟨c0, c1, c2, c3, c4, -⟩ := (((Bk.new w #[.int .u64 (hd k : Nat), .int .i64 x.ht, .int .i64 (meas x.T).b, .int .i64 (meas x.T).r, .int .i64 (meas x.T).n] 39).alloc).ext hb2 (by simp; omega)).five
  obtain ⟨d0, d1, d2, d3, d4, d5, d6, f0, f1, f2, f3, f4, f5, f6⟩ := (bal2 w hb2).seven
  go_wp2_with fail
  refine bodyPost_ret (v := .tuple #[.agg #[.int .u64 (hd k : Nat), .int .i64 x.ht, .int .i64 (meas x.T).b, .int .i64 (meas x.T).r, .int .i64 (meas x.T).n, .string ⟨#[]⟩, .slice none 0 0], .int .i64 0]) (by simp [results, Tryz.results22, go_sem, d0, d1, d2, d3, d4, d5, d6]) rfl ⟨rfl, ?_⟩
  refine bset (bset (bset (bset (bset (bset (bset (bcall (bal (bal (Below.refl _ _))) hb2) ?_) ?_) ?_) ?_) ?_) ?_) ?_ <;> simp

set_option maxHeartbeats 400000 in
set_option maxRecDepth 100000 in
theorem keep_zero (p : Addr) (w : World) :
    Calls Tryz.prog 22 #[.pointer (some p), Rt.zero.v] w fun e w' => e = .returned (.tuple #[TC.zero.v, .int .i64 0]) ∧ Below w.heap.size w w' := by
  have he : ∀ W, (binOp .eql 39 (.agg #[.int .u64 0, .int .i64 0, .int .i64 0, .int .i64 0, .int .i64 0]) (.agg #[.int .u64 0, .int .i64 0, .int .i64 0, .int .i64 0, .int .i64 0])).run Tryz.prog W = .ok (.bool true) W := fun W => by
    rw [eqRt]; rfl
  rw [zero_v, show Rt.zero.v = .agg #[.int .u64 0, .int .i64 0, .int .i64 0, .int .i64 0, .int .i64 0] from rfl]
  go_enter Tryz.func22, Tryz.ntmps22
  go_wp2_with fail
  refine bodyPost_ret (v := .tuple #[.agg #[.int .u64 0, .int .i64 0, .int .i64 0, .int .i64 0, .int .i64 0, .string ⟨#[]⟩, .slice none 0 0], .int .i64 0]) (by simp [results, Tryz.results22, go_sem]) rfl ⟨rfl, ?_⟩
  exact bal (bal (Below.refl _ _))

end Go.Proofs.YtclmjnobacepjaaGreat
