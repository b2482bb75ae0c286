/- plan.group over plans; plan.line, plan.New, plan.children. -/
import Derived.Test.YtclmjnobacepjaaGreatTGroup
import Derived.Test.YtclmjnobacepjaaGreatTCheck
namespace Go.Proofs.YtclmjnobacepjaaGreat
open Go.RowKit

def FT (_ : Nat) : Prop := True
theorem PV.top {G : Ar} {F : Nat → Prop} {w : World} {h : Nat} {c : TC} {I : PI} (q : PV G F w h c I) : PV G FT w h c I := q.mono fun _ _ => trivial
theorem PV.cht {G : Ar} {F : Nat → Prop} {w : World} {h : Nat} {c : TC} {I : PI} (q : PV G F w h c I) : c.ht = h := by
  cases h with
  | zero =>
    rcases PV.zero'.1 q with ⟨k, x, _, _, rfl, _⟩ | ⟨rfl, _⟩ <;> rfl
  | succ h =>
    rcases PV.succ.1 q with ⟨k, x, _, _, rfl, _⟩ | ⟨A, cap, l, Is, rfl, _⟩ <;> rfl
/-- a set of nodes that holds all below its nodes -/
def Closed (G : Ar) (S : Nat → Prop) : Prop := ∀ k x, S k → G[k]? = some x → ∀ j ∈ x.ks, S j
def KIn (S : Nat → Prop) (I : PI) : Prop := ∀ k ∈ I.K, S k
theorem KIn.sum {S : Nat → Prop} {Is : List PI} (h : ∀ I ∈ Is, KIn S I) : KIn S (sumPI Is) := by
  intro k hk
  obtain ⟨K, hK, hkK⟩ := List.mem_flatten.1 hk
  obtain ⟨I, hI, rfl⟩ := List.mem_map.1 hK
  exact h I hI k hkK
theorem KIn.of_sum {S : Nat → Prop} {Is : List PI} (h : KIn S (sumPI Is)) : ∀ I ∈ Is, KIn S I := by
  intro I hI k hk
  exact h k (List.mem_flatten.2 ⟨I.K, List.mem_map_of_mem hI, hk⟩)

/-- a plan whose text, and kept nodes, are those of a list -/
def GrpV (G : Ar) (w : World) (h : Nat) (Is : List PI) (c : TC) (I : PI) : Prop :=
  I.T = (Is.map PI.T).flatten ∧ (∀ S, (∀ J ∈ Is, KIn S J) → KIn S I) ∧ (Is = [] → c = TC.zero ∧ I = PI.zero) ∧ (Is.length = 1 → Is = [I] ∧ PV G FT w h c I) ∧ (2 ≤ Is.length → PV G FT w (h + 1) c I)
theorem GrpV.ext {G : Ar} {w w' : World} {h : Nat} {Is : List PI} {c : TC} {I : PI} (q : GrpV G w h Is c I) (hb : Below w.heap.size w w') : GrpV G w' h Is c I :=
  ⟨q.1, q.2.1, q.2.2.1, fun p => ⟨(q.2.2.2.1 p).1, (q.2.2.2.1 p).2.ext hb⟩, fun p => (q.2.2.2.2 p).ext hb⟩

theorem group_any {G : Ar} (h : Nat) (hh : h ≤ 14) (v : Value) (l : List TC) (Is : List PI) (w : World) (hsl : Sl tcE w v l) (ha : All2 (KV G FT w h) l Is) (h4 : l.length ≤ 4) :
    Calls Tryz.prog 47 #[v] w fun e w' => ∃ c I, e = .returned c.v ∧ GrpV G w' h Is c I ∧ Below w.heap.size w w' := by
  have hlen := ha.len
  match l, Is, hlen with
  | [], [], _ =>
    obtain ⟨A, cap, rfl, -⟩ := hsl
    exact (group_nil w A cap).mono fun e w' ⟨he, hb⟩ => ⟨TC.zero, PI.zero, he, ⟨rfl, fun S _ k hk => (by cases hk), fun _ => ⟨rfl, rfl⟩, fun q => (by cases q), fun q => absurd q (by simp)⟩, hb⟩
  | [c], [I], _ =>
    exact (group_one w v c hsl).mono fun e w' ⟨he, hb⟩ => ⟨c, I, he, ⟨by simp, fun S hS => hS I (by simp), fun q => (by cases q), fun _ => ⟨rfl, ha.1.1.ext hb⟩, fun q => absurd q (by simp)⟩, hb⟩
  | c :: d :: r, I :: J :: s, _ =>
    have hc := ha.1.1.cht
    refine (group_many w v (c :: d :: r) hsl (by simp) (by omega) (fun m hm => ?_)).mono ?_
    · simp at hm; subst hm; omega
    · rintro e w' ⟨A, cap, he, hs', hF, hb⟩
      refine ⟨inC h A (c :: d :: r).length cap, sumPI (I :: J :: s), ?_, ⟨rfl, fun S hS => KIn.sum hS, fun q => (by cases q), fun q => absurd q (by simp), fun _ => ?_⟩, hb⟩
      · rw [he]; simp only [List.getElem?_cons_zero, hc]
      · exact .inr ⟨A, cap, c :: d :: r, I :: J :: s, rfl, hs', fun _ _ => trivial, by simp, h4, KVs.ext ha hb, rfl⟩

set_option maxHeartbeats 400000 in
set_option maxRecDepth 100000 in
theorem line_any (A : AF) (G : Ar) (F : Nat → Prop) (c : TC) (I : PI) (w : World) (hA : ArM w A G) (q : PV G F w 0 c I) :
    Calls Tryz.prog 87 #[.pointer (some ⟨A.ba, 0, none⟩), c.v] w fun e w' => e = .returned (.tuple #[.string ⟨(I.T).toArray⟩, .int .i64 0]) ∧ Below w.heap.size w w' := by
  rcases PV.zero'.1 q with ⟨k, x, hx, hh, rfl, rfl⟩ | ⟨rfl, h1, h2, -⟩
  · have cG := Lib.hid (fun W (p : Below w.heap.size w W) => get_any A G k x W (hA.ext p) hx)
    have hk0 : (((hd k : Nat) : Int) == 0) = false := by rw [beq_eq_false_iff_ne]; unfold hd; omega
    have ho : ownT x = x.T := by rw [ownT, if_pos hh]
    rw [kpC_v]
    clear q hA hx
    go_enter Tryz.func87, Tryz.ntmps87
    go_wp2_with fail
    refine (cG.out _ (bal (Below.refl _ _))).mono ?_
    rintro e w1 ⟨kv, rfl, hN, hb1⟩
    obtain ⟨Ak, capk, hkv, -⟩ := id hN.sl
    rw [List.length_map] at hkv
    subst hkv
    have HB1 := Lib.hid (bcall (bal (Below.refl _ _)) hb1)
    unfold ndV
    clear hN hb1 cG
    go_wp2_with fail
    go_ret2
    exact ⟨rfl, bal HB1.out⟩
  · rw [lfC_v]
    clear q hA h1 h2
    go_enter Tryz.func87, Tryz.ntmps87
    go_wp2_with fail
    go_ret2
    exact ⟨rfl, bal (Below.refl _ _)⟩

def numN (Is : List PI) : Nat := (Is.map PI.n).sum
theorem numN_take {Is : List PI} {k : Nat} {I : PI} (h : Is[k]? = some I) : numN (Is.take (k + 1)) = numN (Is.take k) + I.n := by
  obtain ⟨hk, rfl⟩ := List.getElem?_eq_some_iff.1 h
  unfold numN
  rw [snoc_take Is k hk, List.map_append, List.sum_append]; simp
theorem numN_le (Is : List PI) (k : Nat) : numN (Is.take k) ≤ numN Is := by
  have h : numN Is = numN (Is.take k) + numN (Is.drop k) := by
    unfold numN; rw [← List.sum_append, ← List.map_append, List.take_append_drop]
  omega

set_option maxHeartbeats 400000 in
set_option maxRecDepth 100000 in
theorem new_flat (old h b r n : Nat) (T : List UInt8) (k m : Nat) (w : World) (hk : (k = 2 ∧ m = 0) ∨ (k = 3 ∧ m = 1) ∨ (k = 1 ∧ m = 0))
    (cK : ∀ W, Calls Tryz.prog 81 #[.agg #[.int .u64 old, .int .i64 h, .int .i64 b, .int .i64 r, .int .i64 n, .string ⟨T.toArray⟩, .slice none 0 0]] W fun e w' => e = .returned (.int .i64 k) ∧ Below W.heap.size W w') :
    Calls Tryz.prog 64 #[.agg #[.int .u64 old, .int .i64 h, .int .i64 b, .int .i64 r, .int .i64 n, .string ⟨T.toArray⟩, .slice none 0 0]] w fun e w' => e = .returned (.int .i64 m) ∧ Below w.heap.size w w' := by
  have CK := Lib.hid cK; clear cK
  rcases hk with ⟨rfl, rfl⟩ | ⟨rfl, rfl⟩ | ⟨rfl, rfl⟩
  all_goals
    go_enter Tryz.func64, Tryz.ntmps64
    go_wp2_with fail
    refine (CK.out _).mono ?_
    rintro e w1 ⟨rfl, hb1⟩
    have hB1 := bcall (bal (Below.refl _ _)) hb1
    obtain ⟨c0, c1, c2, c3, c4, c5, c6, -⟩ := ((Bk.new w #[.int .u64 old, .int .i64 h, .int .i64 b, .int .i64 r, .int .i64 n, .string ⟨T.toArray⟩, .slice none 0 0] 76).ext hb1 (by simp)).seven
    go_wp2_with fail
    refine wp_loop_rounds 1 ?_
    rw [rounds_succ]
    go_wp2_with fail
    go_ret
    exact ⟨rfl, hB1⟩

set_option maxHeartbeats 1000000 in
set_option maxRecDepth 100000 in
theorem new_any {G : Ar} (hG : ArOK G) {F : Nat → Prop} : ∀ (h : Nat) (c : TC) (I : PI) (w : World), PV G F w h c I → I.T.length ≤ 65536 → I.n ≤ 100000 →
    Calls Tryz.prog 64 #[c.v] w fun e w' => e = .returned (.int .i64 I.n) ∧ Below w.heap.size w w' := by
  have hkept : ∀ h c I w, Kept G h c I → Calls Tryz.prog 64 #[c.v] w fun e w' => e = .returned (.int .i64 I.n) ∧ Below w.heap.size w w' := by
    rintro h c I w ⟨k, x, hx, _, rfl, rfl⟩
    exact new_flat (hd k) h _ _ _ [] 2 0 w (.inl ⟨rfl, rfl⟩) (fun W => kindK _ _ _ _ _ (by unfold hd; omega) (by show 0 < (meas (txt G k)).b; rw [meas_b, txt_of hx]; exact nd_pos hG hx) W)
  intro h
  induction h with
  | zero =>
    intro c I w q hT hn
    rcases PV.zero'.1 q with q | ⟨rfl, h1, h2, -, h4⟩
    · exact hkept _ _ _ _ q
    · rw [h4]
      exact new_flat 0 0 0 0 0 I.T 3 1 w (.inr (.inl ⟨rfl, rfl⟩)) (fun W => kindL I.T h1 h2 W)
  | succ h ih =>
    intro c I w q hT hn
    have h13 := q.ht_le hG hT
    rcases PV.succ.1 q with q | ⟨A, cap, l, Is, rfl, hsl, hf, h2, h4, ha, rfl⟩
    · exact hkept _ _ _ _ q
    · have hTT : (sumPI Is).n = 1 + numN Is := rfl
      have cK := Lib.hid (fun W => kindI h l.length cap A (by omega) h2 h4 W)
      have HT := Lib.hid (show ∀ I ∈ Is, I.T.length ≤ 65536 from fun I hI => Nat.le_trans (mem_len hI) hT)
      rw [hTT] at hn ⊢
      have HS := Lib.hid hsl; have HA := Lib.hid ha; have IH := Lib.hid ih
      have hll := Lib.hid ha.len
      rw [inC_v]
      clear q hsl ha ih hf hkept hTT hT h13 h2
      go_enter Tryz.func64, Tryz.ntmps64
      go_wp2_with fail
      refine (cK.out _).mono ?_
      rintro e w1 ⟨rfl, hb1⟩
      have HB1 := Lib.hid (bcall (bal (Below.refl _ _)) hb1)
      obtain ⟨c0, c1, c2, c3, c4, c5, c6, -⟩ := ((Bk.new w #[.int .u64 0, .int .i64 ((h : Int) + 1), .int .i64 0, .int .i64 0, .int .i64 0, .string ⟨#[]⟩, .slice A l.length cap] 76).ext hb1 (by simp)).seven
      clear hb1
      go_wp2_with fail
      go_loopw [3, 18] (fun n i wr => ∃ k : Nat, k ≤ l.length ∧ i = .int .i64 k ∧ n = .int .i64 (1 + numN (Is.take k) : Nat) ∧ Hid (Below w.heap.size w wr)) (fun _ i _ => l.length - (intOf i).toNat)
      case atStart => exact ⟨0, by omega, rfl, rfl, HB1⟩
      case round =>
        obtain ⟨k, hk, rfl, rfl, hB⟩ := hrel
        have hsz := hB.out.size
        by_cases hlt : k < l.length
        · obtain ⟨b, off, cap', hv, hb, hcc⟩ := HS.out.tc hlt
          obtain ⟨rfl, rfl⟩ : A = some ⟨b, off, none⟩ ∧ cap = cap' := by injection hv with e1 e2 e3; exact ⟨e1, e3⟩
          obtain ⟨e0, e1, e2, e3, e4, e5, e6⟩ := hcc wr hB.out
          obtain ⟨I, hI, hp⟩ := HA.out.get (List.getElem?_eq_getElem hlt)
          have hle := numN_take hI
          have hle2 := numN_le Is (k + 1)
          have cI := IH.out l[k] I (wr.alloc (.cells #[.int .u64 l[k].old, .int .i64 l[k].ht, .int .i64 l[k].b, .int .i64 l[k].r, .int .i64 l[k].n, .string ⟨(l[k].t).toArray⟩, .slice l[k].kp l[k].kl l[k].kc] 76)) ((hp.1.ext hB.out).ext (bal (Below.refl _ _))) (HT.out I (List.mem_of_getElem? hI)) (by omega)
          have hki : (k : Int) < (l.length : Int) := by omega
          have HLE := Lib.hid hle
          rw [hle] at hle2
          unfold TC.v at cI
          have CI := Lib.hid cI
          have hcast : ((1 + numN (Is.take k) : Nat) : Int) = 1 + (numN (Is.take k) : Int) := by omega
          rw [hcast]
          clear hcc hv hI hp hle cI hcast
          generalize l[k] = m at *
          obtain ⟨mo, mh, mb, mr, mn, mt, mp, ml, mc⟩ := m
          simp only at *
          generalize numN (Is.take k) = s at *
          go_wp2_with (go_at_call 64; refine CI.out.mono ?_; rintro e w2 ⟨rfl, hb2⟩)
          go_roundw
          case rel => exact ⟨k + 1, by omega, by go_num, by rw [HLE.out]; go_num, Lib.hid (bcall (bal hB.out) hb2)⟩
          case measure => simp [intOf]; omega
        · have hkl : Is.take k = Is := List.take_of_length_le (by rw [← hll.out]; omega)
          rw [hkl]
          go_wp2
          go_ret
          exact ⟨rfl, hB.out⟩

end Go.Proofs.YtclmjnobacepjaaGreat

/- plan.children: the plans below a plan. Condition: texts of moderate size. -/
namespace Go.Proofs.YtclmjnobacepjaaGreat
open Go.RowKit

/-- the plans below a plan -/
def KidsV (G : Ar) (w : World) (h : Nat) (I : PI) (v : Value) (l : List TC) (Is : List PI) : Prop :=
  Sl tcE w v l ∧ All2 (KV G FT w h) l Is ∧ 2 ≤ l.length ∧ l.length ≤ 4 ∧ I.T = (Is.map PI.T).flatten ∧ ∀ S, Closed G S → KIn S I → ∀ J ∈ Is, KIn S J
def kdPI (G : Ar) (j : Nat) : PI := ⟨txt G j, [j], 0⟩
theorem kd_kv {G : Ar} {w : World} {i h : Nat} : ∀ {js : List Nat}, (∀ j ∈ js, KidOK G i h j) → All2 (KV G FT w h) (js.map (kpC G h)) (js.map (kdPI G))
  | [], _ => trivial
  | j :: js, hj => by
    obtain ⟨a, x, hx, hh, h8⟩ := hj j (by simp)
    refine ⟨⟨PV.of_kept ⟨j, x, hx, hh, rfl, ?_⟩, fun e => ?_⟩, kd_kv fun k hk => hj k (by simp [hk])⟩
    · unfold kdPI; rw [txt_of hx]
    · show 8 ≤ (txt G j).length
      rw [txt_of hx]; exact h8 e

set_option maxHeartbeats 1000000 in
set_option maxRecDepth 100000 in
theorem children_any (A : AF) (G : Ar) (h : Nat) (c : TC) (I : PI) (w : World) (hA : ArM w A G) (q : PV G FT w (h + 1) c I) (hT : I.T.length ≤ 65536) :
    Calls Tryz.prog 89 #[.pointer (some ⟨A.ba, 0, none⟩), c.v] w fun e w' => ∃ v l Is, e = .returned (.tuple #[v, .int .i64 0]) ∧ KidsV G w' h I v l Is ∧ Below w.heap.size w w' := by
  have h13 := q.ht_le hA.ok hT
  rcases PV.succ.1 q with ⟨k, x, hx, hh, rfl, rfl⟩ | ⟨ap, cap, l, Is, rfl, hsl, hf, h2, h4, ha, rfl⟩
  · have cG := Lib.hid (fun W (p : Below w.heap.size w W) => get_any A G k x W (hA.ext p) hx)
    have hk0 : (((hd k : Nat) : Int) == 0) = false := by rw [beq_eq_false_iff_ne]; unfold hd; omega
    obtain ⟨hks2, hks4, hkid, htx⟩ : 2 ≤ x.ks.length ∧ x.ks.length ≤ 4 ∧ (∀ j ∈ x.ks, KidOK G k h j) ∧ x.T = (x.ks.map (txt G)).flatten := by
      rcases hA.ok k x hx with ⟨q, _⟩ | ⟨h', e, a, b, d, t⟩
      · omega
      · obtain rfl : h' = h := by omega
        exact ⟨a, b, d, t⟩
    have HKV := Lib.hid (fun W => kd_kv (w := W) hkid)
    have HX := Lib.hid hx; have HTX := Lib.hid htx
    have hhi : (x.ht : Int) = (h : Int) + 1 := by omega
    have hh14 : (h : Int) ≤ 14 := by omega
    have hj : ∀ i (hi : i < x.ks.length), ((kpC G h x.ks[i]).ht : Int) = (h : Int) := fun i hi => rfl
    rw [kpC_v]
    clear q hA hx hT hkid htx
    go_enter Tryz.func89, Tryz.ntmps89
    go_wp2_with fail
    refine (cG.out _ (bal (Below.refl _ _))).mono ?_
    rintro e w1 ⟨kv, rfl, hN, hb1⟩
    obtain ⟨Ak, capk, hkv, -⟩ := id hN.sl
    rw [List.length_map] at hkv
    subst hkv
    have HB1 := Lib.hid (bcall (bal (Below.refl _ _)) hb1)
    have HS := Lib.hid hN.sl
    unfold ndV
    rw [hhi]
    clear hN hb1 cG
    go_wp2_with fail
    go_loopw [8, 29] (fun vo i wr => ∃ (k : Nat) (A5 : Option Addr) (c5 : Nat), k ≤ x.ks.length ∧ i = .int .i64 k ∧ vo = .slice A5 k c5 ∧ Hid (Ow tcE wr (w1.heap.size + 1) 76 (.slice A5 k c5) ((x.ks.map (kpC G h)).take k)) ∧ Hid (Bk wr w1.heap.size #[.int .i64 ((h : Int) + 1), .string ⟨(ownT x).toArray⟩, .slice Ak x.ks.length capk] 84) ∧ Hid (Below w1.heap.size w1 wr) ∧ w1.heap.size + 1 ≤ wr.heap.size) (fun _ i _ => x.ks.length - (intOf i).toNat)
    case atStart => exact ⟨0, none, 0, by omega, rfl, rfl, Lib.hid (Ow.nil _ _ _ _), Lib.hid (Bk.new _ _ _), Lib.hid (bal (Below.refl _ _)), by simp⟩
    case round =>
      obtain ⟨k', A5, c5, hk, rfl, rfl, hO, hR, hB, hsz⟩ := hrel
      by_cases hlt : k' < x.ks.length
      · obtain ⟨b, off, cap', hv, hb, hcc⟩ := HS.out.kd (k := k') (by rw [List.length_map]; exact hlt)
        rw [List.length_map] at hv
        obtain ⟨rfl, rfl⟩ : Ak = some ⟨b, off, none⟩ ∧ capk = cap' := by injection hv with e1 e2 e3; exact ⟨e1, e3⟩
        obtain ⟨e0, e1, e2, e3⟩ := hcc wr hB.out
        rw [List.getElem_map] at e0 e1 e2 e3
        simp only [kdOf] at e0 e1 e2 e3
        have hki : (k' : Int) < (x.ks.length : Int) := by omega
        have htk := Lib.hid (show (x.ks.map (kpC G h)).take (k' + 1) = (x.ks.map (kpC G h)).take k' ++ [kpC G h x.ks[k']] by rw [snoc_take _ k' (by rw [List.length_map]; exact hlt), List.getElem_map])
        have hln := Lib.hid (show ((x.ks.map (kpC G h)).take k').length = k' by rw [List.length_take, List.length_map]; omega)
        have hk4 : k' ≤ 4 := by omega
        obtain ⟨r0, r1, r2, -⟩ := hR.out.three
        have hbw : b < wr.heap.size := by omega
        have hlw : w1.heap.size < wr.heap.size := by omega
        clear hv hcc hj
        have hTC := Lib.hid (show tcE.cells (kpC G h x.ks[k']) = [.int .u64 (hd x.ks[k'] : Nat), .int .i64 h, .int .i64 (meas (txt G x.ks[k'])).b, .int .i64 (meas (txt G x.ks[k'])).r, .int .i64 (meas (txt G x.ks[k'])).n, .string ⟨#[]⟩, .slice none 0 0] from rfl)
        go_wp2_with (at_builtin; refine Hid.out ?_)
        refine Lib.hid ?_
        refine wpOw1 _ tcOK rfl (.tmp 33) (.tmp 42) rfl (w1.heap.size + 1) (by simp; omega) _ ((x.ks.map (kpC G h)).take k') rfl ((hO.out.alloc _).alloc _) (kpC G h x.ks[k']) (wr.heap.size + 1) 1 rfl (new_cells2 _ _ _ _) (by rw [hln.out]; omega) ?_
        rw [hln.out]
        intro A8 c8 w8 hown8 hg8
        have HO8 := Lib.hid hown8
        have HB8 := Lib.hid (((hB.out.alloc (by omega) _).alloc (by simp; omega) _).grown hg8 (by simp; omega) (fun g hg => by have := (hO.out.lt g hg).1; omega))
        have HR8 := Lib.hid ((hR.out.alloc.alloc).grown hg8 (fun e => by have := (hO.out.lt _ e.symm).1; omega))
        have hz8 : w1.heap.size + 1 ≤ w8.heap.size := by have := hg8.size; simp at this; omega
        clear hown8 hg8 hO hB hR
        go_wp2_with fail
        go_roundw
        case rel => exact ⟨k' + 1, A8, c8, by omega, by go_num, rfl, Lib.hid (by rw [htk.out]; exact HO8.out), HR8, HB8, hz8⟩
        case measure => simp [intOf]; omega
      · have hO' := hO.out
        rw [List.take_of_length_le (by rw [List.length_map]; omega)] at hO'
        obtain rfl : k' = x.ks.length := by omega
        have n0 : ((x.ks.length : Int) == 0) = false := by rw [beq_eq_false_iff_ne]; omega
        have HO' := Lib.hid hO'
        clear hO' hO hR
        go_wp2
        go_ret2
        refine ⟨_, x.ks.map (kpC G h), x.ks.map (kdPI G), rfl, ⟨HO'.out.sl, HKV.out _, by rw [List.length_map]; exact hks2, by rw [List.length_map]; exact hks4, ?_, fun S hS hI J hJ => ?_⟩, HB1.out.trans (hB.out.mono HB1.out.size)⟩
        · show x.T = _
          rw [HTX.out, List.map_map]; rfl
        · obtain ⟨j, hj, rfl⟩ := List.mem_map.1 hJ
          intro m hm
          simp [kdPI] at hm
          subst hm
          exact hS k x (hI k (by simp)) HX.out m hj
  · rw [inC_v]
    clear hA hT q h13
    go_enter Tryz.func89, Tryz.ntmps89
    go_wp2_with fail
    go_ret2
    exact ⟨_, l, Is, rfl, ⟨hsl.alloc _, KVs.ext ha (bal (Below.refl _ _)), h2, h4, rfl, fun S _ hI => KIn.of_sum hI⟩, bal (Below.refl _ _)⟩

end Go.Proofs.YtclmjnobacepjaaGreat
