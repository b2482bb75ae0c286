/- plan.check, plan.Check: valid plans are valid. Condition: texts of moderate size. -/
import Derived.Test.YtclmjnobacepjaaGreatJ09
namespace Go.Proofs.YtclmjnobacepjaaGreat
open Go.RowKit

set_option maxHeartbeats 1000000 in
set_option maxRecDepth 100000 in
theorem check_kept_kid (A : AF) (G : Ar) (h : Nat) (c : TC) (I : PI) (w : World) (hA : ArM w A G) (q : Kept G h c I) (h8 : h = 0 → 8 ≤ I.T.length) :
    Calls Tryz.prog 82 #[.pointer (some ⟨A.ba, 0, none⟩), c.v, .bool true, .int .i64 h] w fun e w' => e = .returned (.int .i64 0) ∧ Below w.heap.size w w' := by
  obtain ⟨k, x, hx, hh, rfl, rfl⟩ := q
  subst hh
  have hp := nd_pos hA.ok hx
  have hsz := hA.sz k x hx
  have cS := fun W (q : Below w.heap.size w W) => same_any A G k x W (hA.ext q) hx
  have cK := Lib.hid (fun W => kindK (hd k) x.ht (meas x.T).b (meas x.T).r (meas x.T).n (by unfold hd; omega) (by rw [meas_b]; omega) W)
  have cB := fun W => bytes_flat (hd k) x.ht (meas x.T).b (meas x.T).r (meas x.T).n [] W (by rw [meas_b]; omega) (by simp)
  rw [meas_b] at cB
  simp only [List.length_nil, Nat.add_zero] at cB
  rw [kpC_v, txt_of hx]
  unfold Ms.v at cS
  have CS := Lib.hid cS; have CB := Lib.hid cB
  clear cS cB hA hx hp hsz
  by_cases h0 : x.ht = 0
  · have h8' := h8 h0
    simp only at h8'
    have h8i : (8 : Int) ≤ (x.T.length : Int) := by omega
    have hz : ((x.ht : Nat) : Int) = 0 := by omega
    rw [hz] at CS cK CB ⊢
    clear h8 h8' h0 hz
    go_enter Tryz.func82, Tryz.ntmps82
    go_wp2_with fail
    refine (cK.out _).mono ?_
    rintro e w1 ⟨rfl, hb1⟩
    have hB1 := bcall (bal (Below.refl _ _)) hb1
    have hk1 := (Bk.new w #[.int .u64 (hd k : Nat), .int .i64 0, .int .i64 (meas x.T).b, .int .i64 (meas x.T).r, .int .i64 (meas x.T).n, .string ⟨#[]⟩, .slice none 0 0] 76).ext hb1 (by simp)
    obtain ⟨c0, c1, c2, c3, c4, c5, c6, -⟩ := hk1.seven
    go_wp2_with fail
    refine (CS.out _ hB1).mono ?_
    rintro e w2 ⟨rfl, hb2⟩
    have hB2 := bcall hB1 hb2
    have hk2 := hk1.ext hb2 hk1.lt
    obtain ⟨c0, c1, c2, c3, c4, c5, c6, -⟩ := hk2.seven
    go_wp2_with fail
    refine (CB.out _).mono ?_
    rintro e w3 ⟨rfl, hb3⟩
    have hB3 := bcall hB2 hb3
    obtain ⟨c0, c1, c2, c3, c4, c5, c6, -⟩ := (hk2.ext hb3 hk2.lt).seven
    go_wp2_with fail
    refine wp_loop_rounds 1 ?_
    rw [rounds_succ]
    go_wp2_with fail
    go_ret
    exact ⟨rfl, hB3⟩
  · have h0b : ((x.ht : Int) == 0) = false := by rw [beq_eq_false_iff_ne]; omega
    clear h8 h0
    go_enter Tryz.func82, Tryz.ntmps82
    go_wp2_with fail
    refine (cK.out _).mono ?_
    rintro e w1 ⟨rfl, hb1⟩
    have hB1 := bcall (bal (Below.refl _ _)) hb1
    have hk1 := (Bk.new w #[.int .u64 (hd k : Nat), .int .i64 x.ht, .int .i64 (meas x.T).b, .int .i64 (meas x.T).r, .int .i64 (meas x.T).n, .string ⟨#[]⟩, .slice none 0 0] 76).ext hb1 (by simp)
    obtain ⟨c0, c1, c2, c3, c4, c5, c6, -⟩ := hk1.seven
    go_wp2_with fail
    refine (CS.out _ hB1).mono ?_
    rintro e w2 ⟨rfl, hb2⟩
    have hB2 := bcall hB1 hb2
    have hk2 := hk1.ext hb2 hk1.lt
    obtain ⟨c0, c1, c2, c3, c4, c5, c6, -⟩ := hk2.seven
    go_wp2_with fail
    refine wp_loop_rounds 1 ?_
    rw [rounds_succ]
    go_wp2_with fail
    go_ret
    exact ⟨rfl, hB2⟩

set_option maxHeartbeats 1000000 in
set_option maxRecDepth 100000 in
theorem check_leaf_kid (p : Addr) (T : List UInt8) (w : World) (h1 : 8 ≤ T.length) (h2 : T.length ≤ 16) :
    Calls Tryz.prog 82 #[.pointer (some p), (lfC T).v, .bool true, .int .i64 0] w fun e w' => e = .returned (.int .i64 0) ∧ Below w.heap.size w w' := by
  have cK := Lib.hid (fun W => kindL T (by omega) h2 W)
  have cB := fun W => bytes_flat 0 0 0 0 0 T W (by omega) (by omega)
  rw [Nat.zero_add] at cB
  have CB := Lib.hid cB
  rw [lfC_v]
  have h8i : (8 : Int) ≤ (T.length : Int) := by omega
  clear cB h1 h2
  go_enter Tryz.func82, Tryz.ntmps82
  go_wp2_with fail
  refine (cK.out _).mono ?_
  rintro e w1 ⟨rfl, hb1⟩
  have hB1 := bcall (bal (Below.refl _ _)) hb1
  have hk1 := (Bk.new w #[.int .u64 0, .int .i64 0, .int .i64 0, .int .i64 0, .int .i64 0, .string ⟨T.toArray⟩, .slice none 0 0] 76).ext hb1 (by simp)
  obtain ⟨c0, c1, c2, c3, c4, c5, c6, -⟩ := hk1.seven
  go_wp2_with fail
  refine (CB.out _).mono ?_
  rintro e w2 ⟨rfl, hb2⟩
  have hB2 := bcall hB1 hb2
  obtain ⟨c0, c1, c2, c3, c4, c5, c6, -⟩ := (hk1.ext hb2 hk1.lt).seven
  go_wp2_with fail
  refine wp_loop_rounds 1 ?_
  rw [rounds_succ]
  go_wp2_with fail
  go_ret
  exact ⟨rfl, hB2⟩

set_option maxHeartbeats 2000000 in
set_option maxRecDepth 100000 in
theorem check_inner_kid (A : AF) (G : Ar) (F : Nat → Prop) (h : Nat) (hh : h ≤ 12) (ap : Option Addr) (cap : Nat) (l : List TC) (Is : List PI) (w : World) (hA : ArM w A G) (hsl : Sl tcE w (.slice ap l.length cap) l) (h2 : 2 ≤ l.length) (h4 : l.length ≤ 4)
    (ih : ∀ (c : TC) (I : PI) (W : World), ArM W A G → KV G F W h c I → I ∈ Is → Calls Tryz.prog 82 #[.pointer (some ⟨A.ba, 0, none⟩), c.v, .bool true, .int .i64 h] W fun e w' => e = .returned (.int .i64 0) ∧ Below W.heap.size W w') (ha : All2 (KV G F w h) l Is) :
    Calls Tryz.prog 82 #[.pointer (some ⟨A.ba, 0, none⟩), (inC h ap l.length cap).v, .bool true, .int .i64 ((h : Int) + 1)] w fun e w' => e = .returned (.int .i64 0) ∧ Below w.heap.size w w' := by
  have cK := Lib.hid (fun W => kindI h l.length cap ap (by omega) h2 h4 W)
  have h0b : ((h : Int) + 1 == 0) = false := by rw [beq_eq_false_iff_ne]; omega
  have hhi : (h : Int) ≤ 12 := by omega
  have hl2 : (2 : Int) ≤ l.length := by omega
  have HA := Lib.hid hA; have HS := Lib.hid hsl; have HL := Lib.hid ha; have IH := Lib.hid ih
  rw [inC_v]
  clear hA hsl ha ih h2 hh
  go_enter Tryz.func82, Tryz.ntmps82
  go_wp2_with fail
  refine (cK.out _).mono ?_
  rintro e w1 ⟨rfl, hb1⟩
  have HB1 := Lib.hid (bcall (bal (Below.refl _ _)) hb1)
  have hk1 := (Bk.new w #[.int .u64 0, .int .i64 ((h : Int) + 1), .int .i64 0, .int .i64 0, .int .i64 0, .string ⟨#[]⟩, .slice ap l.length cap] 76).ext hb1 (by simp)
  obtain ⟨c0, c1, c2, c3, c4, c5, c6, -⟩ := hk1.seven
  have HK1 := Lib.hid hk1
  clear hb1 hk1
  go_wp2_with fail
  go_loopw [58] (fun i wr => ∃ k : Nat, k ≤ l.length ∧ i = .int .i64 k ∧ Hid (Below w1.heap.size w1 wr)) (fun i _ => l.length - (intOf i).toNat)
  case atStart => exact ⟨0, by omega, rfl, Lib.hid (Below.refl _ _)⟩
  case round =>
    obtain ⟨k, hk, rfl, hB⟩ := hrel
    have hsz1 := HB1.out.size
    have hsz := hB.out.size
    have hkl := HK1.out.lt
    have HBw := Lib.hid (HB1.out.trans (hB.out.mono hsz1))
    obtain ⟨c0, c1, c2, c3, c4, c5, c6, -⟩ := (HK1.out.ext hB.out hkl).seven
    have hkw : w.heap.size < wr.heap.size := by omega
    by_cases hlt : k < l.length
    · obtain ⟨b, off, cap', hv, hb, hcc⟩ := HS.out.tc hlt
      obtain ⟨rfl, rfl⟩ : ap = some ⟨b, off, none⟩ ∧ cap = cap' := by injection hv with e1 e2 e3; exact ⟨e1, e3⟩
      obtain ⟨e0, e1, e2, e3, e4, e5, e6⟩ := hcc wr HBw.out
      obtain ⟨I, hI, hp⟩ := HL.out.get (List.getElem?_eq_getElem hlt)
      have hki : (k : Int) < (l.length : Int) := by omega
      have cI := fun W (q : Below wr.heap.size wr W) => IH.out l[k] I W ((HA.out.ext HBw.out).ext q) ((hp.ext HBw.out).ext q) (List.mem_of_getElem? hI)
      unfold TC.v at cI
      have CI := Lib.hid cI
      clear hcc hv hI hp cI
      generalize l[k] = m at *
      obtain ⟨mo, mh, mb, mr, mn, mt, mp, ml, mc⟩ := m
      simp only at *
      go_wp2_with fail
      refine (CI.out _ (bal (Below.refl _ _))).mono ?_
      rintro e w2 ⟨rfl, hb2⟩
      go_wp2_with fail
      go_roundw
      case rel => exact ⟨k + 1, by omega, by go_num, Lib.hid (hB.out.trans ((bcall (bal (Below.refl _ _)) hb2).mono hsz))⟩
      case measure => simp [intOf]; omega
    · go_wp2
      go_ret
      exact ⟨rfl, HBw.out⟩

set_option maxHeartbeats 1000000 in
set_option maxRecDepth 100000 in
theorem check_kept_top (A : AF) (G : Ar) (h : Nat) (c : TC) (I : PI) (w : World) (hA : ArM w A G) (q : Kept G h c I) :
    Calls Tryz.prog 82 #[.pointer (some ⟨A.ba, 0, none⟩), c.v, .bool false, .int .i64 0] w fun e w' => e = .returned (.int .i64 0) ∧ Below w.heap.size w w' := by
  obtain ⟨k, x, hx, hh, rfl, rfl⟩ := q
  subst hh
  have hp := nd_pos hA.ok hx
  have hsz := hA.sz k x hx
  have cS := fun W (q : Below w.heap.size w W) => same_any A G k x W (hA.ext q) hx
  have cK := Lib.hid (fun W => kindK (hd k) x.ht (meas x.T).b (meas x.T).r (meas x.T).n (by unfold hd; omega) (by rw [meas_b]; omega) W)
  have cB := fun W => bytes_flat (hd k) x.ht (meas x.T).b (meas x.T).r (meas x.T).n [] W (by rw [meas_b]; omega) (by simp)
  rw [meas_b] at cB
  simp only [List.length_nil, Nat.add_zero] at cB
  rw [kpC_v, txt_of hx]
  unfold Ms.v at cS
  have CS := Lib.hid cS; have CB := Lib.hid cB
  clear cS cB hA hx hp hsz
  go_enter Tryz.func82, Tryz.ntmps82
  go_wp2_with fail
  refine (cK.out _).mono ?_
  rintro e w1 ⟨rfl, hb1⟩
  have hB1 := bcall (bal (Below.refl _ _)) hb1
  have hk1 := (Bk.new w #[.int .u64 (hd k : Nat), .int .i64 x.ht, .int .i64 (meas x.T).b, .int .i64 (meas x.T).r, .int .i64 (meas x.T).n, .string ⟨#[]⟩, .slice none 0 0] 76).ext hb1 (by simp)
  obtain ⟨c0, c1, c2, c3, c4, c5, c6, -⟩ := hk1.seven
  go_wp2_with fail
  refine (CS.out _ hB1).mono ?_
  rintro e w2 ⟨rfl, hb2⟩
  have hB2 := bcall hB1 hb2
  have hk2 := hk1.ext hb2 hk1.lt
  obtain ⟨c0, c1, c2, c3, c4, c5, c6, -⟩ := hk2.seven
  go_wp2_with fail
  refine wp_loop_rounds 1 ?_
  rw [rounds_succ]
  go_wp2_with fail
  go_ret
  exact ⟨rfl, hB2⟩

set_option maxHeartbeats 1000000 in
set_option maxRecDepth 100000 in
theorem check_leaf_top (p : Addr) (T : List UInt8) (w : World) (h1 : 1 ≤ T.length) (h2 : T.length ≤ 16) :
    Calls Tryz.prog 82 #[.pointer (some p), (lfC T).v, .bool false, .int .i64 0] w fun e w' => e = .returned (.int .i64 0) ∧ Below w.heap.size w w' := by
  have cK := Lib.hid (fun W => kindL T (by omega) h2 W)
  have cB := fun W => bytes_flat 0 0 0 0 0 T W (by omega) (by omega)
  rw [Nat.zero_add] at cB
  have CB := Lib.hid cB
  rw [lfC_v]
  have h8i : (1 : Int) ≤ (T.length : Int) := by omega
  clear cB h1 h2
  go_enter Tryz.func82, Tryz.ntmps82
  go_wp2_with fail
  refine (cK.out _).mono ?_
  rintro e w1 ⟨rfl, hb1⟩
  have hB1 := bcall (bal (Below.refl _ _)) hb1
  have hk1 := (Bk.new w #[.int .u64 0, .int .i64 0, .int .i64 0, .int .i64 0, .int .i64 0, .string ⟨T.toArray⟩, .slice none 0 0] 76).ext hb1 (by simp)
  obtain ⟨c0, c1, c2, c3, c4, c5, c6, -⟩ := hk1.seven
  go_wp2_with fail
  refine wp_loop_rounds 1 ?_
  rw [rounds_succ]
  go_wp2_with fail
  go_ret
  exact ⟨rfl, hB1⟩

set_option maxHeartbeats 2000000 in
set_option maxRecDepth 100000 in
theorem check_inner_top (A : AF) (G : Ar) (F : Nat → Prop) (h : Nat) (hh : h ≤ 12) (ap : Option Addr) (cap : Nat) (l : List TC) (Is : List PI) (w : World) (hA : ArM w A G) (hsl : Sl tcE w (.slice ap l.length cap) l) (h2 : 2 ≤ l.length) (h4 : l.length ≤ 4)
    (ih : ∀ (c : TC) (I : PI) (W : World), ArM W A G → KV G F W h c I → I ∈ Is → Calls Tryz.prog 82 #[.pointer (some ⟨A.ba, 0, none⟩), c.v, .bool true, .int .i64 h] W fun e w' => e = .returned (.int .i64 0) ∧ Below W.heap.size W w') (ha : All2 (KV G F w h) l Is) :
    Calls Tryz.prog 82 #[.pointer (some ⟨A.ba, 0, none⟩), (inC h ap l.length cap).v, .bool false, .int .i64 0] w fun e w' => e = .returned (.int .i64 0) ∧ Below w.heap.size w w' := by
  have cK := Lib.hid (fun W => kindI h l.length cap ap (by omega) h2 h4 W)
  have h0b : ((h : Int) + 1 == 0) = false := by rw [beq_eq_false_iff_ne]; omega
  have hhi : (h : Int) ≤ 12 := by omega
  have hl2 : (2 : Int) ≤ l.length := by omega
  have HA := Lib.hid hA; have HS := Lib.hid hsl; have HL := Lib.hid ha; have IH := Lib.hid ih
  rw [inC_v]
  clear hA hsl ha ih h2 hh
  go_enter Tryz.func82, Tryz.ntmps82
  go_wp2_with fail
  refine (cK.out _).mono ?_
  rintro e w1 ⟨rfl, hb1⟩
  have HB1 := Lib.hid (bcall (bal (Below.refl _ _)) hb1)
  have hk1 := (Bk.new w #[.int .u64 0, .int .i64 ((h : Int) + 1), .int .i64 0, .int .i64 0, .int .i64 0, .string ⟨#[]⟩, .slice ap l.length cap] 76).ext hb1 (by simp)
  obtain ⟨c0, c1, c2, c3, c4, c5, c6, -⟩ := hk1.seven
  have HK1 := Lib.hid hk1
  clear hb1 hk1
  go_wp2_with fail
  go_loopw [58] (fun i wr => ∃ k : Nat, k ≤ l.length ∧ i = .int .i64 k ∧ Hid (Below w1.heap.size w1 wr)) (fun i _ => l.length - (intOf i).toNat)
  case atStart => exact ⟨0, by omega, rfl, Lib.hid (Below.refl _ _)⟩
  case round =>
    obtain ⟨k, hk, rfl, hB⟩ := hrel
    have hsz1 := HB1.out.size
    have hsz := hB.out.size
    have hkl := HK1.out.lt
    have HBw := Lib.hid (HB1.out.trans (hB.out.mono hsz1))
    obtain ⟨c0, c1, c2, c3, c4, c5, c6, -⟩ := (HK1.out.ext hB.out hkl).seven
    have hkw : w.heap.size < wr.heap.size := by omega
    by_cases hlt : k < l.length
    · obtain ⟨b, off, cap', hv, hb, hcc⟩ := HS.out.tc hlt
      obtain ⟨rfl, rfl⟩ : ap = some ⟨b, off, none⟩ ∧ cap = cap' := by injection hv with e1 e2 e3; exact ⟨e1, e3⟩
      obtain ⟨e0, e1, e2, e3, e4, e5, e6⟩ := hcc wr HBw.out
      obtain ⟨I, hI, hp⟩ := HL.out.get (List.getElem?_eq_getElem hlt)
      have hki : (k : Int) < (l.length : Int) := by omega
      have cI := fun W (q : Below wr.heap.size wr W) => IH.out l[k] I W ((HA.out.ext HBw.out).ext q) ((hp.ext HBw.out).ext q) (List.mem_of_getElem? hI)
      unfold TC.v at cI
      have CI := Lib.hid cI
      clear hcc hv hI hp cI
      generalize l[k] = m at *
      obtain ⟨mo, mh, mb, mr, mn, mt, mp, ml, mc⟩ := m
      simp only at *
      go_wp2_with fail
      refine (CI.out _ (bal (Below.refl _ _))).mono ?_
      rintro e w2 ⟨rfl, hb2⟩
      go_wp2_with fail
      go_roundw
      case rel => exact ⟨k + 1, by omega, by go_num, Lib.hid (hB.out.trans ((bcall (bal (Below.refl _ _)) hb2).mono hsz))⟩
      case measure => simp [intOf]; omega
    · go_wp2
      go_ret
      exact ⟨rfl, HBw.out⟩

theorem mem_len {Is : List PI} {I : PI} (h : I ∈ Is) : I.T.length ≤ lenT Is := flat_len_mem (List.mem_map_of_mem h)

theorem check_kid (A : AF) (G : Ar) (F : Nat → Prop) : ∀ (h : Nat) (c : TC) (I : PI) (w : World), ArM w A G → KV G F w h c I → I.T.length ≤ 65536 →
    Calls Tryz.prog 82 #[.pointer (some ⟨A.ba, 0, none⟩), c.v, .bool true, .int .i64 h] w fun e w' => e = .returned (.int .i64 0) ∧ Below w.heap.size w w' := by
  intro h
  induction h with
  | zero =>
    intro c I w hA q hT
    rcases PV.zero'.1 q.1 with q' | ⟨rfl, h1, h2, -⟩
    · exact check_kept_kid A G 0 c I w hA q' q.2
    · exact check_leaf_kid _ _ w (q.2 rfl) h2
  | succ h ih =>
    intro c I w hA q hT
    have h13 := q.1.ht_le hA.ok hT
    rcases PV.succ.1 q.1 with q' | ⟨ap, cap, l, Is, rfl, hsl, hf, h2, h4, ha, rfl⟩
    · exact check_kept_kid A G (h + 1) c I w hA q' q.2
    · exact check_inner_kid A G F h (by omega) ap cap l Is w hA hsl h2 h4 (fun c I W a b d => ih c I W a b (Nat.le_trans (mem_len d) hT)) ha

theorem check_top (A : AF) (G : Ar) (F : Nat → Prop) (h : Nat) (c : TC) (I : PI) (w : World) (hA : ArM w A G) (q : PV G F w h c I) (hT : I.T.length ≤ 65536) :
    Calls Tryz.prog 82 #[.pointer (some ⟨A.ba, 0, none⟩), c.v, .bool false, .int .i64 0] w fun e w' => e = .returned (.int .i64 0) ∧ Below w.heap.size w w' := by
  cases h with
  | zero =>
    rcases PV.zero'.1 q with q' | ⟨rfl, h1, h2, -⟩
    · exact check_kept_top A G 0 c I w hA q'
    · exact check_leaf_top _ _ w h1 h2
  | succ h =>
    have h13 := q.ht_le hA.ok hT
    rcases PV.succ.1 q with q' | ⟨ap, cap, l, Is, rfl, hsl, hf, h2, h4, ha, rfl⟩
    · exact check_kept_top A G (h + 1) c I w hA q'
    · exact check_inner_top A G F h (by omega) ap cap l Is w hA hsl h2 h4 (fun c I W a b d => check_kid A G F h c I W a b (Nat.le_trans (mem_len d) hT)) ha

/-- kind at a plan that is not empty -/
theorem kind_pv {G : Ar} (hG : ArOK G) {F : Nat → Prop} {w : World} {h : Nat} {c : TC} {I : PI} (q : PV G F w h c I) (hT : I.T.length ≤ 65536) (W : World) : ∃ n : Nat, 2 ≤ n ∧ n ≤ 4 ∧ (I.n = 0 → n = 2) ∧ (n = 2 → I.n = 0) ∧ Calls Tryz.prog 81 #[c.v] W fun e w' => e = .returned (.int .i64 n) ∧ Below W.heap.size W w' := by
  have hkept : ∀ h, Kept G h c I → ∃ n : Nat, 2 ≤ n ∧ n ≤ 4 ∧ (I.n = 0 → n = 2) ∧ (n = 2 → I.n = 0) ∧ Calls Tryz.prog 81 #[c.v] W fun e w' => e = .returned (.int .i64 n) ∧ Below W.heap.size W w' := by
    rintro h ⟨k, x, hx, hh, rfl, rfl⟩
    refine ⟨2, by omega, by omega, fun _ => rfl, fun _ => rfl, ?_⟩
    rw [kpC_v, txt_of hx]
    exact kindK (hd k) h (meas x.T).b (meas x.T).r (meas x.T).n (by unfold hd; omega) (by rw [meas_b]; exact nd_pos hG hx) W
  cases h with
  | zero =>
    rcases PV.zero'.1 q with q' | ⟨rfl, h1, h2, -, hn⟩
    · exact hkept _ q'
    · exact ⟨3, by omega, by omega, fun q => by omega, fun q => by omega, by rw [lfC_v]; exact kindL _ h1 h2 W⟩
  | succ h =>
    have h13 := q.ht_le hG hT
    rcases PV.succ.1 q with q' | ⟨ap, cap, l, Is, rfl, hsl, hf, h2, h4, ha, rfl⟩
    · exact hkept _ q'
    · exact ⟨4, by omega, by omega, fun q => by simp [sumPI] at q, fun q => by omega, by rw [inC_v]; exact kindI h l.length cap ap (by omega) h2 h4 W⟩

set_option maxHeartbeats 1000000 in
set_option maxRecDepth 100000 in
theorem Check_any (A : AF) (G : Ar) (F : Nat → Prop) (c : TC) (I : PI) (w : World) (hA : ArM w A G) (q : PE G F w c I) (hT : I.T.length ≤ 65536) :
    Calls Tryz.prog 63 #[.pointer (some ⟨A.ba, 0, none⟩), c.v] w fun e w' => e = .returned (.int .i64 0) ∧ Below w.heap.size w w' := by
  rcases q with ⟨rfl, rfl⟩ | ⟨h, q⟩
  · have cK := Lib.hid kindE
    rw [zero_v]
    clear hT hA
    go_enter Tryz.func63, Tryz.ntmps63
    go_wp2_with fail
    refine (cK.out _).mono ?_
    rintro e w1 ⟨rfl, hb1⟩
    go_wp2_with fail
    go_ret
    exact ⟨rfl, bcall (bal (Below.refl _ _)) hb1⟩
  · have cK := fun W => kind_pv hA.ok q hT W
    have cC := fun W (p : Below w.heap.size w W) => check_top A G F h c I W (hA.ext p) (q.ext p) hT
    have cB := fun W (p : Below w.heap.size w W) => bytes_any hA.ok h c I W (q.ext p) (by omega)
    have hTi : (I.T.length : Int) ≤ 65536 := by omega
    unfold TC.v at *
    have CK := Lib.hid cK; have CC := Lib.hid cC; have CB := Lib.hid cB
    clear cK cC cB q hA hT
    obtain ⟨mo, mh, mb, mr, mn, mt, mp, ml, mc⟩ := c
    simp only at *
    obtain ⟨n, n2, n4, -, -, ck⟩ := CK.out (w.alloc (.cells #[.int .u64 mo, .int .i64 mh, .int .i64 mb, .int .i64 mr, .int .i64 mn, .string ⟨mt.toArray⟩, .slice mp ml mc] 76))
    have hn1 : ((n : Int) == 1) = false := by rw [beq_eq_false_iff_ne]; omega
    have CK2 := Lib.hid ck
    clear ck CK n2 n4
    go_enter Tryz.func63, Tryz.ntmps63
    go_wp2_with fail
    refine CK2.out.mono ?_
    rintro e w1 ⟨rfl, hb1⟩
    have hB1 := bcall (bal (Below.refl _ _)) hb1
    have hk1 := (Bk.new w #[.int .u64 mo, .int .i64 mh, .int .i64 mb, .int .i64 mr, .int .i64 mn, .string ⟨mt.toArray⟩, .slice mp ml mc] 76).ext hb1 (by simp)
    obtain ⟨c0, c1, c2, c3, c4, c5, c6, -⟩ := hk1.seven
    go_wp2_with fail
    refine (CC.out _ hB1).mono ?_
    rintro e w2 ⟨rfl, hb2⟩
    have hB2 := bcall hB1 hb2
    obtain ⟨c0, c1, c2, c3, c4, c5, c6, -⟩ := (hk1.ext hb2 hk1.lt).seven
    go_wp2_with fail
    refine (CB.out _ hB2).mono ?_
    rintro e w3 ⟨rfl, hb3⟩
    go_wp2_with fail
    go_ret
    exact ⟨rfl, bcall hB2 hb3⟩

end Go.Proofs.YtclmjnobacepjaaGreat
