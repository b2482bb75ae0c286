/- plan.own. -/
import Derived.Test.YtclmjnobacepjaaGreatTCut2
namespace Go.Proofs.YtclmjnobacepjaaGreat
open Go.RowKit

theorem flat_set : ∀ (L : List TC) (k : Nat) (x : TC), k < L.length → (((((((tcE.flat L).set (k * 7) (.int .u64 x.old)).set (k * 7 + 1) (.int .i64 x.ht)).set (k * 7 + 2) (.int .i64 x.b)).set (k * 7 + 3) (.int .i64 x.r)).set (k * 7 + 4) (.int .i64 x.n)).set (k * 7 + 5) (.string ⟨x.t.toArray⟩)).set (k * 7 + 6) (.slice x.kp x.kl x.kc) = tcE.flat (L.set k x) := by
  intro L
  induction L with
  | nil => intro k x h; simp at h
  | cons a L ih =>
    intro k x h
    have e : ∀ (a : TC) L, tcE.flat (a :: L) = tcE.cells a ++ tcE.flat L := fun a L => by simp [Enc.flat]
    cases k with
    | zero =>
      rw [List.set_cons_zero, e, e]
      rfl
    | succ k =>
      have h7 : (tcE.cells a).length = 7 := rfl
      have hk := ih k x (by simpa using h)
      rw [e, List.set_cons_succ, e, ← hk]
      have s : ∀ j u (M : List Value), (tcE.cells a ++ M).set ((k + 1) * 7 + j) u = tcE.cells a ++ M.set (k * 7 + j) u := fun j u M => by
        rw [List.set_append_right _ _ (by omega)]
        congr 2
        omega
      have s0 := fun u M => s 0 u M
      simp only [Nat.add_zero] at s0
      rw [s0, s, s, s, s, s, s]
theorem bk_row {w : World} {b : Nat} {L : List TC} {t : TypeId} (h : Bk w b (tcE.flat L).toArray t) (k : Nat) (x : TC) (hk : k < L.length) : Bk (((((((w.setCell ⟨b, k * 7, none⟩ (.int .u64 x.old)).setCell ⟨b, k * 7 + 1, none⟩ (.int .i64 x.ht)).setCell ⟨b, k * 7 + 2, none⟩ (.int .i64 x.b)).setCell ⟨b, k * 7 + 3, none⟩ (.int .i64 x.r)).setCell ⟨b, k * 7 + 4, none⟩ (.int .i64 x.n)).setCell ⟨b, k * 7 + 5, none⟩ (.string ⟨x.t.toArray⟩)).setCell ⟨b, k * 7 + 6, none⟩ (.slice x.kp x.kl x.kc)) b (tcE.flat (L.set k x)).toArray t := by
  have := ((((((h.set (k * 7) (.int .u64 x.old)).set (k * 7 + 1) (.int .i64 x.ht)).set (k * 7 + 2) (.int .i64 x.b)).set (k * 7 + 3) (.int .i64 x.r)).set (k * 7 + 4) (.int .i64 x.n)).set (k * 7 + 5) (.string ⟨x.t.toArray⟩)).set (k * 7 + 6) (.slice x.kp x.kl x.kc)
  simp only [List.setIfInBounds_toArray] at this
  rw [flat_set L k x hk] at this
  exact this
theorem row_cells {w : World} {b : Nat} {L : List TC} {t : TypeId} (h : Bk w b (tcE.flat L).toArray t) {k : Nat} {x : TC} (hx : L[k]? = some x) :
    (∀ j, w.frozen? ⟨b, j, none⟩ = false) ∧ w.cell? ⟨b, k * 7, none⟩ = some (.int .u64 x.old) ∧ w.cell? ⟨b, k * 7 + 1, none⟩ = some (.int .i64 x.ht) ∧ w.cell? ⟨b, k * 7 + 2, none⟩ = some (.int .i64 x.b) ∧ w.cell? ⟨b, k * 7 + 3, none⟩ = some (.int .i64 x.r) ∧ w.cell? ⟨b, k * 7 + 4, none⟩ = some (.int .i64 x.n) ∧ w.cell? ⟨b, k * 7 + 5, none⟩ = some (.string ⟨x.t.toArray⟩) ∧ w.cell? ⟨b, k * 7 + 6, none⟩ = some (.slice x.kp x.kl x.kc) := by
  have hc : ∀ j u, (tcE.cells x)[j]? = some u → w.cell? ⟨b, k * 7 + j, none⟩ = some u := fun j u hu => by
    rw [h.cell, List.getElem?_toArray]
    exact tcE.flat_at L _ _ _ _ hx hu
  exact ⟨fun j => h.free j, by simpa using hc 0 _ rfl, hc 1 _ rfl, hc 2 _ rfl, hc 3 _ rfl, hc 4 _ rfl, hc 5 _ rfl, hc 6 _ rfl⟩
theorem bk_sl {w : World} {b : Nat} {L : List TC} (h : Bk w b (tcE.flat L).toArray 76) (hl : L.length ≤ 1000000) : Sl tcE w (.slice (some ⟨b, 0, none⟩) L.length L.length) L := by
  refine ⟨_, _, rfl, Nat.le_refl _, by unfold maxLen; omega, fun _ => ⟨b, 0, rfl, h.lt, fun i j x u hx hu => ?_⟩⟩
  rw [Nat.zero_add, h.cell, List.getElem?_toArray]
  exact tcE.flat_at L _ _ _ _ hx hu
set_option maxRecDepth 100000 in
theorem hmkT (W : World) (n : Nat) (h2 : 2 ≤ n) (h4 : n ≤ 4) : (Instr.makeSlice 74 (.int .i64 n) (.int .i64 n)).run Tryz.prog W = .ok (.slice (some ⟨W.heap.size, 0, none⟩) n n) (W.alloc (.cells (tcE.flat (List.replicate n TC.zero)).toArray 76)) := by
  obtain ⟨i, hi, hz⟩ : ∃ i, Tryz.prog.info? 76 = some i ∧ (i.zero, i.size, i.bytes) = (some (.agg #[.int .u64 0, .int .i64 0, .int .i64 0, .int .i64 0, .int .i64 0, .string ⟨#[]⟩, .slice none 0 0]), 7, 80) := by
    have := infoTc
    obtain ⟨i, hi⟩ : ∃ i, Tryz.prog.info? 76 = some i := by
      cases h : Tryz.prog.info? 76 with
      | none => rw [h] at this; simp at this
      | some i => exact ⟨i, rfl⟩
    rw [hi] at this
    exact ⟨i, hi, Option.some.inj this⟩
  obtain ⟨hz0, hz1⟩ := Prod.mk.inj hz
  obtain ⟨hz1, hz2⟩ := Prod.mk.inj hz1
  have := run_makeSlice (P := Tryz.prog) W 74 76 i _ Tryz.underlying74 hi hz0 .i64 .i64 n n (by omega) (Int.le_refl _) (by rw [hz1]; simp; omega) (by rw [hz2]; omega) (by omega)
  rw [this, hz1]
  simp only [Int.toNat_natCast]
  congr 3
  rcases (show n = 2 ∨ n = 3 ∨ n = 4 by omega) with rfl | rfl | rfl <;> kernel_rfl

end Go.Proofs.YtclmjnobacepjaaGreat

/- plan.own: what it returns. -/
namespace Go.Proofs.YtclmjnobacepjaaGreat
open Go.RowKit

def FG (B : Nat) : Nat → Prop := fun g => B ≤ g
/-- while own copies the kids -/
structure OwnS (G : Ar) (h : Nat) (w : World) (X : Array Value) (n : Nat) (Is : List PI) (k : Nat) (done : List TC) (W : World) : Prop where
  below : Below w.heap.size w W
  x : Bk W w.heap.size X 76
  r : Bk W (w.heap.size + 1) #[.int .u64 0, .int .i64 0, .int .i64 0, .int .i64 0, .int .i64 0, .string ⟨#[]⟩, .slice none 0 0] 76
  row : Bk W (w.heap.size + 2) (tcE.flat (done ++ List.replicate (n - k) TC.zero)).toArray 76
  len : done.length = k
  kv : All2 (KV G (FG (w.heap.size + 3)) W h) done (Is.take k)
theorem OwnS.ext {G : Ar} {h : Nat} {w : World} {X : Array Value} {n : Nat} {Is : List PI} {k : Nat} {done : List TC} {W W' : World} (hb : Below W.heap.size W W') (s : OwnS G h w X n Is k done W) : OwnS G h w X n Is k done W' :=
  ⟨bcall s.1 hb, s.2.ext hb s.2.lt, s.3.ext hb s.3.lt, s.4.ext hb s.4.lt, s.5, KVs.ext s.6 hb⟩

/-- a member of a row is written -/
def rowset (w : World) (b k : Nat) (c : TC) : World := (((((((w.setCell ⟨b, k * 7, none⟩ (.int .u64 c.old)).setCell ⟨b, k * 7 + 1, none⟩ (.int .i64 c.ht)).setCell ⟨b, k * 7 + 2, none⟩ (.int .i64 c.b)).setCell ⟨b, k * 7 + 3, none⟩ (.int .i64 c.r)).setCell ⟨b, k * 7 + 4, none⟩ (.int .i64 c.n)).setCell ⟨b, k * 7 + 5, none⟩ (.string ⟨c.t.toArray⟩)).setCell ⟨b, k * 7 + 6, none⟩ (.slice c.kp c.kl c.kc))
theorem rowset_size {w : World} {b k : Nat} {c : TC} : (rowset w b k c).heap.size = w.heap.size := by simp [rowset, World.setCell]
theorem rowset_other {w : World} {b k g : Nat} {c : TC} (h : g ≠ b) : (rowset w b k c).heap[g]? = w.heap[g]? := by
  unfold rowset
  repeat (rw [Below.heap_setCell _ _ _ _ h])
theorem rowset_below {w W : World} {b k : Nat} {c : TC} (h : Below w.heap.size w W) (hb : w.heap.size ≤ b) : Below w.heap.size w (rowset W b k c) :=
  bset (bset (bset (bset (bset (bset (bset h hb) hb) hb) hb) hb) hb) hb
theorem OwnS.store {G : Ar} {h : Nat} {w : World} {X : Array Value} {n : Nat} {Is : List PI} {k : Nat} {done : List TC} {W : World} (s : OwnS G h w X n Is k done W) {c : TC} {J : PI} (q : PV G (FG (w.heap.size + 3)) W h c J) (h8 : h = 0 → 8 ≤ J.T.length) (hJ : Is[k]? = some J) (hk : k < n) : OwnS G h w X n Is (k + 1) (done ++ [c]) (rowset W (w.heap.size + 2) k c) := by
  have hkp : ∀ c' I, PV G (FG (w.heap.size + 3)) W h c' I → PV G (FG (w.heap.size + 3)) (rowset W (w.heap.size + 2) k c) h c' I := fun c' I p =>
    p.keep (Nat.le_of_eq rowset_size.symm) fun g hg _ => rowset_other (by unfold FG at hg; omega)
  refine ⟨rowset_below s.below (by omega), (rowset_other (by omega)).trans s.x, (rowset_other (by omega)).trans s.r, ?_, by rw [List.length_append, s.len]; rfl, ?_⟩
  · have := bk_row s.row k c (by rw [List.length_append, s.len, List.length_replicate]; omega)
    rw [List.set_append_right _ _ (by rw [s.len]; exact Nat.le_refl _), s.len, Nat.sub_self, show n - k = (n - (k + 1)) + 1 by omega, List.replicate_succ, List.set_cons_zero] at this
    rw [List.append_assoc]
    exact this
  · rw [List.take_add_one, hJ]
    exact (s.kv.imp fun c I _ _ p => ⟨hkp c I p.1, p.2⟩).append ⟨⟨hkp c J q, h8⟩, trivial⟩
set_option maxHeartbeats 1000000 in
set_option maxRecDepth 100000 in
theorem own_flat (o h b r n : Nat) (T : List UInt8) (w : World) :
    Calls Tryz.prog 71 #[.agg #[.int .u64 o, .int .i64 h, .int .i64 b, .int .i64 r, .int .i64 n, .string ⟨T.toArray⟩, .slice none 0 0]] w fun e w' => e = .returned (.agg #[.int .u64 o, .int .i64 h, .int .i64 b, .int .i64 r, .int .i64 n, .string ⟨T.toArray⟩, .slice none 0 0]) ∧ Below w.heap.size w w' := by
  go_enter Tryz.func71, Tryz.ntmps71
  go_wp2_with fail
  refine bodyPost_ret (v := .agg #[.int .u64 o, .int .i64 h, .int .i64 b, .int .i64 r, .int .i64 n, .string ⟨T.toArray⟩, .slice none 0 0]) (by simp [results, Tryz.results71, go_sem]) rfl ⟨rfl, ?_⟩
  first
    | exact bal (bal (Below.refl _ _))
    | (trace_state; fail)

def OwnSays (G : Ar) (h : Nat) : Prop := ∀ (c : TC) (I : PI) (w : World), PV G FT w h c I → I.T.length ≤ 65536 →
    Calls Tryz.prog 71 #[c.v] w fun e w' => ∃ c', e = .returned c'.v ∧ PV G (FG w.heap.size) w' h c' I ∧ Below w.heap.size w w'

set_option maxHeartbeats 2000000 in
set_option maxRecDepth 100000 in
theorem own_in {G : Ar} (h : Nat) (h14 : (h : Int) ≤ 14) (IH : OwnSays G h) (ap : Option Addr) (cap : Nat) (l : List TC) (Is : List PI) (w : World) (hsl : Sl tcE w (.slice ap l.length cap) l) (h2 : 2 ≤ l.length) (h4 : l.length ≤ 4) (ha : All2 (KV G FT w h) l Is) (hT : (sumPI Is).T.length ≤ 65536) :
    Calls Tryz.prog 71 #[(inC h ap l.length cap).v] w fun e w' => ∃ c', e = .returned c'.v ∧ PV G (FG w.heap.size) w' (h + 1) c' (sumPI Is) ∧ Below w.heap.size w w' := by
  rw [inC_v]
  have HA := Lib.hid ha; have HT := Lib.hid hT; have HS := Lib.hid hsl
  have hlen := Lib.hid ha.len
  obtain ⟨b, off, cap', hv, hb, -⟩ := hsl.tc (k := 0) (by omega)
  obtain ⟨rfl, rfl⟩ : ap = some ⟨b, off, none⟩ ∧ cap = cap' := by injection hv with e1 e2 e3; exact ⟨e1, e3⟩
  have n0 : ((l.length : Int) == 0) = false := by rw [beq_eq_false_iff_ne]; omega
  have hmk := fun W => hmkT W l.length h2 h4
  have l4i : (l.length : Int) ≤ 4 := by omega
  have cIH := IH
  unfold OwnSays TC.v at cIH
  have CI := Lib.hid cIH
  clear ha hT hv IH cIH hsl
  go_enter Tryz.func71, Tryz.ntmps71
  go_wp2_with fail
  go_loopw [19] (fun i wr => ∃ (k : Nat) (done : List TC), k ≤ l.length ∧ i = .int .i64 k ∧ Hid (OwnS G h w #[.int .u64 0, .int .i64 ((h : Int) + 1), .int .i64 0, .int .i64 0, .int .i64 0, .string ⟨#[]⟩, .slice (some ⟨b, off, none⟩) l.length cap] l.length Is k done wr)) (fun i _ => l.length - (intOf i).toNat)
  case atStart =>
    refine ⟨0, [], by omega, rfl, Lib.hid ⟨?_, ?_, ?_, ?_, rfl, trivial⟩⟩
    · exact bal (bal (bal (Below.refl _ _)))
    · exact (Bk.new _ _ _).alloc.alloc
    · exact (bal2' w).alloc
    · have := Bk.new ((w.alloc (.cells #[.int .u64 0, .int .i64 ((h : Int) + 1), .int .i64 0, .int .i64 0, .int .i64 0, .string ⟨#[]⟩, .slice (some ⟨b, off, none⟩) l.length cap] 76)).alloc (.cells #[.int .u64 0, .int .i64 0, .int .i64 0, .int .i64 0, .int .i64 0, .string ⟨#[]⟩, .slice none 0 0] 76)) (tcE.flat (List.replicate l.length TC.zero)).toArray 76
      rw [World.size_alloc, World.size_alloc] at this
      exact this
  case round =>
    obtain ⟨k, done, hk, rfl, hO⟩ := hrel
    by_cases hlt : k < l.length
    · obtain ⟨b', off', cap', hv, -, hcc⟩ := HS.out.tc (k := k) hlt
      obtain ⟨rfl, rfl, rfl⟩ : b = b' ∧ off = off' ∧ cap = cap' := by injection hv with e1 e2 e3; injection e1 with e1; injection e1 with e4 e5; exact ⟨e4, e5, e3⟩
      obtain ⟨J, hJ, hP⟩ := HA.out.get (List.getElem?_eq_getElem hlt)
      obtain ⟨q0, q1, q2, q3, q4, q5, q6⟩ := hcc wr hO.out.below
      have HJ := Lib.hid hJ; have HP := Lib.hid hP
      have hJT : J.T.length ≤ 65536 := by
        have := (lenT_at hJ).1
        have h3 : (sumPI Is).T.length = lenT Is := rfl
        have := HT.out; omega
      have cik := fun W (p : Below w.heap.size w W) => CI.out l[k] J W (hP.1.ext p) hJT
      have CIK := Lib.hid cik
      have hki : (k : Int) < (l.length : Int) := by omega
      have hk4 : (k : Int) < 4 := by omega
      have hbw : b < wr.heap.size := by have := hO.out.below.size; omega
      have hrw : w.heap.size + 2 < wr.heap.size := hO.out.row.lt
      clear hJ hP cik hcc hv hJT
      generalize l[k] = m at *
      go_wp2_with fail
      have HBx := Lib.hid (show Below wr.heap.size wr (wr.alloc (.cells #[.int .u64 m.old, .int .i64 m.ht, .int .i64 m.b, .int .i64 m.r, .int .i64 m.n, .string ⟨m.t.toArray⟩, .slice m.kp m.kl m.kc] 76)) from bal (Below.refl _ _))
      refine (CIK.out _ (bcall hO.out.below HBx.out)).mono ?_
      rintro e w8 ⟨c8, rfl, hp8, hb8⟩
      have hO8 := (hO.out.ext HBx.out).ext hb8
      have HQ := Lib.hid (hp8.mono (F' := FG (w.heap.size + 3)) (fun g hg => Nat.le_trans (show w.heap.size + 3 ≤ (wr.alloc (.cells #[.int .u64 m.old, .int .i64 m.ht, .int .i64 m.b, .int .i64 m.r, .int .i64 m.n, .string ⟨m.t.toArray⟩, .slice m.kp m.kl m.kc] 76)).heap.size by simp; omega) hg))
      have H8 := Lib.hid hO8
      obtain ⟨ff, z0, z1, z2, z3, z4, z5, z6⟩ := row_cells hO8.row (k := k) (x := TC.zero) (by
        rw [List.getElem?_append_right (by rw [hO8.len]; exact Nat.le_refl _), hO8.len, Nat.sub_self, show l.length - k = (l.length - (k + 1)) + 1 by omega, List.replicate_succ]; rfl)
      have f0 := ff (k * 7); have f1 := ff (k * 7 + 1); have f2 := ff (k * 7 + 2); have f3 := ff (k * 7 + 3); have f4 := ff (k * 7 + 4); have f5 := ff (k * 7 + 5); have f6 := ff (k * 7 + 6)
      have hrw8 : w.heap.size + 2 < w8.heap.size := hO8.row.lt
      clear hO hO8 hp8 hb8 ff q0 q1 q2 q3 q4 q5 q6
      go_wp2_with fail
      go_roundw
      case rel => exact ⟨k + 1, done ++ [c8], by omega, by go_num, Lib.hid (H8.out.store HQ.out HP.out.2 HJ.out hlt)⟩
      case measure => simp [intOf]; omega
    · obtain rfl : k = l.length := by omega
      obtain ⟨x0, x1, x2, x3, x4, x5, x6, e0, e1, e2, e3, e4, e5, e6⟩ := hO.out.x.seven
      obtain ⟨r0, r1, r2, r3, r4, r5, r6, f0, f1, f2, f3, f4, f5, f6⟩ := hO.out.r.seven
      have hz0 : w.heap.size < wr.heap.size := hO.out.x.lt
      have hz1 : w.heap.size + 1 < wr.heap.size := hO.out.r.lt
      go_wp2_with fail
      refine bodyPost_ret (v := .agg #[.int .u64 0, .int .i64 ((h : Int) + 1), .int .i64 0, .int .i64 0, .int .i64 0, .string ⟨#[]⟩, .slice (some ⟨w.heap.size + 2, 0, none⟩) l.length l.length]) (by simp [results, Tryz.results71, go_sem, r0, r1, r2, r3, r4, r5, r6]) rfl ⟨inC h (some ⟨w.heap.size + 2, 0, none⟩) l.length l.length, rfl, ?_⟩
      have hd : done.length = l.length := hO.out.len
      have hF : ∀ c I, PV G (FG (w.heap.size + 3)) wr h c I → PV G (FG w.heap.size) (wset7 (wr.setCell ⟨w.heap.size, 6, none⟩ (.slice (some ⟨w.heap.size + 2, 0, none⟩) l.length l.length)) (w.heap.size + 1) (.int .u64 0) (.int .i64 ((h : Int) + 1)) (.int .i64 0) (.int .i64 0) (.int .i64 0) (.string ⟨#[]⟩) (.slice (some ⟨w.heap.size + 2, 0, none⟩) l.length l.length)) h c I := fun c I p =>
        (p.keep (Nat.le_of_eq (by rw [wset7_size]; simp [World.setCell])) fun g hg _ => (by
          have : w.heap.size + 3 ≤ g := hg
          rw [wset7_other (by omega), Below.heap_setCell _ _ _ _ (by show g ≠ w.heap.size; omega)])).mono fun g hg => by
            have : w.heap.size + 3 ≤ g := hg
            show w.heap.size ≤ g
            omega
      have hB : Bk (wset7 (wr.setCell ⟨w.heap.size, 6, none⟩ (.slice (some ⟨w.heap.size + 2, 0, none⟩) l.length l.length)) (w.heap.size + 1) (.int .u64 0) (.int .i64 ((h : Int) + 1)) (.int .i64 0) (.int .i64 0) (.int .i64 0) (.string ⟨#[]⟩) (.slice (some ⟨w.heap.size + 2, 0, none⟩) l.length l.length)) (w.heap.size + 2) (tcE.flat done).toArray 76 := by
        have := hO.out.row
        rw [Nat.sub_self, List.replicate_zero, List.append_nil] at this
        exact (wset7_other (by omega)).trans ((Below.heap_setCell _ _ _ _ (by show w.heap.size + 2 ≠ w.heap.size; omega)).trans this)
      have hS := bk_sl hB (by omega)
      have hall := hO.out.kv
      rw [List.take_of_length_le (by have := hlen.out; omega)] at hall
      rw [← hd] at hF hB hS ⊢
      refine ⟨PV.succ.2 (.inr ⟨_, _, done, Is, rfl, hS, fun g hg => ?_, by omega, by omega, hall.imp fun c I _ _ p => ⟨hF c I p.1, p.2⟩, rfl⟩), bset7 (bset hO.out.below (Nat.le_refl _)) (by omega)⟩
      have := Option.some.inj hg
      subst this
      show w.heap.size ≤ w.heap.size + 2
      omega
theorem own_pv {G : Ar} (hG : ArOK G) : ∀ h, OwnSays G h := by
  intro h
  induction h with
  | zero =>
    intro c I w q hT
    rcases PV.zero'.1 q with ⟨k, x, hx, hh, rfl, rfl⟩ | ⟨e, h1, h2, h3, h4⟩
    · exact (own_flat _ _ _ _ _ _ w).mono fun e w' he => ⟨_, he.1, .inl ⟨k, x, hx, hh, rfl, rfl⟩, he.2⟩
    · rw [e]
      exact (own_flat _ _ _ _ _ _ w).mono fun e w' he => ⟨lfC I.T, he.1, .inr ⟨rfl, h1, h2, h3, h4⟩, he.2⟩
  | succ h ih =>
    intro c I w q hT
    have h13 := q.ht_le hG hT
    rcases PV.succ.1 q with ⟨k, x, hx, hh, rfl, rfl⟩ | ⟨A, cap, l, Is, rfl, hsl, _, h2, h4, ha, rfl⟩
    · exact (own_flat _ _ _ _ _ _ w).mono fun e w' he => ⟨_, he.1, PV.of_kept ⟨k, x, hx, hh, rfl, rfl⟩, he.2⟩
    · exact own_in h (by omega) ih A cap l Is w hsl h2 h4 ha hT
theorem own_any {G : Ar} (hG : ArOK G) (c : TC) (I : PI) (w : World) (q : PE G FT w c I) (hT : I.T.length ≤ 65536) :
    Calls Tryz.prog 71 #[c.v] w fun e w' => ∃ c', e = .returned c'.v ∧ PE G (FG w.heap.size) w' c' I ∧ Below w.heap.size w w' := by
  rcases q with ⟨rfl, rfl⟩ | ⟨h, q⟩
  · exact (own_flat 0 0 0 0 0 [] w).mono fun e w' he => ⟨TC.zero, he.1, .inl ⟨rfl, rfl⟩, he.2⟩
  · exact (own_pv hG h c I w q hT).mono fun e w' ⟨c', he, hp, hb⟩ => ⟨c', he, .inr ⟨h, hp⟩, hb⟩

end Go.Proofs.YtclmjnobacepjaaGreat

/- plan.Build. -/
namespace Go.Proofs.YtclmjnobacepjaaGreat
open Go.RowKit

/-- a plan of new nodes alone -/
def NewV (G : Ar) (w : World) (s : List UInt8) (c : TC) (I : PI) : Prop := PE G FT w c I ∧ I.T = s ∧ I.K = []
/-- the row of plans that Build has -/
structure BldS (G : Ar) (w : World) (s : List UInt8) (h : Nat) (l : List TC) (Is : List PI) (v : Value) (W : World) : Prop where
  sl : Sl tcE W v l
  pv : All2 (PV G FT W h) l Is
  big : 2 ≤ l.length → h = 0 → ∀ I ∈ Is, 8 ≤ I.T.length
  txt : (Is.map PI.T).flatten = s
  new : ∀ I ∈ Is, I.K = []
  below : Below w.heap.size w W
  r : Bk W w.heap.size #[.int .u64 0, .int .i64 0, .int .i64 0, .int .i64 0, .int .i64 0, .string ⟨#[]⟩, .slice none 0 0] 76
  hl : l.length ≤ 65536
/-- .. and the next row -/
def NB (v : Value) : Nat → Prop := fun g => v.ownBlock ≠ some g
structure BldN (G : Ar) (w5 : World) (s : List UInt8) (h : Nat) (r : List TC) (R : List PI) (row : Value) (l : List TC) (Is : List PI) (next : Value) (W : World) : Prop where
  sl : Sl tcE w5 row r
  kv : All2 (KV G (fun g => g < w5.heap.size) w5 h) r R
  ow : Ow tcE W w5.heap.size 76 next l
  pv : All2 (PV G (NB next) W (h + 1)) l Is
  txt : (Is.map PI.T).flatten ++ (R.map PI.T).flatten = s
  newR : ∀ I ∈ R, I.K = []
  new : ∀ I ∈ Is, I.K = []
  b5 : Below w5.heap.size w5 W

theorem group_le1 {G : Ar} {w : World} {s : List UInt8} {h : Nat} {l : List TC} {Is : List PI} {v : Value} {W : World} (b : BldS G w s h l Is v W) (h1 : l.length ≤ 1) :
    Calls Tryz.prog 47 #[v] W fun e w' => ∃ c I, e = .returned c.v ∧ NewV G w' s c I ∧ Below W.heap.size W w' := by
  match l, Is, b.pv.len, h1, b with
  | [], [], _, _, b =>
    obtain ⟨A, cap, rfl, -⟩ := b.sl
    exact (group_nil W A cap).mono fun e w' ⟨he, hb⟩ => ⟨TC.zero, PI.zero, he, ⟨.inl ⟨rfl, rfl⟩, b.txt, rfl⟩, hb⟩
  | [c], [I], _, _, b =>
    exact (group_one W v c b.sl).mono fun e w' ⟨he, hb⟩ => ⟨c, I, he, ⟨.inr ⟨h, b.pv.1.ext hb⟩, by simpa using b.txt, b.new I (by simp)⟩, hb⟩
theorem bld_ht {G : Ar} (hG : ArOK G) {w : World} {s : List UInt8} {h : Nat} {l : List TC} {Is : List PI} {v : Value} {W : World} (b : BldS G w s h l Is v W) (hs : s.length ≤ 65536) (h2 : 2 ≤ l.length) : h ≤ 14 ∧ All2 (KV G FT W h) l Is := by
  obtain ⟨J, hJ, hP⟩ := b.pv.get (List.getElem?_eq_getElem (show 0 < l.length by omega))
  have h3 := (lenT_at hJ).1
  have h4 : lenT Is = s.length := by rw [lenT, b.txt]
  have := hP.ht_le hG (by omega)
  exact ⟨by omega, b.pv.imp fun c I _ hI p => ⟨p, fun e => b.big h2 e I hI⟩⟩
theorem grp_new {S : Nat → Prop} {I : PI} (h : KIn (fun _ => False) I) : I.K = [] := by
  cases e : I.K with
  | nil => rfl
  | cons k l => exact (h k (by rw [e]; simp)).elim
theorem PV.lt {G : Ar} {F : Nat → Prop} {w : World} : ∀ {h : Nat} {c : TC} {I : PI}, PV G F w h c I → PV G (fun g => F g ∧ g < w.heap.size) w h c I := by
  intro h
  induction h with
  | zero => intro c I q; exact q
  | succ h ih =>
    intro c I q
    rcases PV.succ.1 q with q | ⟨A, cap, l, Is, e, hsl, hf, h2, h4, ha, hI⟩
    · exact .inl q
    · exact .inr ⟨A, cap, l, Is, e, hsl, fun g hg => ⟨hf g hg, sl_block hsl (by omega) hg⟩, h2, h4, ha.imp (fun c I _ _ p => ⟨ih p.1, p.2⟩), hI⟩
theorem group_manyF {G : Ar} {F : Nat → Prop} (h : Nat) (hh : h ≤ 14) (v : Value) (l : List TC) (Is : List PI) (w : World) (hsl : Sl tcE w v l) (ha : All2 (KV G F w h) l Is) (h2 : 2 ≤ l.length) (h4 : l.length ≤ 4) :
    Calls Tryz.prog 47 #[v] w fun e w' => ∃ c, e = .returned c.v ∧ PV G (fun g => F g ∨ w.heap.size ≤ g) w' (h + 1) c (sumPI Is) ∧ Below w.heap.size w w' := by
  have h0 : ∀ m, l[0]? = some m → m.ht = h := fun m hm => by
    obtain ⟨J, _, hP⟩ := ha.get hm
    exact hP.1.cht
  have he := List.getElem?_eq_getElem (show 0 < l.length by omega)
  refine (group_many w v l hsl h2 (by omega) (fun m hm => by rw [h0 m hm]; omega)).mono ?_
  rintro e w' ⟨A, cap, rfl, hs, hF, hb⟩
  refine ⟨inC h A l.length cap, ?_, PV.succ.2 (.inr ⟨A, cap, l, Is, rfl, hs, fun g hg => .inr (hF g hg), h2, h4, ha.imp fun c I _ _ p => ⟨(p.1.ext hb).mono fun g q => .inl q, p.2⟩, rfl⟩), hb⟩
  rw [he]
  simp only
  rw [h0 _ he]
/-- append of one element, and where the row then lies -/
theorem wpOw1b {α : Type} {E : Enc α} {t e : TypeId} (w : World) {ops : Array Oper} {o : Oper} {rest : List Oper} {a : Act} {Q : Exit → Act → World → Prop} (K : EOK E t e) (hgd : o.guard = none) (s xo : Operand) (ho : o.op = .call { callee := .builtin .append, args := #[s, xo], argTypes := #[t, t] })
    (B : Nat) (hB : B ≤ w.heap.size) (v : Value) (l : List α) (hsv : a.eval s = v) (hown : Ow E w B e v l) (x : α) (b c : Nat) (hxv : a.eval xo = .slice (some ⟨b, 0, none⟩) 1 c) (hx : ∀ j u, (E.cells x)[j]? = some u → w.cell? ⟨b, 0 + j, none⟩ = some u) (hl : l.length ≤ 999999)
    (h : ∀ A' c' w', Ow E w' B e (.slice A' (l.length + 1) c') (l ++ [x]) → w.grownBy w' v.ownBlock → ((Value.slice A' (l.length + 1) c').ownBlock = v.ownBlock ∨ (Value.slice A' (l.length + 1) c').ownBlock = some w.heap.size) → wpList Tryz.prog ops Q rest (a.put o.dst (.slice A' (l.length + 1) c')) w') :
    wpList Tryz.prog ops Q (o :: rest) a w := by
  obtain ⟨ht, i, z, hi, hz, hs, hzs, hby⟩ := K
  have hbb : (l.length + 1) * i.bytes ≤ 140737488355328 := Nat.le_trans (Nat.mul_le_mul (show l.length + 1 ≤ 1000000 by omega) hby) (by omega)
  refine wpListB_append w hgd s xo t t ho B hB e i z E.sz i.bytes ht hi hz hs rfl hzs E.pos v l.length (E.flat l) hsv hown _ 1 (E.flat [x]) hxv (src_one E ht x c hx) (by unfold maxLen; omega) hbb ?_
  intro A' c' w' h1 h2 h3 _
  refine h A' c' w' ?_ h2 h3
  unfold Ow
  rw [List.length_append, E.flat_append]
  exact h1
theorem BldN.step {G : Ar} {w5 : World} {s : List UInt8} {h : Nat} {r : List TC} {R : List PI} {row : Value} {l : List TC} {Is : List PI} {next : Value} {W W6 W8 : World} {o : Obj} (b : BldN G w5 s h r R row l Is next W) (z : Nat) (h2 : 2 ≤ z) (hz : z ≤ r.length) {c : TC} {row' next' : Value} (hrow : Sl tcE w5 row' (r.drop z))
    (p : PV G (fun g => g < w5.heap.size ∨ W.heap.size ≤ g) W6 (h + 1) c (sumPI (R.take z))) (hb : Below W.heap.size W W6) (hown : Ow tcE W8 w5.heap.size 76 next' (l ++ [c])) (hg : (W6.alloc o).grownBy W8 next.ownBlock) (hn : next'.ownBlock = next.ownBlock ∨ next'.ownBlock = some (W6.alloc o).heap.size) :
    BldN G w5 s h (r.drop z) (R.drop z) row' (l ++ [c]) (Is ++ [sumPI (R.take z)]) next' W8 := by
  have hR := b.kv.len
  have hblk : ∀ g, g < W6.heap.size → next.ownBlock ≠ some g → W8.heap[g]? = W6.heap[g]? := fun g hg' hne => (hg.block g (by simp; omega) (fun e => hne e.symm)).trans (Below.heap_alloc _ _ _ hg')
  have hsz : W6.heap.size ≤ W8.heap.size := by have := hg.size; simp at this; omega
  have hmv : ∀ c I, PV G (NB next) W6 (h + 1) c I → PV G (NB next') W8 (h + 1) c I := fun c I q =>
    (q.lt.keep hsz fun g hg' hlt => hblk g hlt hg'.1).mono fun g hg' => by
      rcases hn with e | e
      · unfold NB; rw [e]; exact hg'.1
      · unfold NB; rw [e]; simp; have := hg'.2; omega
  have hc : PV G (NB next) W6 (h + 1) c (sumPI (R.take z)) := p.mono fun g hg' e => by
    have := b.ow.lt g e
    omega
  refine ⟨hrow, b.kv.drop z, hown, (b.pv.imp fun c I _ _ q => hmv c I (q.ext hb)).append ⟨hmv c _ hc, trivial⟩, ?_, fun J hJ => b.newR J (List.mem_of_mem_drop hJ), fun J hJ => ?_, ?_⟩
  · rw [List.map_append, List.flatten_append, ← b.txt, List.append_assoc]
    congr 1
    have : (R.map PI.T).flatten = ((R.take z).map PI.T).flatten ++ ((R.drop z).map PI.T).flatten := by
      conv => lhs; rw [← List.take_append_drop z R, List.map_append, List.flatten_append]
    rw [this]
    simp [sumPI]
  · rcases List.mem_append.1 hJ with hJ | hJ
    · exact b.new J hJ
    · obtain rfl : J = sumPI (R.take z) := by simpa using hJ
      show ((R.take z).map PI.K).flatten = []
      rw [List.flatten_eq_nil_iff]
      intro K hK
      obtain ⟨I, hI, rfl⟩ := List.mem_map.1 hK
      exact b.newR I (List.mem_of_mem_take hI)
  · exact ((bcall b.b5 hb).alloc (by have := b.b5.size; have := hb.size; omega) _).grown hg (by have := b.b5.size; have := hb.size; simp; omega) (fun g e => (b.ow.lt g e).1)

set_option maxHeartbeats 4000000 in
set_option maxRecDepth 100000 in
theorem build_any {G : Ar} (hG : ArOK G) (s : List UInt8) (w : World) (hs : s.length ≤ 65536) :
    Calls Tryz.prog 31 #[.string ⟨s.toArray⟩] w fun e w' => ∃ c I, e = .returned (.tuple #[c.v, .int .i64 0]) ∧ NewV G w' s c I ∧ Below w.heap.size w w' := by
  have hsi : (s.length : Int) ≤ 65536 := by omega
  have cC := Lib.hid (fun W => chunks_any s W hs)
  have cE := Lib.hid even_any
  have HG := Lib.hid hG
  have HM := Lib.hid (show ∀ T ∈ chL s, 1 ≤ T.length ∧ T.length ≤ 16 ∧ (2 ≤ (chL s).length → 8 ≤ T.length) from fun T hT => chL_mem hT)
  have HF := Lib.hid (chL_flat s)
  have hTl : (chL s).length ≤ 65536 := Nat.le_trans (chL_len s) hs
  have HSL := Lib.hid hs
  clear hs hG
  generalize chL s = Ts at *
  go_enter Tryz.func31, Tryz.ntmps31
  go_wp2_with fail
  refine (cC.out _).mono ?_
  rintro e w1 ⟨v', rfl, ho, hb⟩
  obtain ⟨A1, c1, rfl⟩ := ho.form
  have HO := Lib.hid ho.sl
  have HB := Lib.hid (bcall (bal (Below.refl w.heap.size w)) hb)
  have HR := Lib.hid ((Bk.new w #[.int .u64 0, .int .i64 0, .int .i64 0, .int .i64 0, .int .i64 0, .string ⟨#[]⟩, .slice none 0 0] 76).ext hb (by simp))
  clear ho hb cC
  go_wp2_with fail
  go_loopw [4, 19] (fun vo i wr => ∃ (k : Nat) (A5 : Option Addr) (c5 : Nat), k ≤ Ts.length ∧ i = .int .i64 k ∧ vo = .slice A5 k c5 ∧ Hid (Ow tcE wr w1.heap.size 76 (.slice A5 k c5) ((Ts.map lfC).take k)) ∧ Hid (Below w1.heap.size w1 wr) ∧ w1.heap.size ≤ wr.heap.size) (fun _ i _ => Ts.length - (intOf i).toNat)
  case atStart => exact ⟨0, none, 0, by omega, rfl, rfl, Lib.hid (Ow.nil _ _ _ _), Lib.hid (Below.refl _ _), Nat.le_refl _⟩
  case round =>
    obtain ⟨k, A5, c5, hk, rfl, rfl, hO, hB, hsz⟩ := hrel
    by_cases hlt : k < Ts.length
    · have hki : (k : Int) < (Ts.length : Int) := by omega
      obtain ⟨b, off, cap, hv, hbb, hcc⟩ := HO.out.str hlt
      obtain ⟨rfl, rfl⟩ : A1 = some ⟨b, off, none⟩ ∧ c1 = cap := by injection hv with e1 e2 e3; exact ⟨e1, e3⟩
      have c0 := hcc wr hB.out
      have htk := Lib.hid (show (Ts.map lfC).take (k + 1) = (Ts.map lfC).take k ++ [lfC Ts[k]] by rw [snoc_take _ k (by rw [List.length_map]; exact hlt), List.getElem_map])
      have hln := Lib.hid (show ((Ts.map lfC).take k).length = k by rw [List.length_take, List.length_map]; omega)
      clear hcc hv
      generalize Ts[k] = T at *
      go_wp2_with (at_builtin; refine Hid.out ?_)
      refine Lib.hid ?_
      refine wpOw1 _ tcOK rfl (.tmp 23) (.tmp 26) rfl w1.heap.size (by first | (simp; done) | (simp; omega)) _ ((Ts.map lfC).take k) rfl (hO.out.alloc _) (lfC T) wr.heap.size 1 rfl (new_cells _ _ _) (by rw [hln.out]; omega) ?_
      rw [hln.out]
      intro A8 c8 w8 hown8 hg8
      have HO8 := Lib.hid hown8
      have HB8 := Lib.hid ((hB.out.alloc hsz _).grown hg8 (by first | (simp; done) | (simp; omega)) (fun g hg => (hO.out.lt g hg).1))
      have hz8 : w1.heap.size ≤ w8.heap.size := by have := hg8.size; simp at this; omega
      clear hown8 hg8 hO hB
      go_wp2_with fail
      go_roundw
      case rel => exact ⟨k + 1, A8, c8, by omega, by go_num, rfl, Lib.hid (by rw [htk.out]; exact HO8.out), HB8, hz8⟩
      case measure => simp [intOf]; omega
    · obtain rfl : k = Ts.length := by omega
      have hO' := hO.out
      rw [List.take_of_length_le (by rw [List.length_map]; omega)] at hO'
      have S0 := Lib.hid (show BldS G w s 0 (Ts.map lfC) (Ts.map lfPI) (.slice A5 (Ts.map lfC).length c5) wr from
        ⟨by rw [List.length_map]; exact hO'.sl, leaf_pv Ts (fun T hT => ⟨(HM.out T hT).1, (HM.out T hT).2.1⟩), fun h2 _ I hI => by
          obtain ⟨T, hT, rfl⟩ := List.mem_map.1 hI
          exact (HM.out T hT).2.2 (by rw [List.length_map] at h2; exact h2), by rw [List.map_map]; exact (by simpa [Function.comp_def, lfPI] using HF.out), fun I hI => by
          obtain ⟨T, hT, rfl⟩ := List.mem_map.1 hI
          rfl, HB.out.trans (hB.out.mono HB.out.size), HR.out.ext hB.out HR.out.lt, by rw [List.length_map]; exact hTl⟩)
      have S0' := Lib.hid (show ∃ (h : Nat) (l : List TC) (Is : List PI), l.length = Ts.length ∧ Hid (BldS G w s h l Is (.slice A5 l.length c5) wr) from ⟨0, _, _, List.length_map _, S0⟩)
      clear S0 hO' hO hB HO HB HR HM HF hTl
      go_wp2_with fail
      go_loopw [4] (fun vo wr => ∃ (h : Nat) (A : Option Addr) (c : Nat) (l : List TC) (Is : List PI), vo = .slice A l.length c ∧ Hid (BldS G w s h l Is (.slice A l.length c) wr)) (fun vo _ => match vo with | .slice _ n _ => n | _ => 0)
      case atStart =>
        obtain ⟨h, l, Is, e, S⟩ := S0'.out
        exact ⟨h, A5, c5, l, Is, by rw [e], S⟩
      case round =>
        clear S0'
        obtain ⟨h, A, c, l, Is, rfl, S⟩ := hrel
        have hl6 : (l.length : Int) ≤ 65536 := by have := S.out.hl; omega
        by_cases h1 : l.length ≤ 1
        · have h1i : (l.length : Int) ≤ 1 := by omega
          have cg := group_le1 S.out h1
          unfold TC.v at cg
          have CG := Lib.hid cg
          go_wp2_with fail
          refine CG.out.mono ?_
          rintro e w7 ⟨c7, I7, rfl, hn, hb⟩
          have HN := Lib.hid hn
          have HBB := Lib.hid (bcall S.out.below hb)
          have HR := Lib.hid (S.out.r.ext hb S.out.r.lt)
          obtain ⟨r0, r1, r2, r3, r4, r5, r6, f0, f1, f2, f3, f4, f5, f6⟩ := HR.out.seven
          have hz7 : w.heap.size < w7.heap.size := HR.out.lt
          clear hn hb CG
          go_wp2_with fail
          refine bodyPost_ret (v := .tuple #[.agg #[.int .u64 c7.old, .int .i64 c7.ht, .int .i64 c7.b, .int .i64 c7.r, .int .i64 c7.n, .string ⟨c7.t.toArray⟩, .slice c7.kp c7.kl c7.kc], .int .i64 0]) (by simp [results, Tryz.results31, go_sem, r0, r1, r2, r3, r4, r5, r6]) rfl ⟨c7, I7, rfl, ⟨HN.out.1.set7 HR.out (by simp), HN.out.2⟩, bset7 HBB.out (Nat.le_refl _)⟩
        · have h2 : 2 ≤ l.length := by omega
          have h2i : 1 < (l.length : Int) := by omega
          obtain ⟨hh, hKV⟩ := bld_ht HG.out S.out HSL.out h2
          have cE1 := cE.out l.length wr (by omega) S.out.hl
          have CE := Lib.hid cE1
          have HS4 := Lib.hid (show ∀ k ∈ szL l.length 4, 2 ≤ k ∧ k ≤ 4 from fun k hk => sz4 h2 hk)
          have HSUM := Lib.hid (show (szL l.length 4).sum = l.length from szL_sum (by omega) (by omega))
          have HLT := szL_lt h2
          have HKV := Lib.hid hKV
          clear cE1 hKV
          generalize szL l.length 4 = Z at *
          go_wp2_with fail
          refine CE.out.mono ?_
          rintro e w5 ⟨v5, rfl, ho5, hb5⟩
          obtain ⟨A2, c2, rfl⟩ := ho5.form
          have HO5 := Lib.hid ho5.sl
          have S5 := Lib.hid (show BldN G w5 s h l Is (.slice A l.length c) [] [] (.slice none 0 0) w5 from
            ⟨S.out.sl.ext hb5, (KVs.ext HKV.out hb5).imp fun c I _ _ p => ⟨p.1.lt.mono fun g q => q.2, p.2⟩, Ow.nil _ _ _ _, trivial, S.out.txt, S.out.new, fun _ q => (by cases q), Below.refl _ _⟩)
          have HR5 := Lib.hid (S.out.r.ext hb5 S.out.r.lt)
          have HB5 := Lib.hid (bcall S.out.below hb5)
          clear ho5 hb5 CE
          go_wp2_with fail
          go_loopw [4, 9, 44] (fun vr vn i wr => ∃ (j : Nat) (r : List TC) (R : List PI) (l' : List TC) (Is' : List PI) (Ar9 : Option Addr) (cr9 : Nat) (An : Option Addr) (cn : Nat), j ≤ Z.length ∧ vr = .slice Ar9 r.length cr9 ∧ vn = .slice An j cn ∧ i = .int .i64 j ∧ Hid (l'.length = j) ∧ Hid (r.length = (Z.drop j).sum) ∧ Hid (BldN G w5 s h r R (.slice Ar9 r.length cr9) l' Is' (.slice An j cn) wr)) (fun _ _ i _ => Z.length - (intOf i).toNat)
          case atStart => exact ⟨0, l, Is, [], [], A, c, none, 0, by omega, rfl, rfl, rfl, Lib.hid rfl, Lib.hid (by rw [List.drop_zero, HSUM.out]), S5⟩
          case round =>
            clear S S5
            obtain ⟨j, r, R, l', Is', A3, c3, A4, c4, hj, rfl, rfl, rfl, hl', hr, S⟩ := hrel
            have hlj := hl'.out
            subst hlj
            by_cases hlt : l'.length < Z.length
            · have hji : (l'.length : Int) < (Z.length : Int) := by omega
              obtain ⟨b, off, cap, hv, hbb, hcc⟩ := HO5.out.int hlt
              obtain ⟨rfl, rfl⟩ : A2 = some ⟨b, off, none⟩ ∧ c2 = cap := by injection hv with e1 e2 e3; exact ⟨e1, e3⟩
              have c0 := hcc wr S.out.b5
              obtain ⟨hz2, hz4⟩ := HS4.out Z[l'.length] (List.getElem_mem hlt)
              have hsum : (Z.drop l'.length).sum = Z[l'.length] + (Z.drop (l'.length + 1)).sum := by rw [List.drop_eq_getElem_cons hlt, List.sum_cons]
              have hzr : Z[l'.length] ≤ r.length := by rw [hr.out, hsum]; omega
              have HZR := Lib.hid (show r.length - Z[l'.length] = (Z.drop (l'.length + 1)).sum by rw [hr.out, hsum]; omega)
              have hrl : r.length ≤ 65536 := by
                have h3 : (Z.drop l'.length).sum ≤ Z.sum := by
                  conv => rhs; rw [← List.take_append_drop l'.length Z, List.sum_append]
                  omega
                rw [hr.out]; have := HSUM.out; omega
              have hbw : b < wr.heap.size := by have := S.out.b5.size; omega
              clear hv hcc hsum
              generalize Z[l'.length] = z at *
              obtain ⟨b3, off3, cap3, hv3, -, -⟩ := S.out.sl.tc (k := 0) (by omega)
              obtain ⟨rfl, rfl⟩ : A3 = some ⟨b3, off3, none⟩ ∧ c3 = cap3 := by injection hv3 with e1 e2 e3; exact ⟨e1, e3⟩
              obtain ⟨cp1, cp2⟩ : r.length ≤ c3 ∧ c3 ≤ maxLen := by
                obtain ⟨A', cap', e, q1, q2, -⟩ := S.out.sl
                injection e with e1 e2 e3
                exact ⟨by omega, by omega⟩
              unfold maxLen at cp2
              have hs1 : ∀ W, (Instr.slice 74 (.slice (some ⟨b3, off3, none⟩) r.length c3) none (some (.int .i64 z)) none).run Tryz.prog W = .ok (.slice (some ⟨b3, off3, none⟩) z c3) W := fun W => slT_h W _ _ c3 z (by omega)
              obtain ⟨Ak, hs2, hAk⟩ : ∃ Ak, (∀ W, (Instr.slice 74 (.slice (some ⟨b3, off3, none⟩) r.length c3) (some (.int .i64 z)) none none).run Tryz.prog W = .ok (.slice Ak (r.length - z) (c3 - z)) W) ∧ (z < r.length → Ak = some ⟨b3, off3 + z * 7, none⟩) :=
                ⟨_, fun W => slT_l W b3 off3 r.length c3 z hzr, fun q => by rw [if_neg (by omega)]⟩
              have HAK := Lib.hid hAk
              have cg := group_manyF h hh (.slice (some ⟨b3, off3, none⟩) z c3) (r.take z) (R.take z) wr ((S.out.sl.takeS z hzr).ext S.out.b5) ((S.out.kv.take z).imp fun c I _ _ p => p.ext S.out.b5) (by rw [List.length_take]; omega) (by rw [List.length_take]; omega)
              unfold TC.v at cg
              have CG := Lib.hid cg
              have hlz : (l'.length : Int) ≤ 65536 := by omega
              have hzi4 : (z : Int) ≤ 4 := by omega
              have hzi2 : 2 ≤ (z : Int) := by omega
              have hri : (r.length : Int) ≤ 65536 := by omega
              have HD := Lib.hid (S.out.sl.dropS z hzr Ak HAK.out)
              clear hv3 hAk cg
              go_wp2_with fail
              refine CG.out.mono ?_
              rintro e w6 ⟨c6, rfl, hp6, hb6⟩
              have HP6 := Lib.hid hp6
              have HB6 := Lib.hid hb6
              have HO6 := Lib.hid (S.out.ow.ext hb6 (Nat.le_refl _))
              have hz6 : w5.heap.size ≤ w6.heap.size := by have := S.out.b5.size; have := hb6.size; omega
              clear hp6 hb6 CG
              go_wp2_with (at_builtin; refine Hid.out ?_)
              refine Lib.hid ?_
              refine wpOw1b _ tcOK rfl (.tmp 48) (.tmp 53) rfl w5.heap.size (by first | (simp; done) | (simp; omega)) _ l' rfl (HO6.out.alloc _) c6 w6.heap.size 1 rfl (new_cells _ _ _) (by omega) ?_
              intro A8 c8 w8 hown8 hg8 hn8
              have S8 := Lib.hid (S.out.step z hz2 hzr HD.out HP6.out HB6.out hown8 hg8 hn8)
              clear hown8 hg8 hn8 S HP6 HB6 HO6 HD
              go_wp2_with fail
              go_roundw
              case rel => exact ⟨l'.length + 1, r.drop z, R.drop z, l' ++ [c6], Is' ++ [sumPI (R.take z)], Ak, c3 - z, A8, c8, by omega, by rw [List.length_drop], rfl, by go_num, Lib.hid (by simp), Lib.hid (by rw [List.length_drop, HZR.out]), by rw [List.length_drop]; exact S8⟩
              case measure => simp [intOf]; omega
            · have hje : l'.length = Z.length := by omega
              have hR0 := S.out.kv.len
              have hr0 := hr.out
              rw [List.drop_of_length_le (by omega), List.sum_nil] at hr0
              have hRn : R = [] := List.eq_nil_of_length_eq_zero (by omega)
              have ht := S.out.txt
              rw [hRn] at ht
              have S9 := Lib.hid (show BldS G w s (h + 1) l' Is' (.slice A4 l'.length c4) wr from
                ⟨S.out.ow.sl, S.out.pv.imp fun c I _ _ p => p.top, fun _ q => absurd q (by omega), by simpa using ht, S.out.new, HB5.out.trans (S.out.b5.mono HB5.out.size), HR5.out.ext S.out.b5 HR5.out.lt, by omega⟩)
              clear S hr hl' ht hr0
              go_wp2_with fail
              go_roundw
              case rel => exact ⟨h + 1, A4, c4, l', Is', by first | rfl | (rw [hje]), S9⟩
              case measure => simp; omega

end Go.Proofs.YtclmjnobacepjaaGreat
